import Derived.Test.YtcneilabmjkdlabGreatDoorUd
set_option linter.unusedSimpArgs false
set_option linter.unusedVariables false
namespace Go.Proofs.YtcneilabmjkdlabGreatDoor
section
open Go Go.RowKit
set_option maxRecDepth 100000
def z4g (a0:z00) (r14:z3n × Int) (r17:(List (List UInt8)) × Int) (x28:List (List UInt8)) (s32:Int):Option (Sum (Sum Bool Unit) Int) :=
 if decide (s32<(x28.length:Int)) then
  idx x28 s32 >>= fun x34 =>
  z4s a0 x34 >>= fun r36 =>
  idx x28 s32 >>= fun x40 =>
  zj5 r14.1 x40 >>= fun r42 =>
  (if r36.2.2 != 0 then
   some true
  else
   if r42.2.2 != 0 then
    some true
   else
    if r36.1 != r42.1 then
     some true
    else
     if !decide (r36.2.1=r42.2.1) then
      some true
     else
      if decide (0<s32) then
       if decide (s32<(r17.1.length:Int)) then
        idx x28 s32 >>= fun x53 =>
        idx x28 (w64 (s32 - 1)) >>= fun x55 =>
        some (!zes x55 x53)
       else
        some false
      else
       some false) >>= fun s46 =>
  if s46 then
   some (.inl (.inl false))
  else
   some (w64 (s32+1)) >>= fun y58 =>
   some (.inr y58)
 else
  some (.inl (.inr ()))
def z7j (a0:z00) (a1:List UInt8):Option (Bool) :=
 z9z >>= fun r2 =>
 (z9s [a0] >>= fun r6 =>
 if r6 then
  some true
 else
  z7z a0 >>= fun r9 =>
  if r9 != 0 then
   some true
  else
   if decide (100<(a1.length:Int)) then
    some true
   else
    some (!r2)) >>= fun s4 =>
 if s4 then
  some r2
 else
  zon a0 >>= fun r14 =>
  z95 a0 >>= fun r17 =>
  (if r14.2 != 0 then
   some true
  else
   if r17.2 != 0 then
    some true
   else
    some (decide ((a0.Ops.length:Int)<(r17.1.length:Int)))) >>= fun s19 =>
  if s19 then
   some false
  else
   app 16 ([]:List (List UInt8)) r17.1 >>= fun x24 =>
   app 16 x24 [a1] >>= fun x28 =>
   z67 (iter (z4g a0 r14 r17 x28) 0) fun s31 =>
   some r2
set_option maxHeartbeats 4000000 in
theorem zda (a0:z00) (a1:List UInt8):z1u Tryz.prog 3 [.rd z01 a0,.rd z3q a1] [zG1] (z7j a0 a1) (fun r nv=>⟨[.rd z09 r],[(1001,some (.bool true,.glob 1 (z3m 64 z0p) z5i))]⟩):=by
 refine z2f 132 Tryz.func3 Z Z Z fun H w=>?_;refine gSR<|Eb Z (bx 1 Z) fun v1=>Zb Z<|gSR<|Zc [1001] [] Tryz.func4 Z (zi4) fun r2 n3=>Zb Z<|z0q<|z7r (fun (s4:Bool) aa ww=>Sta (ctx 132 H [zG1] w) [(1,.rd z3q a1),(2,.val (z05 v1 0)),(5,.rd z09 r2),(35,.rd z09 s4)] [(1,some (v1,.box 25 [.rd z01 a0])),zG1] aa ww) ?_ (fun s4=>?_)
 ·refine z2g<|Zq (ld 1 Z Z fH zb9 Z)<|Ef Z (lit (R:=z01) ([a0]:List z00) 1100 (pP Z Z<|pN) Z Tryz.underlying28 zfh Z Z) fun v5=>zl7 1100 [20] Z (fS Z<|fN)<|Zc [] [] Tryz.func5 Z (zhz _) fun r6 n7=>Zm Z<|z28 22 Z (fun h8=>?_) (fun h8=>?_)
  ·refine lKn 21 Z h8<|Zk Z<|Zk Z<|Zk Z<|Zq (pkT Z Z)<|Zm Z<|Zk Z<|Zk Z<|Zk Z<|Zq (pkT Z Z)<|Zm Z<|Zk Z<|Zk Z<|Zq (pkT Z Z)<|z21<|z3p (fun aa ww h=>Zu h [1,1001])
  ·refine lKn 21 Z h8<|z1l Zx Z Z (ld 1 Z Z fH zb9 Z)<|zfv [] [] Zx Z Tryz.func6 Z Z (zi2 _) (Y1 Z) rN fun r9 n10=>z1l Zx Z Z (I.neq Z Z)<|Zq (pkF Z Z)<|Zm Z<|z28 27 Z (fun h11=>?_) (fun h11=>?_)
   ·refine lKn 25 Z h11<|lKn 26 Z h11<|Zk Z<|Zk Z<|Zk Z<|Zq (pkT Z Z)<|Zm Z<|Zk Z<|Zk Z<|Zq (pkT Z Z)<|z21<|z3p (fun aa ww h=>Zu h [1,1001])
   ·refine lKn 25 Z h11<|lKn 26 Z h11<|z1l Zx Z Z (mv Z)<|z1l Zx Z Z (zy8 Z Z tu9)<|z1l Zx Z Z (I.gtr Z Z)<|Zq (pkF Z Z)<|Zm Z<|z28 32 Z (fun h12=>?_) (fun h12=>?_)
    ·refine lKn 30 Z h12<|lKn 31 Z h12<|Zk Z<|Zk Z<|Zq (pkT Z Z)<|z21<|z3p (fun aa ww h=>Zu h [1,1001])
    ·refine lKn 30 Z h12<|lKn 31 Z h12<|z1l Zx Z Z (mv Z)<|z1l Zx Z Z (zgu Z)<|Zq (pkF Z Z)<|z21<|z3p (fun aa ww h=>Zu h [1,1001])
 ·refine gIf Z Z (fun h13=>?_) (fun h13=>?_)
  ·refine gSR<|Zm Z<|Zb Z<|z0k<|z0v<|Ze [] [1001] Z
  ·refine Zt<|gSR<|Zq (ld 1 Z Z fH zb9 Z)<|Zc [1001] [] Tryz.func7 Z (zwj _) fun r14 n15=>Zm Z<|Zq (ext Z Z)<|Zq (ext Z Z)<|Eb Z (z5l 1101 ti37 (ZrE.rd (R:=z08) (x:=0) (Zr.num Z) (ZrE.rd (R:=z1w) (x:=(⟨[]⟩:z2h)) zr32 (ZrE.rd (R:=z2b) (x:=(⟨[]⟩:z35)) zr35 (ZrE.nilS ZrE.nil) Z) Z) Z)) fun v16=>zft aZ [.rd z08 0,.rd z1w (⟨[]⟩:z2h),.rd z2b (⟨[]⟩:z35),.rd (z03 aZ) []] 1101 [.rd z08 0,.rd z1w (⟨[]⟩:z2h),.rd z2b (⟨[]⟩:z35)] [] Z Z Z<|zfs (R:=z2r) (⟨0,(⟨[]⟩:z2h),(⟨[]⟩:z35),[]⟩:z3n) 1101 Z (Sp.via (Sp.prod (Sp.prod (Sp.prod (Sp.prod Sp.unit)))))<|Es (sto 1101 Z Z fH Z ti37)<|Zb Z<|gSR<|Zq (ld 1 Z Z fH zb9 Z)<|Zc [1001] [(100,1102)] Tryz.func8 Z (zfj _) fun r17 n18=>Zm Z<|Zq (ext Z Z)<|Zq (ext Z Z)<|Za Z<|Zb Z<|z0q<|z7r (fun (s19:Bool) aa ww=>Sta (ctx 132 H [zG1] w) [(1,.rd z3q a1),(2,.val (z05 v1 0)),(5,.rd z09 r2),(6,.val (z05 v16 0)),(8,.val (n18 0)),(60,.rd z09 s19)] [(1,some (v1,.box 25 [.rd z01 a0])),(1101,some (v16,.box 37 [.rd z2r r14.1])),(1102,some ((n18 0),.list z3q 9 r17.1)),zG1] aa ww) ?_ (fun s19=>?_)
   ·refine z2g<|Zm Z<|Zq (I.neq Z Z)<|Zm Z<|z28 49 Z (fun h20=>?_) (fun h20=>?_)
    ·refine lKn 48 Z h20<|Zk Z<|Zk Z<|Zq (pkT Z Z)<|Zm Z<|Zk Z<|Zk Z<|Zk Z<|Zk Z<|Zk Z<|Zk Z<|Zq (pkT Z Z)<|z21<|z3p (fun aa ww h=>Zu h [1,1101,1102,1001])
    ·refine lKn 48 Z h20<|z1l Zx Z Z (mv Z)<|z1l Zx Z Z (I.neq Z Z)<|Zq (pkF Z Z)<|Zm Z<|z28 53 Z (fun h21=>?_) (fun h21=>?_)
     ·refine lKn 51 Z h21<|lKn 52 Z h21<|Zk Z<|Zk Z<|Zk Z<|Zk Z<|Zk Z<|Zk Z<|Zq (pkT Z Z)<|z21<|z3p (fun aa ww h=>Zu h [1,1101,1102,1001])
     ·refine lKn 51 Z h21<|lKn 52 Z h21<|z1l Zx Z Z (mv Z)<|z1l Zx Z Z (z4f Z (.own 1102 Z) Z tu41)<|z1l Zx Z Z (faB 1 Z Z Tryz.underlying25 Z (by exact zcg))<|z1l Zx Z Z (ld 1 Z Z (fP (z06 _)) zep Z)<|z1l Zx Z Z (z4f Z .rd Z tu23)<|z1l Zx Z Z (I.gtr Z Z)<|Zq (pkF Z Z)<|z21<|z3p (fun aa ww h=>Zu h [1,1101,1102,1001])
   ·refine gIf Z Z (fun h22=>?_) (fun h22=>?_)
    ·refine gSR<|Zb Z<|z0k<|z0v<|Ze [] [1001] Z
    ·refine Zt<|gSR<|Ef Z (lit (R:=z3q) (([]:List (List UInt8)):List (List UInt8)) 1103 (pN) Z tu41 ti9 Z Z) fun v23=>Zm Z<|z0t fun x24 h25=>Ef Z (apn 1103 Z Z Z (.own 1102 Z) h25 tu41 ti9 Z Z Z) fun v26=>Zm Z<|Ef Z (lit (R:=z3q) ([a1]:List (List UInt8)) 1104 (pP Z Z<|pN) Z tu41 ti9 Z Z) fun v27=>z0t fun x28 h29=>Ef Z (apn 1103 Z Z Z (.own 1104 Z) h29 tu41 ti9 Z Z Z) fun v30=>Zb Z<|z8i (fun (s31:Unit) aa ww=>Sta (ctx 132 H [zG1] w) [(5,.rd z09 r2)] [zG1] aa ww) ?_ (fun s31=>?_)
     ·refine gSR<|Zb Z<|z29 (fun (s32:Int) aa ww=>Sta (ctx 132 H [zG1] w) [(2,.val (z05 v1 0)),(5,.rd z09 r2),(6,.val (z05 v16 0)),(8,.val (n18 0)),(10,.val v30),(11,.rd z08 s32)] [(1,some (v1,.box 25 [.rd z01 a0])),(1101,some (v16,.box 37 [.rd z2r r14.1])),(1102,some ((n18 0),.list z3q 9 r17.1)),(1103,some (v30,.list z3q 9 x28)),zG1] aa ww) (fun aa ww h=>Zu h [1,1101,1102,1103,1001]) (fun s32=>?_)
      refine z0q<|gSR<|Zm Z<|Zm Z<|Zq (z4f Z (.own 1103 Z) Z tu41)<|Zq (I.lss Z Z)<|Zj Z (fun h33=>?_) (fun h33=>?_)
      ·refine Zt<|z0q<|z5f<|z0q<|zye [(2,.val (z05 v1 0)),(5,.rd z09 r2),(6,.val (z05 v16 0)),(8,.val (n18 0)),(10,.val v30),(11,.rd z08 s32)] [(1,some (v1,.box 25 [.rd z01 a0])),(1101,some (v16,.box 37 [.rd z2r r14.1])),(1102,some ((n18 0),.list z3q 9 r17.1)),(1103,some (v30,.list z3q 9 x28)),zG1] [1,1101,1102,1103,1001] (Zs Z Z Z Z<|sS Z<|sS Z<|sN) (Zi Z<|Zi Z<|Zi Z<|Zi Z<|Zi Z<|rN)<|z9g fun x34 h35=>z9g fun r36 h38=>gOr [] [⟨1,some ([], fun nv=>(v1,.box 25 [.rd z01 a0])),[]⟩,⟨1103,some ([], fun nv=>(v30,.list z3q 9 x28)),[]⟩,⟨1001,some ([], fun nv=>((.bool true),.glob 1 (z3m 64 z0p) z5i)),[]⟩,⟨1105,none,[(10,some ([1], fun nv=>((nv 1),.box 46 [.rd z0d (⟨0,0,0,[]⟩:z02)]))),(12,some ([1], fun nv=>((nv 1),.box 46 [.rd z0d r36.2.1])))]⟩] [pk 74 (.rd z01 a0) [(0,0,false)],pd 75 (.val v30),pd 76 (.rd z08 s32),pk 77 (.val (z05 v30 ((s32:Int).toNat * 1))) [(1,0,false)],pk 78 (.rd z3q x34) [(1,0,false)],pk 79 (.tup [.rd z09 r36.1,.rd z0d r36.2.1,.rd z08 r36.2.2]) [(2,0,false)],pd 73 (.tup [.rd z09 r36.1,.rd z0d r36.2.1,.rd z08 r36.2.2]),pd 80 (.rd z09 r36.1),pd 81 (.rd z0d r36.2.1),pd 82 (.rd z08 r36.2.2),⟨some (13,[1], fun nv=>.val (z05 (nv 1) 0)),[(3,0,true)],[1],[]⟩,pd 12 (.rd z09 r36.1),⟨none,[(3,1,true)],[],[]⟩,pd 14 (.rd z08 r36.2.2)] mixed (oC (oRn (fun nv E=>ld 1 Z Z fH zb9 Z))<|oC (oRn (fun nv E=>mv Z))<|oC (oRn (fun nv E=>mv Z))<|oC (oRn (fun nv E=>ixO 1103 Z Z Z h35 tu41 ti9))<|oC (oRn (fun nv E=>ld 1103 Z Z (Foc.el h35) ty9 Z))<|oC (oCl [] [1001] [] h38 Tryz.func9 Z (fun nv=>(zg7 _ _)) (fun nv=>(Y2 Z Z)) (fun nv E=>(Y0 Z)))<|oC (oRn (fun nv E=>mv Z))<|oC (oRn (fun nv E=>ext Z Z))<|oC (oRn (fun nv E=>ext Z Z))<|oC (oRn (fun nv E=>ext Z Z))<|oC (oEb 1105 1 (fun nv E=>z5l 1105 zad (.zr (R:=z0d) (x:=(⟨0,0,0,[]⟩:z02)) zjt)))<|oC (oRn (fun nv E=>asg Z))<|oC (oEs 1105 (fun nv E=>sto 1105 Z Z fH Z zad))<|oC (oRn (fun nv E=>asg Z))<|oN) fun n39=>z0m<|z0q<|zye [(2,.val (z05 v1 0)),(5,.rd z09 r2),(6,.val (z05 v16 0)),(8,.val (n18 0)),(10,.val v30),(11,.rd z08 s32),(13,.val (z05 (n39 1) 0)),(12,.rd z09 r36.1),(14,.rd z08 r36.2.2)] [(1,some (v1,.box 25 [.rd z01 a0])),(1101,some (v16,.box 37 [.rd z2r r14.1])),(1102,some ((n18 0),.list z3q 9 r17.1)),(1103,some (v30,.list z3q 9 x28)),zG1,(1105,some ((n39 1),.box 46 [.rd z0d r36.2.1]))] [1,1101,1102,1103,1001,1105] (Zs Z Z Z Z<|Zs Z Z Z Z<|sS Z<|sN) (Zi Z<|Zi Z<|Zi Z<|Zi Z<|Zi Z<|Zi Z<|rN)<|z9g fun x40 h41=>z9g fun r42 h44=>gOr [] [⟨1101,some ([], fun nv=>(v16,.box 37 [.rd z2r r14.1])),[]⟩,⟨1103,some ([], fun nv=>(v30,.list z3q 9 x28)),[]⟩,⟨1106,none,[(10,some ([1], fun nv=>((nv 1),.box 46 [.rd z0d (⟨0,0,0,[]⟩:z02)]))),(12,some ([1], fun nv=>((nv 1),.box 46 [.rd z0d r42.2.1])))]⟩] [pk 84 (.rd z2r r14.1) [(0,0,false)],pd 85 (.val v30),pd 86 (.rd z08 s32),pk 87 (.val (z05 v30 ((s32:Int).toNat * 1))) [(1,0,false)],pk 88 (.rd z3q x40) [(1,0,false)],pd 89 (.tup [.rd z09 r42.1,.rd z0d r42.2.1,.rd z08 r42.2.2]),pd 83 (.tup [.rd z09 r42.1,.rd z0d r42.2.1,.rd z08 r42.2.2]),pd 90 (.rd z09 r42.1),pd 91 (.rd z0d r42.2.1),pd 92 (.rd z08 r42.2.2),⟨some (16,[1], fun nv=>.val (z05 (nv 1) 0)),[(2,0,true)],[1],[]⟩,pd 15 (.rd z09 r42.1),⟨none,[(2,1,true)],[],[]⟩,pd 17 (.rd z08 r42.2.2)] mixed (oC (oRn (fun nv E=>ld 1101 Z Z fH ty37 Z))<|oC (oRn (fun nv E=>mv Z))<|oC (oRn (fun nv E=>mv Z))<|oC (oRn (fun nv E=>ixO 1103 Z Z Z h41 tu41 ti9))<|oC (oRn (fun nv E=>ld 1103 Z Z (Foc.el h41) ty9 Z))<|oC (oCl [] [] [] h44 Tryz.func10 Z (fun nv=>(zqc _ _)) (fun nv=>(Y2 Z Z)) (fun nv E=>rN))<|oC (oRn (fun nv E=>mv Z))<|oC (oRn (fun nv E=>ext Z Z))<|oC (oRn (fun nv E=>ext Z Z))<|oC (oRn (fun nv E=>ext Z Z))<|oC (oEb 1106 1 (fun nv E=>z5l 1106 zad (.zr (R:=z0d) (x:=(⟨0,0,0,[]⟩:z02)) zjt)))<|oC (oRn (fun nv E=>asg Z))<|oC (oEs 1106 (fun nv E=>sto 1106 Z Z fH Z zad))<|oC (oRn (fun nv E=>asg Z))<|oN) fun n45=>z0m<|z7r (fun (s46:Bool) aa ww=>Sta (ctx 132 H [zG1] w) [(2,.val (z05 v1 0)),(5,.rd z09 r2),(6,.val (z05 v16 0)),(8,.val (n18 0)),(10,.val v30),(11,.rd z08 s32),(130,.rd z09 s46)] [(1,some (v1,.box 25 [.rd z01 a0])),(1101,some (v16,.box 37 [.rd z2r r14.1])),(1102,some ((n18 0),.list z3q 9 r17.1)),(1103,some (v30,.list z3q 9 x28)),zG1] aa ww) ?_ (fun s46=>?_)
       ·refine zhp mixed (by kernel_rfl)<|Rq Z (mv Z)<|Rq Z (I.neq Z Z)<|Rq Z (mv Z)<|znq 95 Z (fun h47=>?_) (fun h47=>?_)
        ·refine qKn 94 Z h47<|z1e Zx Z Z<|z1e Zx Z Z<|Rq Z (pkT Z Z)<|Rq Z (mv Z)<|z1e Zx Z Z<|z1e Zx Z Z<|z1e Zx Z Z<|Rq Z (pkT Z Z)<|Rq Z (mv Z)<|z1e Zx Z Z<|z1e Zx Z Z<|z1e Zx Z Z<|Rq Z (pkT Z Z)<|Rq Z (mv Z)<|z1e Zx Z Z<|z1e Zx Z Z<|z1e Zx Z Z<|z1e (gdU Z Z Z) Z Z<|z1e (gdU Z Z Z) Z Z<|z1e (gdU Z Z Z) Z Z<|z1e (gdU Z Z Z) Z Z<|z1e Zx Z Z<|z1e Zx Z Z<|z1e (gdU Z Z Z) Z Z<|z1e (gdU Z Z Z) Z Z<|z1e (gdU Z Z Z) Z Z<|z1e (gdU Z Z Z) Z Z<|z1e (gdU Z Z Z) Z Z<|z1e (gdU Z Z Z) Z Z<|z1e (gdU Z Z Z) Z Z<|z1e (gdU Z Z Z) Z Z<|z1e (gdU Z Z Z) Z Z<|z1e (gdU Z Z Z) Z Z<|z1e Zx Z Z<|Rq Z (pkT Z Z)<|zng<|z3p (fun aa ww h=>Zu h [1,1101,1102,1103,1001])
        ·refine qKn 94 Z h47<|zhc Zx Z Z (mv Z)<|zhc Zx Z Z (I.neq Z Z)<|Rq Z (pkF Z Z)<|Rq Z (mv Z)<|znq 99 Z (fun h48=>?_) (fun h48=>?_)
         ·refine qKn 97 Z h48<|qKn 98 Z h48<|z1e Zx Z Z<|z1e Zx Z Z<|z1e Zx Z Z<|Rq Z (pkT Z Z)<|Rq Z (mv Z)<|z1e Zx Z Z<|z1e Zx Z Z<|z1e Zx Z Z<|Rq Z (pkT Z Z)<|Rq Z (mv Z)<|z1e Zx Z Z<|z1e Zx Z Z<|z1e Zx Z Z<|z1e (gdU Z Z Z) Z Z<|z1e (gdU Z Z Z) Z Z<|z1e (gdU Z Z Z) Z Z<|z1e (gdU Z Z Z) Z Z<|z1e Zx Z Z<|z1e Zx Z Z<|z1e (gdU Z Z Z) Z Z<|z1e (gdU Z Z Z) Z Z<|z1e (gdU Z Z Z) Z Z<|z1e (gdU Z Z Z) Z Z<|z1e (gdU Z Z Z) Z Z<|z1e (gdU Z Z Z) Z Z<|z1e (gdU Z Z Z) Z Z<|z1e (gdU Z Z Z) Z Z<|z1e (gdU Z Z Z) Z Z<|z1e (gdU Z Z Z) Z Z<|z1e Zx Z Z<|Rq Z (pkT Z Z)<|zng<|z3p (fun aa ww h=>Zu h [1,1101,1102,1103,1001])
         ·refine qKn 97 Z h48<|qKn 98 Z h48<|zhc Zx Z Z (mv Z)<|zhc Zx Z Z (mv Z)<|zhc Zx Z Z (neB Tryz.underlying4 Z Z)<|Rq Z (pkF Z Z)<|Rq Z (mv Z)<|znq 104 Z (fun h49=>?_) (fun h49=>?_)
          ·refine qKn 102 Z h49<|qKn 103 Z h49<|z1e Zx Z Z<|z1e Zx Z Z<|z1e Zx Z Z<|Rq Z (pkT Z Z)<|Rq Z (mv Z)<|z1e Zx Z Z<|z1e Zx Z Z<|z1e Zx Z Z<|z1e (gdU Z Z Z) Z Z<|z1e (gdU Z Z Z) Z Z<|z1e (gdU Z Z Z) Z Z<|z1e (gdU Z Z Z) Z Z<|z1e Zx Z Z<|z1e Zx Z Z<|z1e (gdU Z Z Z) Z Z<|z1e (gdU Z Z Z) Z Z<|z1e (gdU Z Z Z) Z Z<|z1e (gdU Z Z Z) Z Z<|z1e (gdU Z Z Z) Z Z<|z1e (gdU Z Z Z) Z Z<|z1e (gdU Z Z Z) Z Z<|z1e (gdU Z Z Z) Z Z<|z1e (gdU Z Z Z) Z Z<|z1e (gdU Z Z Z) Z Z<|z1e Zx Z Z<|Rq Z (pkT Z Z)<|zng<|z3p (fun aa ww h=>Zu h [1,1101,1102,1103,1001])
          ·refine qKn 102 Z h49<|qKn 103 Z h49<|zhc Zx Z Z (ld 1105 Z Z fH zh5 Z)<|zhc Zx Z Z (ld 1106 Z Z fH zh5 Z)<|zhc Zx Z Z (neA Z Z eq46 Z Z gq46)<|Rq Z (pkF Z Z)<|Rq Z (mv Z)<|znq 109 Z (fun h50=>?_) (fun h50=>?_)
           ·refine qKn 107 Z h50<|qKn 108 Z h50<|z1e Zx Z Z<|z1e Zx Z Z<|z1e Zx Z Z<|z1e (gdU Z Z Z) Z Z<|z1e (gdU Z Z Z) Z Z<|z1e (gdU Z Z Z) Z Z<|z1e (gdU Z Z Z) Z Z<|z1e Zx Z Z<|z1e Zx Z Z<|z1e (gdU Z Z Z) Z Z<|z1e (gdU Z Z Z) Z Z<|z1e (gdU Z Z Z) Z Z<|z1e (gdU Z Z Z) Z Z<|z1e (gdU Z Z Z) Z Z<|z1e (gdU Z Z Z) Z Z<|z1e (gdU Z Z Z) Z Z<|z1e (gdU Z Z Z) Z Z<|z1e (gdU Z Z Z) Z Z<|z1e (gdU Z Z Z) Z Z<|z1e Zx Z Z<|Rq Z (pkT Z Z)<|zng<|z3p (fun aa ww h=>Zu h [1,1101,1102,1103,1001])
           ·refine qKn 107 Z h50<|qKn 108 Z h50<|zhc Zx Z Z (mv Z)<|zhc Zx Z Z (I.gtr Z Z)<|zhc Zx Z Z (mv Z)<|znq 112 Z (fun h51=>?_) (fun h51=>?_)
            ·refine qKn 111 Z h51<|zhc Zx Z Z (mv Z)<|zhc Zx Z Z (mv Z)<|zhc Zx Z Z (z4f Z (.own 1102 Z) Z tu41)<|zhc Zx Z Z (I.lss Z Z)<|zhc Zx Z Z (pkT Z Z)<|zhc Zx Z Z (mv Z)<|znq 118 Z (fun h52=>?_) (fun h52=>?_)
             ·refine qKn 116 Z h52<|qKn 117 Z h52<|zhc Zx Z Z (mv Z)<|zhc Zx Z Z (mv Z)<|z6z fun x53 h54=>zhc Zx Z Z (ixO 1103 Z Z Z h54 tu41 ti9)<|zhc Zx Z Z (ld 1103 Z Z (Foc.el h54) ty9 Z)<|zhc Zx Z Z (mv Z)<|zhc Zx Z Z (mv Z)<|zhc Zx Z Z (I.sub Z Z)<|z6z fun x55 h56=>zhc Zx Z Z (ixO 1103 Z Z Z h56 tu41 ti9)<|zhc Zx Z Z (ld 1103 Z Z (Foc.el h56) ty9 Z)<|zhc Zx Z Z (leS Z Z)<|zhc Zx Z Z (pkT Z Z)<|Rq Z (pkF Z Z)<|zng<|z3p (fun aa ww h=>Zu h [1,1101,1102,1103,1001])
             ·refine qKn 116 Z h52<|qKn 117 Z h52<|z1e Zx Z Z<|z1e Zx Z Z<|z1e Zx Z Z<|z1e Zx Z Z<|z1e Zx Z Z<|z1e Zx Z Z<|z1e Zx Z Z<|z1e Zx Z Z<|z1e Zx Z Z<|z1e Zx Z Z<|zhc Zx Z Z (pkF Z Z)<|Rq Z (pkF Z Z)<|zng<|z3p (fun aa ww h=>Zu h [1,1101,1102,1103,1001])
            ·refine qKn 111 Z h51<|z1e Zx Z Z<|z1e Zx Z Z<|z1e Zx Z Z<|z1e Zx Z Z<|zhc Zx Z Z (pkF Z Z)<|zhc Zx Z Z (mv Z)<|z1e Zx Z Z<|z1e Zx Z Z<|z1e Zx Z Z<|z1e Zx Z Z<|z1e Zx Z Z<|z1e Zx Z Z<|z1e Zx Z Z<|z1e Zx Z Z<|z1e Zx Z Z<|z1e Zx Z Z<|zhc Zx Z Z (pkF Z Z)<|Rq Z (pkF Z Z)<|zng<|z3p (fun aa ww h=>Zu h [1,1101,1102,1103,1001])
       ·refine gIf Z Z (fun h57=>?_) (fun h57=>?_)
        ·refine gSR<|Zb Z<|z0k<|z4p<|z0v<|z8c<|z5n<|Ze [] [1001] Z
        ·refine z38<|z3l<|z0m<|z2g<|Zm Z<|Zq (I.add Z Z)<|Za Z<|z27 11 Z fun y58=>z21<|z1m (fun aa ww h=>Zu h [1,1101,1102,1103,1001])
      ·refine z1z<|z10<|z14<|z6x (fun aa ww h=>Zu h [1001])
     ·refine gSR<|Zm Z<|Zb Z<|z0k<|Ze [] [1001] Z
end
section
open Go
section
variable {α:Type}
theorem zgb {l:List α} {i:Nat} (d:α) (h:i<l.length):idx l (i:Int)=some (l.getD i d):=by rw [z0f h]; simp [h]
theorem zy3 {n:Nat} {v:Vector α n} {i:Int}:z7m v i=idx v.toList i:=rfl
theorem z13f {n:Nat} {v:Vector α n} {i:Nat} {x:α}:(zij v (i:Int) x).toList=v.toList.set i x:=by
 unfold zij; simp
theorem z11h {l:List α} {i j:Nat} {x d:α} (h:i<l.length):(l.set i x).getD j d=if i=j then x else l.getD j d:=by
 simp only [List.getD_eq_getElem?_getD,List.getElem?_set];by_cases e:i=j
 ·subst e; simp [h]
 ·simp [e]
theorem zrm {l:List α} {n i:Nat} {d:α} (h:i<n):(l.take n).getD i d=l.getD i d:=by
 simp [List.getD_eq_getElem?_getD,List.getElem?_take,h]
theorem zp9 {l:List α} {n:Nat} {x:α} (h:n<l.length):(l.set n x).take (n+1)=l.take n++[x]:=by
 rw [List.take_add_one,List.getElem?_set_self h,List.take_set_of_le (Nat.le_refl _)]; rfl
end
theorem zsg (a:UInt32) (n:Nat):(zof a n).toNat=a.toNat * 2 ^ (min n 32) % 4294967296:=by unfold zof; simp
theorem zey (a:UInt32) (n:Nat):(z4m a n).toNat=a.toNat / 2 ^ (min n 32):=by
 unfold z4m;have h1:=UInt32.toNat_lt a;have h2:a.toNat / 2 ^ (min n 32)≤a.toNat:=Nat.div_le_self _ _
 simp; omega
def tr (x:UInt32) (n:Nat):UInt32:=z4m x n ||| zof x (32 - n)
theorem zdz (x:UInt32) (n:Nat) (h:n≤32):z2p x (n:Int)=some (tr x n):=by
 unfold z2p;rw [z3k (by omega),z12 (by omega) (by omega),z3k (by omega)];simp only [bS];unfold tr;rw [show ((32:Int) - (n:Int)).toNat=32 - n by omega,Int.toNat_natCast]
theorem zmb (x:UInt32) (n:Nat) (h:1≤n) (h2:n≤31):z1q x (-(n:Int))=some (tr x n):=by
 have key:∀ n:Fin 32,1≤n.val→(UInt64.ofInt (-(n.val:Int)) &&& 31)=UInt64.ofNat (32 - n.val):=by decide +kernel
 have k2:∀ n:Fin 32,1≤n.val→(UInt64.ofNat (32 - n.val)).toNat=32 - n.val∧(32 - UInt64.ofNat (32 - n.val)).toNat=n.val:=by decide +kernel
 unfold z1q;rw [key ⟨n, by omega⟩ h];simp only [bS];rw [(k2 ⟨n, by omega⟩ h).1,(k2 ⟨n, by omega⟩ h).2];unfold tr;rw [UInt32.or_comm]
theorem z13h (x:UInt32) (a b c:Nat) (ha:1≤a∧a≤31) (hb:1≤b∧b≤31) (hc:1≤c∧c≤31):zeo x (a:Int) (b:Int) (c:Int)=some ((tr x a ^^^ tr x b) ^^^ tr x c):=by
 unfold zeo;rw [z12 (by omega) (by omega),z12 (by omega) (by omega),z12 (by omega) (by omega)];rw [show (0:Int) - (a:Int) = -(a:Int) by omega, show (0:Int) - (b:Int) = -(b:Int) by omega, show (0:Int) - (c:Int) = -(c:Int) by omega];rw [zmb x a ha.1 ha.2,zmb x b hb.1 hb.2,zmb x c hc.1 hc.2];rfl
def sg0 (x:UInt32):UInt32:=(tr x 7 ^^^ tr x 18) ^^^ z4m x 3
def sg1 (x:UInt32):UInt32:=(tr x 17 ^^^ tr x 19) ^^^ z4m x 10
def word (b:List UInt8) (k:Nat):UInt32:=(((b.getD (4 * k) 0).toUInt32 * 256+(b.getD (4 * k+1) 0).toUInt32) * 256+(b.getD (4 * k+2) 0).toUInt32) * 256+(b.getD (4 * k+3) 0).toUInt32
def zt6 (l:List UInt32):List UInt32:=l++[((l.getD (l.length - 16) 0+l.getD (l.length - 7) 0)+sg0 (l.getD (l.length - 15) 0))+sg1 (l.getD (l.length - 2) 0)]
def z6t (b:List UInt8):Nat→List UInt32
 | 0=>(List.range 16).map (word b)
 | n+1=>zt6 (z6t b n)
theorem zei (b:List UInt8):∀ n,(z6t b n).length=16+n
 | 0=>by simp [z6t]
 | n+1=>by simp [z6t,zt6,zei b n]; omega
theorem zu8 (l:List UInt32) (t:Nat) (h:l.length=t):zt6 l=l++[((l.getD (t - 16) 0+l.getD (t - 7) 0)+sg0 (l.getD (t - 15) 0))+sg1 (l.getD (t - 2) 0)]:=by subst h; rfl
theorem z11n (b:List UInt8) (hb:64≤b.length):iter (z5c b) ([],0)=some (z6t b 0):=by
 refine z4b (F:=z5c b) (b:=z6t b 0) 16 (fun i=>((List.range i).map (word b),(i:Int))) (fun i hi=>?_) ?_
 ·unfold z5c;rw [if_pos (by simp; omega)];simp only [];rw [z12 (x:=4 * (i:Int)) (by omega) (by omega),z12 (x:=4 * (i:Int)+1) (by omega) (by omega),z12 (x:=4 * (i:Int)+2) (by omega) (by omega),z12 (x:=4 * (i:Int)+3) (by omega) (by omega)];rw [show (4 * (i:Int))=((4 * i:Nat):Int) by omega, show (((4 * i:Nat):Int)+1)=((4 * i+1:Nat):Int) by omega, show (((4 * i:Nat):Int)+2)=((4 * i+2:Nat):Int) by omega, show (((4 * i:Nat):Int)+3)=((4 * i+3:Nat):Int) by omega]
  rw [zgb 0 (by omega),zgb 0 (by omega),zgb 0 (by omega),zgb 0 (by omega)];simp only [bS];rw [z2y (by simp; omega)];simp only [bS,z0u (show i<9223372036854775807 by omega)];rw [List.range_succ,List.map_append];rfl
 ·unfold z5c;rw [if_neg (by simp)];rfl
theorem z12p (b:List UInt8):iter (z5b) (z6t b 0,16)=some (z6t b 48):=by
 refine z4b (F:=z5b) (b:=z6t b 48) 48 (fun i=>(z6t b i,((16+i:Nat):Int))) (fun i hi=>?_) ?_
 ·have hl:=zei b i;unfold z5b;rw [if_pos (by simp; omega)];simp only [];rw [z12 (x:=((16+i:Nat):Int) - 15) (by omega) (by omega),z12 (x:=((16+i:Nat):Int) - 2) (by omega) (by omega),z12 (x:=((16+i:Nat):Int) - 16) (by omega) (by omega),z12 (x:=((16+i:Nat):Int) - 7) (by omega) (by omega)];rw [show ((16+i:Nat):Int) - 15=((16+i - 15:Nat):Int) by omega, show ((16+i:Nat):Int) - 2=((16+i - 2:Nat):Int) by omega, show ((16+i:Nat):Int) - 16=((16+i - 16:Nat):Int) by omega, show ((16+i:Nat):Int) - 7=((16+i - 7:Nat):Int) by omega]
  rw [zgb 0 (by omega),zgb 0 (by omega),zgb 0 (by omega),zgb 0 (by omega)];simp only [bS];rw [show (7:Int)=((7:Nat):Int) from rfl, show (18:Int)=((18:Nat):Int) from rfl, show (17:Int)=((17:Nat):Int) from rfl, show (19:Int)=((19:Nat):Int) from rfl];rw [zdz _ 7 (by omega),zdz _ 18 (by omega),zdz _ 17 (by omega),zdz _ 19 (by omega)];simp only [bS];rw [z2y (by simp; omega)];simp only [bS,z0u (show 16+i<9223372036854775807 by omega)]
  rw [show z6t b (i+1)=zt6 (z6t b i) from rfl,zu8 _ (16+i) hl];rfl
 ·unfold z5b;rw [if_neg (by simp)]
theorem z17r (x:UInt32) (y:UInt8) (h:x.toNat<16777216):(zof x 8) ||| y.toUInt32=x * 256+y.toUInt32:=by
 apply UInt32.toNat_inj.1
 have hy:=UInt8.toNat_lt y;rw [UInt32.toNat_or,zsg,UInt32.toNat_add,UInt32.toNat_mul];have e1:(y.toUInt32).toNat=y.toNat:=by simp
 have e2:(256:UInt32).toNat=256:=rfl;rw [e1,e2, show (2:Nat) ^ (min 8 32)=256 from rfl,Nat.mod_eq_of_lt (a:=x.toNat * 256) (by omega),Nat.mod_eq_of_lt (a:=x.toNat * 256+y.toNat) (by omega)]
 have:=Nat.shiftLeft_add_eq_or_of_lt (i:=8) (b:=y.toNat) (by simpa using hy) x.toNat
 rw [Nat.shiftLeft_eq, show (2:Nat) ^ 8=256 from rfl] at this;exact this.symm
def zl5 (b:List UInt8) (k:Nat):Nat→UInt32
 | 0=>0
 | m+1=>zl5 b k m * 256+(b.getD (4 * k+m) 0).toUInt32
theorem zun (b:List UInt8) (k:Nat):∀ m,m≤4→(zl5 b k m).toNat<256 ^ m
 | 0,_=>by simp [zl5]
 | m+1,h=>by
  have ih:=zun b k m (by omega);have hy:=UInt8.toNat_lt (b.getD (4 * k+m) 0);have hp:256 ^ m≤256 ^ 3:=Nat.pow_le_pow_right (by omega) (by omega);have e3:(256:Nat) ^ 3=16777216:=rfl;have ep:256 ^ (m+1)=256 ^ m * 256:=Nat.pow_succ ..;rw [zl5,UInt32.toNat_add,UInt32.toNat_mul,ep];have e1:((b.getD (4 * k+m) 0).toUInt32).toNat=(b.getD (4 * k+m) 0).toNat:=by simp
  have e2:(256:UInt32).toNat=256:=rfl;rw [e1,e2,Nat.mod_eq_of_lt (a:=(zl5 b k m).toNat * 256) (by omega),Nat.mod_eq_of_lt (by omega)];omega
theorem zw8 (b:List UInt8) (k:Nat):zl5 b k 4=word b k:=by
 simp only [zl5,word,Nat.add_zero]
 simp
theorem zzg (b:List UInt8) (hb:b.length=64):∃ w,iter (z6i b) (Vector.replicate 64 0,0)=some w∧w.toList.take 16=z6t b 0:=by
 refine z62 (F:=z6i b) 64 (fun i s=>s.2=(i:Int)∧∀ k,k<16→s.1.toList.getD k 0=zl5 b k (min 4 (i - 4 * k))) (fun w=>w.toList.take 16=z6t b 0) (fun i s hi hs=>?_) (fun s hs=>?_) (Vector.replicate 64 0,0) 0 (by omega) ⟨rfl, fun k hk=>?_⟩
 ·obtain ⟨w,j⟩:=s;obtain ⟨h1,h2⟩:=hs;simp only at h1 h2;subst h1;have hlw:w.toList.length=64:=by simp
  have hdiv:w64 (Int.tdiv (i:Int) 4)=((i / 4:Nat):Int):=by
   have:Int.tdiv (i:Int) 4=((i / 4:Nat):Int):=by
    rw [Int.tdiv_eq_ediv_of_nonneg (by omega)]; omega
   rw [this,z12 (by omega) (by omega)]
  refine ⟨(zij w ((i / 4:Nat):Int) (zl5 b (i / 4) (i % 4+1)),((i+1:Nat):Int)),?_,rfl, fun k hk=>?_⟩
  ·unfold z6i;rw [if_pos (by simp; omega)];simp only [hdiv,zy3];rw [zgb 0 (by omega)];simp only [bS];rw [zgb 0 (by omega)];simp only [bS,z0u (show i<9223372036854775807 by omega)];rw [h2 (i / 4) (by omega), show min 4 (i - 4 * (i / 4))=i % 4 by omega];have hlt:=zun b (i / 4) (i % 4) (by omega);have hp:256 ^ (i % 4)≤256 ^ 3:=Nat.pow_le_pow_right (by omega) (by omega);have e3:(256:Nat) ^ 3=16777216:=rfl
   rw [z17r _ _ (by omega)];have e4:zl5 b (i / 4) (i % 4+1)=zl5 b (i / 4) (i % 4) * 256+(b.getD i 0).toUInt32:=by
    show zl5 b (i / 4) (i % 4) * 256+(b.getD (4 * (i / 4)+i % 4) 0).toUInt32=_;rw [show 4 * (i / 4)+i % 4=i by omega]
   rw [e4]
  ·simp only [];rw [z13f,z11h (by omega)];by_cases hk2:i / 4=k
   ·subst hk2;rw [if_pos rfl, show min 4 (i+1 - 4 * (i / 4))=i % 4+1 by omega]
   ·rw [if_neg hk2,h2 k hk]
    congr 1; omega
 ·obtain ⟨w,j⟩:=s;obtain ⟨h1,h2⟩:=hs;simp only at h1 h2;subst h1;have hlw:w.toList.length=64:=by simp
  refine ⟨w,?_,?_⟩
  ·unfold z6i;rw [if_neg (by simp [hb])]
  ·apply List.ext_getElem
   ·simp [z6t]
   ·intro k k1 k2;have hk:k<16:=by simp [z6t] at k2; exact k2
    have:=h2 k hk
    rw [show min 4 (64 - 4 * k)=4 by omega,zw8] at this;have e:w.toList.getD k 0=w.toList[k]'(by omega):=by rw [List.getD_eq_getElem?_getD,List.getElem?_eq_getElem (by omega)]; rfl
    rw [e] at this;simp only [List.getElem_take,this,z6t,List.getElem_map,List.getElem_range]
 ·show (Vector.replicate 64 (0:UInt32)).toList.getD k 0=_;rw [show min 4 (0 - 4 * k)=0 by omega,Vector.toList_replicate,List.getD_eq_getElem?_getD,List.getElem?_replicate,if_pos (by omega)];rfl
theorem zvs (v:Vector UInt32 64) (t:Nat) (h1:16≤t) (h2:t<64) (p q r s u:UInt32) (e1:z7m v ((t - 15:Nat):Int)=some p) (e2:z7m v ((t - 2:Nat):Int)=some q) (e3:z7m v ((t - 16:Nat):Int)=some r) (e4:z7m v ((t - 7:Nat):Int)=some s) (e5:z7m v (t:Int)=some u) :
  z52 (v,(t:Int))=some (.inr (zij v (t:Int) (((r+s)+sg0 p)+sg1 q),((t+1:Nat):Int))):=by
 have r1:=zmb p 7 (by omega) (by omega);have r2:=zmb p 18 (by omega) (by omega);have r3:=zmb q 17 (by omega) (by omega);have r4:=zmb q 19 (by omega) (by omega);have hw:=z0u (show t<9223372036854775807 by omega);have hd:decide ((t:Int)<64)=true:=by simp; omega
 have w1:w64 ((t:Int) - 15)=((t - 15:Nat):Int):=by rw [z12 (by omega) (by omega)]; omega
 have w2:w64 ((t:Int) - 2)=((t - 2:Nat):Int):=by rw [z12 (by omega) (by omega)]; omega
 have w3:w64 ((t:Int) - 16)=((t - 16:Nat):Int):=by rw [z12 (by omega) (by omega)]; omega
 have w4:w64 ((t:Int) - 7)=((t - 7:Nat):Int):=by rw [z12 (by omega) (by omega)]; omega
 unfold z52;rw [if_pos hd];simp only [];rw [w1,w2,w3,w4,hw,e1,e2,e3,e4,e5];simp only [bS];rw [show (-7:Int) = -((7:Nat):Int) from rfl, show (-18:Int) = -((18:Nat):Int) from rfl, show (-17:Int) = -((17:Nat):Int) from rfl, show (-19:Int) = -((19:Nat):Int) from rfl,r1,r2,r3,r4];simp only [bS];rfl
theorem zyb (b:List UInt8) (w:Vector UInt32 64) (hw:w.toList.take 16=z6t b 0):∃ v,iter (z52) (w,16)=some v∧v.toList=z6t b 48:=by
 refine z62 (F:=z52) 48 (fun i s=>s.2=((16+i:Nat):Int)∧s.1.toList.take (16+i)=z6t b i) (fun v=>v.toList=z6t b 48) (fun i s hi hs=>?_) (fun s hs=>?_) (w,16) 0 (by omega) ⟨rfl,hw⟩
 ·obtain ⟨w,j⟩:=s;obtain ⟨h1,h2⟩:=hs;simp only at h1 h2;subst h1;have hlw:w.toList.length=64:=by simp
  have hl:=zei b i;have hg:∀ k,k<16+i→w.toList.getD k 0=(z6t b i).getD k 0:=fun k hk=>by rw [← h2,zrm hk]
  have hv:∀ k,k<16+i→z7m w (k:Int)=some ((z6t b i).getD k 0):=fun k hk=>by rw [zy3,zgb 0 (by omega),hg k hk]
  refine ⟨_,zvs w (16+i) (by omega) (by omega) _ _ _ _ _ (hv _ (by omega)) (hv _ (by omega)) (hv _ (by omega)) (hv _ (by omega)) (z8h (by omega)),rfl,?_⟩;simp only [];rw [z13f, show 16+(i+1)=16+i+1 by omega,zp9 (by omega),h2, show z6t b (i+1)=zt6 (z6t b i) from rfl,zu8 _ (16+i) hl]
 ·obtain ⟨w,j⟩:=s;obtain ⟨h1,h2⟩:=hs;simp only at h1 h2;subst h1;refine ⟨w,?_,?_⟩
  ·unfold z52;rw [if_neg (by simp)]
  ·rw [← h2,List.take_of_length_le (by simp)]
abbrev O8:=UInt32 × UInt32 × UInt32 × UInt32 × UInt32 × UInt32 × UInt32 × UInt32
def toV (s:O8):Vector UInt32 8:=#v[s.1,s.2.1,s.2.2.1,s.2.2.2.1,s.2.2.2.2.1,s.2.2.2.2.2.1,s.2.2.2.2.2.2.1,s.2.2.2.2.2.2.2]
def ofV (h:Vector UInt32 8):O8:=(h[0],h[1],h[2],h[3],h[4],h[5],h[6],h[7])
theorem z15l (h:Vector UInt32 8):toV (ofV h)=h:=by
 apply Vector.ext
 intro i hi;unfold toV ofV
 match i,hi with
 | 0,_=>rfl
 | 1,_=>rfl
 | 2,_=>rfl
 | 3,_=>rfl
 | 4,_=>rfl
 | 5,_=>rfl
 | 6,_=>rfl
 | 7,_=>rfl
def rnd1 (k w:UInt32) (s:O8):UInt32:=(((s.2.2.2.2.2.2.2+((tr s.2.2.2.2.1 6 ^^^ tr s.2.2.2.2.1 11) ^^^ tr s.2.2.2.2.1 25))+((s.2.2.2.2.1 &&& s.2.2.2.2.2.1) ^^^ ((~~~s.2.2.2.2.1) &&& s.2.2.2.2.2.2.1)))+k)+w
def rnd2 (s:O8):UInt32:=((tr s.1 2 ^^^ tr s.1 13) ^^^ tr s.1 22)+(((s.1 &&& s.2.1) ^^^ (s.1 &&& s.2.2.1)) ^^^ (s.2.1 &&& s.2.2.1))
def rnd (k w:UInt32) (s:O8):O8:=(rnd1 k w s+rnd2 s,s.1,s.2.1,s.2.2.1,s.2.2.2.1+rnd1 k w s,s.2.2.2.2.1,s.2.2.2.2.2.1,s.2.2.2.2.2.2.1)
def zv3 (K W:List UInt32) (s:O8):Nat→O8
 | 0=>s
 | n+1=>rnd (K.getD n 0) (W.getD n 0) (zv3 K W s n)
theorem zz6:z9f=some z5i.toList:=rfl
theorem zph:z5i.toList.length=64:=by simp
theorem z10e (w:Vector UInt32 64) (a b c d e f g z:UInt32) (i:Nat) (hi:i<64) (k u:UInt32) (hk:z7m z5i (i:Int)=some k) (hu:z7m w (i:Int)=some u) :
  z5o w (a,b,c,d,e,f,g,z,(i:Int))=some (.inr (rnd1 k u (a,b,c,d,e,f,g,z)+rnd2 (a,b,c,d,e,f,g,z),a,b,c,d+rnd1 k u (a,b,c,d,e,f,g,z),e,f,g,((i+1:Nat):Int))):=by
 have m1:=z13h e 6 11 25 (by omega) (by omega) (by omega);have m2:=z13h a 2 13 22 (by omega) (by omega) (by omega);have hw:=z0u (show i<9223372036854775807 by omega);have hd:decide ((i:Int)<64)=true:=by simp; omega
 unfold z5o;rw [if_pos hd];simp only [];rw [hk,hu,hw];simp only [bS];rw [show (6:Int)=((6:Nat):Int) from rfl, show (11:Int)=((11:Nat):Int) from rfl, show (25:Int)=((25:Nat):Int) from rfl, show (2:Int)=((2:Nat):Int) from rfl, show (13:Int)=((13:Nat):Int) from rfl, show (22:Int)=((22:Nat):Int) from rfl,m1,m2];simp only [bS];rfl
theorem z127 (K W:List UInt32) (a b c d e f g z:UInt32) (i:Nat) (hi:i<64) (k u:UInt32) (hk:idx K (i:Int)=some k) (hu:idx W (i:Int)=some u) :
  z3t W K (#v[a,b,c,d,e,f,g,z],(i:Int))=some (.inr (#v[rnd1 k u (a,b,c,d,e,f,g,z)+rnd2 (a,b,c,d,e,f,g,z),a,b,c,d+rnd1 k u (a,b,c,d,e,f,g,z),e,f,g],((i+1:Nat):Int))):=by
 have t1:=zdz e 6 (by omega);have t2:=zdz e 11 (by omega);have t3:=zdz e 25 (by omega);have t4:=zdz a 2 (by omega);have t5:=zdz a 13 (by omega);have t6:=zdz a 22 (by omega);have hw:=z0u (show i<9223372036854775807 by omega);have hd:decide ((i:Int)<64)=true:=by simp; omega
 have v0:z7m #v[a,b,c,d,e,f,g,z] 0=some a:=rfl;have v1:z7m #v[a,b,c,d,e,f,g,z] 1=some b:=rfl;have v2:z7m #v[a,b,c,d,e,f,g,z] 2=some c:=rfl;have v3:z7m #v[a,b,c,d,e,f,g,z] 3=some d:=rfl;have v4:z7m #v[a,b,c,d,e,f,g,z] 4=some e:=rfl;have v5:z7m #v[a,b,c,d,e,f,g,z] 5=some f:=rfl;have v6:z7m #v[a,b,c,d,e,f,g,z] 6=some g:=rfl;have v7:z7m #v[a,b,c,d,e,f,g,z] 7=some z:=rfl;unfold z3t;rw [if_pos hd];simp only []
 rw [v0,v1,v2,v3,v4,v5,v6,v7,hk,hu,hw];simp only [bS];rw [show (6:Int)=((6:Nat):Int) from rfl, show (11:Int)=((11:Nat):Int) from rfl, show (25:Int)=((25:Nat):Int) from rfl, show (2:Int)=((2:Nat):Int) from rfl, show (13:Int)=((13:Nat):Int) from rfl, show (22:Int)=((22:Nat):Int) from rfl,t1,t2,t3,t4,t5,t6];simp only [bS];rfl
def zvd (s:O8) (i:Int):UInt32 × UInt32 × UInt32 × UInt32 × UInt32 × UInt32 × UInt32 × UInt32 × Int:=match s with
 | (a,b,c,d,e,f,g,z)=>(a,b,c,d,e,f,g,z,i)
theorem zwe (w:Vector UInt32 64) (s:O8) (i:Nat) (hi:i<64):z5o w (zvd s (i:Int))=some (.inr (zvd (rnd (z5i.toList.getD i 0) (w.toList.getD i 0) s) ((i+1:Nat):Int))):=by
 obtain ⟨a,b,c,d,e,f,g,z⟩:=s;exact z10e w a b c d e f g z i hi _ _ (zgb 0 (by rw [zph]; exact hi)) (zgb 0 (by simp; exact hi))
theorem zvi (w:Vector UInt32 64) (s:O8):iter (z5o w) (zvd s 0)=some (zv3 z5i.toList w.toList s 64):=by
 refine z4b (F:=z5o w) (b:=zv3 z5i.toList w.toList s 64) 64 (fun i=>zvd (zv3 z5i.toList w.toList s i) (i:Int)) (fun i hi=>zwe w _ i hi) ?_;generalize zv3 z5i.toList w.toList s 64=q;obtain ⟨a,b,c,d,e,f,g,z⟩:=q;unfold zvd z5o;rw [if_neg (by simp)]
theorem zxp (K W:List UInt32) (hk:K.length=64) (hW:W.length=64) (s:O8) (i:Nat) (hi:i<64):z3t W K (toV s,(i:Int))=some (.inr (toV (rnd (K.getD i 0) (W.getD i 0) s),((i+1:Nat):Int))):=by
 obtain ⟨a,b,c,d,e,f,g,z⟩:=s;exact z127 K W a b c d e f g z i hi _ _ (zgb 0 (by omega)) (zgb 0 (by omega))
theorem z10a (K W:List UInt32) (hk:K.length=64) (hW:W.length=64) (s:O8):iter (z3t W K) (toV s,0)=some (toV (zv3 K W s 64)):=by
 refine z4b (F:=z3t W K) (b:=toV (zv3 K W s 64)) 64 (fun i=>(toV (zv3 K W s i),(i:Int))) (fun i hi=>zxp K W hk hW _ i hi) ?_;generalize toV (zv3 K W s 64)=q;unfold z3t;rw [if_neg (by simp)]
theorem z158 (s:O8):zd6 s=z1t (toV s):=by
 funext x
 obtain ⟨h,i⟩:=x;unfold zd6 z1t;simp only [bS];show (if decide (i<8)=true then z7m (toV s) i >>= _ else _)=_
 split
 ·cases h1:z7m (toV s) i <;> cases h2:z7m h i <;> rfl
 ·rfl
def addV (h v:Vector UInt32 8):Vector UInt32 8:=(iter (z1t v) (h,0)).getD h
theorem zyt (h v:Vector UInt32 8):iter (z1t v) (h,0)=some (addV h v):=by
 obtain ⟨r,h1,-⟩:=z62 (F:=z1t v) 8 (fun i s=>s.2=(i:Int)) (fun _=>True) (fun i s hi hs=>by
  obtain ⟨u,j⟩:=s;simp only at hs;subst hs;unfold z1t;rw [if_pos (by simp; omega)];rw [z8h (show i<8 by omega),z8h (show i<8 by omega)];simp only [bS,z0u (show i<9223372036854775807 by omega)]
  exact ⟨_,rfl,rfl⟩) (fun s hs=>by
  obtain ⟨u,j⟩:=s;simp only at hs;subst hs;unfold z1t;rw [if_neg (by simp)]
  exact ⟨_,rfl,trivial⟩) (h,0) 0 (by omega) rfl
 unfold addV;rw [h1]; rfl
def gr (h:Vector UInt32 8) (b:List UInt8):Vector UInt32 8:=addV h (toV (zv3 z5i.toList (z6t b 48) (ofV h) 64))
theorem z172 (h:Vector UInt32 8) (b:List UInt8) (hb:b.length=64):z93 h b=some (gr h b):=by
 unfold z93;rw [z11n b (by omega)];simp only [bS];rw [z12p b];simp only [bS,zz6]
 have:=z10a z5i.toList (z6t b 48) zph (by rw [zei]) (ofV h)
 rw [z15l] at this;rw [this];simp only [bS];rw [zyt];rfl
theorem z16a (h:Vector UInt32 8) (b:List UInt8) (hb:64≤b.length):zdx h b=some (gr h (b.take 64)):=by
 unfold zdx zd2;rw [show (64:Int)=((64:Nat):Int) from rfl, show (0:Int)=((0:Nat):Int) from rfl,zm3 (by omega) hb];simp only [bS,List.drop_zero,Nat.sub_zero];obtain ⟨w,h1,h2⟩:=zzg (b.take 64) (by simp; omega);rw [show ((0:Nat):Int)=0 from rfl,h1];simp only [bS];obtain ⟨v,h3,h4⟩:=zyb (b.take 64) w h2;rw [h3];simp only [bS];have hv:∀ i:Nat,(hi:i<8)→z7m h (i:Int)=some h[i]:=fun i hi=>z8h hi;rw [show z7m h 0=some h[0] from hv 0 (by omega), show z7m h 1=some h[1] from hv 1 (by omega), show z7m h 2=some h[2] from hv 2 (by omega), show z7m h 3=some h[3] from hv 3 (by omega), show z7m h 4=some h[4] from hv 4 (by omega), show z7m h 5=some h[5] from hv 5 (by omega), show z7m h 6=some h[6] from hv 6 (by omega), show z7m h 7=some h[7] from hv 7 (by omega)]
 simp only [bS]
 have:=zvi v (ofV h)
 rw [show (h[0],h[1],h[2],h[3],h[4],h[5],h[6],h[7],(0:Int))=zvd (ofV h) 0 from rfl,this];simp only [bS];rw [z158,h4,zyt];rfl
end
section
open Go
def blk (h:Vector UInt32 8) (b:List UInt8):Vector UInt32 8:=if h64:64≤b.length then blk (gr h (b.take 64)) (b.drop 64) else h
termination_by b.length
decreasing_by simp; omega
theorem zrc {h:Vector UInt32 8} {b:List UInt8} (hb:b.length<64):blk h b=h:=by rw [blk,dif_neg (by omega)]
theorem zq1 {h:Vector UInt32 8} {b:List UInt8} (hb:64≤b.length):blk h b=blk (gr h (b.take 64)) (b.drop 64):=by rw [blk,dif_pos hb]
def lft (b:List UInt8):List UInt8:=b.drop (b.length / 64 * 64)
theorem zxg {b:List UInt8} (hb:b.length<64):lft b=b:=by unfold lft; rw [Nat.div_eq_of_lt hb]; simp
theorem zxh {b:List UInt8} (hb:64≤b.length):lft b=lft (b.drop 64):=by
 unfold lft;rw [List.drop_drop,List.length_drop]
 congr 1
 omega
theorem zyw (b:List UInt8):(lft b).length<64:=by unfold lft; simp; omega
theorem z15g (h:Vector UInt32 8):∀ (n:Nat) (a c:List UInt8),a.length=n→blk h (a++c)=blk (blk h a) (lft a++c)∧lft (a++c)=lft (lft a++c):=by
 intro n
 induction n using Nat.strongRecOn generalizing h with
 | _ n ih =>
  intro a c ha;by_cases h64:64≤a.length
  ·have e1:(a++c).take 64=a.take 64:=by rw [List.take_append_of_le_length h64]
   have e2:(a++c).drop 64=a.drop 64++c:=by rw [List.drop_append_of_le_length h64]
   have hl:64≤(a++c).length:=by simp; omega
   obtain ⟨i1,i2⟩:=ih (a.drop 64).length (by simp; omega) (gr h (a.take 64)) (a.drop 64) c rfl;rw [zq1 hl,e1,e2,zq1 h64,zxh h64,zxh hl,e2];exact ⟨i1,i2⟩
  ·rw [zrc (b:=a) (by omega),zxg (b:=a) (by omega)];exact ⟨rfl,rfl⟩
theorem zwu:∀ (n:Nat) (m:z2k) (r:List UInt8),r.length=n→iter z9p (m,r)=some ({ m with Words:=blk m.Words r },lft r):=by
 intro n
 induction n using Nat.strongRecOn with
 | _ n ih =>
  intro m r hr;by_cases h64:64≤r.length
  ·have hs:z9p (m,r)=some (.inr ({ m with Words:=gr m.Words (r.take 64) },r.drop 64)):=by
    unfold z9p;rw [if_pos (by simp; omega)];simp only [];rw [z16a _ _ h64, show (64:Int)=((64:Nat):Int) from rfl,zm3 h64 (Nat.le_refl _)];simp only [bS];rw [List.take_of_length_le (l:=r.drop 64) (by simp)]
   rw [z24 hs,ih (r.drop 64).length (by simp; omega) _ _ rfl,zq1 h64,zxh h64]
  ·refine (z1s (b:=(m,r)) ?_).trans ?_
   ·unfold z9p;rw [if_neg (by simp; omega)]
   ·rw [zrc (by omega),zxg (by omega)]
theorem z16e (a b:List UInt8) (h:a.length+b.length≤1000000):z2c [a,b]=some (a++b):=by
 have l1:iter (z0z [a,b]) (0,0)=some ((a.length+b.length:Nat):Int):=by
  have s1:z0z [a,b] (0,0)=some (.inr ((a.length:Int),1)):=by
   unfold z0z;rw [if_pos (by simp)];simp only [];rw [show idx [a,b] 0=some a from rfl];simp only [bS];rw [z12 (x:=(0:Int)+(a.length:Int)) (by omega) (by omega),z12 (x:=(0:Int)+1) (by omega) (by omega)];rw [if_neg (by simp)]
   simp
  have s2:z0z [a,b] ((a.length:Int),1)=some (.inr (((a.length+b.length:Nat):Int),2)):=by
   unfold z0z;rw [if_pos (by simp)];simp only [];rw [show idx [a,b] 1=some b from rfl];simp only [bS];rw [z12 (x:=(a.length:Int)+(b.length:Int)) (by omega) (by omega),z12 (x:=(1:Int)+1) (by omega) (by omega)];rw [if_neg (by simp; omega)]
   simp
  have s3:z0z [a,b] (((a.length+b.length:Nat):Int),2)=some (.inl ((a.length+b.length:Nat):Int)):=by
   unfold z0z;rw [if_neg (by simp)]
  rw [z24 s1,z24 s2,z1s s3]
 have gw:z48 ((a.length+b.length:Nat):Int)=some []:=by
  unfold z48;rw [if_neg (by simp; omega)];rw [show ((([]:List UInt8).length:Nat):Int)=0 from rfl, show w64 ((0:Int) - 0)=0 by decide,Int.sub_zero,z12 (by omega) (by omega)];simp only [bS]
  split
  ·rw [zj7 (by omega) (by omega)];simp only [bS];rw [show (0:Int)=((0:Nat):Int) from rfl,zm3 (Nat.le_refl _) (Nat.zero_le _)]
   simp
  ·rfl
 have l2:iter (z0y [a,b]) ([],0)=some (a++b):=by
  have s1:z0y [a,b] ([],0)=some (.inr (a,1)):=by
   unfold z0y;rw [if_pos (by simp)];simp only [];rw [show idx [a,b] 0=some a from rfl,z12 (x:=(0:Int)+1) (by omega) (by omega)];simp only [bS];rw [z2y (by simp; omega)]
   simp
  have s2:z0y [a,b] (a,1)=some (.inr (a++b,2)):=by
   unfold z0y;rw [if_pos (by simp)];simp only [];rw [show idx [a,b] 1=some b from rfl,z12 (x:=(1:Int)+1) (by omega) (by omega)];simp only [bS];rw [z2y (by simp; omega)]
   simp
  have s3:z0y [a,b] (a++b,2)=some (.inl (a++b)):=by
   unfold z0y;rw [if_neg (by simp)]
  rw [z24 s1,z24 s2,z1s s3]
 unfold z2c;rw [l1];simp only [bS];rw [gw];simp only [bS];rw [l2];simp only [bS]
theorem z14z (m:z2k) (b:List UInt8) (h:m.Rest.length+b.length≤1000000):zbb m b=some ⟨blk m.Words (m.Rest++b),lft (m.Rest++b),w64 (m.N+(b.length:Int))⟩:=by
 unfold zbb;rw [z16e _ _ h];simp only [bS];rw [zwu _ _ _ rfl];simp only [bS];unfold z8a
 have:=zyw (m.Rest++b)
 rw [z2y (by simp; omega)];simp only [bS,List.nil_append]
def H0:Vector UInt32 8:=#v[1779033703,3144134277,1013904242,2773480762,1359893119,2600822924,528734635,1541459225]
def zwo (a:List UInt8):z2k:=⟨blk H0 a,lft a,(a.length:Int)⟩
theorem z11d:zdw=some (zwo []):=by
 unfold zdw zwo;rw [zrc (by simp),zxg (by simp)];rfl
theorem zrt (a b:List UInt8) (h:a.length+b.length≤500000):zbb (zwo a) b=some (zwo (a++b)):=by
 have hl:=zyw a;rw [z14z (zwo a) b (by show (lft a).length+b.length≤1000000; omega)];obtain ⟨h1,h2⟩:=z15g H0 _ a b rfl;unfold zwo;rw [h1,h2,z12 (by simp; omega) (by simp; omega)]
 simp
theorem zvk (b:List UInt8) (hb:b.length≤1000000):∀ (n:Nat) (h:Vector UInt32 8) (i:Nat),(b.drop i).length=n→i≤b.length→iter (z5e b) (h,(i:Int))=some (blk h (b.drop i)):=by
 intro n
 induction n using Nat.strongRecOn with
 | _ n ih =>
  intro h i hn hi;have hw:w64 ((i:Int)+64)=((i+64:Nat):Int):=by rw [z12 (by omega) (by omega)]; omega
  simp only [List.length_drop] at hn;by_cases h64:i+64≤b.length
  ·have hs:z5e b (h,(i:Int))=some (.inr (gr h ((b.drop i).take 64),((i+64:Nat):Int))):=by
    unfold z5e;simp only [hw];rw [if_pos (by simp; omega),zm3 (by omega) h64];simp only [bS];rw [show i+64 - i=64 by omega,z172 _ _ (by simp; omega)];simp only [bS]
   rw [z24 hs,ih (b.drop (i+64)).length (by simp; omega) _ _ rfl h64,zq1 (b:=b.drop i) (by simp; omega),List.drop_drop]
  ·refine (z1s (b:=h) ?_).trans ?_
   ·unfold z5e;simp only [hw];rw [if_neg (by simp; omega)]
   ·rw [zrc (by simp; omega)]
theorem zyx (h:Vector UInt32 8) (b:List UInt8) (hb:b.length≤1000000):z99 h b=some (blk h b):=by
 unfold z99
 have:=zvk b hb _ h 0 rfl (by omega)
 rw [show (0:Int)=((0:Nat):Int) from rfl,this];simp only [bS,List.drop_zero]
def zrs (n:Nat):Nat:=(119 - n % 64) % 64
def z8j (n:Nat):List UInt8:=(List.range 8).map fun i=>(z71 (UInt64.ofNat n * 8) (56 - 8 * i)).toUInt8
def tl (n:Nat):List UInt8:=([128]++List.replicate (zrs n) 0)++z8j n
theorem zqz (n:Nat):UInt64.ofInt (n:Int)=UInt64.ofNat n:=by
 apply UInt64.toNat_inj.1
 unfold UInt64.ofInt;simp only [UInt64.toNat_ofNat'];omega
theorem zy9 (n:Nat) (x:List UInt8) (hx:x.length≤100):iter (zan (UInt64.ofNat n * 8)) (x,56)=some (x++z8j n):=by
 rw [show (x,(56:Int))=(x++(z8j n).take 0,56 - 8 * ((0:Nat):Int)) by simp];refine z4b (F:=zan (UInt64.ofNat n * 8)) (b:=x++z8j n) 8 (fun i=>(x++(z8j n).take i,56 - 8 * (i:Int))) (fun i hi=>?_) ?_
 ·have hl:(z8j n).length=8:=by simp [z8j]
  unfold zan;rw [if_pos (by simp; omega)];simp only [];rw [z3k (by omega),z12 (by omega) (by omega)];simp only [bS];rw [z2y (by simp; omega)];simp only [bS];rw [List.take_add_one,List.getElem?_eq_getElem (by omega)];simp only [Option.toList_some,List.append_assoc];rw [show (56 - 8 * (i:Int)).toNat=56 - 8 * i by omega, show (56 - 8 * (i:Int) - 8)=56 - 8 * ((i+1:Nat):Int) by omega];simp [z8j]
 ·have hl:(z8j n).length=8:=by simp [z8j]
  unfold zan;rw [if_neg (by simp),List.take_of_length_le (by omega)]
theorem zyc (n:Nat) (x:List UInt8) (hx:x.length≤100):iter (z6o (n:Int)) (x,7)=some (x++z8j n):=by
 rw [show (x,(7:Int))=(x++(z8j n).take 0,7 - ((0:Nat):Int)) by simp];refine z4b (F:=z6o (n:Int)) (b:=x++z8j n) 8 (fun i=>(x++(z8j n).take i,7 - (i:Int))) (fun i hi=>?_) ?_
 ·have hl:(z8j n).length=8:=by simp [z8j]
  unfold z6o;rw [if_pos (by simp; omega)];simp only [];rw [z12 (x:=8 * (7 - (i:Int))) (by omega) (by omega),z3k (by omega),z12 (by omega) (by omega)];simp only [bS];rw [z2y (by simp; omega)];simp only [bS];rw [List.take_add_one,List.getElem?_eq_getElem (by omega)];simp only [Option.toList_some,List.append_assoc];rw [show (8 * (7 - (i:Int))).toNat=56 - 8 * i by omega, show (7 - (i:Int) - 1)=7 - ((i+1:Nat):Int) by omega]
  rw [zqz];simp [z8j,UInt64.mul_comm]
 ·have hl:(z8j n).length=8:=by simp [z8j]
  unfold z6o;rw [if_neg (by simp),List.take_of_length_le (by omega)]
theorem zyn (n:Nat) (hn:n≤1000000):iter (z6k (n:Int)) [128]=some ([128]++List.replicate (zrs n) 0):=by
 refine z4b (F:=z6k (n:Int)) (b:=[128]++List.replicate (zrs n) 0) (zrs n) (fun i=>[128]++List.replicate i 0) (fun i hi=>?_) ?_
 ·have hz:zrs n<64:=Nat.mod_lt _ (by omega);have hl:(([128]++List.replicate i 0:List UInt8).length:Int)=((1+i:Nat):Int):=by simp; omega
  unfold z6k;rw [hl,z12 (x:=(n:Int)+((1+i:Nat):Int)) (by omega) (by omega),z12 (by omega) (by omega)];have ht:Int.tmod ((n:Int)+((1+i:Nat):Int)+8) 64=(((n+9+i) % 64:Nat):Int):=by
   rw [Int.tmod_eq_emod_of_nonneg (by omega)]; omega
  rw [ht,if_pos]
  ·rw [z2y (by simp; omega)];simp only [bS];rw [List.replicate_succ',List.append_assoc]
  ·simp only [bne_iff_ne,ne_eq];unfold zrs at hi;omega
 ·have hl:(([128]++List.replicate (zrs n) 0:List UInt8).length:Int)=((1+zrs n:Nat):Int):=by simp; omega
  have hz:zrs n<64:=Nat.mod_lt _ (by omega);unfold z6k;rw [hl,z12 (x:=(n:Int)+((1+zrs n:Nat):Int)) (by omega) (by omega),z12 (by omega) (by omega)];have ht:Int.tmod ((n:Int)+((1+zrs n:Nat):Int)+8) 64=0:=by
   rw [Int.tmod_eq_emod_of_nonneg (by omega)];unfold zrs;omega
  rw [ht,if_neg (by simp)]
theorem z11p (n:Nat) (hn:n≤1000000):zak (n:Int)=some (tl n):=by
 have hz:zrs n<64:=Nat.mod_lt _ (by omega);unfold zak;rw [zyn n hn];simp only [bS];rw [zyc n _ (by simp; omega)];simp only [bS];rfl
def wr (h:Vector UInt32 8):V3:=Vector.ofFn fun i=>(z4m (h[i.val / 4]'(by omega)) (24 - 8 * (i.val % 4))).toUInt8
theorem zwg (h:Vector UInt32 8):z8f h=some (wr h):=by
 have:∃ r,iter (z4x h) (Vector.replicate 32 0,0)=some r∧r=wr h:=by
  refine z62 (F:=z4x h) 32 (fun i s=>s.2=(i:Int)∧∀ k (hk:k<32),k<i→s.1[k]=(wr h)[k]) (fun r=>r=wr h) (fun i s hi hs=>?_) (fun s hs=>?_) (Vector.replicate 32 0,0) 0 (by omega) ⟨rfl, fun k hk h0=>by omega⟩
  ·obtain ⟨v,j⟩:=s;obtain ⟨h1,h2⟩:=hs;simp only at h1 h2;subst h1;have hd:w64 (Int.tdiv (i:Int) 4)=((i / 4:Nat):Int):=by
    have:Int.tdiv (i:Int) 4=((i / 4:Nat):Int):=by rw [Int.tdiv_eq_ediv_of_nonneg (by omega)]; omega
    rw [this,z12 (by omega) (by omega)]
   have hm:w64 (8 * (Int.tmod (i:Int) 4))=((8 * (i % 4):Nat):Int):=by
    have:Int.tmod (i:Int) 4=((i % 4:Nat):Int):=by rw [Int.tmod_eq_emod_of_nonneg (by omega)]; omega
    rw [this,z12 (by omega) (by omega)]; omega
   have hs:w64 (24 - ((8 * (i % 4):Nat):Int))=((24 - 8 * (i % 4):Nat):Int):=by rw [z12 (by omega) (by omega)]; omega
   refine ⟨(zij v (i:Int) ((z4m (h[i / 4]'(by omega)) (24 - 8 * (i % 4))).toUInt8),((i+1:Nat):Int)),?_,rfl, fun k hk hk2=>?_⟩
   ·unfold z4x;rw [if_pos (by simp; omega)];simp only [];rw [hd,hm,hs,z8h (show i / 4<8 by omega),z3k (by omega),z8h hi,z0u (show i<9223372036854775807 by omega)];simp only [bS,Int.toNat_natCast]
   ·simp only [];rw [zgz hk,Int.toNat_natCast];by_cases e:i=k
    ·subst e;rw [if_pos rfl];simp [wr]
    ·rw [if_neg e]; exact h2 k hk (by omega)
  ·obtain ⟨v,j⟩:=s;obtain ⟨h1,h2⟩:=hs;simp only at h1 h2;subst h1;refine ⟨v,?_,?_⟩
   ·unfold z4x;rw [if_neg (by simp)]
   ·exact Vector.ext fun k hk=>h2 k hk hk
 obtain ⟨r,h1,rfl⟩:=this;unfold z8f;rw [h1];simp only [bS]
theorem zqf (m:z2k):iter (z8z m) (Vector.replicate 32 0,0)=some (wr m.Words):=by
 have:∃ r,iter (z8z m) (Vector.replicate 32 0,0)=some r∧r=wr m.Words:=by
  refine z62 (F:=z8z m) 8 (fun i s=>s.2=(i:Int)∧∀ k (hk:k<32),k<4 * i→s.1[k]=(wr m.Words)[k]) (fun r=>r=wr m.Words) (fun i s hi hs=>?_) (fun s hs=>?_) (Vector.replicate 32 0,0) 0 (by omega) ⟨rfl, fun k hk h0=>by omega⟩
  ·obtain ⟨v,j⟩:=s;obtain ⟨h1,h2⟩:=hs;simp only at h1 h2;subst h1;have e0:w64 (4 * (i:Int))=((4 * i:Nat):Int):=by rw [z12 (by omega) (by omega)]; omega
   have e1:w64 (((4 * i:Nat):Int)+1)=((4 * i+1:Nat):Int):=by rw [z12 (by omega) (by omega)]; omega
   have e2:w64 (((4 * i:Nat):Int)+2)=((4 * i+2:Nat):Int):=by rw [z12 (by omega) (by omega)]; omega
   have e3:w64 (((4 * i:Nat):Int)+3)=((4 * i+3:Nat):Int):=by rw [z12 (by omega) (by omega)]; omega
   refine ⟨(zij (zij (zij (zij v ((4 * i:Nat):Int) (z4m m.Words[i] 24).toUInt8) ((4 * i+1:Nat):Int) (z4m m.Words[i] 16).toUInt8) ((4 * i+2:Nat):Int) (z4m m.Words[i] 8).toUInt8) ((4 * i+3:Nat):Int) m.Words[i].toUInt8,((i+1:Nat):Int)),?_,rfl, fun k hk hk2=>?_⟩
   ·unfold z8z;rw [if_pos (by simp; omega)];simp only [];rw [e0,e1,e2,e3,z8h hi,z8h (show 4 * i<32 by omega),z0u (show i<9223372036854775807 by omega)];simp only [bS];rw [z8h (show 4 * i+1<32 by omega),z8h (show 4 * i+2<32 by omega),z8h (show 4 * i+3<32 by omega)];simp only [bS]
   ·simp only [];rw [zgz hk,zgz hk,zgz hk,zgz hk];simp only [Int.toNat_natCast];have hw:(wr m.Words)[k]=(z4m (m.Words[k / 4]'(by omega)) (24 - 8 * (k % 4))).toUInt8:=by simp [wr]
    have s0:∀ x:UInt32,z4m x 0=x:=fun x=>by
     apply UInt32.toNat_inj.1; rw [zey]; simp
    by_cases c3:4 * i+3=k
    ·subst c3;rw [if_pos rfl,hw];have a1:(4 * i+3) / 4=i:=by omega
     have a2:24 - 8 * ((4 * i+3) % 4)=0:=by omega
     simp only [a1,a2,s0]
    ·rw [if_neg c3];by_cases c2:4 * i+2=k
     ·subst c2;rw [if_pos rfl,hw];have a1:(4 * i+2) / 4=i:=by omega
      have a2:24 - 8 * ((4 * i+2) % 4)=8:=by omega
      simp only [a1,a2]
     ·rw [if_neg c2];by_cases c1:4 * i+1=k
      ·subst c1;rw [if_pos rfl,hw];have a1:(4 * i+1) / 4=i:=by omega
       have a2:24 - 8 * ((4 * i+1) % 4)=16:=by omega
       simp only [a1,a2]
      ·rw [if_neg c1];by_cases c0:4 * i=k
       ·subst c0;rw [if_pos rfl,hw];have a1:(4 * i) / 4=i:=by omega
        have a2:24 - 8 * ((4 * i) % 4)=24:=by omega
        simp only [a1,a2]
       ·rw [if_neg c0];exact h2 k hk (by omega)
  ·obtain ⟨v,j⟩:=s;obtain ⟨h1,h2⟩:=hs;simp only at h1 h2;subst h1;refine ⟨v,?_,?_⟩
   ·unfold z8z;rw [if_neg (by simp)]
   ·exact Vector.ext fun k hk=>h2 k hk (by omega)
 obtain ⟨r,h1,rfl⟩:=this;exact h1
def sha (b:List UInt8):V3:=wr (blk H0 (b++tl b.length))
theorem z16z (a:List UInt8) (h:a.length≤300000):zgw (zwo a)=some (sha a):=by
 have hz:zrs a.length<64:=Nat.mod_lt _ (by omega);unfold zgw;rw [show (zwo a).N=((a.length:Nat):Int) from rfl,zqz];simp only [bS];have ht:Int.tmod (w64 (119 - Int.tmod ((a.length:Nat):Int) 64)) 64=((zrs a.length:Nat):Int):=by
  have e1:Int.tmod ((a.length:Nat):Int) 64=((a.length % 64:Nat):Int):=by rw [Int.tmod_eq_emod_of_nonneg (by omega)]; omega
  rw [e1,z12 (by omega) (by omega),Int.tmod_eq_emod_of_nonneg (by omega)];unfold zrs;omega
 rw [ht];have hap:appz 1 ([128]:List UInt8) 0 ((zrs a.length:Nat):Int)=some ([128]++List.replicate (zrs a.length) 0):=by
  unfold appz;rw [if_pos ⟨by omega, by simp; omega⟩,Int.toNat_natCast]
 rw [hap];simp only [bS];rw [zy9 _ _ (by simp; omega)];simp only [bS];have htl:(tl a.length).length≤200:=by simp [tl,z8j]; omega
 rw [show ([128]++List.replicate (zrs a.length) 0)++z8j a.length=tl a.length from rfl,zrt a _ (by omega)];simp only [bS];rw [zqf];simp only [bS];rfl
theorem z16x (b:List UInt8) (h:b.length≤300000):zas b=some (sha b):=by
 have hz:zrs b.length<64:=Nat.mod_lt _ (by omega);have htl:(tl b.length).length≤200:=by simp [tl,z8j]; omega
 unfold zas zbv;simp only [bS];rw [z2y (by simp; omega)];simp only [bS,List.nil_append];rw [z11p _ (by omega)];simp only [bS];rw [z2y (by simp; omega)];simp only [bS];rw [zyx _ _ (by simp; omega)];simp only [bS];rw [zwg];simp only [bS];rfl
end
section
open Go Go.RowKit
def pmod:Nat→Nat→Nat→Nat→Nat
 | 0,_,_,m=>1 % m
 | f+1,a,n,m=>if n=0 then 1 % m else (if n % 2=1 then a * pmod f (a * a % m) (n / 2) m % m else pmod f (a * a % m) (n / 2) m)
theorem zoq:∀ (f a n m:Nat),n<2 ^ f→pmod f a n m=a ^ n % m
 | 0,a,n,m,h=>by
  have:n=0:=by simpa using h
  subst this; rfl
 | f+1,a,n,m,h=>by
  have h2:n / 2<2 ^ f:=by rw [Nat.pow_succ] at h; omega
  have key:(a * a % m) ^ (n / 2) % m=a ^ (2 * (n / 2)) % m:=by
   rw [← Nat.pow_mod,← Nat.pow_two,← Nat.pow_mul]
  simp only [pmod,zoq f _ _ _ h2,key]
  split
  ·rename_i h0; subst h0; rfl
  ·split
   ·rename_i h1;rw [Nat.mul_mod,Nat.mod_mod,← Nat.mul_mod, show a * a ^ (2 * (n / 2))=a ^ (2 * (n / 2)+1) by rw [Nat.pow_succ,Nat.mul_comm], show 2 * (n / 2)+1=n by omega]
   ·rename_i h1;rw [show 2 * (n / 2)=n by omega]
abbrev gp:Nat:=1000000007
abbrev gq:Nat:=500000003
theorem zu4:4 ^ gq % gp=1:=by
 rw [← zoq 64 4 gq gp (by decide)]
 decide +kernel
def inG (a:Nat):Prop:=0<a∧a<gp∧a ^ gq % gp=1
instance:DecidablePred inG:=fun a=>by unfold inG; exact inferInstance
theorem zi7 (a m n p:Nat):(a ^ m % p) ^ n % p=a ^ (m * n) % p:=by rw [← Nat.pow_mod,← Nat.pow_mul]
theorem zrv {a:Nat} (h:a ^ gq % gp=1) (k:Nat):a ^ (gq * k) % gp=1:=by
 rw [Nat.pow_mul,Nat.pow_mod,h,Nat.one_pow];rfl
theorem zms {a:Nat} (h:a ^ gq % gp=1) (k r:Nat):a ^ (gq * k+r) % gp=a ^ r % gp:=by
 rw [Nat.pow_add,Nat.mul_mod,zrv h,Nat.one_mul,Nat.mod_mod]
theorem zpg {a:Nat} (h:a ^ gq % gp=1) (n:Nat):inG (a ^ n % gp):=by
 have h2:(a ^ n % gp) ^ gq % gp=1:=by rw [zi7,Nat.mul_comm,zrv h]
 refine ⟨Nat.pos_of_ne_zero fun h0=>?_,Nat.mod_lt _ (by decide),h2⟩;rw [h0,Nat.zero_pow (by decide)] at h2;exact absurd h2 (by decide)
theorem z16b {y E:Nat} (h:y ^ gq % gp=1) (hE:E<gq):(y ^ E % gp) ^ (gq - 1) % gp=y ^ (gq - E) % gp:=by
 rw [zi7];by_cases h0:E=0
 ·subst h0;rw [Nat.zero_mul,Nat.sub_zero,h,Nat.pow_zero]
  decide
 ·have e:E * (gq - 1)=gq * (E - 1)+(gq - E):=by
   obtain ⟨k,rfl⟩:∃ k,E=k+1:=⟨E - 1, by omega⟩
   have hE':k+1<500000003:=hE;show (k+1) * 500000002=500000003 * (k+1 - 1)+(500000003 - (k+1));omega
  rw [e,zms h]
theorem zx3 {a n i p:Nat}:((a ^ (n >>> (i+1)) % p) * (a ^ (n >>> (i+1)) % p) % p) * a ^ ((n >>> i) % 2) % p=a ^ (n >>> i) % p:=by
 have e:n >>> i=2 * (n >>> (i+1))+(n >>> i) % 2:=by
  rw [Nat.shiftRight_succ]; omega
 have key:∀ x y:Nat,((x % p) * (x % p) % p) * y % p=x * x * y % p:=fun x y=>by
  rw [Nat.mul_mod ((x % p) * (x % p) % p) y,Nat.mod_mod,← Nat.mul_mod x x,← Nat.mul_mod]
 rw [key,← Nat.pow_add,← Nat.pow_add]
 congr 2
 omega
end
section
open Go
def u32 (n:Nat):UInt32:=UInt32.ofNat n
theorem z2i {n:Nat} (h:n<gp):(u32 n).toNat=n:=by
 have h:n<1000000007:=h;unfold u32; simp; omega
theorem m64 (x y:UInt64) (h:x.toNat * y.toNat<18446744073709551616):(x * y % 1000000007).toNat=x.toNat * y.toNat % gp:=by
 rw [UInt64.toNat_mod,UInt64.toNat_mul,Nat.mod_eq_of_lt h];rfl
theorem to32 (x:UInt64) (h:x.toNat<gp):x.toUInt32=u32 x.toNat:=by
 apply UInt32.toNat_inj.1
 have h:x.toNat<1000000007:=h;rw [z2i h]; simp; omega
theorem mul2 (x y:UInt32):zah 1000000007 [x,y]=some (u32 (x.toNat * y.toNat % gp)):=by
 have hx:=UInt32.toNat_lt x;have hy:=UInt32.toNat_lt y;have e1:(1 * x.toUInt64 % 1000000007:UInt64).toNat=x.toNat % gp:=by
  rw [m64 _ _ (by simp; omega)]; simp
 have hlt:x.toNat % gp<1000000007:=Nat.mod_lt _ (by decide);have hpr:(x.toNat % gp) * y.toNat≤1000000007 * 4294967296:=Nat.mul_le_mul (by omega) (by omega);have e2:(1 * x.toUInt64 % 1000000007 * y.toUInt64 % 1000000007:UInt64).toNat=x.toNat * y.toNat % gp:=by
  rw [m64 _ _ (by rw [e1]; simp; omega),e1];simp only [UInt32.toNat_toUInt64];rw [Nat.mod_mul_mod]
 have s1:z49 1000000007 [x,y] (1,0)=some (.inr (1 * x.toUInt64 % 1000000007,1)):=by
  unfold z49;rw [if_pos (by simp)];simp only [];rw [show idx [x,y] 0=some x from rfl,z3k (by decide),z12 (x:=(0:Int)+1) (by omega) (by omega)];simp only [bS];rfl
 have s2:z49 1000000007 [x,y] (1 * x.toUInt64 % 1000000007,1)=some (.inr (1 * x.toUInt64 % 1000000007 * y.toUInt64 % 1000000007,2)):=by
  unfold z49;rw [if_pos (by simp)];simp only [];rw [show idx [x,y] 1=some y from rfl,z3k (by decide),z12 (x:=(1:Int)+1) (by omega) (by omega)];simp only [bS];rfl
 have s3:z49 1000000007 [x,y] (1 * x.toUInt64 % 1000000007 * y.toUInt64 % 1000000007,2)=some (.inl (1 * x.toUInt64 % 1000000007 * y.toUInt64 % 1000000007)):=by
  unfold z49;rw [if_neg (by simp)]
 unfold zah;rw [z24 s1,z24 s2,z1s s3];simp only [bS];rw [to32 _ (by rw [e2]; exact Nat.mod_lt _ (by decide)),e2]
theorem z11k (a:UInt32) (n:UInt64) (i:Nat) (hi:i<64):zbq a n (u32 (a.toNat ^ (n.toNat >>> (64 - i)) % gp),(i:Int))=some (.inr (u32 (a.toNat ^ (n.toNat >>> (64 - (i+1))) % gp),((i+1:Nat):Int))):=by
 have hlt:a.toNat ^ (n.toNat >>> (64 - i)) % gp<gp:=Nat.mod_lt _ (by decide);have hlt2:(a.toNat ^ (n.toNat >>> (64 - i)) % gp) * (a.toNat ^ (n.toNat >>> (64 - i)) % gp) % gp<gp:=Nat.mod_lt _ (by decide);have hw:w64 (63 - (i:Int))=((63 - i:Nat):Int):=by rw [z12 (by omega) (by omega)]; omega
 have key:=zx3 (a:=a.toNat) (n:=n.toNat) (i:=63 - i) (p:=gp);rw [show 63 - i+1=64 - i by omega] at key;have hb:=z19f n (63 - i) (by omega);unfold zbq zi8;rw [if_pos (by simp; omega)];simp only [];rw [mul2,z2i hlt];simp only [bS];rw [hw,z3k (by omega),z0u (show i<9223372036854775807 by omega)];simp only [bS];rw [show 64 - (i+1)=63 - i by omega];have hs:n.toNat >>> (63 - i) % 2=(if n.toNat.testBit (63 - i) then 1 else 0):=by
  rw [Nat.testBit_eq_decide_div_mod_eq,← Nat.shiftRight_eq_div_pow];by_cases h:n.toNat >>> (63 - i) % 2=1
  ·simp [h]
  ·simp [h]; omega
 cases ht:n.toNat.testBit (63 - i) with
 | true =>
  rw [ht] at hs;rw [hs,if_pos rfl,Nat.pow_one] at key;rw [if_pos (by rw [Int.toNat_natCast,hb]; exact ht),mul2,z2i hlt2,key];simp only [bS]
 | false =>
  rw [ht] at hs;rw [hs,if_neg (by simp),Nat.pow_zero,Nat.mul_one,Nat.mod_mod] at key;rw [if_neg (by rw [Int.toNat_natCast,hb,ht]; simp),key]
theorem ztr (a:UInt32) (n:UInt64):zej a n=some (u32 (a.toNat ^ n.toNat % gp)):=by
 have h0:n.toNat >>> 64=0:=by
  rw [Nat.shiftRight_eq_div_pow]; exact Nat.div_eq_of_lt (UInt64.toNat_lt n)
 have:=z4b (F:=zbq a n) (b:=u32 (a.toNat ^ n.toNat % gp)) 64 (fun i=>(u32 (a.toNat ^ (n.toNat >>> (64 - i)) % gp),(i:Int))) (fun i hi=>z11k a n i hi) (by
  unfold zbq;rw [if_neg (by simp)]
  simp)
 simp only [Nat.sub_zero,h0,Nat.pow_zero] at this;unfold zej;rw [show ((1:UInt32),(0:Int))=(u32 (1 % gp),((0:Nat):Int)) from rfl,this];simp only [bS]
theorem zvv:∀ (k:Nat) (a n o:UInt64),n.toNat=k→a.toNat<4294967296→o.toNat<gp→∃ r:UInt64,iter (z5s 1000000007) (a,n,o)=some r∧r.toNat=o.toNat * a.toNat ^ n.toNat % gp:=by
 intro k
 induction k using Nat.strongRecOn with
 | _ k ih =>
  intro a n o hk ha ho;have ho':o.toNat<1000000007:=ho;by_cases hn:n.toNat=0
  ·refine ⟨o,z1s ?_,?_⟩
   ·unfold z5s;rw [if_neg];simp only [decide_eq_true_eq,UInt64.lt_iff_toNat_lt]
    simp; omega
   ·rw [hn,Nat.pow_zero,Nat.mul_one,Nat.mod_eq_of_lt ho]
  ·have haa:(a * a % 1000000007).toNat=a.toNat * a.toNat % gp:=m64 a a (by
    have:a.toNat * a.toNat≤4294967295 * 4294967295:=Nat.mul_le_mul (by omega) (by omega)
    omega)
   have hoa:(o * a % 1000000007).toNat=o.toNat * a.toNat % gp:=m64 o a (by
    have:o.toNat * a.toNat≤1000000007 * 4294967295:=Nat.mul_le_mul (by omega) (by omega)
    omega)
   have hn2:(n / 2).toNat=n.toNat / 2:=by simp
   have hm2:((n % 2)==1)=decide (n.toNat % 2=1):=by
    rw [Bool.eq_iff_iff,beq_iff_eq,← UInt64.toNat_inj]
    simp
   have hlt:a.toNat * a.toNat % gp<1000000007:=Nat.mod_lt _ (by decide);have hol:o.toNat * a.toNat % gp<gp:=Nat.mod_lt _ (by decide);have hpow:∀ m:Nat,(a.toNat * a.toNat % gp) ^ m % gp=a.toNat ^ (2 * m) % gp:=fun m=>by
    rw [← Nat.pow_mod,← Nat.pow_two,← Nat.pow_mul]
   have hstep:z5s 1000000007 (a,n,o)=some (.inr (a * a % 1000000007,n / 2, if n.toNat % 2=1 then o * a % 1000000007 else o)):=by
    unfold z5s;rw [if_pos (by simp only [decide_eq_true_eq,UInt64.lt_iff_toNat_lt]; simp; omega)];simp only [];rw [hm2,z3k (by decide)];by_cases h:n.toNat % 2=1
    ·rw [if_pos (by simpa using h),if_pos h];simp only [bS]
    ·rw [if_neg (by simpa using h),if_neg h];simp only [bS]
   rw [z24 hstep];by_cases h:n.toNat % 2=1
   ·rw [if_pos h];obtain ⟨r,h1,h2⟩:=ih (n / 2).toNat (by rw [hn2]; omega) (a * a % 1000000007) (n / 2) (o * a % 1000000007) rfl (by rw [haa]; omega) (by rw [hoa]; exact hol);refine ⟨r,h1,?_⟩;rw [h2,haa,hoa,hn2,Nat.mul_mod,hpow,Nat.mod_mod,← Nat.mul_mod,Nat.mul_assoc, show a.toNat * a.toNat ^ (2 * (n.toNat / 2))=a.toNat ^ (2 * (n.toNat / 2)+1) by rw [Nat.pow_succ,Nat.mul_comm], show 2 * (n.toNat / 2)+1=n.toNat by omega]
   ·rw [if_neg h];obtain ⟨r,h1,h2⟩:=ih (n / 2).toNat (by rw [hn2]; omega) (a * a % 1000000007) (n / 2) o rfl (by rw [haa]; omega) ho;refine ⟨r,h1,?_⟩;rw [h2,haa,hn2,Nat.mul_mod,hpow,← Nat.mul_mod, show 2 * (n.toNat / 2)=n.toNat by omega]
theorem zv5 (a n:UInt64) (ha:a.toNat<4294967296):∃ r:UInt64,z83 a n 1000000007=some r∧r.toNat=a.toNat ^ n.toNat % gp:=by
 obtain ⟨r,h1,h2⟩:=zvv _ a n 1 rfl ha (by decide);refine ⟨r,?_, by rw [h2]; simp⟩
 unfold z83;rw [h1];simp only [bS]
theorem zmh (a:UInt32) (n:UInt64):z5j a n=some (u32 (a.toNat ^ n.toNat % gp)):=by
 obtain ⟨r,h1,h2⟩:=zv5 a.toUInt64 n (by simp; exact UInt32.toNat_lt a);unfold z5j;rw [h1];simp only [bS];simp only [UInt32.toNat_toUInt64] at h2;rw [to32 _ (by rw [h2]; exact Nat.mod_lt _ (by decide)),h2]
theorem z18t (a:UInt32):(u32 (a.toNat ^ (500000003:UInt64).toNat % gp)==1)=decide (a.toNat ^ gq % gp=1):=by
 have hlt:a.toNat ^ gq % gp<gp:=Nat.mod_lt _ (by decide);rw [show (500000003:UInt64).toNat=gq from rfl,Bool.eq_iff_iff,beq_iff_eq,decide_eq_true_iff,← UInt32.toNat_inj,z2i hlt];rfl
theorem zxj (a:UInt32):zgq a=some (decide (inG a.toNat)):=by
 unfold zgq;have h1:decide (0<a)=decide (0<a.toNat):=by simp [UInt32.lt_iff_toNat_lt]
 have h2:decide (a<1000000007)=decide (a.toNat<gp):=by simp [UInt32.lt_iff_toNat_lt]
 rw [h1,h2,ztr];simp only [bS];rw [z18t];unfold inG;by_cases c1:0<a.toNat
 ·by_cases c2:a.toNat<gp
  ·simp [c1,c2]
  ·simp [c1,c2]
 ·simp [c1]
theorem zuh (a:UInt32):zap a=some (decide (inG a.toNat)):=by
 obtain ⟨r,hr1,hr2⟩:=zv5 a.toUInt64 500000003 (by simp; exact UInt32.toNat_lt a);unfold zap;have h1:decide (1≤a)=decide (0<a.toNat):=by
  rw [decide_eq_decide,UInt32.le_iff_toNat_le]; simp; omega
 have h2:decide (a<1000000007)=decide (a.toNat<gp):=by simp [UInt32.lt_iff_toNat_lt]
 rw [h1,h2,hr1];simp only [bS];have h3:(r==1)=decide (a.toNat ^ gq % gp=1):=by
  simp only [UInt32.toNat_toUInt64] at hr2;rw [Bool.eq_iff_iff,beq_iff_eq,decide_eq_true_iff,← UInt64.toNat_inj,hr2];rfl
 rw [h3];unfold inG;by_cases c1:0<a.toNat
 ·by_cases c2:a.toNat<gp
  ·simp [c1,c2]
  ·simp [c1,c2]
 ·simp [c1]
end
section
open Go
theorem zwv (l:List (List UInt8)) (h0:l.length≤20) (h:∀ b∈l,b.length≤10000):z1n l=some false:=by
 have:iter (z19 l) 0=some (.inr ()):=by
  refine z4b (F:=z19 l) (b:=.inr ()) l.length (fun i=>(i:Int)) (fun i hi=>?_) ?_
  ·have hb:=h l[i] (List.getElem_mem _);unfold z19 zd1;rw [if_pos (by simp; omega),z0f hi];simp only [bS];rw [if_neg (by simp; omega),z0u (show i<9223372036854775807 by omega)]
  ·unfold z19;rw [if_neg (by simp)]
 unfold z1n z34;rw [this];simp only [zu0,bS];rfl
theorem zln:∀ (l:List (List UInt8)),(∀ b∈l,b.length≤10000)→l.flatten.length≤l.length * 10000
 | [],_=>by simp
 | b::l,h=>by
  have h1:=h b (by simp);have h2:=zln l (fun c hc=>h c (by simp [hc]));simp only [List.flatten_cons,List.length_append,List.length_cons]; omega
theorem zmx (l:List (List UInt8)) (h0:l.length≤20) (h:∀ b∈l,b.length≤10000):zau l=some (sha l.flatten,0):=by
 have hl:iter (z80 l) (zwo [],0)=some (zwo l.flatten):=by
  have:=z4b (F:=z80 l) (b:=zwo l.flatten) l.length (fun i=>(zwo (l.take i).flatten,(i:Int))) (fun i hi=>?_) ?_
  ·simpa using this
  ·have hb:=h l[i] (List.getElem_mem _);have hf:=zln (l.take i) (fun b hb'=>h b (List.mem_of_mem_take hb'));simp only [List.length_take] at hf;unfold z80;rw [if_pos (by simp; omega)];simp only [];rw [z0f hi];simp only [bS];rw [zrt _ _ (by omega),z0u (show i<9223372036854775807 by omega)];simp only [bS];rw [List.take_add_one,List.getElem?_eq_getElem hi,List.flatten_append];rw [show ((some l[i]:Option (List UInt8)).toList).flatten=l[i] by simp]
  ·unfold z80;rw [if_neg (by simp)]
   simp
 have hf:=zln l h;unfold zau;rw [if_neg (by simp; omega),zwv l h0 h];simp only [bS];rw [if_neg (by simp),z11d];simp only [bS];rw [hl];simp only [bS];rw [z16z _ (by omega)];simp only [bS]
theorem z184 (b:List UInt8) (h:b.length≤10000):zgk b=some (sha b,0):=by
 unfold zgk;rw [zmx [b] (by simp) (by simpa using h)]
 simp
def four (x:UInt32):List UInt8:=[(z4m x 24).toUInt8,(z4m x 16).toUInt8,(z4m x 8).toUInt8,x.toUInt8]
theorem zys (x:UInt32):z8t x=some (four x):=by
 unfold z8t four;have hx:=UInt32.toNat_lt x;have e1:(x / 16777216).toUInt8=(z4m x 24).toUInt8:=by
  apply UInt8.toNat_inj.1
  simp only [UInt32.toNat_toUInt8,zey,UInt32.toNat_div]; rfl
 have e2:((x / 65536) % 256).toUInt8=(z4m x 16).toUInt8:=by
  apply UInt8.toNat_inj.1
  simp only [UInt32.toNat_toUInt8,zey,UInt32.toNat_div,UInt32.toNat_mod];exact Nat.mod_mod _ _
 have e3:((x / 256) % 256).toUInt8=(z4m x 8).toUInt8:=by
  apply UInt8.toNat_inj.1
  simp only [UInt32.toNat_toUInt8,zey,UInt32.toNat_div,UInt32.toNat_mod];exact Nat.mod_mod _ _
 have e4:(x % 256).toUInt8=x.toUInt8:=by
  apply UInt8.toNat_inj.1
  simp only [UInt32.toNat_toUInt8,UInt32.toNat_mod];exact Nat.mod_mod _ _
 rw [e1,e2,e3,e4]
def zo8 (d:V3):Nat→UInt64
 | 0=>0
 | i+1=>256 * zo8 d i+(d.toList.getD i 0).toUInt64
theorem ztb (d:V3):∀ i,i≤8→(zo8 d i).toNat<256 ^ i
 | 0,_=>by simp [zo8]
 | i+1,h=>by
  have ih:=ztb d i (by omega);have hy:=UInt8.toNat_lt (d.toList.getD i 0);have ep:256 ^ (i+1)=256 ^ i * 256:=Nat.pow_succ ..;have hp:256 ^ i≤256 ^ 7:=Nat.pow_le_pow_right (by omega) (by omega);have e7:(256:Nat) ^ 7=72057594037927936:=rfl;rw [zo8,UInt64.toNat_add,UInt64.toNat_mul,ep];have e1:((d.toList.getD i 0).toUInt64).toNat=(d.toList.getD i 0).toNat:=by simp
  have e2:(256:UInt64).toNat=256:=rfl;rw [e1,e2,Nat.mod_eq_of_lt (a:=256 * (zo8 d i).toNat) (by omega),Nat.mod_eq_of_lt (by omega)];omega
theorem z118 (x:UInt64) (y:UInt8) (h:x.toNat<72057594037927936):(zop x 8) ||| y.toUInt64=256 * x+y.toUInt64:=by
 apply UInt64.toNat_inj.1
 have hy:=UInt8.toNat_lt y;rw [UInt64.toNat_or,zma,UInt64.toNat_add,UInt64.toNat_mul];have e1:(y.toUInt64).toNat=y.toNat:=by simp
 have e2:(256:UInt64).toNat=256:=rfl;rw [e1,e2, show (2:Nat) ^ (min 8 64)=256 from rfl,Nat.mod_eq_of_lt (a:=x.toNat * 256) (by omega),Nat.mod_eq_of_lt (a:=256 * x.toNat) (by omega),Nat.mod_eq_of_lt (by omega)]
 have:=Nat.shiftLeft_add_eq_or_of_lt (i:=8) (b:=y.toNat) (by simpa using hy) x.toNat
 rw [Nat.shiftLeft_eq, show (2:Nat) ^ 8=256 from rfl] at this;rw [← this]; omega
theorem zut (d:V3) (e:Int):iter (zbr (d,e)) (0,0)=some (zo8 d 8):=by
 refine z4b (F:=zbr (d,e)) (b:=zo8 d 8) 8 (fun i=>(zo8 d i,(i:Int))) (fun i hi=>?_) ?_
 ·have hl:((d.toList.drop 0).take 8).length=8:=by simp
  have hlt:=ztb d i (by omega);have hp:256 ^ i≤256 ^ 7:=Nat.pow_le_pow_right (by omega) (by omega);have e7:(256:Nat) ^ 7=72057594037927936:=rfl;unfold zbr;simp only [hl];rw [if_pos (by simp; omega),zgb 0 (by rw [hl]; exact hi)];simp only [bS];rw [List.drop_zero,zrm hi,z118 _ _ (by omega),z0u (show i<9223372036854775807 by omega)];rfl
 ·have hl:((d.toList.drop 0).take 8).length=8:=by simp
  unfold zbr;simp only [hl];rw [if_neg (by simp)]
theorem z14e (b:List UInt8) (h:b.length≤300000):z8w b=some (zo8 (sha b) 8):=by
 have:iter (z59 (sha b)) (0,0)=some (zo8 (sha b) 8):=by
  refine z4b (F:=z59 (sha b)) (b:=zo8 (sha b) 8) 8 (fun i=>(zo8 (sha b) i,(i:Int))) (fun i hi=>?_) ?_
  ·unfold z59;rw [if_pos (by simp; omega)];simp only [zy3];rw [zgb 0 (by simp; omega),z0u (show i<9223372036854775807 by omega)];simp only [bS];rfl
  ·unfold z59;rw [if_neg (by simp)]
 unfold z8w;rw [z16x b h];simp only [bS];rw [this];simp only [bS]
def zwn (r y:UInt32) (m:List UInt8):UInt32:=(zo8 (sha ((([99]++four r)++four y)++m)) 8 % 500000003).toUInt32
theorem z15m (m:List UInt8) (r y:UInt32) (h:m.length≤9991):zcy 99 m [r,y]=some (zo8 (sha ((([99]++four r)++four y)++m)) 8,0):=by
 have l1:iter (z4a [r,y]) ([99],0)=some (([99]++four r)++four y):=by
  have s1:z4a [r,y] ([99],0)=some (.inr ([99]++four r,1)):=by
   unfold z4a;rw [if_pos (by simp)];simp only [];rw [show idx [r,y] 0=some r from rfl,z12 (x:=(0:Int)+1) (by omega) (by omega)];simp only [bS];rw [z2y (by simp)];rfl
  have s2:z4a [r,y] ([99]++four r,1)=some (.inr (([99]++four r)++four y,2)):=by
   unfold z4a;rw [if_pos (by simp)];simp only [];rw [show idx [r,y] 1=some y from rfl,z12 (x:=(1:Int)+1) (by omega) (by omega)];simp only [bS];rw [z2y (by simp [four])];rfl
  have s3:z4a [r,y] (([99]++four r)++four y,2)=some (.inl (([99]++four r)++four y)):=by
   unfold z4a;rw [if_neg (by simp)]
  rw [z24 s1,z24 s2,z1s s3]
 unfold zcy;rw [if_neg (by simp; omega),l1];simp only [bS]
 rw [zmx _ (by simp) (by
  intro b hb;simp only [List.mem_cons,List.not_mem_nil,or_false] at hb;rcases hb with rfl | rfl
  ·simp [four]
  ·omega)]
 simp only [bS];rw [zut, show [([99]++four r)++four y,m].flatten=(([99]++four r)++four y)++m by simp only [List.flatten_cons,List.flatten_nil,List.append_nil]];rfl
theorem zkv (r y:UInt32) (m:List UInt8) (h:m.length≤9991):z9o r y m=some (zwn r y m,0):=by
 unfold z9o;rw [z15m m r y h];simp only [bS];rw [if_neg (by simp)];rfl
theorem zmk (r y:UInt32) (m:List UInt8) (h:m.length≤9991):z73 r y m=some (zwn r y m):=by
 unfold z73;rw [zys];simp only [bS];rw [z2y (by simp [four]),zys];simp only [bS];rw [z2y (by simp [four])];simp only [bS];rw [z2y (by simp [four]; omega)];simp only [bS];rw [z14e _ (by simp [four]; omega)];simp only [bS];rfl
def za7 (x:UInt32):Bool:=decide (x.toNat<gq)
theorem zeu (x:UInt32):z41 x=some (za7 x):=by
 have e:decide (x.toUInt64<500000003)=za7 x:=by unfold za7; simp [UInt64.lt_iff_toNat_lt]
 unfold z41;rw [e];rfl
def sigR (y:UInt32) (s:z0c):UInt32:=u32 ((4 ^ s.S.toNat % gp) * (y.toNat ^ (gq - s.E.toNat) % gp) % gp)
def zmc (y:UInt32) (m:List UInt8) (s:z0c):Bool:=za7 s.E&&(za7 s.S&&(zwn (sigR y s) y m==s.E))
theorem z12e (y:UInt32) (m:List UInt8) (s:z0c) (hy:inG y.toNat) (h:m.length≤9991):za2 y m s=some (zmc y m s):=by
 unfold za2 zmc;rw [zeu];simp only [bS]
 cases hE:za7 s.E with
 | false=>rw [if_pos (by simp)]; rfl
 | true =>
  rw [if_neg (by simp),zeu];simp only [bS]
  cases hS:za7 s.S with
  | false=>rw [if_pos (by simp)]; rfl
  | true =>
   have hE':s.E.toNat<gq:=by simpa [za7] using hE
   have hin:=zpg hy.2.2 s.E.toNat;have hlt:y.toNat ^ s.E.toNat % gp<gp:=Nat.mod_lt _ (by decide);rw [if_neg (by simp),zmh];simp only [bS];unfold ze1 zdy zd5;rw [zuh,z2i (by simpa using hlt)];simp only [bS];have hE64:s.E.toUInt64.toNat=s.E.toNat:=by simp
   rw [hE64,decide_eq_true hin,if_neg (by simp),zmh,z2i hlt,zmh];simp only [bS];rw [show (500000002:UInt64).toNat=gq - 1 from rfl,z16b hy.2.2 hE'];unfold zal;simp only [bS];have hS64:s.S.toUInt64.toNat=s.S.toNat:=by simp
   have hl1:4 ^ s.S.toNat % gp<gp:=Nat.mod_lt _ (by decide);have hl2:y.toNat ^ (gq - s.E.toNat) % gp<gp:=Nat.mod_lt _ (by decide);have hprod:((u32 ((4:UInt32).toNat ^ s.S.toUInt64.toNat % gp)).toUInt64 * (u32 (y.toNat ^ (gq - s.E.toNat) % gp)).toUInt64 % 1000000007).toUInt32=sigR y s:=by
    have hb:(4 ^ s.S.toNat % gp) * (y.toNat ^ (gq - s.E.toNat) % gp)≤1000000007 * 1000000007:=Nat.mul_le_mul (Nat.le_of_lt hl1) (Nat.le_of_lt hl2);have e1:=m64 (u32 ((4:UInt32).toNat ^ s.S.toUInt64.toNat % gp)).toUInt64 (u32 (y.toNat ^ (gq - s.E.toNat) % gp)).toUInt64;simp only [UInt32.toNat_toUInt64] at e1;rw [show (4:UInt32).toNat=4 from rfl,z2i hl1,z2i hl2] at e1;have e1:=e1 (by omega);rw [show (4:UInt32).toNat=4 from rfl,hS64,to32 _ (by rw [e1]; exact Nat.mod_lt _ (by decide)),e1]
    rfl
   rw [hprod,zmk _ _ _ h];simp only [bS];rfl
theorem all1 (a:UInt32) (h:inG a.toNat):zct [a]=some true:=by
 unfold zct;have s1:z4r [a] 0=some (.inr 1):=by
  unfold z4r;rw [if_pos (by simp), show idx [a] 0=some a from rfl];simp only [bS];rw [zxj,decide_eq_true h,z12 (x:=(0:Int)+1) (by omega) (by omega)];rfl
 have s2:z4r [a] 1=some (.inl (.inr ())):=by
  unfold z4r;rw [if_neg (by simp)]
 rw [z24 s1,z1s s2];rfl
theorem all2 (a b:UInt32) (h:inG a.toNat) (h2:inG b.toNat):zct [a,b]=some true:=by
 unfold zct;have s1:z4r [a,b] 0=some (.inr 1):=by
  unfold z4r;rw [if_pos (by simp), show idx [a,b] 0=some a from rfl];simp only [bS];rw [zxj,decide_eq_true h,z12 (x:=(0:Int)+1) (by omega) (by omega)];rfl
 have s2:z4r [a,b] 1=some (.inr 2):=by
  unfold z4r;rw [if_pos (by simp), show idx [a,b] 1=some b from rfl];simp only [bS];rw [zxj,decide_eq_true h2,z12 (x:=(1:Int)+1) (by omega) (by omega)];rfl
 have s3:z4r [a,b] 2=some (.inl (.inr ())):=by
  unfold z4r;rw [if_neg (by simp)]
 rw [z24 s1,z24 s2,z1s s3];rfl
theorem zy7 (y:UInt32) (m:List UInt8) (s:z0c) (hy:inG y.toNat) (h:m.length≤9991):zew y m s=some (if zmc y m s then 0 else 22):=by
 have hmax:decide (500000003≤max s.E s.S)=!(za7 s.E&&za7 s.S):=by
  have e1:(500000003≤max s.E s.S)↔(500000003≤s.E∨500000003≤s.S):=by
   rw [show max s.E s.S=if s.E≤s.S then s.S else s.E from rfl]
   split
   ·rename_i hh
    constructor
    ·exact fun h=>.inr h
    ·rintro (h | h)
     ·exact UInt32.le_trans h hh
     ·exact h
   ·rename_i hh
    constructor
    ·exact fun h=>.inl h
    ·rintro (h | h)
     ·exact h
     ·rw [UInt32.le_iff_toNat_le] at *; omega
  rw [Bool.eq_iff_iff,decide_eq_true_iff,e1];unfold za7;simp only [UInt32.le_iff_toNat_le,Bool.not_eq_true',Bool.and_eq_false_iff,decide_eq_false_iff_not,Nat.not_lt];rfl
 unfold zew;rw [zxj,decide_eq_true hy];simp only [bS];rw [if_neg (by simp),if_neg (by simp; omega),hmax]
 cases hE:za7 s.E with
 | false=>unfold zmc; rw [hE]; rfl
 | true =>
  cases hS:za7 s.S with
  | false=>unfold zmc; rw [hE,hS]; rfl
  | true =>
   have hE':s.E.toNat<gq:=by simpa [za7] using hE
   have hE':s.E.toNat<500000003:=hE';rw [if_neg (by simp)];unfold zmm zb6 zme;rw [all1 y hy];simp only [bS];rw [if_neg (by simp),ztr];simp only [bS];rw [ztr];simp only [bS];have hS64:s.S.toUInt64.toNat=s.S.toNat:=by simp
   have hq:(500000003 - s.E.toUInt64).toNat=gq - s.E.toNat:=by
    rw [UInt64.toNat_sub_of_le _ _ (by rw [UInt64.le_iff_toNat_le]; simp; omega)]
    simp
   have hl1:4 ^ s.S.toNat % gp<gp:=Nat.mod_lt _ (by decide);have hl2:y.toNat ^ (gq - s.E.toNat) % gp<gp:=Nat.mod_lt _ (by decide);rw [hq,hS64, show (4:UInt32).toNat=4 from rfl];rw [all2 _ _ (by rw [z2i hl1]; exact zpg zu4 _) (by rw [z2i hl2]; exact zpg hy.2.2 _)];simp only [bS];rw [if_neg (by simp),mul2,z2i hl1,z2i hl2];simp only [bS];rw [zkv _ _ _ h];simp only [bS];rw [if_neg (by simp)];unfold zmc
   rw [hE,hS];show (if (zwn (sigR y s) y m != s.E)=true then some 22 else some 0)=_;by_cases hc:zwn (sigR y s) y m=s.E
   ·simp [hc]
   ·simp [hc]
end
section
open Go
def okc (c:UInt8):Bool:=decide (33≤c.toNat)&&decide (c.toNat≤126)
theorem z15j (x:Int):zl9 x=some (decide (x<33) || decide (126<x)):=by
 unfold zl9
 cases decide (x<33) <;> rfl
theorem zu9 (b:List UInt8):∀ (rest pre:List UInt8),b=pre++rest →
  (rest.all okc=true→iter (z2a b true) pre.length=some (.inr ()))∧(rest.all okc=false→∃ i:Nat,iter (z2a b true) pre.length=some (.inl (i:Int)))
 | [],pre,e=>by
  refine ⟨fun _=>z1s ?_, fun h=>by simp at h⟩;subst e;unfold z2a
  simp
 | c::rest,pre,e=>by
  have hlen:pre.length<b.length:=by rw [e]; simp
  have hget:b[pre.length]'hlen=c:=by subst e; simp
  have hF:z2a b true pre.length=if ((decide (((z9a b pre.length).1:Int)<33) || decide (126<((z9a b pre.length).1:Int)))==true) then some (.inl (.inl (pre.length:Int))) else some (.inr (pre.length+(z9a b pre.length).2)):=by
   unfold z2a;rw [if_pos hlen];simp only [bs,z15j]
  cases hc:okc c with
  | false =>
   refine ⟨fun h=>by simp [hc] at h, fun _=>⟨pre.length,z1s ?_⟩⟩;rw [hF,if_pos];by_cases h8:c.toNat<128
   ·rw [zou hlen (by rw [hget]; exact h8),hget];simp only [okc,Bool.and_eq_false_iff,decide_eq_false_iff_not] at hc
    simp; omega
   ·have:=zzv hlen (by rw [hget]; omega)
    simp; omega
  | true =>
   simp only [okc,Bool.and_eq_true,decide_eq_true_eq] at hc;rw [zou hlen (by rw [hget]; omega),hget,if_neg (by simp; omega)] at hF;have ih:=zu9 b rest (pre++[c]) (by simp [e]);simp only [List.length_append,List.length_cons,List.length_nil,Nat.zero_add] at ih;rw [z24 hF];have hc':okc c=true:=by simp [okc,hc]
   simpa [hc'] using ih
theorem zxq (b:List UInt8) (hb:b.length≤9223372036854775807):∀ (rest pre:List UInt8),b=pre++rest→iter (z6m b) (pre.length:Int)=some (if rest.all okc then .inr () else .inl false)
 | [],pre,e=>by
  refine z1s ?_;subst e;unfold z6m
  simp
 | c::rest,pre,e=>by
  have hlen:pre.length<b.length:=by rw [e]; simp
  have hget:b[pre.length]'hlen=c:=by subst e; simp
  have hF:z6m b (pre.length:Int)=if okc c then some (.inr ((pre.length+1:Nat):Int)) else some (.inl (.inl false)):=by
   unfold z6m;rw [if_pos (by simp <;> omega)]
   simp only [z0f hlen,hget,bs,z0u (show pre.length<9223372036854775807 by omega)];simp only [okc,UInt8.lt_iff_toNat_lt,UInt8.reduceToNat];by_cases h1:c.toNat<33
   ·have:¬ 33≤c.toNat:=by omega
    simp [h1,this]
   ·by_cases h2:126<c.toNat
    ·have:¬ c.toNat≤126:=by omega
     simp [h1,h2,this]
    ·have h3:33≤c.toNat:=by omega
     have h4:c.toNat≤126:=by omega
     simp [h1,h2,h3,h4]
  cases hc:okc c with
  | false=>rw [hc] at hF; rw [z1s hF]; simp [hc]
  | true =>
   rw [hc] at hF;rw [z24 hF];have ih:=zxq b hb rest (pre++[c]) (by simp [e]);simp only [List.length_append,List.length_cons,List.length_nil,Nat.zero_add] at ih;rw [ih]; simp [hc]
def zb5 (k:List UInt8):Bool:=decide (1≤k.length)&&(decide (k.length≤20)&&k.all okc)
theorem z167 (k:List UInt8):z8s k=some (zb5 k):=by
 unfold z8s zb5;by_cases h1:1≤k.length
 ·by_cases h2:k.length≤20
  ·have h:=zxq k (by omega) k [] rfl;rw [if_neg (by simp; omega),if_neg (by simp; omega), show (0:Int)=(([]:List UInt8).length:Int) from rfl,h,decide_eq_true h1,decide_eq_true h2]
   cases k.all okc <;> rfl
  ·rw [if_neg (by simp; omega),if_pos (by simp; omega),decide_eq_false h2]; simp
 ·rw [if_pos (by simp; omega),decide_eq_false h1]; rfl
theorem z185 (k:List UInt8):zrz k=some (zb5 k):=by
 unfold zrz zb5 z63 z65;by_cases h1:1≤k.length
 ·by_cases h2:k.length≤20
  ·obtain ⟨e1,e2⟩:=zu9 k k [] rfl;simp only [List.length_nil] at e1 e2;rw [if_pos (by simp; omega),if_pos (by simp; omega),decide_eq_true h1,decide_eq_true h2]
   cases h:k.all okc
   ·obtain ⟨i,hi⟩:=e2 h;rw [hi];simp only [or_l,bS];rw [decide_eq_false (by omega)]; rfl
   ·rw [e1 h]; rfl
  ·rw [if_pos (by simp; omega),if_neg (by simp; omega),decide_eq_false h2]; simp
 ·rw [if_neg (by simp; omega),decide_eq_false h1]; rfl
def v0:z02:=⟨0,0,0,[]⟩
def ze3 (a:z07):Bool :=
 if a.Kind=1 then decide (a.Key=[])&&decide (a.Value=v0)
 else if a.Kind=2∨a.Kind=3 then zb5 a.Key&&decide (a.Value=v0)
 else if a.Kind=4 then zb5 a.Key&&okV a.Value
 else false
theorem z13c (a:z07) (h:a.Value.Text.length≤9223372036854775807):za6 a=some (if ze3 a then 0 else 8):=by
 obtain ⟨K,key,v⟩:=a;unfold za6 ze3;simp only at h ⊢;rw [z185,zmn v h];by_cases h1:K=1
 ·subst h1;by_cases hk:key=[] <;> by_cases hv:v=⟨0,0,0,[]⟩ <;> simp [hk,hv,v0]
 by_cases h2:K=2∨K=3
 ·have e:(if K==2 then some true else some (K==3))=some true:=by
   rcases h2 with rfl | rfl <;> rfl
  rw [if_neg (by simpa using h1),e,if_neg h1,if_pos h2];simp only [bS];rw [if_pos trivial]
  cases zb5 key with
  | false=>rfl
  | true =>
   by_cases hv:v=⟨0,0,0,[]⟩
   ·subst hv; rfl
   ·have hv':¬ v=v0:=hv;simp only [bS,if_true,decide_eq_false hv,decide_eq_false hv']; rfl
 ·have e:(if K==2 then some true else some (K==3))=some false:=by
   have e2:(K==2)=false:=by simp; exact fun h=>h2 (.inl h)
   have e3:(K==3)=false:=by simp; exact fun h=>h2 (.inr h)
   rw [e2,e3]; rfl
  rw [if_neg (by simpa using h1),e,if_neg h1,if_neg h2];simp only [bS];rw [if_neg (by simp)];by_cases h4:K=4
  ·subst h4;rw [if_pos (by decide),if_pos rfl]
   cases zb5 key with
   | false=>rfl
   | true=>cases okV v <;> rfl
  ·rw [if_neg (by simpa using h4),if_neg h4]; rfl
theorem zyd (a:z07) (h:a.Value.Text.length≤9223372036854775807):z7q a=some (if ze3 a then 0 else 8):=by
 obtain ⟨K,key,v⟩:=a;unfold z7q ze3;simp only at h ⊢;rw [z167,z10f v h];simp only [bS];by_cases h1:K=1
 ·subst h1;by_cases hk:key=[] <;> by_cases hv:v=⟨0,0,0,[]⟩ <;> simp [hk,hv,v0]
 by_cases h2:K=2∨K=3
 ·have e:(if K==2 then some true else some (K==3))=some true:=by
   rcases h2 with rfl | rfl <;> rfl
  rw [if_neg (by simpa using h1),e,if_neg h1,if_pos h2];simp only [bS];rw [if_pos trivial]
  cases zb5 key with
  | false=>rfl
  | true =>
   by_cases hv:v=⟨0,0,0,[]⟩
   ·subst hv; rfl
   ·have hv':¬ v=v0:=hv;simp only [bS,if_true,decide_eq_false hv,decide_eq_false hv']; rfl
 ·have e:(if K==2 then some true else some (K==3))=some false:=by
   have e2:(K==2)=false:=by simp; exact fun h=>h2 (.inl h)
   have e3:(K==3)=false:=by simp; exact fun h=>h2 (.inr h)
   rw [e2,e3]; rfl
  rw [if_neg (by simpa using h1),e,if_neg h1,if_neg h2];simp only [bS];rw [if_neg (by simp)];by_cases h4:K=4
  ·subst h4;rw [if_pos (by decide),if_pos rfl]
   cases zb5 key with
   | false=>rfl
   | true=>cases okV v <;> rfl
  ·rw [if_neg (by simpa using h4),if_neg h4]; rfl
theorem zrp (l:List V3) (h:l.length≤100):z18 l=some l:=by
 unfold z18;rw [z2y (by simp; omega)]; rfl
def zd9 (a:z0a):Bool:=decide (inG a.Author.toNat)&&(!decide (1000000000000<a.Stamp)&&(ze3 a.Act&&(za7 a.Sig.E&&za7 a.Sig.S)))
def z4w (a:z0a):Int:=if 4<a.Preds.length then 4 else if z8l a.Preds=false then 32 else if zd9 a then 0 else 8
theorem zov (x y:UInt32):decide (500000003≤max x y)=!(za7 x&&za7 y):=by
 have e1:(500000003≤max x y)↔(500000003≤x∨500000003≤y):=by
  rw [show max x y=if x≤y then y else x from rfl]
  split
  ·rename_i hh
   constructor
   ·exact fun h=>.inr h
   ·rintro (h | h)
    ·exact UInt32.le_trans h hh
    ·exact h
  ·rename_i hh
   constructor
   ·exact fun h=>.inl h
   ·rintro (h | h)
    ·exact h
    ·rw [UInt32.le_iff_toNat_le] at *; omega
 rw [Bool.eq_iff_iff,decide_eq_true_iff,e1];unfold za7;simp only [UInt32.le_iff_toNat_le,Bool.not_eq_true',Bool.and_eq_false_iff,decide_eq_false_iff_not,Nat.not_lt];rfl
theorem ztc (l:List V3) (h:l.length≤4):(z1d l >>= fun r5=>if !r5 then some true else z18 l >>= fun r8=>z3d r8 >>= fun r10=>some ((r10.length:Int) != (l.length:Int)) >>= fun y12=>some y12)=some (!z8l l):=by
 obtain ⟨b,e1,e2⟩:=zx7 l (by omega);obtain ⟨c,e3,e4⟩:=zv8 l (by omega);have e5:=z11f l;rw [e1];simp only [bS]
 cases b with
 | false =>
  have:z8l l=false:=by
   rw [← Bool.not_eq_true,e5]; intro h; have:=e2.2 h.1; simp at this
  rw [this]; rfl
 | true =>
  rw [if_neg (by simp),zrp l (by omega)];simp only [bS];rw [e3];simp only [bS];by_cases hc:c.length=l.length
  ·rw [e5.2 ⟨e2.1 rfl,e4.1 hc⟩,hc]; simp
  ·have:z8l l=false:=by
    rw [← Bool.not_eq_true,e5]; intro h; exact hc (e4.2 h.2)
   rw [this]; simp; omega
theorem zgt (a:z0a) (h:a.Act.Value.Text.length≤9223372036854775807):zfc a=some (z4w a):=by
 unfold zfc z4w;simp only [bS];by_cases h4:4<a.Preds.length
 ·rw [if_pos (by simp; omega),if_pos h4]
 ·rw [if_neg (by simp; omega),if_neg h4]
  have:=ztc a.Preds (by omega)
  simp only [bS] at this;rw [this];simp only [bS]
  cases hi:z8l a.Preds with
  | false=>rfl
  | true =>
   rw [if_neg (by simp),zxj,z13c _ h,zov];simp only [bS];unfold zd9
   cases decide (inG a.Author.toNat) with
   | false=>rfl
   | true =>
    cases decide (1000000000000<a.Stamp) with
    | true=>rfl
    | false=>cases ze3 a.Act <;> cases za7 a.Sig.E <;> cases za7 a.Sig.S <;> rfl
theorem zsy (a:z0a) (h:a.Act.Value.Text.length≤9223372036854775807):z85 a=some (z4w a):=by
 unfold z85 z4w;by_cases h4:4<a.Preds.length
 ·rw [if_pos (by simp; omega),if_pos h4]
 ·rw [if_neg (by simp; omega),if_neg h4,zrh _ (by omega)];simp only [bS]
  cases hi:z8l a.Preds with
  | false=>rfl
  | true =>
   rw [if_neg (by simp),zuh,zyd _ h,zeu,zeu];simp only [bS];unfold zd9
   cases decide (inG a.Author.toNat) with
   | false=>rfl
   | true =>
    cases decide (1000000000000<a.Stamp) with
    | true=>rfl
    | false=>cases ze3 a.Act <;> cases za7 a.Sig.E <;> cases za7 a.Sig.S <;> rfl
theorem z6e {a:z0a} (h:z4w a=0):a.Preds.length≤4∧z8l a.Preds=true∧zd9 a=true:=by
 unfold z4w at h;by_cases h4:4<a.Preds.length
 ·rw [if_pos h4] at h; omega
 ·rw [if_neg h4] at h
  cases hi:z8l a.Preds with
  | false=>rw [hi] at h; simp at h
  | true =>
   rw [hi] at h
   cases hr:zd9 a with
   | false=>rw [hr] at h; simp at h
   | true=>exact ⟨by omega,rfl,rfl⟩
theorem znr {k:List UInt8} (h:zb5 k=true):k.length≤20:=by
 unfold zb5 at h;simp only [Bool.and_eq_true,decide_eq_true_eq] at h;exact h.2.1
theorem zck {a:z07} (h:ze3 a=true):(a.Kind=1∧a.Key=[])∨((a.Kind=2∨a.Kind=3)∧a.Key.length≤20)∨(a.Kind=4∧a.Key.length≤20∧okV a.Value=true):=by
 unfold ze3 at h;by_cases h1:a.Kind=1
 ·rw [if_pos h1] at h; simp only [Bool.and_eq_true,decide_eq_true_eq] at h; exact .inl ⟨h1,h.1⟩
 ·rw [if_neg h1] at h;by_cases h2:a.Kind=2∨a.Kind=3
  ·rw [if_pos h2] at h; simp only [Bool.and_eq_true,decide_eq_true_eq] at h; exact .inr (.inl ⟨h2,znr h.1⟩)
  ·rw [if_neg h2] at h;by_cases h4:a.Kind=4
   ·rw [if_pos h4] at h; simp only [Bool.and_eq_true] at h; exact .inr (.inr ⟨h4,znr h.1,h.2⟩)
   ·rw [if_neg h4] at h; simp at h
end
section
open Go
theorem zq0 {α:Type} (l:List (List α)) (i:Nat) (h:i<l.length):(l.take (i+1)).flatten=(l.take i).flatten++l[i]:=by
 rw [List.take_add_one,List.getElem?_eq_getElem h,List.flatten_append]
 simp
theorem zqt (l:List (List UInt8)) (h0:l.length≤20) (h:∀ b∈l,b.length≤10000):z2c l=some l.flatten:=by
 have hb:∀ i,(l.take i).flatten.length≤200000:=fun i=>by
  have:=zln (l.take i) (fun b hb'=>h b (List.mem_of_mem_take hb'))
  simp only [List.length_take] at this; omega
 have e1:iter (z0z l) (0,0)=some (l.flatten.length:Int):=by
  have:=z4b (F:=z0z l) (b:=(l.flatten.length:Int)) l.length (fun i=>(((l.take i).flatten.length:Int),(i:Int))) (fun i hi=>?_) ?_
  ·simpa using this
  ·have h1:=hb (i+1);have e:=congrArg List.length (zq0 l i hi);rw [List.length_append] at e;unfold z0z;rw [if_pos (by simp; omega)];simp only [];rw [z0f hi];simp only [bS];rw [z12 (x:=((l.take i).flatten.length:Int)+(l[i].length:Int)) (by omega) (by omega),if_neg (by simp; omega),z0u (show i<9223372036854775807 by omega),e]
   simp
  ·unfold z0z;rw [if_neg (by simp)]
   simp
 have e2:z48 (l.flatten.length:Int)=some []:=by
  have h1:=hb l.length;rw [List.take_length] at h1;unfold z48;rw [if_neg (by simp)];simp only [bS];generalize l.flatten.length=n at h1 ⊢;rw [show (0:Int) - (([]:List UInt8).length:Int)=0 from rfl,z12 (x:=0) (by omega) (by omega), show (n:Int) - 0=(n:Int) by omega,z12 (by omega) (by omega)];by_cases h2:0<n
  ·rw [if_pos (by simpa using h2),zj7 (by omega) (by omega)];simp only [bS];rw [show (0:Int)=((0:Nat):Int) from rfl, show ((([]:List UInt8).length:Nat):Int)=((0:Nat):Int) from rfl,zm3 (by omega) (by simp)]
   simp
  ·rw [if_neg (by simpa using h2)]
 have e3:iter (z0y l) ([],0)=some l.flatten:=by
  have:=z4b (F:=z0y l) (b:=l.flatten) l.length (fun i=>((l.take i).flatten,(i:Int))) (fun i hi=>?_) ?_
  ·simpa using this
  ·have h1:=hb (i+1);have e:=zq0 l i hi;rw [e,List.length_append] at h1;unfold z0y;rw [if_pos (by simp; omega)];simp only [];rw [z0f hi];simp only [bS];rw [z2y (by omega),z0u (show i<9223372036854775807 by omega),e];simp only [bS]
  ·unfold z0y;rw [if_neg (by simp)]
   simp
 unfold z2c;rw [e1];simp only [bS];rw [e2];simp only [bS];rw [e3];simp only [bS]
def zpq (a:z0a):List UInt8:=[111]++(z26 a.Author.toNat++((z26 a.Preds.length++znm a.Preds)++(z26 a.Stamp.toNat++[a.Act.Kind])))
def keyB (a:z07):List UInt8:=z26 a.Key.length++a.Key
def msg (a:z0a):List UInt8 :=
 if a.Act.Kind=1 then zpq a else if a.Act.Kind=4 then (zpq a++keyB a.Act)++encV a.Act.Value else zpq a++keyB a.Act
def zfl (a:z0a):List UInt8:=msg a++(z26 a.Sig.E.toNat++z26 a.Sig.S.toNat)
theorem zom {v:z02} (h:okV v=true) (hI:inI v.Num):(encV v).length≤100:=by
 unfold encV;rcases zpk h with k | k | k
 ·have:=z1f (zig v.Num) (ztz hI)
  rw [if_pos k]; simp; omega
 ·rw [k,if_neg (by decide),if_pos rfl]; simp [be8]
 ·have h3:=(okV3 h k).2.2.1
  have:=z1f v.Text.length (by omega)
  rw [k,if_neg (by decide),if_neg (by decide)]; simp; omega
theorem zpf {a:z0a} (h:z4w a=0):(zpq a).length≤160:=by
 obtain ⟨h1,h2,h3⟩:=z6e h;have l1:=z1f a.Author.toNat (by have:=UInt32.toNat_lt a.Author; omega);have l2:=z1f a.Preds.length (by omega);have l3:=z1f a.Stamp.toNat (UInt64.toNat_lt _);have l4:=zim a.Preds;unfold zpq;simp only [List.length_append,List.length_cons,List.length_nil]; omega
theorem zoa {a:z07} (h:ze3 a=true):(keyB a).length≤30:=by
 have hk:a.Key.length≤20:=by
  rcases zck h with ⟨_,h⟩ | ⟨_,h⟩ | ⟨_,h,_⟩
  ·simp [h]
  ·exact h
  ·exact h
 have:=z1f a.Key.length (by omega)
 unfold keyB; simp only [List.length_append]; omega
theorem zk8 {a:z0a} (h:zd9 a=true):ze3 a.Act=true:=by
 unfold zd9 at h;simp only [Bool.and_eq_true] at h;exact h.2.2.1
theorem zqp {a:z0a} (h:zd9 a=true):inG a.Author.toNat:=by
 unfold zd9 at h;simp only [Bool.and_eq_true,decide_eq_true_eq] at h;exact h.1
theorem zk3 {a:z0a} (h:z4w a=0) (hI:inI a.Act.Value.Num):(msg a).length≤300:=by
 have h1:=zpf h;have ha:=zk8 (z6e h).2.2;have h2:=zoa ha;unfold msg
 split
 ·omega
 ·split
  ·rename_i h4
   have:okV a.Act.Value=true:=by
    rcases zck ha with ⟨k,_⟩ | ⟨k,_⟩ | ⟨_,_,k⟩
    ·rw [h4] at k; simp at k
    ·rw [h4] at k; simp at k
    ·exact k
   have h3:=zom this hI;simp only [List.length_append]; omega
  ·simp only [List.length_append]; omega
theorem zy2 {a:z0a} (h:z4w a=0) (hI:inI a.Act.Value.Num):(zfl a).length≤400:=by
 have h1:=zk3 h hI;have l1:=z1f a.Sig.E.toNat (by have:=UInt32.toNat_lt a.Sig.E; omega);have l2:=z1f a.Sig.S.toNat (by have:=UInt32.toNat_lt a.Sig.S; omega);unfold zfl;simp only [List.length_append]; omega
def bare (a:z0a):z0a:={ a with Sig:=(⟨0,0⟩:z0c) }
theorem zxx {a:z0a} (h:z4w a=0):z4w (bare a)=0:=by
 obtain ⟨h1,h2,h3⟩:=z6e h;unfold zd9 at h3;simp only [Bool.and_eq_true] at h3;obtain ⟨g1,g2,g3,g4,g5⟩:=h3;unfold z4w bare;rw [if_neg (by simp; omega),h2,if_neg (by simp),if_pos];unfold zd9;rw [g1,g2,g3]; rfl
theorem zk1 (a:z0a) (h:z4w a=0) (hI:inI a.Act.Value.Num) (ht:a.Act.Value.Text.length≤9223372036854775807):zbf a=some (msg a,0):=by
 obtain ⟨h1,h2,h3⟩:=z6e h;have ha:=zk8 h3;have l1:=z1f a.Author.toNat (by have:=UInt32.toNat_lt a.Author; omega);have l2:=z1f a.Preds.length (by omega);have l3:=z1f a.Stamp.toNat (UInt64.toNat_lt _);have l4:=zim a.Preds;have hl:=zpf h;have e1:zfc { a with Sig:=(⟨0,0⟩:z0c) }=some 0:=by
  have:=zgt (bare a) ht
  rw [zxx h] at this;exact this
 unfold zbf;rw [e1];simp only [bS];rw [if_neg (by simp),z14q _ (by omega) h2];simp only [bS];rw [z7x,z7x];simp only [bS]
 rw [zqt _ (by simp) (by
  intro b hb;simp only [List.mem_cons,List.not_mem_nil,or_false] at hb;rcases hb with rfl | rfl | rfl | rfl | rfl
  ·simp
  ·simp; omega
  ·simp only [List.length_append]; omega
  ·omega
  ·simp)]
 simp only [bS];have e2:[[111],z26 a.Author.toUInt64.toNat,z26 a.Preds.length++znm a.Preds,z26 a.Stamp.toNat,[a.Act.Kind]].flatten=zpq a:=by
  unfold zpq;simp only [List.flatten_cons,List.flatten_nil,List.append_nil,UInt32.toNat_toUInt64]
 rw [e2];unfold msg;by_cases k1:a.Act.Kind=1
 ·rw [if_pos (by simpa using k1),if_pos k1]
 ·rw [if_neg (by simpa using k1),if_neg k1];have hk:a.Act.Key.length≤20:=by
   rcases zck ha with ⟨_,h⟩ | ⟨_,h⟩ | ⟨_,h,_⟩
   ·simp [h]
   ·exact h
   ·exact h
  have l5:=zoa ha;have e3:zcj a.Act.Key=some (keyB a.Act,0):=zrr _ (by omega);rw [z3k (by omega)];simp only [bS];rw [e3];simp only [bS];rw [z2y (by omega)];simp only [bS];by_cases k4:a.Act.Kind=4
  ·have hv:okV a.Act.Value=true:=by
    rcases zck ha with ⟨k,_⟩ | ⟨k,_⟩ | ⟨_,_,k⟩
    ·rw [k4] at k; simp at k
    ·rw [k4] at k; simp at k
    ·exact k
   have l6:=zom hv hI;rw [if_pos (by simpa using k4),if_pos k4,z178 _ hI ht,hv];simp only [bS,if_true];rw [z2y (by simp only [List.length_append]; omega)];simp only [bS]
  ·rw [if_neg (by simpa using k4),if_neg k4]
theorem z101 (a:z0a) (h:z4w a=0) (hI:inI a.Act.Value.Num):z8n a=some (msg a):=by
 obtain ⟨h1,h2,h3⟩:=z6e h;have ha:=zk8 h3;have l1:=z1f a.Author.toNat (by have:=UInt32.toNat_lt a.Author; omega);have l2:=z1f a.Preds.length (by omega);have l3:=z1f a.Stamp.toNat (UInt64.toNat_lt _);have l4:=zim a.Preds;have hl:=zpf h;unfold z8n;rw [z7n];simp only [bS];rw [z2y (by simp; omega),z111 _ (by omega)];simp only [bS];rw [z2y (by simp; omega),z7n];simp only [bS];rw [z2y (by simp; omega)];simp only [bS]
 rw [z2y (by simp; omega)];simp only [bS];have e2:[111]++z26 a.Author.toUInt64.toNat++(z26 a.Preds.length++znm a.Preds)++z26 a.Stamp.toNat++[a.Act.Kind]=zpq a:=by
  unfold zpq;simp only [List.append_assoc,UInt32.toNat_toUInt64]
 rw [e2];unfold msg;by_cases k1:a.Act.Kind=1
 ·rw [if_neg (by simp [k1]),if_pos k1];simp only [bS];rw [k1]; rfl
 ·rw [if_pos (by simpa using k1),if_neg k1];have hk:a.Act.Key.length≤20:=by
   rcases zck ha with ⟨_,h⟩ | ⟨_,h⟩ | ⟨_,h,_⟩
   ·simp [h]
   ·exact h
   ·exact h
  have l5:=zoa ha;have e3:z7k a.Act.Key=some (keyB a.Act):=znw _ (by omega);rw [z3k (by omega)];simp only [bS];rw [e3];simp only [bS];rw [z2y (by omega)];simp only [bS];by_cases k4:a.Act.Kind=4
  ·have hv:okV a.Act.Value=true:=by
    rcases zck ha with ⟨k,_⟩ | ⟨k,_⟩ | ⟨_,_,k⟩
    ·rw [k4] at k; simp at k
    ·rw [k4] at k; simp at k
    ·exact k
   have l6:=zom hv hI;rw [if_pos (by simpa using k4),if_pos k4,zyy _ hI hv];simp only [bS];rw [z2y (by simp only [List.length_append]; omega)];simp only [bS]
  ·rw [if_neg (by simpa using k4),if_neg k4]
theorem zwx (a:z0a) (h:z4w a=0) (hI:inI a.Act.Value.Num) (ht:a.Act.Value.Text.length≤9223372036854775807):zeh a=some (zfl a,0):=by
 have hm:=zk3 h hI;have l1:=z1f a.Sig.E.toNat (by have:=UInt32.toNat_lt a.Sig.E; omega);have l2:=z1f a.Sig.S.toNat (by have:=UInt32.toNat_lt a.Sig.S; omega);unfold zeh;rw [zgt _ ht,h];simp only [bS];rw [if_neg (by simp),zk1 _ h hI ht,z7x,z7x];simp only [bS,UInt32.toNat_toUInt64]
 rw [zqt _ (by simp) (by
  intro b hb;simp only [List.mem_cons,List.not_mem_nil,or_false] at hb
  rcases hb with rfl | rfl | rfl <;> omega)]
 simp only [bS,List.flatten_cons,List.flatten_nil,List.append_nil];rfl
theorem zsp (a:z0a) (h:z4w a=0) (hI:inI a.Act.Value.Num):z9v a=some (zfl a):=by
 have hm:=zk3 h hI;have l1:=z1f a.Sig.E.toNat (by have:=UInt32.toNat_lt a.Sig.E; omega);have l2:=z1f a.Sig.S.toNat (by have:=UInt32.toNat_lt a.Sig.S; omega);unfold z9v zfl;rw [z101 _ h hI,z7n,z7n];simp only [bS,UInt32.toNat_toUInt64];rw [z2y (by omega)];simp only [bS];rw [z2y (by simp only [List.length_append]; omega)];simp only [bS,List.append_assoc]
def z32:V3:=Vector.replicate 32 0
theorem zzj (a:z0a) (hI:inI a.Act.Value.Num) (ht:a.Act.Value.Text.length≤9223372036854775807):zws a=some (if z4w a=0 then (sha (zfl a),0) else (z32,z4w a)):=by
 unfold zws;by_cases h:z4w a=0
 ·have:=zy2 h hI
  rw [zwx a h hI ht];simp only [bS];rw [if_neg (by simp),z184 _ (by omega),if_pos h];simp only [bS]
 ·have e:zeh a=some ([],z4w a):=by
   unfold zeh;rw [zgt _ ht];simp only [bS];rw [if_pos (by simpa using h)]
  rw [e];simp only [bS];rw [if_pos (by simpa using h),if_neg h]; rfl
theorem z132 (a:z0a) (h:z4w a=0) (hI:inI a.Act.Value.Num):zci a=some (sha (zfl a)):=by
 have:=zy2 h hI
 unfold zci;rw [zsp a h hI];simp only [bS];rw [z16x _ (by omega)];simp only [bS]
def zf3 (a:z0a):Int:=if z4w a=0 then (if zmc a.Author (msg a) a.Sig then 0 else 22) else z4w a
theorem zm0 (a:z0a) (hI:inI a.Act.Value.Num) (ht:a.Act.Value.Text.length≤9223372036854775807):zge a=some (zf3 a):=by
 unfold zge zf3;rw [zgt _ ht];simp only [bS];by_cases h:z4w a=0
 ·have:=zk3 h hI
  rw [if_neg (by simp [h]),if_pos h,zk1 a h hI ht];simp only [bS];rw [zy7 _ _ _ (zqp (z6e h).2.2) (by omega)];simp only [bS]
 ·rw [if_pos (by simpa using h),if_neg h]
theorem zql (a:z0a) (hI:inI a.Act.Value.Num) (ht:a.Act.Value.Text.length≤9223372036854775807):z98 a=some (zf3 a):=by
 unfold z98 zf3 zba;rw [zsy _ ht];simp only [bS];by_cases h:z4w a=0
 ·have:=zk3 h hI
  rw [if_neg (by simp [h]),if_pos h,z101 a h hI];simp only [bS];rw [z12e _ _ _ (zqp (z6e h).2.2) (by omega)];simp only [bS]
  cases zmc a.Author (msg a) a.Sig <;> rfl
 ·rw [if_pos (by simpa using h),if_neg h]
end
section
open Go
theorem zav {α:Type} [DecidableEq α]:∀ (p q:List α),p.Nodup→(∀ x∈p,x∈q)→p.length≤q.length
 | [],_,_,_=>by simp
 | a::p,q,h,hs=>by
  have ha:=hs a (by simp);have hn:=List.nodup_cons.1 h
  have:=zav p (q.erase a) hn.2 (fun x hx=>by
   have hne:x≠a:=fun e=>hn.1 (e ▸ hx)
   exact (List.mem_erase_of_ne hne).2 (hs x (by simp [hx])))
  rw [List.length_erase_of_mem ha] at this;have hp:=List.length_pos_of_mem ha;simp only [List.length_cons]; omega
theorem zxy {α:Type} [DecidableEq α] {p q:List α} (h1:p.Nodup) (h2:q.Nodup) (h:∀ x,x∈p↔x∈q):p.length=q.length :=
 Nat.le_antisymm (zav p q h1 fun x hx=>(h x).1 hx) (zav q p h2 fun x hx=>(h x).2 hx)
abbrev ID:=V3
theorem zai {l:List ID} (h:z8l l=true) {i j:Nat} (hi:i<l.length) (hj:j<l.length) (hij:i<j):kd l[i]<kd l[j] :=
 List.pairwise_iff_getElem.1 ((zgf l).1 h) i j hi hj hij
theorem z10x {l:List ID} (h:z8l l=true) {i j:Nat} (hi:i<l.length) (hj:j<l.length) (e:l[i]=l[j]):i=j:=by
 rcases Nat.lt_trichotomy i j with c | c | c
 ·have:=zai h hi hj c; rw [e] at this; omega
 ·exact c
 ·have:=zai h hj hi c; rw [e] at this; omega
theorem zke {l:List ID} (h:z8l l=true):l.Nodup:=by
 have:=(zgf l).1 h
 exact this.imp fun {a b} hab e=>by rw [e] at hab; omega
theorem zj3 {l:List ID} (h:z8l l=true) {k:Nat} (hk:k<l.length):l.idxOf l[k]=k:=by
 have h1:l.idxOf l[k]<l.length:=List.idxOf_lt_length_of_mem (List.getElem_mem hk);exact z10x h h1 hk (by simp)
theorem zza (s e:Nat) (h:s+e<9223372036854775807):w64 ((z71 (UInt64.ofInt (w64 ((s:Int)+(e:Int)))) 1).toNat:Int)=(((s+e) / 2:Nat):Int):=by
 rw [z12 (x:=(s:Int)+(e:Int)) (by omega) (by omega), show ((s:Int)+(e:Int))=((s+e:Nat):Int) by omega,zcp,zmy (by omega)];rw [show min 1 64=1 from rfl,Nat.pow_one,z12 (by omega) (by omega)]
theorem zzp (l:List ID) (hl:l.length≤4611686018427387903) (hi:z8l l=true) (x:ID):∃ b:Int,iter (z0h l x) (0,(l.length:Int))=some b∧∃ k:Nat,b=(k:Int)∧k≤l.length∧(∀ i (h:i<l.length),i<k→kd l[i]<kd x)∧(∀ i (h:i<l.length),k≤i→kd x≤kd l[i]):=by
 refine zf0 (F:=z0h l x)
  (fun st=>∃ s e:Nat,st=((s:Int),(e:Int))∧s≤e∧e≤l.length∧(∀ i (h:i<l.length),i<s→kd l[i]<kd x)∧(∀ i (h:i<l.length),e≤i→kd x≤kd l[i]))
  (fun st=>st.2.toNat - st.1.toNat) _ ?_ _ ⟨0,l.length,rfl, by omega, by omega, fun i _ h=>by omega, fun i h h2=>by omega⟩
 rintro st ⟨s,e,rfl,h1,h2,h3,h4⟩
 by_cases hse:s<e
 ·right
  have hm:(s+e) / 2<l.length:=by omega
  have hF:z0h l x ((s:Int),(e:Int))=if decide (kd l[(s+e) / 2]<kd x) then some (.inr ((((s+e) / 2+1:Nat):Int),(e:Int))) else some (.inr ((s:Int),(((s+e) / 2:Nat):Int))):=by
   unfold z0h;simp only [];rw [if_pos (by simpa using hse),zza _ _ (by omega)];simp only [bS];rw [z0f hm];simp only [bS];rw [zqm];simp only [bS];rw [zyr,z0u (show (s+e) / 2<9223372036854775807 by omega)]
  by_cases hc:kd l[(s+e) / 2]<kd x
  ·rw [decide_eq_true hc,if_pos rfl] at hF;refine ⟨_,hF,⟨(s+e) / 2+1,e,rfl, by omega,h2, fun i h hi2=>?_,h4⟩, by simp; omega⟩;by_cases he:i=(s+e) / 2
   ·subst he; exact hc
   ·have:=zai hi h hm (by omega); omega
  ·rw [decide_eq_false hc,if_neg (by simp)] at hF;refine ⟨_,hF,⟨s,(s+e) / 2,rfl, by omega, by omega,h3, fun i h hi2=>?_⟩, by simp; omega⟩;by_cases he:i=(s+e) / 2
   ·subst he; omega
   ·have:=zai hi hm h (by omega); omega
 ·left
  refine ⟨(s:Int),?_,s,rfl, by omega,h3, fun i h hi2=>h4 i h (by omega)⟩;unfold z0h;simp only [];rw [if_neg (by simpa using hse)]
theorem zww (l:List ID) (hl:l.length≤4611686018427387903) (hi:z8l l=true) (x:ID):∃ k:Nat,z0e l x=some ((k:Int),decide (x∈l))∧(x∈l→k=l.idxOf x∧k<l.length)∧k≤l.length:=by
 obtain ⟨b,h1,k,rfl,h2,h3,h4⟩:=zzp l hl hi x;unfold z0e;simp only [bS];rw [h1];simp only [bS];have hmem:x∈l→∃ h:k<l.length,l[k]=x:=fun hx=>by
  obtain ⟨i,hi1,rfl⟩:=List.getElem_of_mem hx;have a1:¬ i<k:=fun c=>by have:=h3 i hi1 c; omega
  by_cases a2:k=i
  ·subst a2; exact ⟨hi1,rfl⟩
  ·have hk:k<l.length:=by omega
   have:=h4 k hk (Nat.le_refl _)
   have:=zai hi hk hi1 (by omega)
   omega
 by_cases hk:k<l.length
 ·rw [if_pos (by simpa using hk),z0f hk];simp only [bS];rw [zqm];simp only [bS];rw [z18h];refine ⟨k,?_, fun hx=>?_, by omega⟩
  ·have:decide (l[k]=x)=decide (x∈l):=by
    rw [decide_eq_decide];exact ⟨fun e=>e ▸ List.getElem_mem hk, fun hx=>(hmem hx).2⟩
   rw [this]
  ·obtain ⟨h,e⟩:=hmem hx;subst e;exact ⟨(zj3 hi h).symm,h⟩
 ·rw [if_neg (by simpa using hk)];refine ⟨k,?_, fun hx=>absurd (hmem hx).1 hk, by omega⟩;rw [decide_eq_false fun hx=>hk (hmem hx).1]
theorem zi3 (g:z00) (hl:g.IDs.length≤4611686018427387903) (hi:z8l g.IDs=true) (x:ID):∃ k:Nat,zde g x=some ((k:Int),decide (x∈g.IDs))∧(x∈g.IDs→k=g.IDs.idxOf x∧k<g.IDs.length)∧k≤g.IDs.length:=by
 obtain ⟨k,h1,h2,h3⟩:=zww g.IDs hl hi x;refine ⟨k,?_,h2,h3⟩;unfold zde;rw [h1];simp only [bS]
theorem zzy (l:List ID) (x:ID) (hl:l.length≤9223372036854775806):∀ (rest pre:List ID),l=pre++rest→∃ r:Sum Int Unit,iter (z7y l x) (pre.length:Int)=some r∧((r=.inr ()∧x∉rest)∨∃ i:Nat,r=.inl (i:Int)∧∃ h:i<l.length,l[i]=x)
 | [],pre,e=>by
  refine ⟨_,z1s ?_,.inl ⟨rfl, by simp⟩⟩;subst e;unfold z7y;rw [if_neg (by simp)]
 | c::rest,pre,e=>by
  have hlen:pre.length<l.length:=by rw [e]; simp
  have hget:l[pre.length]'hlen=c:=by subst e; simp
  have hF:z7y l x (pre.length:Int)=if decide (c=x) then some (.inl (.inl (pre.length:Int))) else some (.inr ((pre.length+1:Nat):Int)):=by
   unfold z7y;rw [if_pos (by simpa using hlen),z0f hlen,hget,z0u (by omega)];simp only [bS]
  by_cases hc:c=x
  ·rw [decide_eq_true hc,if_pos rfl] at hF;exact ⟨_,z1s hF,.inr ⟨pre.length,rfl,hlen, by rw [hget,hc]⟩⟩
  ·rw [decide_eq_false hc,if_neg (by simp)] at hF;obtain ⟨r,h1,h2⟩:=zzy l x hl rest (pre++[c]) (by simp [e]);simp only [List.length_append,List.length_cons,List.length_nil,Nat.zero_add] at h1;refine ⟨r, by rw [z24 hF]; exact h1,?_⟩;rcases h2 with ⟨h2,h3⟩ | h2
   ·exact .inl ⟨h2, by simp; exact ⟨fun e=>hc e.symm,h3⟩⟩
   ·exact .inr h2
theorem z19p (l:List ID) (x:ID) (hl:l.length≤9223372036854775806):∃ k:Int,z94 l x=some k∧((k = -1∧x∉l)∨∃ i:Nat,k=(i:Int)∧∃ h:i<l.length,l[i]=x):=by
 obtain ⟨r,h1,h2⟩:=zzy l x hl l [] rfl;unfold z94;rw [show (0:Int)=(([]:List ID).length:Int) from rfl,h1];rcases h2 with ⟨rfl,h3⟩ | ⟨i,rfl,h3⟩
 ·exact ⟨-1,rfl,.inl ⟨rfl,h3⟩⟩
 ·exact ⟨(i:Int),rfl,.inr ⟨i,rfl,h3⟩⟩
theorem z18n (l:List ID) (x:ID) (hl:l.length≤9223372036854775806):∃ k:Int,z94 l x=some k∧decide (k<0)=!decide (x∈l):=by
 obtain ⟨k,h1,h2⟩:=z19p l x hl;refine ⟨k,h1,?_⟩;rcases h2 with ⟨rfl,h2⟩ | ⟨i,rfl,h,rfl⟩
 ·rw [decide_eq_false h2]; rfl
 ·rw [decide_eq_true (List.getElem_mem h),decide_eq_false (by omega)]; rfl
theorem ztm (l:List ID) (p:List ID) (hl:l.length≤9223372036854775806) (hp:p.length≤9223372036854775806):∀ (rest pre:List ID),p=pre++rest→iter (z7a l p) (pre.length:Int)=some (if rest.all (fun x=>decide (x∈l)) then .inr () else .inl false)
 | [],pre,e=>by
  refine z1s ?_;subst e;unfold z7a
  simp
 | c::rest,pre,e=>by
  have hlen:pre.length<p.length:=by rw [e]; simp
  have hget:p[pre.length]'hlen=c:=by subst e; simp
  obtain ⟨k,k1,k2⟩:=z18n l c hl;have hF:z7a l p (pre.length:Int)=if decide (c∈l) then some (.inr ((pre.length+1:Nat):Int)) else some (.inl (.inl false)):=by
   unfold z7a;rw [if_pos (by simpa using hlen),z0f hlen,hget,z0u (by omega)];simp only [bS];rw [k1];simp only [bS];rw [k2]
   cases decide (c∈l) <;> rfl
  cases hc:decide (c∈l) with
  | false=>rw [hc] at hF; rw [z1s hF,List.all_cons,hc]; rfl
  | true =>
   rw [hc] at hF;rw [z24 hF];have ih:=ztm l p hl hp rest (pre++[c]) (by simp [e]);simp only [List.length_append,List.length_cons,List.length_nil,Nat.zero_add] at ih;rw [ih,List.all_cons,hc,Bool.true_and]
theorem z13s (l p:List ID) (hl:l.length≤9223372036854775806) (hp:p.length≤9223372036854775806):z4e l p=some (p.all fun x=>decide (x∈l)):=by
 have h:=ztm l p hl hp p [] rfl;unfold z4e;rw [show (0:Int)=(([]:List ID).length:Int) from rfl,h]
 cases p.all fun x=>decide (x∈l) <;> rfl
theorem z122 (g:z00) (hl:g.IDs.length≤9223372036854775807):z67 (ρ:=Int) (iter (z8p g) 1)=fun k=>if z8l g.IDs then k () else some 32:=by
 have key:∀ (n i:Nat),g.IDs.length - i=n→1≤i→i≤g.IDs.length→iter (z8p g) (i:Int)=some (if z8l (g.IDs.drop (i - 1)) then .inr () else .inl 32):=by
  intro n
  induction n with
  | zero =>
   intro i hn h1 hi;have h:=zml g.IDs hl 0 i hn h1 hi;have e:g.IDs.drop (i - 1)=[g.IDs[i - 1]'(by omega)]:=by
    rw [List.drop_eq_getElem_cons (by omega),List.drop_eq_nil_of_le (by omega)]
   rw [e];refine z1s ?_;unfold z8p;rw [if_neg (by simp; omega)];simp [z8l]
  | succ n ih =>
   intro i hn h1 hi;have hlt:i<g.IDs.length:=by omega
   have e:g.IDs.drop (i - 1)=g.IDs[i - 1]::g.IDs[i]::g.IDs.drop (i+1):=by
    rw [List.drop_eq_getElem_cons (by omega), show i - 1+1=i by omega,List.drop_eq_getElem_cons hlt]
   have e':g.IDs.drop (i+1 - 1)=g.IDs[i]::g.IDs.drop (i+1):=by rw [Nat.add_sub_cancel,List.drop_eq_getElem_cons hlt]
   have hF:z8p g (i:Int)=if decide (0≤Lib.compareBytes (g.IDs[i - 1]).toList (g.IDs[i]).toList) then some (.inl (.inl 32)) else some (.inr ((i+1:Nat):Int)):=by
    unfold z8p;rw [if_pos (by simp; omega),z12 (by omega) (by omega), show ((i:Int) - 1)=((i - 1:Nat):Int) by omega];simp only [z0f hlt,z0f (show i - 1<g.IDs.length by omega),bs,zsx,z0u (show i<9223372036854775807 by omega)]
   rw [e,z8l]
   cases hc:decide (0≤Lib.compareBytes (g.IDs[i - 1]).toList (g.IDs[i]).toList) with
   | true=>rw [hc] at hF; rw [z1s hF]; rfl
   | false =>
    rw [hc] at hF;rw [z24 hF,ih (i+1) (by omega) (by omega) (by omega),e']; simp
 funext k
 by_cases h0:g.IDs.length=0
 ·have hnil:g.IDs=[]:=List.length_eq_zero_iff.1 h0;rw [z1s (b:=.inr ())]
  ·rw [hnil]; rfl
  ·unfold z8p;rw [if_neg (by simp; omega)]
 ·rw [show (1:Int)=((1:Nat):Int) from rfl,key (g.IDs.length - 1) 1 rfl (by omega) (by omega),Nat.sub_self,List.drop_zero]
  cases z8l g.IDs <;> rfl
end
section
open Go
def il (l:List Nat):List Int:=l.map fun k:Nat=>(k:Int)
theorem zfi (l:List Nat):(il l).length=l.length:=by simp [il]
theorem z13r {l:List Nat} {i:Nat} (h:i<l.length):idx (il l) (i:Int)=some (l[i]:Int):=by
 rw [z0f (by rw [zfi]; exact h)]; simp [il]
theorem zx9 (l m:List Nat):il (l++m)=il l++il m:=by simp [il]
def tab {α:Type} (n:Nat) (f:Nat→α):List α:=(List.range n).map f
theorem zlu {α:Type} (n:Nat) (f:Nat→α):(tab n f).length=n:=by simp [tab]
theorem zss {α:Type} {n:Nat} {f:Nat→α} {i:Nat} (h:i<(tab n f).length):(tab n f)[i]=f i:=by simp [tab]
theorem zc4 {α:Type} {n:Nat} {f:Nat→α} {i:Nat} (h:i<n):idx (tab n f) (i:Int)=some (f i):=by
 rw [z0f (by rw [zlu]; exact h),zss]
theorem zhw {α:Type} {n:Nat} {f g:Nat→α} {i:Nat} {x:α} (hi:i<n) (h1:g i=x) (h2:∀ j,j<n→j≠i→g j=f j):(tab n f).set i x=tab n g:=by
 apply List.ext_getElem
 ·simp [zlu]
 ·intro j hj1 hj2;rw [List.getElem_set,zss,zss];rw [zlu] at hj2
  split
  ·rename_i e; subst e; exact h1.symm
  ·rename_i e; exact (h2 j hj2 (fun c=>e c.symm)).symm
theorem zef {α:Type} {n:Nat} {f g:Nat→α} (h:∀ j,j<n→f j=g j):tab n f=tab n g:=by
 unfold tab;exact List.map_congr_left fun j hj=>h j (by simpa using hj)
theorem ze8 {α:Type} (n:Nat) (x:α):List.replicate n x=tab n (fun _=>x):=by
 apply List.ext_getElem
 ·simp [tab]
 ·intro j h1 h2; simp [tab]
def zpr (g:z00) (i:Nat):List ID:=match g.Ops[i]? with | some o=>o.Preds | none=>[]
theorem z72 {g:z00} {i:Nat} (h:i<g.Ops.length):zpr g i=(g.Ops[i]).Preds:=by unfold zpr; rw [List.getElem?_eq_getElem h]
def z23 (g:z00) (i:Nat):List Nat:=(zpr g i).map fun x=>g.IDs.idxOf x
structure zc6 (g:z00):Prop where
 len:g.Ops.length≤60
 ids:g.IDs.length=g.Ops.length
 ri:z8l g.IDs=true
 op:∀ i (h:i<g.Ops.length),(g.Ops[i]).Preds.length≤4∧z8l (g.Ops[i]).Preds=true
variable {g:z00}
theorem zc6.four (E:zc6 g) (i:Nat):(zpr g i).length≤4:=by
 unfold zpr;by_cases h:i<g.Ops.length
 ·rw [List.getElem?_eq_getElem h]; exact (E.op i h).1
 ·rw [List.getElem?_eq_none (by omega)]; simp
theorem zc6.nodup (E:zc6 g) (i:Nat):(zpr g i).Nodup:=by
 unfold zpr;by_cases h:i<g.Ops.length
 ·rw [List.getElem?_eq_getElem h]; exact zke (E.op i h).2
 ·rw [List.getElem?_eq_none (by omega)]; simp
theorem zr6 {l:List ID} {x y:ID} (hx:x∈l) (h:l.idxOf y=l.idxOf x):y=x:=by
 have h1:l.idxOf x<l.length:=List.idxOf_lt_length_of_mem hx;have h2:l.idxOf y<l.length:=by omega
 have e1:l[l.idxOf x]'h1=x:=by simp
 have e2:l[l.idxOf y]'h2=y:=by simp
 rw [← e1,← e2]; congr 1
def zgg (g:z00) (i x:Nat):List Nat:=(List.range i).filter fun k=>decide (x∈z23 g k)
theorem zz3 (g:z00) (i x:Nat):(zgg g i x).length≤i:=by
 have:=List.length_filter_le (fun k=>decide (x∈z23 g k)) (List.range i)
 unfold zgg; simpa using this
def zhb (g:z00) (i j x:Nat):List Nat:=zgg g i x++(if x∈(z23 g i).take j then [i] else [])
theorem zvm (g:z00) (i x:Nat):zgg g (i+1) x=zhb g i (z23 g i).length x:=by
 unfold zgg zhb;rw [List.range_succ,List.filter_append,List.take_length];by_cases h:x∈z23 g i
 ·rw [if_pos h]; simp [zgg,h]
 ·rw [if_neg h]; simp [zgg,h]
theorem zw3 (g:z00) (i x:Nat):zhb g i 0 x=zgg g i x:=by unfold zhb; simp
theorem z140 (E:zc6 g) {i:Nat} (hi:i<g.Ops.length) (s:(List Int) × (List (List Int)) × (List Int) × Int) (hs:s.2.2.2=(i:Int)):∀ (rest pre:List ID),g.Ops[i].Preds=pre++rest →
  iter (zab g s g.Ops[i]) (tab g.Ops.length (fun x=>il (zhb g i pre.length x)),(pre.length:Int))=some (if rest.all (fun x=>decide (x∈g.IDs)) then .inr (tab g.Ops.length fun x=>il (zhb g i (z23 g i).length x)) else .inl (.inl (.inl 40)))
 | [],pre,e=>by
  refine z1s ?_;unfold zab
  have:(z23 g i).length=pre.length:=by unfold z23; rw [z72 hi,e]; simp
  rw [if_neg (by rw [e]; simp),this]
  rfl
 | c::rest,pre,e=>by
  have h4:=(E.op i hi).1;have hn:=E.nodup i;rw [z72 hi] at hn;have hlen:pre.length<g.Ops[i].Preds.length:=by rw [e]; simp
  have hget:g.Ops[i].Preds[pre.length]'hlen=c:=by simp [e]
  have hpl:(z23 g i).length=g.Ops[i].Preds.length:=by unfold z23; rw [z72 hi]; simp
  have hpg:(z23 g i)[pre.length]'(by omega)=g.IDs.idxOf c:=by
   unfold z23;simp only [z72 hi,List.getElem_map,hget]
  obtain ⟨k,f1,f2,f3⟩:=zi3 g (by have:=E.ids; have:=E.len; omega) E.ri c;rw [List.all_cons];by_cases hc:c∈g.IDs
  ·rw [decide_eq_true hc,Bool.true_and];obtain ⟨rfl,hk⟩:=f2 hc;rw [E.ids] at hk;have hsl:=zz3 g i (g.IDs.idxOf c);have hll:(zhb g i pre.length (g.IDs.idxOf c)).length≤i+1:=by
    unfold zhb; rw [List.length_append]; split <;> simp <;> omega
   have hset:(tab g.Ops.length (fun x=>il (zhb g i pre.length x))).set (g.IDs.idxOf c) (il (zhb g i pre.length (g.IDs.idxOf c))++[(i:Int)])=tab g.Ops.length (fun x=>il (zhb g i (pre.length+1) x)):=by
    refine zhw hk ?_ fun x hx hne=>?_
    ·have h1:¬ g.IDs.idxOf c∈(z23 g i).take pre.length:=by
      intro hm;have e5:(z23 g i).take pre.length=pre.map fun x=>g.IDs.idxOf x:=by
       unfold z23;rw [z72 hi,e,List.map_append,List.take_left' (by simp)]
      rw [e5,List.mem_map] at hm;obtain ⟨y,hy,e6⟩:=hm
      have:=zr6 hc e6
      subst this;rw [e,List.nodup_append] at hn;exact hn.2.2 y hy y (by simp) rfl
     have h2:g.IDs.idxOf c∈(z23 g i).take (pre.length+1):=by
      rw [List.take_add_one,List.getElem?_eq_getElem (by omega),hpg]; simp
     unfold zhb;rw [if_pos h2,if_neg h1]; simp [il]
    ·have:(x∈(z23 g i).take (pre.length+1))↔(x∈(z23 g i).take pre.length):=by
      rw [List.take_add_one,List.getElem?_eq_getElem (by omega),hpg];simp [hne]
     unfold zhb;simp only [this]
   have hF:zab g s g.Ops[i] (tab g.Ops.length (fun x=>il (zhb g i pre.length x)),(pre.length:Int))=some (.inr (tab g.Ops.length (fun x=>il (zhb g i (pre.length+1) x)),((pre.length+1:Nat):Int))):=by
    have hlen2:=E.len;unfold zab;rw [if_pos (by simpa using hlen)];simp only [];rw [z0f hlen,hget];simp only [bS];rw [f1];simp only [bS];rw [decide_eq_true hc,if_neg (by simp),zc4 hk];simp only [bS];rw [hs,z2y (by rw [zfi]; simp; omega),z0u (by omega)];simp only [bS,Int.toNat_natCast];rw [hset]
   rw [z24 hF];have ih:=z140 E hi s hs rest (pre++[c]) (by simp [e]);simp only [List.length_append,List.length_cons,List.length_nil,Nat.zero_add] at ih;exact ih
  ·rw [decide_eq_false hc];refine z1s ?_;unfold zab;rw [if_pos (by simpa using hlen)];simp only [];rw [z0f hlen,hget];simp only [bS];rw [f1];simp only [bS];rw [decide_eq_false hc]; rfl
def zfy (g:z00):Bool:=g.Ops.all fun o=>o.Preds.all fun x=>decide (x∈g.IDs)
def zh2 (g:z00) (i x:Nat):Int:=if x<i then ((z23 g x).length:Int) else 0
def ready (g:z00) (i:Nat):List Nat:=(List.range i).filter fun k=>decide ((z23 g k).length=0)
theorem z102 (g:z00) (i:Nat):(ready g i).length≤i:=by
 have:=List.length_filter_le (fun k=>decide ((z23 g k).length=0)) (List.range i)
 unfold ready; simpa using this
theorem z135 (E:zc6 g):∀ (rest pre:List z0a),g.Ops=pre++rest →
  iter (zaa g) (tab g.Ops.length (zh2 g pre.length),tab g.Ops.length (fun x=>il (zgg g pre.length x)),il (ready g pre.length),(pre.length:Int)) =
   some (if rest.all (fun o=>o.Preds.all fun x=>decide (x∈g.IDs)) then .inr (tab g.Ops.length (zh2 g g.Ops.length),tab g.Ops.length (fun x=>il (zgg g g.Ops.length x)),il (ready g g.Ops.length)) else .inl 40)
 | [],pre,e=>by
  refine z1s ?_;have hl:g.Ops.length=pre.length:=by rw [e]; simp
  unfold zaa;rw [if_neg (by simp; omega),hl];rfl
 | o::rest,pre,e=>by
  have hlen2:=E.len;have hlen:pre.length<g.Ops.length:=by rw [e]; simp
  have hget:g.Ops[pre.length]'hlen=o:=by simp [e]
  have h4:=z140 E hlen (tab g.Ops.length (zh2 g pre.length),tab g.Ops.length (fun x=>il (zgg g pre.length x)),il (ready g pre.length),(pre.length:Int)) rfl o.Preds [] (by rw [hget]; rfl);rw [hget] at h4;simp only [List.length_nil,zw3] at h4;have hpl:(z23 g pre.length).length=o.Preds.length:=by unfold z23; rw [z72 hlen,hget]; simp
  rw [List.all_cons]
  cases hc:o.Preds.all fun x=>decide (x∈g.IDs) with
  | false =>
   rw [hc] at h4;refine z1s ?_;unfold zaa;rw [if_pos (by simpa using hlen)];simp only [];rw [z0f hlen,hget];simp only [bS];rw [show (0:Int)=((0:Nat):Int) from rfl,h4];rfl
  | true =>
   rw [hc] at h4;rw [Bool.true_and];have hset:(tab g.Ops.length (zh2 g pre.length)).set pre.length (o.Preds.length:Int)=tab g.Ops.length (zh2 g (pre.length+1)):=by
    refine zhw hlen ?_ fun x hx hne=>?_
    ·unfold zh2; rw [if_pos (by omega),hpl]
    ·unfold zh2;by_cases h:x<pre.length
     ·rw [if_pos h,if_pos (by omega)]
     ·rw [if_neg h,if_neg (by omega)]
   have hrl:=z102 g pre.length;have hready:il (ready g (pre.length+1))=if (o.Preds.length:Int)==0 then il (ready g pre.length)++[(pre.length:Int)] else il (ready g pre.length):=by
    unfold ready;rw [List.range_succ,List.filter_append,zx9];by_cases h:o.Preds.length=0
    ·have hd:decide ((z23 g pre.length).length=0)=true:=decide_eq_true (by rw [hpl]; exact h);rw [if_pos (by simpa using h),List.filter_cons_of_pos (p:=fun k=>decide ((z23 g k).length=0)) hd]; rfl
    ·have hd:¬ decide ((z23 g pre.length).length=0)=true:=by rw [decide_eq_true_iff,hpl]; exact h
     rw [if_neg (by simpa using h),List.filter_cons_of_neg (p:=fun k=>decide ((z23 g k).length=0)) hd]; simp [il]
   have hsucc:(fun x=>il (zhb g pre.length (z23 g pre.length).length x))=fun x=>il (zgg g (pre.length+1) x):=by
    funext x; rw [zvm]
   rw [hsucc] at h4;have hF:zaa g (tab g.Ops.length (zh2 g pre.length),tab g.Ops.length (fun x=>il (zgg g pre.length x)),il (ready g pre.length),(pre.length:Int))=some (.inr (tab g.Ops.length (zh2 g (pre.length+1)),tab g.Ops.length (fun x=>il (zgg g (pre.length+1) x)),il (ready g (pre.length+1)),((pre.length+1:Nat):Int))):=by
    unfold zaa;rw [if_pos (by simpa using hlen)];simp only [];rw [z0f hlen,hget];simp only [bS];rw [show (0:Int)=((0:Nat):Int) from rfl,h4];simp only [if_true,zu0];rw [zc4 hlen];simp only [bS,Int.toNat_natCast];rw [hset,zc4 hlen];simp only [bS];have e5:zh2 g (pre.length+1) pre.length=(o.Preds.length:Int):=by unfold zh2; rw [if_pos (by omega),hpl]
    rw [e5,hready,z0u (by omega)];by_cases h:o.Preds.length=0
    ·rw [if_pos (by simpa using h),if_pos (by simpa using h),z2y (by rw [zfi]; simp; omega)];simp only [bS]
    ·rw [if_neg (by simpa using h),if_neg (by simpa using h)]
   rw [z24 hF];have ih:=z135 E rest (pre++[o]) (by simp [e]);simp only [List.length_append,List.length_cons,List.length_nil,Nat.zero_add] at ih;exact ih
theorem zo6 (E:zc6 g):∀ (rest pre:List z0a),g.Ops=pre++rest →
  iter (z5m g) (pre.length:Int)=some (if rest.all (fun o=>o.Preds.all fun x=>decide (x∈g.IDs)) then .inr () else .inl 40)
 | [],pre,e=>by
  refine z1s ?_;unfold z5m;rw [if_neg (by rw [e]; simp)]; rfl
 | o::rest,pre,e=>by
  have hlen2:=E.len;have hlen:pre.length<g.Ops.length:=by rw [e]; simp
  have hget:g.Ops[pre.length]'hlen=o:=by simp [e]
  have h4:=(E.op _ hlen).1;rw [hget] at h4;have hF:z5m g (pre.length:Int)=if (o.Preds.all fun x=>decide (x∈g.IDs)) then some (.inr ((pre.length+1:Nat):Int)) else some (.inl (.inl 40)):=by
   unfold z5m;rw [if_pos (by simpa using hlen),z0f hlen,hget];simp only [bS];rw [z13s _ _ (by have:=E.ids; omega) (by omega),z0u (by omega)];simp only [bS]
   cases o.Preds.all fun x=>decide (x∈g.IDs) <;> rfl
  rw [List.all_cons]
  cases hc:o.Preds.all fun x=>decide (x∈g.IDs) with
  | false=>rw [hc] at hF; rw [z1s hF]; rfl
  | true =>
   rw [hc] at hF;rw [z24 hF];have ih:=zo6 E rest (pre++[o]) (by simp [e]);simp only [List.length_append,List.length_cons,List.length_nil,Nat.zero_add] at ih;rw [ih,Bool.true_and]
end
section
open Go
theorem zm8 {α:Type} {l:List α} (h:l.Nodup) {i j:Nat} (hi:i<l.length) (hj:j<l.length) (e:l[i]=l[j]):i=j:=by
 rcases Nat.lt_trichotomy i j with c | c | c
 ·exact absurd e (List.pairwise_iff_getElem.1 h i j hi hj c)
 ·exact c
 ·exact absurd e.symm (List.pairwise_iff_getElem.1 h j i hj hi c)
inductive Wf (P:Nat→List Nat):Nat→Prop
 | mk (i:Nat):(∀ p∈P i,Wf P p)→Wf P i
def cnt (P:Nat→List Nat) (T:List Nat) (i:Nat):Int:=(((P i).filter fun p=>!decide (p∈T)).length:Int)
theorem ztj {P:Nat→List Nat} {T:List Nat} {i:Nat}:cnt P T i=0↔∀ p∈P i,p∈T:=by
 unfold cnt
 constructor
 ·intro h p hp;have h0:((P i).filter fun p=>!decide (p∈T))=[]:=List.length_eq_zero_iff.1 (by omega);rw [List.filter_eq_nil_iff] at h0
  simpa using h0 p hp
 ·intro h;have h0:((P i).filter fun p=>!decide (p∈T))=[]:=by
   rw [List.filter_eq_nil_iff];intro p hp
   simpa using h p hp
  rw [h0]; rfl
theorem zzr (P:Nat→List Nat) (i:Nat):cnt P [] i=((P i).length:Int):=by
 unfold cnt;rw [List.filter_eq_self.2 (fun a _=>by simp)]
theorem z18r (P:Nat→List Nat) (T:List Nat) (i:Nat):cnt P T i≤((P i).length:Int):=by
 unfold cnt
 have:=List.length_filter_le (fun p=>!decide (p∈T)) (P i)
 omega
theorem zhm {T:List Nat} {x:Nat} (hx:x∉T):∀ l:List Nat,l.Nodup→(l.filter fun p=>!decide (p∈T)).length=(l.filter fun p=>!decide (p∈T++[x])).length+(if x∈l then 1 else 0)
 | [],_=>by simp
 | a::l,h=>by
  have hn:=List.nodup_cons.1 h;have ih:=zhm hx l hn.2;by_cases ha:a=x
  ·subst ha;rw [if_neg hn.1] at ih;rw [if_pos (by simp),List.filter_cons_of_pos (by simpa using hx),List.filter_cons_of_neg (by simp),List.length_cons,ih]
  ·have e:(x∈a::l)↔(x∈l):=by
    rw [List.mem_cons]; exact ⟨fun h=>h.resolve_left fun e=>ha e.symm,.inr⟩
   by_cases hT:a∈T
   ·rw [List.filter_cons_of_neg (by simp [hT]),List.filter_cons_of_neg (by simp [hT]),ih];simp only [e]
   ·rw [List.filter_cons_of_pos (by simp [hT]),List.filter_cons_of_pos (by simp [hT,ha]),List.length_cons,List.length_cons,ih];simp only [e]; omega
theorem z13i {P:Nat→List Nat} {T:List Nat} {x i:Nat} (hx:x∉T) (hn:(P i).Nodup) (hi:x∈P i):cnt P T i=cnt P (T++[x]) i+1:=by
 unfold cnt;rw [zhm hx _ hn,if_pos hi]; omega
theorem z14u {P:Nat→List Nat} {T:List Nat} {x i:Nat} (hx:x∉T) (hn:(P i).Nodup) (hi:x∉P i):cnt P T i=cnt P (T++[x]) i:=by
 unfold cnt;rw [zhm hx _ hn,if_neg hi]; omega
structure z15d (P:Nat→List Nat) (n:Nat):Prop where
 n60:n≤60
 nodup:∀ i,(P i).Nodup
 four:∀ i,(P i).length≤4
 lt:∀ i,∀ p∈P i,p<n
def over (P:Nat→List Nat) (n x:Nat):List Nat:=(List.range n).filter fun k=>decide (x∈P k)
theorem zuo {P:Nat→List Nat} {n x k:Nat}:k∈over P n x↔k<n∧x∈P k:=by unfold over; simp
theorem zw5 (P:Nat→List Nat) (n x:Nat):(over P n x).Nodup:=List.Pairwise.filter _ List.nodup_range
structure Got (P:Nat→List Nat) (n:Nat) (Q:List Nat):Prop where
 nodup:Q.Nodup
 lt:∀ x∈Q,x<n
 wf:∀ x∈Q,Wf P x
theorem Got.len {P:Nat→List Nat} {n:Nat} {Q:List Nat} (h:Got P n Q):Q.length≤n:=by
 have:=zav Q (List.range n) h.nodup fun x hx=>by simpa using h.lt x hx
 simpa using this
variable {P:Nat→List Nat} {n:Nat}
theorem z177 (E:z15d P n) (Q:List Nat) (pos:Nat) (hp:pos<Q.length) (hQ:Got P n Q) (hd:∀ i,i<n→(i∈Q↔cnt P (Q.take pos) i=0)) :
  ∃ b:List Int × List Int,iter (zac (il (over P n Q[pos]))) (tab n (cnt P (Q.take pos)),il Q,0)=some b∧∃ R,b=(tab n (cnt P ((Q++R).take (pos+1))),il (Q++R))∧Got P n (Q++R)∧∀ i,i<n→(i∈Q++R↔cnt P ((Q++R).take (pos+1)) i=0):=by
 have hx:Q[pos]∉Q.take pos:=by
  intro hm;obtain ⟨j,hj,e⟩:=List.getElem_of_mem hm;rw [List.getElem_take] at e;rw [List.length_take] at hj
  have:=zm8 hQ.nodup _ _ e
  omega
 have htk:∀ R:List Nat,(Q++R).take (pos+1)=Q.take pos++[Q[pos]]:=fun R=>by
  rw [List.take_append_of_le_length (by omega),List.take_add_one,List.getElem?_eq_getElem hp]; rfl
 let T:=Q.take pos
 let x:=Q[pos]
 have hwx:Wf P x:=hQ.wf x (List.getElem_mem hp);have hwT:∀ y∈T,Wf P y:=fun y hy=>hQ.wf y (List.mem_of_mem_take hy)
 let c:=fun (j i:Nat)=>if i∈(over P n x).take j then cnt P (T++[x]) i else cnt P T i
 have hc_in:∀ j i,i∈(over P n x).take j→c j i=cnt P (T++[x]) i:=fun j i h=>if_pos h;have hc_out:∀ j i,i∉(over P n x).take j→c j i=cnt P T i:=fun j i h=>if_neg h;have hcnt2:∀ i,cnt P (T++[x]) i=0→Wf P i:=fun i hi=>.mk i fun p hpi=>by
  have:=ztj.1 hi p hpi
  rcases List.mem_append.1 this with h | h
  ·exact hwT p h
  ·rw [List.mem_singleton] at h; subst h; exact hwx
 have main:=z62 (F:=zac (il (over P n x))) (over P n x).length
  (fun j st=>∃ R,st=(tab n (c j),il (Q++R),(j:Int))∧Got P n (Q++R)∧∀ i,i<n→(i∈Q++R↔c j i=0))
  (fun b=>∃ R,b=(tab n (c (over P n x).length),il (Q++R))∧Got P n (Q++R)∧∀ i,i<n→(i∈Q++R↔c (over P n x).length i=0))
  (fun j st hj hst=>by
   obtain ⟨R,rfl,hR,hm⟩:=hst;have hyo:(over P n x)[j]∈over P n x:=List.getElem_mem hj;obtain ⟨hyn,hyx⟩:=zuo.1 hyo;have hyt:(over P n x)[j]∉(over P n x).take j:=by
    intro hm;obtain ⟨k,hk,e⟩:=List.getElem_of_mem hm;rw [List.getElem_take] at e;rw [List.length_take] at hk
    have:=zm8 (zw5 P n x) _ _ e
    omega
   have hcy:c j (over P n x)[j]=cnt P (T++[x]) (over P n x)[j]+1:=by
    rw [hc_out _ _ hyt]; exact z13i hx (E.nodup _) hyx
   have hcl:cnt P T (over P n x)[j]≤4:=by have:=z18r P T (over P n x)[j]; have:=E.four (over P n x)[j]; omega
   have h0:0≤cnt P (T++[x]) (over P n x)[j]:=by unfold cnt; omega
   have hcs:cnt P T (over P n x)[j]=cnt P (T++[x]) (over P n x)[j]+1:=z13i hx (E.nodup _) hyx;have hnot:(over P n x)[j]∉Q++R:=by
    rw [hm _ hyn,hcy]; omega
   have hcy1:c (j+1) (over P n x)[j]=cnt P (T++[x]) (over P n x)[j]:=by
    refine hc_in _ _ ?_;rw [List.take_add_one,List.getElem?_eq_getElem hj];exact List.mem_append.2 (.inr (List.mem_singleton.2 rfl))
   have hc1:∀ i,i≠(over P n x)[j]→c (j+1) i=c j i:=fun i hne=>by
    show (if _ then _ else _)=(if _ then _ else _)
    have:(i∈(over P n x).take (j+1))↔(i∈(over P n x).take j):=by
     rw [List.take_add_one,List.getElem?_eq_getElem hj,List.mem_append];exact ⟨fun h=>h.resolve_right fun e=>hne (List.mem_singleton.1 e),.inl⟩
    simp only [this]
   have hset:(tab n (c j)).set (over P n x)[j] (cnt P (T++[x]) (over P n x)[j])=tab n (c (j+1)):=zhw hyn hcy1 fun i _ hne=>hc1 i hne;have hov:(over P n x).length≤n:=by
    have:=List.length_filter_le (fun k=>decide (x∈P k)) (List.range n)
    unfold over; simpa using this
   have hn60:=E.n60;have hlen:=hR.len;have hF:zac (il (over P n x)) (tab n (c j),il (Q++R),(j:Int))=if cnt P (T++[x]) (over P n x)[j]==0 then some (.inr (tab n (c (j+1)),il (Q++R)++[((over P n x)[j]:Int)],((j+1:Nat):Int))) else some (.inr (tab n (c (j+1)),il (Q++R),((j+1:Nat):Int))):=by
    unfold zac;rw [if_pos (by rw [zfi]; simpa using hj)]
    simp only [];rw [z13r hj];simp only [bS];rw [zc4 hyn,hcy];simp only [bS];rw [z12 (x:=_ - 1) (by omega) (by omega), show cnt P (T++[x]) (over P n x)[j]+1 - 1=cnt P (T++[x]) (over P n x)[j] by omega];simp only [bS,Int.toNat_natCast];rw [hset,zc4 hyn,hcy1];simp only [bS];rw [z2y (by rw [zfi]; simp only [List.length_cons,List.length_nil]; omega),z0u (by omega)];simp only [bS]
   by_cases hz:cnt P (T++[x]) (over P n x)[j]=0
   ·rw [if_pos (by simpa using hz)] at hF;refine ⟨_,hF,R++[(over P n x)[j]],?_,?_,?_⟩
    ·rw [← List.append_assoc,zx9 (Q++R)]; rfl
    ·rw [← List.append_assoc];refine ⟨?_,?_,?_⟩
     ·rw [List.nodup_append]
      exact ⟨hR.nodup, by simp, fun a ha b hb e=>by
       rw [List.mem_singleton] at hb; subst hb; exact hnot (e ▸ ha)⟩
     ·intro y hy;rcases List.mem_append.1 hy with h | h
      ·exact hR.lt y h
      ·rw [List.mem_singleton] at h; subst h; exact hyn
     ·intro y hy;rcases List.mem_append.1 hy with h | h
      ·exact hR.wf y h
      ·rw [List.mem_singleton] at h; subst h; exact hcnt2 _ hz
    ·intro i hi;rw [← List.append_assoc,List.mem_append,List.mem_singleton];by_cases hne:i=(over P n x)[j]
     ·subst hne;rw [hcy1];exact ⟨fun _=>hz, fun _=>.inr rfl⟩
     ·rw [hc1 i hne,← hm i hi];exact ⟨fun h=>h.resolve_right hne,.inl⟩
   ·rw [if_neg (by simpa using hz)] at hF;refine ⟨_,hF,R,rfl,hR,?_⟩;intro i hi;by_cases hne:i=(over P n x)[j]
    ·subst hne;rw [hcy1];exact ⟨fun h=>absurd h hnot, fun h=>absurd h hz⟩
    ·rw [hc1 i hne,← hm i hi])
  (fun st hst=>by
   obtain ⟨R,rfl,hR,hm⟩:=hst;refine ⟨_,?_,R,rfl,hR,hm⟩;unfold zac
   rw [if_neg (by rw [zfi]; simp)])
  (tab n (cnt P T),il Q,((0:Nat):Int)) 0 (Nat.zero_le _) ⟨[], by rw [List.append_nil]; rfl, by rw [List.append_nil]; exact hQ, by rw [List.append_nil]; exact hd⟩
 have hend:∀ i,i<n→c (over P n x).length i=cnt P (T++[x]) i:=fun i hi=>by
  by_cases hm:i∈over P n x
  ·exact hc_in _ _ (by rw [List.take_length]; exact hm)
  ·rw [hc_out _ _ (by rw [List.take_length]; exact hm)];exact z14u hx (E.nodup i) fun h=>hm (zuo.2 ⟨hi,h⟩)
 obtain ⟨b,h1,R,h2,h3,h4⟩:=main;refine ⟨b,h1,R,?_,h3, fun i hi=>?_⟩
 ·rw [h2,htk R]
  congr 1
  exact zef hend
 ·rw [h4 i hi,hend i hi,htk R]
theorem z17m (E:z15d P n) (s:List Int × List (List Int) × List Int) (hs:s.2.1=tab n fun x=>il (over P n x)):∃ b:Int,iter (zbo s) (tab n (cnt P []),il ((List.range n).filter fun k=>decide ((P k).length=0)),0)=some b∧∃ Q:List Nat,b=(Q.length:Int)∧Q.Nodup∧∀ i,i∈Q↔i<n∧Wf P i:=by
 have hn60:=E.n60;refine zf0 (F:=zbo s)
  (fun st=>∃ (Q:List Nat) (pos:Nat),st=(tab n (cnt P (Q.take pos)),il Q,(pos:Int))∧pos≤Q.length∧Got P n Q∧∀ i,i<n→(i∈Q↔cnt P (Q.take pos) i=0))
  (fun st=>n - st.2.2.toNat) _ ?_ _ ⟨(List.range n).filter fun k=>decide ((P k).length=0),0, by rw [List.take_zero]; rfl,Nat.zero_le _,?_,?_⟩
 ·rintro st ⟨Q,pos,rfl,h1,h2,h3⟩
  have hlen:=h2.len;by_cases hp:pos<Q.length
  ·right
   obtain ⟨b,e1,R,rfl,e3,e4⟩:=z177 E Q pos hp h2 h3;have hx:=h2.lt _ (List.getElem_mem hp);refine ⟨_,?_,⟨Q++R,pos+1,rfl, by rw [List.length_append]; omega,e3,e4⟩,?_⟩
   ·unfold zbo;rw [if_pos (by rw [zfi]; simpa using hp)]
    simp only [];rw [z13r hp,hs];simp only [bS];rw [zc4 hx];simp only [bS];rw [e1,z0u (by omega)];simp only [bS]
   ·simp only [Int.toNat_natCast]; omega
  ·left
   have hpe:pos=Q.length:=by omega
   subst hpe;refine ⟨(Q.length:Int),?_,Q,rfl,h2.nodup, fun i=>⟨fun h=>⟨h2.lt i h,h2.wf i h⟩, fun h=>?_⟩⟩
   ·unfold zbo;rw [if_neg (by rw [zfi]; simp)]
   ·obtain ⟨hi,hw⟩:=h;rw [List.take_length] at h3
    revert hi
    induction hw with
    | mk i hpi ih =>
     intro hi;rw [h3 i hi,ztj];exact fun p hpp=>ih p hpp (E.lt i p hpp)
 ·refine ⟨List.Pairwise.filter _ List.nodup_range, fun x hx=>?_, fun x hx=>?_⟩
  ·simp only [List.mem_filter,List.mem_range] at hx; exact hx.1
  ·simp only [List.mem_filter,List.mem_range,decide_eq_true_eq] at hx;refine .mk x fun p hp=>?_;rw [List.length_eq_zero_iff.1 hx.2] at hp; simp at hp
 ·intro i hi;rw [List.take_zero,zzr];simp only [List.mem_filter,List.mem_range,decide_eq_true_eq];omega
end
section
open Go
variable {g:z00}
theorem zdd (h:zfy g=true) (i:Nat):∀ x∈zpr g i,x∈g.IDs:=by
 unfold zpr;by_cases hi:i<g.Ops.length
 ·rw [List.getElem?_eq_getElem hi];unfold zfy at h;rw [List.all_eq_true] at h
  have:=h _ (List.getElem_mem hi)
  rw [List.all_eq_true] at this;exact fun x hx=>by simpa using this x hx
 ·rw [List.getElem?_eq_none (by omega)];exact fun x hx=>by simp at hx
theorem z15x (E:zc6 g) (h:zfy g=true):z15d (z23 g) g.Ops.length:=by
 refine ⟨E.len, fun i=>?_, fun i=>?_, fun i p hp=>?_⟩
 ·unfold z23;rw [List.Nodup,List.pairwise_map];exact (E.nodup i).imp_of_mem fun {a b} ha hb hne e=>hne (zr6 (zdd h i b hb) e)
 ·unfold z23; rw [List.length_map]; exact E.four i
 ·unfold z23 at hp;rw [List.mem_map] at hp;obtain ⟨x,hx,rfl⟩:=hp;rw [← E.ids];exact List.idxOf_lt_length_of_mem (zdd h i x hx)
def zb2 (g:z00) (i:Nat):ID:=match g.IDs[i]? with | some x=>x | none=>z32
theorem z3j {i:Nat} (h:i<g.IDs.length):zb2 g i=g.IDs[i]:=by unfold zb2; rw [List.getElem?_eq_getElem h]
theorem zpb {x:ID} (h:x∈g.IDs):zb2 g (g.IDs.idxOf x)=x:=by
 rw [z3j (List.idxOf_lt_length_of_mem h)]; simp
theorem zod (E:zc6 g) {i:Nat} (h:i<g.Ops.length):g.IDs.idxOf (zb2 g i)=i:=by
 have hi:i<g.IDs.length:=by rw [E.ids]; exact h
 rw [z3j hi]; exact zj3 E.ri hi
theorem zno (E:zc6 g) {Q:List Nat} (hQ:∀ x∈Q,x<g.Ops.length) {x:ID} (hx:x∈g.IDs):x∈Q.map (zb2 g)↔g.IDs.idxOf x∈Q:=by
 rw [List.mem_map]
 constructor
 ·rintro ⟨q,hq,rfl⟩; rw [zod E (hQ q hq)]; exact hq
 ·exact fun h=>⟨_,h,zpb hx⟩
theorem zv7 (E:zc6 g) (h:zfy g=true) {Q:List Nat} (hQ:∀ x∈Q,x<g.Ops.length) (i:Nat):((zpr g i).all fun x=>decide (x∈Q.map (zb2 g)))=decide (∀ p∈z23 g i,p∈Q):=by
 rw [Bool.eq_iff_iff,List.all_eq_true,decide_eq_true_iff];unfold z23
 constructor
 ·intro hx p hp;rw [List.mem_map] at hp;obtain ⟨x,hx',rfl⟩:=hp;exact (zno E hQ (zdd h i x hx')).1 (by simpa using hx x hx')
 ·intro hp x hx;rw [decide_eq_true_iff];exact (zno E hQ (zdd h i x hx)).2 (hp _ (List.mem_map.2 ⟨x,hx,rfl⟩))
def Topo (P:Nat→List Nat) (Q:List Nat):Prop:=∀ k (h:k<Q.length),∀ p∈P Q[k],p∈Q.take k
theorem Topo.snoc {P:Nat→List Nat} {Q:List Nat} {i:Nat} (h:Topo P Q) (hi:∀ p∈P i,p∈Q):Topo P (Q++[i]):=by
 intro k hk p hp;by_cases hkq:k<Q.length
 ·rw [List.getElem_append_left hkq] at hp;rw [List.take_append_of_le_length (by omega)];exact h k hkq p hp
 ·have hk':k=Q.length:=by simp at hk; omega
  subst hk';rw [List.getElem_append_right (by omega)] at hp;simp at hp;rw [List.take_left' rfl];exact hi p hp
def zhf (g:z00) (Q:List Nat) (b:Bool):(List Int) × (List ID) × (List Bool) × Bool:=(il Q,Q.map (zb2 g),tab g.Ops.length (fun i=>decide (i∈Q)),b)
theorem z13x (E:zc6 g) (h:zfy g=true) (Q:List Nat) (hQ:Got (z23 g) g.Ops.length Q) (hT:Topo (z23 g) Q) :
  ∃ b:Sum (List Int) ((List Int) × (List ID) × (List Bool) × Bool),iter (z40 g (zhf g Q true)) 0=some b ∧
   ((∃ i,b=.inr (zhf g (Q++[i]) true)∧Got (z23 g) g.Ops.length (Q++[i])∧Topo (z23 g) (Q++[i])∧i<g.Ops.length∧i∉Q∧(∀ p∈z23 g i,p∈Q)∧∀ k,k<i→(∀ p∈z23 g k,p∈Q)→k∈Q)∨(b=.inr (zhf g Q false)∧∀ i,i<g.Ops.length→(∀ p∈z23 g i,p∈Q)→i∈Q)):=by
 have hlen:=E.len;have hql:=hQ.len;refine zf0 (F:=z40 g (zhf g Q true)) (fun s=>∃ i:Nat,s=(i:Int)∧i≤g.Ops.length∧∀ k,k<i→(∀ p∈z23 g k,p∈Q)→k∈Q) (fun s=>g.Ops.length - s.toNat) _ ?_ _ ⟨0,rfl,Nat.zero_le _, fun k hk=>by omega⟩
 rintro s ⟨i,rfl,h1,h2⟩
 by_cases hi:i<g.Ops.length
 ·have hcond:(idx (tab g.Ops.length fun i=>decide (i∈Q)) (i:Int) >>= fun x12=>if !x12 then idx g.Ops (i:Int) >>= fun x15=>z4e (Q.map (zb2 g)) x15.Preds >>= fun r17=>some r17 else some false)=some (!decide (i∈Q)&&decide (∀ p∈z23 g i,p∈Q)):=by
   rw [zc4 hi];simp only [bS];by_cases hm:i∈Q
   ·rw [decide_eq_true hm]; rfl
   ·rw [decide_eq_false hm,if_pos (by simp),z0f hi];simp only [bS];have h4:=(E.op i hi).1;rw [z13s _ _ (by rw [List.length_map]; omega) (by omega)];simp only [bS];rw [← z72 hi,zv7 E h hQ.lt]; rfl
  by_cases hm:i∈Q
  ·right
   refine ⟨((i+1:Nat):Int),?_,⟨i+1,rfl,hi, fun k hk hp=>?_⟩, by simp; omega⟩
   ·unfold z40;rw [if_pos (by simpa using hi)];show ((idx (tab g.Ops.length fun i=>decide (i∈Q)) (i:Int) >>= fun x12=>if !x12 then idx g.Ops (i:Int) >>= fun x15=>z4e (Q.map (zb2 g)) x15.Preds >>= fun r17=>some r17 else some false) >>= _)=_;rw [hcond,decide_eq_true hm,z0u (by omega)];rfl
   ·by_cases hk':k=i
    ·subst hk'; exact hm
    ·exact h2 k (by omega) hp
  ·by_cases hp:∀ p∈z23 g i,p∈Q
   ·left
    refine ⟨_,?_,.inl ⟨i,rfl,?_,hT.snoc hp,hi,hm,hp,h2⟩⟩
    ·have hii:i<g.IDs.length:=by rw [E.ids]; exact hi
     unfold z40;rw [if_pos (by simpa using hi)];show ((idx (tab g.Ops.length fun i=>decide (i∈Q)) (i:Int) >>= fun x12=>if !x12 then idx g.Ops (i:Int) >>= fun x15=>z4e (Q.map (zb2 g)) x15.Preds >>= fun r17=>some r17 else some false) >>= _)=_;rw [hcond,decide_eq_false hm,decide_eq_true hp];simp only [bS];rw [if_pos (by simp),z0f hii];simp only [bS];rw [show (zhf g Q true).1=il Q from rfl, show (zhf g Q true).2.1=Q.map (zb2 g) from rfl, show (zhf g Q true).2.2.1=tab g.Ops.length (fun i=>decide (i∈Q)) from rfl]
     rw [z2y (by rw [zfi]; simp only [List.length_cons,List.length_nil]; omega)];simp only [bS];rw [z2y (by rw [List.length_map]; simp only [List.length_cons,List.length_nil]; omega),zc4 hi];simp only [bS,Int.toNat_natCast];rw [zhw (g:=fun j=>decide (j∈Q++[i])) hi (by simp) (fun j _ hj=>by simp [hj])];unfold zhf;rw [zx9,List.map_append,← z3j hii];rfl
    ·refine ⟨?_,?_,?_⟩
     ·rw [List.nodup_append]
      exact ⟨hQ.nodup, by simp, fun a ha b hb e=>by
       rw [List.mem_singleton] at hb; subst hb; exact hm (e ▸ ha)⟩
     ·intro y hy;rcases List.mem_append.1 hy with h | h
      ·exact hQ.lt y h
      ·rw [List.mem_singleton] at h; subst h; exact hi
     ·intro y hy;rcases List.mem_append.1 hy with h | h
      ·exact hQ.wf y h
      ·rw [List.mem_singleton] at h; subst h; exact .mk _ fun p hpp=>hQ.wf p (hp p hpp)
   ·right
    refine ⟨((i+1:Nat):Int),?_,⟨i+1,rfl,hi, fun k hk hpk=>?_⟩, by simp; omega⟩
    ·unfold z40;rw [if_pos (by simpa using hi)];show ((idx (tab g.Ops.length fun i=>decide (i∈Q)) (i:Int) >>= fun x12=>if !x12 then idx g.Ops (i:Int) >>= fun x15=>z4e (Q.map (zb2 g)) x15.Preds >>= fun r17=>some r17 else some false) >>= _)=_;rw [hcond,decide_eq_false hp,z0u (by omega),Bool.and_false];rfl
    ·by_cases hk':k=i
     ·subst hk'; exact absurd hpk hp
     ·exact h2 k (by omega) hpk
 ·left
  have:i=g.Ops.length:=by omega
  subst this;refine ⟨_,?_,.inr ⟨rfl,h2⟩⟩;unfold z40;rw [if_neg (by simp)];rfl
theorem ztv (E:zc6 g) (h:zfy g=true):∃ Q:List Nat,z69 g=some (il Q)∧Got (z23 g) g.Ops.length Q∧Topo (z23 g) Q∧∀ i,i∈Q↔i<g.Ops.length∧Wf (z23 g) i:=by
 have hP:=z15x E h;have hlen:=E.len;have main:=zf0 (F:=z42 g)
  (fun s=>∃ Q b,s=zhf g Q b∧Got (z23 g) g.Ops.length Q∧Topo (z23 g) Q∧(b=false→∀ i,i<g.Ops.length→(∀ p∈z23 g i,p∈Q)→i∈Q))
  (fun s=>(g.Ops.length - s.1.length)+(if s.2.2.2 then 1 else 0))
  (fun r=>∃ Q:List Nat,r=il Q∧Got (z23 g) g.Ops.length Q∧Topo (z23 g) Q∧∀ i,i∈Q↔i<g.Ops.length∧Wf (z23 g) i)
  (fun s hs=>by
   obtain ⟨Q,b,rfl,h1,h2,h3⟩:=hs;have hql:=h1.len
   cases b with
   | false =>
    left
    refine ⟨il Q,rfl,Q,rfl,h1,h2, fun i=>⟨fun hi=>⟨h1.lt i hi,h1.wf i hi⟩, fun hi=>?_⟩⟩;obtain ⟨hi,hw⟩:=hi
    revert hi
    induction hw with
    | mk i hpi ih=>exact fun hi=>h3 rfl i hi fun p hp=>ih p hp (hP.lt i p hp)
   | true =>
    right
    obtain ⟨r,e1,e2⟩:=z13x E h Q h1 h2;rcases e2 with ⟨i,rfl,e3,e4,_⟩ | ⟨rfl,e3⟩
    ·refine ⟨_,?_,⟨Q++[i],true,rfl,e3,e4, by simp⟩,?_⟩
     ·unfold z42;exact (if_pos rfl).trans e1
     ·have:=e3.len
      simp only [zhf,zfi,List.length_append,List.length_cons,List.length_nil] at this ⊢;omega
    ·refine ⟨_,?_,⟨Q,false,rfl,h1,h2, fun _=>e3⟩,?_⟩
     ·unfold z42;exact (if_pos rfl).trans e1
     ·simp [zhf])
  ([],[],List.replicate g.Ops.length false,true) ⟨[],true, by unfold zhf; rw [ze8]; simp [il],⟨by simp, by simp, by simp⟩, fun k hk=>by simp at hk, by simp⟩
 obtain ⟨r,e1,Q,rfl,e2,e3,e4⟩:=main;refine ⟨Q,?_,e2,e3,e4⟩;unfold z69;rw [zj7 (by omega) (by omega)];simp only [bS];rw [e1];simp only [bS]
theorem zpe {n:Nat} {Q:List Nat} (hn:Q.Nodup) (hl:∀ x∈Q,x<n):¬ Q.length<n↔∀ i,i<n→i∈Q:=by
 constructor
 ·intro h i hi;refine Decidable.byContradiction fun hm=>?_
  have:=zav (i::Q) (List.range n) (List.nodup_cons.2 ⟨hm,hn⟩) fun x hx=>by
   rcases List.mem_cons.1 hx with rfl | hx
   ·simpa using hi
   ·simpa using hl x hx
  simp at this; omega
 ·intro h
  have:=zav (List.range n) Q List.nodup_range fun x hx=>h x (by simpa using hx)
  simp at this; omega
def z17e (g:z00):Prop:=∀ i,i<g.Ops.length→Wf (z23 g) i
theorem z112 (hl:g.Ops.length≤60) (hi:g.IDs.length=g.Ops.length) (ho:∀ i (h:i<g.Ops.length),(g.Ops[i]).Preds.length≤4∧z8l (g.Ops[i]).Preds=true) :
  ∃ c:Int,zjd g=some c∧za5 g=some c∧(c=0↔z8l g.IDs=true∧zfy g=true∧z17e g):=by
 have s0:=z122 g (by omega);unfold zjd za5;rw [s0,zrh _ (by omega)];simp only [bS];by_cases hr:z8l g.IDs=true
 ·rw [if_pos hr,hr,if_neg (by simp),zj7 (by omega) (by omega)];simp only [bS];rw [zj7 (by omega) (by omega)];simp only [bS];have E:zc6 g:=⟨hl,hi,hr,ho⟩
  have h2:=z135 E g.Ops [] rfl;have h3:=zo6 E g.Ops [] rfl;have i1:tab g.Ops.length (zh2 g 0)=List.replicate g.Ops.length 0:=by
   rw [ze8]; exact zef fun j _=>by unfold zh2; rw [if_neg (by omega)]
  have i2:tab g.Ops.length (fun x=>il (zgg g 0 x))=List.replicate g.Ops.length []:=by
   rw [ze8]; exact zef fun j _=>by unfold zgg; simp [il]
  have i3:il (ready g 0)=[]:=by unfold ready; simp [il]
  simp only [List.length_nil] at h2 h3;rw [i1,i2,i3] at h2;rw [show (0:Int)=((0:Nat):Int) from rfl] at *;rw [h2,h3]
  cases ha:g.Ops.all fun o=>o.Preds.all fun x=>decide (x∈g.IDs) with
  | false=>exact ⟨40,rfl,rfl, by simp [zfy,ha]⟩
  | true =>
   have ha':zfy g=true:=ha;obtain ⟨Q,q1,q2,q3,q4⟩:=ztv E ha';have hP:=z15x E ha';have i4:tab g.Ops.length (zh2 g g.Ops.length)=tab g.Ops.length (cnt (z23 g) []):=zef fun j hj=>by
    unfold zh2; rw [if_pos hj,zzr]
   obtain ⟨b,k1,R,rfl,k2,k3⟩:=z17m hP (tab g.Ops.length (zh2 g g.Ops.length),tab g.Ops.length (fun x=>il (zgg g g.Ops.length x)),il (ready g g.Ops.length)) rfl;have hRQ:R.length=Q.length:=zxy k2 q2.nodup fun x=>by rw [k3,q4]
   simp only [if_true,zu0];rw [i4] at k1;rw [i4, show il (ready g g.Ops.length)=il ((List.range g.Ops.length).filter fun k=>decide ((z23 g k).length=0)) from rfl] at *;rw [show ((0:Nat):Int)=0 from rfl] at *;rw [k1,q1];simp only [bS];rw [zfi,hRQ];have hfull:=zpe q2.nodup q2.lt;by_cases hc:Q.length<g.Ops.length
   ·rw [if_pos (by simpa using hc)];refine ⟨36,rfl,rfl, by simp, fun h=>?_⟩
    have:=hfull.2 fun i hi=>(q4 i).2 ⟨hi,h.2.2 i hi⟩
    exact absurd hc this
   ·rw [if_neg (by simpa using hc)];exact ⟨0,rfl,rfl, fun _=>⟨by first | exact hr | trivial,ha', fun i hi=>((q4 i).1 (hfull.1 hc i hi)).2⟩, fun _=>rfl⟩
 ·have hr':z8l g.IDs=false:=by simpa using hr
  rw [if_neg hr,hr'];exact ⟨32,rfl,rfl, by simp [hr']⟩
def z17q (g:z00):Prop:=∀ i (h:i<g.Ops.length),zf3 g.Ops[i]=0∧sha (zfl g.Ops[i])=zb2 g i
structure z7v (g:z00):Prop where
 e:zc6 g
 ops:z17q g
 ins:zfy g=true
 wf:z17e g
theorem za9 {a:z0a} (h:zf3 a=0):z4w a=0:=by
 unfold zf3 at h;by_cases hc:z4w a=0
 ·exact hc
 ·rw [if_neg hc] at h; exact h
theorem z19o {g:z00} (h:z7o g) {o:z0a} (ho:o∈g.Ops):inI o.Act.Value.Num∧o.Act.Value.Text.length≤9223372036854775807:=by
 have:=h.2.1.1 o ho
 exact ⟨this.2.2.2.1.2.2.1.2.1,this.2.2.2.1.2.2.1.2.2.2.1⟩
def zjp (g:z00) (i:Nat) (o:z0a):Bool:=decide (zf3 o=0)&&decide (sha (zfl o)=zb2 g i)
theorem z11x (hw:z7o g) (hl:g.Ops.length≤60) (hi:g.IDs.length=g.Ops.length):∀ (k i:Nat),g.Ops.length - i=k→i≤g.Ops.length →
  ∃ r:Sum Int Unit,iter (zbm g) (i:Int)=some r∧iter (z5t g) (i:Int)=some r∧((r=.inr ()∧∀ j (h:j<g.Ops.length),i≤j→zjp g j g.Ops[j]=true)∨(r=.inl 8∧∃ j,∃ h:j<g.Ops.length,zjp g j g.Ops[j]=false)):=by
 intro k
 induction k with
 | zero =>
  intro i hk hle;refine ⟨.inr (),z1s ?_,z1s ?_,.inl ⟨rfl, fun j hj hij=>by omega⟩⟩
  ·unfold zbm; rw [if_neg (by simp; omega)]
  ·unfold z5t; rw [if_neg (by simp; omega)]
 | succ k ih =>
  intro i hk hle;have hlt:i<g.Ops.length:=by omega
  have hii:i<g.IDs.length:=by omega
  obtain ⟨w1,w2⟩:=z19o hw (List.getElem_mem hlt);have e1:zbm g (i:Int)=if zjp g i g.Ops[i] then some (.inr ((i+1:Nat):Int)) else some (.inl (.inl 8)):=by
   unfold zbm zjp;rw [if_pos (by simpa using hlt),z0f hlt];simp only [bS];rw [zzj _ w1 w2,z0u (by omega)];simp only [bS];by_cases hc:z4w g.Ops[i]=0
   ·rw [if_pos hc];simp only [];rw [if_neg (by simp),z0f hii,← z3j hii];simp only [bS];by_cases hs:sha (zfl g.Ops[i])=zb2 g i
    ·rw [decide_eq_true hs,if_neg (by simp),zm0 _ w1 w2];simp only [bS];by_cases hb:zf3 g.Ops[i]=0
     ·rw [hb]; rfl
     ·rw [if_pos (by simpa using hb),decide_eq_false hb]; rfl
    ·rw [decide_eq_false hs,Bool.and_false]; rfl
   ·have hb:zf3 g.Ops[i]≠0:=fun h=>hc (za9 h);rw [if_neg hc,decide_eq_false hb];simp only [];rw [if_pos (by simpa using hc)]; rfl
  have e2:z5t g (i:Int)=if zjp g i g.Ops[i] then some (.inr ((i+1:Nat):Int)) else some (.inl (.inl 8)):=by
   unfold z5t zjp;rw [if_pos (by simpa using hlt),z0f hlt];simp only [bS];rw [zql _ w1 w2,z0u (by omega)];simp only [bS];by_cases hb:zf3 g.Ops[i]=0
   ·rw [hb,if_neg (by simp),z0f hii,← z3j hii,z132 _ (za9 hb) w1];simp only [bS];by_cases hs:sha (zfl g.Ops[i])=zb2 g i
    ·rw [decide_eq_true hs]; rfl
    ·rw [decide_eq_false hs]; rfl
   ·rw [if_pos (by simpa using hb),decide_eq_false hb]; rfl
  cases hg:zjp g i g.Ops[i] with
  | false =>
   rw [hg] at e1 e2;exact ⟨_,z1s e1,z1s e2,.inr ⟨rfl,i,hlt,hg⟩⟩
  | true =>
   rw [hg] at e1 e2;obtain ⟨r,h1,h2,h3⟩:=ih (i+1) (by omega) (by omega);refine ⟨r, by rw [z24 e1]; exact h1, by rw [z24 e2]; exact h2,?_⟩;rcases h3 with ⟨h3,h4⟩ | h3
   ·refine .inl ⟨h3, fun j hj hij=>?_⟩;by_cases hji:j=i
    ·subst hji; exact hg
    ·exact h4 j hj (by omega)
   ·exact .inr h3
theorem zuj (hw:z7o g):∃ c:Int,z3f g=some c∧z7z g=some c∧(c=0↔z7v g):=by
 unfold z3f z7z;by_cases hl:60<g.Ops.length
 ·have d:decide (60<(g.Ops.length:Int))=true:=by simp; omega
  rw [d];exact ⟨4,rfl,rfl, by simp, fun h=>by have:=h.e.len; omega⟩
 have d:decide (60<(g.Ops.length:Int))=false:=by simp; omega
 simp only [d,Bool.false_eq_true,if_false];by_cases hi:g.IDs.length=g.Ops.length
 ·have d2:((g.IDs.length:Int) != (g.Ops.length:Int))=false:=by simp; omega
  simp only [d2,Bool.false_eq_true,if_false];obtain ⟨r,h1,h2,h3⟩:=z11x hw (by omega) hi g.Ops.length 0 rfl (by omega);rw [show (0:Int)=((0:Nat):Int) from rfl,h1,h2];rcases h3 with ⟨rfl,h4⟩ | ⟨rfl,j,hj,h4⟩
  ·have hok:z17q g:=fun i h=>by
    have:=h4 i h (by omega)
    unfold zjp at this
    simpa using this
   obtain ⟨c,s1,s2,s3⟩:=z112 (g:=g) (by omega) hi fun i h=>⟨(z6e (za9 (hok i h).1)).1,(z6e (za9 (hok i h).1)).2.1⟩;refine ⟨c,?_,?_,s3.trans ⟨fun ⟨a,b,d⟩=>⟨⟨by omega,hi,a, fun i h=>⟨(z6e (za9 (hok i h).1)).1,(z6e (za9 (hok i h).1)).2.1⟩⟩,hok,b,d⟩, fun h=>⟨h.e.ri,h.ins,h.wf⟩⟩⟩
   ·simp only [zu0]; rw [s1]; simp only [bS]
   ·simp only [zu0]; rw [s2]; simp only [bS]
  ·refine ⟨8,rfl,rfl, by simp, fun h=>?_⟩
   have:=h.ops j hj
   unfold zjp at h4;simp [this] at h4
 ·have d2:((g.IDs.length:Int) != (g.Ops.length:Int))=true:=by simp; omega
  rw [d2];exact ⟨8,rfl,rfl, by simp, fun h=>absurd h.e.ids hi⟩
end
section
open Go
variable {g:z00}
theorem ziy {κ β:Type} [DecidableEq κ] (k:κ) (v:β) (x:κ):∀ m:List (κ × β),zax (zmz m k v) x=if x=k then some v else zax m x
 | []=>rfl
 | p::m=>by
  have ih:=ziy k v x m;unfold zmz;by_cases h:k=p.1
  ·rw [if_pos h];show (if x=p.1 then some v else zax m x)=if x=k then some v else if x=p.1 then some p.2 else zax m x
   rw [← h];by_cases hx:x=k
   ·rw [if_pos hx,if_pos hx]
   ·rw [if_neg hx,if_neg hx,if_neg hx]
  ·rw [if_neg h];show (if x=p.1 then some p.2 else zax (zmz m k v) x)=if x=k then some v else if x=p.1 then some p.2 else zax m x
   rw [ih];by_cases hx:x=p.1
   ·rw [if_pos hx,if_pos hx,if_neg (fun e=>h (by rw [← hx,e]))]
   ·rw [if_neg hx,if_neg hx]
def zqv (g:z00) (m:List (ID × Int)):Prop:=∀ x∈g.IDs,(zax m x).getD 0=(g.IDs.idxOf x:Int)
theorem zry (E:zc6 g):∃ m,z8o g=some m∧zqv g m:=by
 have hlen:=E.len;have hids:=E.ids;have main:=z62 (F:=z8d g) g.IDs.length
  (fun i s=>s.2=(i:Int)∧∀ x,x∈g.IDs→g.IDs.idxOf x<i→(zax s.1 x).getD 0=(g.IDs.idxOf x:Int))
  (fun m=>zqv g m)
  (fun i s hi hs=>by
   obtain ⟨m,i'⟩:=s;obtain ⟨h1,h2⟩:=hs;simp only at h1 h2;subst h1;refine ⟨(zmz m g.IDs[i] (i:Int),((i+1:Nat):Int)),?_,rfl, fun x hx hlt=>?_⟩
   ·unfold z8d;rw [if_pos (by simpa using hi)];simp only [];rw [z0f hi,z0u (by omega)];simp only [bS]
   ·simp only [];rw [ziy];by_cases he:x=g.IDs[i]
    ·rw [if_pos he,he,zj3 E.ri hi]; rfl
    ·rw [if_neg he];refine h2 x hx ?_;have hne:g.IDs.idxOf x≠i:=fun e=>he (by subst e; simp)
     omega)
  (fun s hs=>by
   obtain ⟨m,i'⟩:=s;obtain ⟨h1,h2⟩:=hs;simp only at h1 h2;subst h1;refine ⟨m,?_, fun x hx=>h2 x hx (List.idxOf_lt_length_of_mem hx)⟩;unfold z8d
   rw [if_neg (by simp)])
  (([]:List (ID × Int)),0) 0 (Nat.zero_le _) ⟨rfl, fun x hx h=>by omega⟩
 obtain ⟨m,h1,h2⟩:=main;refine ⟨m,?_,h2⟩;unfold z8o;rw [h1];simp only [bS]
inductive Rch (P:Nat→List Nat) (S:List Nat):Nat→Prop
 | base {i:Nat}:i∈S→Rch P S i
 | step {i p:Nat}:Rch P S i→p∈P i→Rch P S p
def unm (n:Nat) (m:Nat→Bool):List Nat:=(List.range n).filter fun i=>!m i
theorem zrd (n:Nat) (m:Nat→Bool):(unm n m).Nodup:=List.Pairwise.filter _ List.nodup_range
theorem zos {n:Nat} {m:Nat→Bool} {i:Nat}:i∈unm n m↔i<n∧m i=false:=by unfold unm; simp
theorem z138 {n:Nat} {m m':Nat→Bool} (h:∀ i,m i=true→m' i=true):(unm n m').length≤(unm n m).length :=
 zav _ _ (zrd n m') fun x hx=>by
  rw [zos] at *;refine ⟨hx.1,?_⟩
  cases hm:m x with
  | false=>rfl
  | true=>have:=h x hm; rw [hx.2] at this; exact absurd this (by simp)
theorem z170 {n:Nat} {m m':Nat→Bool} (h:∀ i,m i=true→m' i=true) {y:Nat} (hy:y<n) (h1:m y=false) (h2:m' y=true):(unm n m').length<(unm n m).length:=by
 have hin:y∈unm n m:=zos.2 ⟨hy,h1⟩
 have:=zav (unm n m') ((unm n m).erase y) (zrd n m') fun x hx=>by
  have hne:x≠y:=fun e=>by subst e; rw [zos] at hx; rw [h2] at hx; exact absurd hx.2 (by simp)
  rw [List.mem_erase_of_ne hne];rw [zos] at *;refine ⟨hx.1,?_⟩
  cases hm:m x with
  | false=>rfl
  | true=>have:=h x hm; rw [hx.2] at this; exact absurd this (by simp)
 rw [List.length_erase_of_mem hin] at this
 have:=List.length_pos_of_mem hin
 omega
structure Grow (P:Nat→List Nat) (S:List Nat) (m m':Nat→Bool):Prop where
 sub:∀ i,m i=true→m' i=true
 src:∀ i∈S,m' i=true
 new:∀ i,m' i=true→m i=true∨Rch P S i
 clo:∀ i,m' i=true→m i=true∨∀ p∈P i,m' p=true
theorem zf4 {i:Nat} {x:ID} (h:zfy g=true) (hx:x∈zpr g i):x∈g.IDs∧g.IDs.idxOf x∈z23 g i:=⟨zdd h i x hx,List.mem_map.2 ⟨x,hx,rfl⟩⟩
theorem Rch.mono {P:Nat→List Nat} {S T:List Nat} (h:∀ x∈S,x∈T) {i:Nat} (hr:Rch P S i):Rch P T i:=by
 induction hr with
 | base h1=>exact .base (h _ h1)
 | step _ h2 ih=>exact .step ih h2
theorem Rch.thru {P:Nat→List Nat} {S T:List Nat} (h:∀ x∈S,Rch P T x) {i:Nat} (hr:Rch P S i):Rch P T i:=by
 induction hr with
 | base h1=>exact h _ h1
 | step _ h2 ih=>exact .step ih h2
theorem z137 (E:zc6 g) {σ:Type} (xs:List ID) (hxs:∀ x∈xs,x∈g.IDs) (hl:xs.length≤100) (F:(List Bool × Int)→Option (Sum (List Bool) (List Bool × Int))) (V:ID→List Bool→Option (List Bool)) (m0:Nat→Bool) (N:Nat)
  (hF:∀ m (i:Nat) (h:i<xs.length),F (m,(i:Int))=(V xs[i] m >>= fun r=>some (.inr (r,((i+1:Nat):Int))))) (hF2:∀ m,F (m,(xs.length:Int))=some (.inl m))
  (hV:∀ m x,x∈xs→(∀ i,m0 i=true→m i=true)→∃ m',V x (tab g.Ops.length m)=some (tab g.Ops.length m')∧Grow (z23 g) [g.IDs.idxOf x] m m') :
  ∃ m',iter F (tab g.Ops.length m0,0)=some (tab g.Ops.length m')∧Grow (z23 g) (xs.map fun x=>g.IDs.idxOf x) m0 m':=by
 have main:=z62 (F:=F) xs.length
  (fun i s=>∃ m,s=(tab g.Ops.length m,(i:Int))∧Grow (z23 g) ((xs.take i).map fun x=>g.IDs.idxOf x) m0 m)
  (fun r=>∃ m',r=tab g.Ops.length m'∧Grow (z23 g) (xs.map fun x=>g.IDs.idxOf x) m0 m')
  (fun i s hi hs=>by
   obtain ⟨m,rfl,hm⟩:=hs;obtain ⟨m',e1,e2⟩:=hV m xs[i] (List.getElem_mem hi) hm.sub;refine ⟨_, by rw [hF _ i hi,e1,bS],m',rfl,?_⟩;have et:(xs.take (i+1)).map (fun x=>g.IDs.idxOf x)=(xs.take i).map (fun x=>g.IDs.idxOf x)++[g.IDs.idxOf xs[i]]:=by
    rw [List.take_add_one,List.getElem?_eq_getElem hi,List.map_append]; rfl
   rw [et];refine ⟨fun j hj=>e2.sub j (hm.sub j hj), fun j hj=>?_, fun j hj=>?_, fun j hj=>?_⟩
   ·rcases List.mem_append.1 hj with h | h
    ·exact e2.sub j (hm.src j h)
    ·exact e2.src j h
   ·rcases e2.new j hj with h | h
    ·rcases hm.new j h with h | h
     ·exact .inl h
     ·exact .inr (h.mono fun x hx=>List.mem_append.2 (.inl hx))
    ·exact .inr (h.mono fun x hx=>List.mem_append.2 (.inr hx))
   ·rcases e2.clo j hj with h | h
    ·rcases hm.clo j h with h | h
     ·exact .inl h
     ·exact .inr fun p hp=>e2.sub p (h p hp)
    ·exact .inr h)
  (fun s hs=>by
   obtain ⟨m,rfl,hm⟩:=hs;refine ⟨_,hF2 _,m,rfl,?_⟩
   rw [List.take_length] at hm; exact hm)
  (tab g.Ops.length m0,((0:Nat):Int)) 0 (Nat.zero_le _) ⟨m0,rfl, by simp, by simp, fun j hj=>.inl hj, fun j hj=>.inl hj⟩
 obtain ⟨r,h1,m',rfl,h2⟩:=main;exact ⟨m',h1,h2⟩
theorem zts (E:zc6 g) (h:zfy g=true) {r:List (ID × Int)} (hr:zqv g r):∀ (N:Nat) (m:Nat→Bool) (x:ID),x∈g.IDs→(unm g.Ops.length m).length<N→∃ m',z30 N x r (tab g.Ops.length m) g=some (tab g.Ops.length m')∧Grow (z23 g) [g.IDs.idxOf x] m m'
 | 0,_,_,_,hn=>by omega
 | N+1,m,x,hx,hn=>by
  have hlen:=E.len;have hk:g.IDs.idxOf x<g.Ops.length:=by rw [← E.ids]; exact List.idxOf_lt_length_of_mem hx
  show ∃ m',z6f (z30 N) x r (tab g.Ops.length m) g=_∧_;unfold z6f;rw [hr x hx];simp only [bS];rw [zc4 hk];simp only [bS]
  cases hm:m (g.IDs.idxOf x) with
  | true =>
   rw [if_pos rfl];exact ⟨m,rfl, fun i hi=>hi, fun i hi=>by rw [List.mem_singleton] at hi; subst hi; exact hm, fun i hi=>.inl hi, fun i hi=>.inl hi⟩
  | false =>
   rw [if_neg (by simp),z0f hk];simp only [bS,Int.toNat_natCast]
   let m1:=fun i=>if i=g.IDs.idxOf x then true else m i
   have hs1:∀ i,m i=true→m1 i=true:=fun i hi=>by
    show (if _ then _ else _)=true
    split
    ·rfl
    ·exact hi
   have h1x:m1 (g.IDs.idxOf x)=true:=if_pos rfl;have hset:(tab g.Ops.length m).set (g.IDs.idxOf x) true=tab g.Ops.length m1:=zhw hk h1x fun j _ hj=>if_neg hj;rw [hset];have hu:=z170 hs1 hk hm h1x;have hop:zpr g (g.IDs.idxOf x)=(g.Ops[g.IDs.idxOf x]).Preds:=z72 hk;have h4:=E.four (g.IDs.idxOf x);rw [hop] at h4;obtain ⟨m',e1,e2⟩:=z137 (σ:=Unit) E (g.Ops[g.IDs.idxOf x]).Preds (fun y hy=>(zf4 h (by rw [hop]; exact hy)).1) (by omega)
    (z7u r g (z30 N) g.Ops[g.IDs.idxOf x]) (fun y l=>z30 N y r l g) m1 N
    (fun l i hi=>by
     unfold z7u;rw [if_pos (by simpa using hi)];simp only [];rw [z0f hi,z0u (by omega)]
     simp only [bS])
    (fun l=>by
     unfold z7u
     rw [if_neg (by simp)])
    (fun l y hy hsub=>zts E h hr N l y (zf4 h (by rw [hop]; exact hy)).1 (by have:=z138 (n:=g.Ops.length) hsub; omega))
   refine ⟨m',e1,?_⟩;have hpe:((g.Ops[g.IDs.idxOf x]).Preds.map fun x=>g.IDs.idxOf x)=z23 g (g.IDs.idxOf x):=by unfold z23; rw [hop]
   rw [hpe] at e2;have hxx:m' (g.IDs.idxOf x)=true:=e2.sub _ h1x;refine ⟨fun i hi=>e2.sub i (hs1 i hi), fun i hi=>by rw [List.mem_singleton] at hi; subst hi; exact hxx, fun i hi=>?_, fun i hi=>?_⟩
   ·rcases e2.new i hi with h | h
    ·by_cases hix:i=g.IDs.idxOf x
     ·exact .inr (.base (by rw [hix]; simp))
     ·have:m1 i=m i:=if_neg hix
      rw [this] at h; exact .inl h
    ·exact .inr (h.thru fun y hy=>.step (.base (by simp)) hy)
   ·rcases e2.clo i hi with h | h
    ·by_cases hix:i=g.IDs.idxOf x
     ·rw [hix]; exact .inr fun p hp=>e2.src p hp
     ·have:m1 i=m i:=if_neg hix
      rw [this] at h; exact .inl h
    ·exact .inr h
theorem z129 (E:zc6 g) (h:zfy g=true) (xs:List ID) (hxs:∀ x∈xs,x∈g.IDs) (hl:xs.length≤100):∃ m,zbl g xs=some (tab g.Ops.length m)∧∀ i,m i=true↔Rch (z23 g) (xs.map fun x=>g.IDs.idxOf x) i:=by
 have hlen:=E.len;obtain ⟨r,e1,e2⟩:=zry E;have hu:(unm g.Ops.length fun _=>false).length≤60:=by
  have:=List.length_filter_le (fun i=>!(false:Bool)) (List.range g.Ops.length)
  unfold unm; simp at this ⊢; omega
 obtain ⟨m',e3,e4⟩:=z137 (σ:=Unit) E xs hxs hl (z8x g xs r) (fun y l=>z30 1000 y r l g) (fun _=>false) 1000
  (fun l i hi=>by
   unfold z8x;rw [if_pos (by simpa using hi)];simp only [];rw [z0f hi,z0u (by omega)]
   simp only [bS])
  (fun l=>by
   unfold z8x
   rw [if_neg (by simp)])
  (fun l y hy hsub=>zts E h e2 1000 l y (hxs y hy) (by have:=z138 (n:=g.Ops.length) hsub; omega))
 refine ⟨m',?_, fun i=>⟨fun hi=>(e4.new i hi).resolve_left (by simp), fun hi=>?_⟩⟩
 ·unfold zbl;rw [e1];simp only [bS];rw [zj7 (by have:=E.ids; omega) (by have:=E.ids; omega),E.ids,ze8];simp only [bS];rw [e3];simp only [bS]
 ·induction hi with
  | base hs=>exact e4.src _ hs
  | step _ hp ih=>exact ((e4.clo _ ih).resolve_left (by simp)) _ hp
def z9d (g:z00) (m:Nat→Bool):List ID:=((List.range g.Ops.length).filter m).map (zb2 g)
theorem zpv (E:zc6 g) (m:Nat→Bool):z8r g (tab g.Ops.length m)=some (z9d g m):=by
 have hlen:=E.len;have hl:∀ i,i≤g.Ops.length→(((List.range i).filter m).map (zb2 g)).length≤60:=fun i hi=>by
  have:=List.length_filter_le m (List.range i)
  simp at this ⊢; omega
 have:iter (z6j g (tab g.Ops.length m)) ([],0)=some (z9d g m):=by
  have:=z4b (F:=z6j g (tab g.Ops.length m)) (b:=z9d g m) g.Ops.length (fun i=>(((List.range i).filter m).map (zb2 g),(i:Int))) (fun i hi=>?_) ?_
  ·simpa using this
  ·have hii:i<g.IDs.length:=by rw [E.ids]; exact hi
   have hli:=hl i (by omega);unfold z6j;rw [if_pos (by rw [zlu]; simpa using hi)]
   simp only [];rw [zc4 hi,List.range_succ,List.filter_append,List.map_append,z0u (by omega)];simp only [bS]
   cases hm:m i with
   | true =>
    rw [if_pos rfl,z0f hii];simp only [bS];rw [z2y (by simp only [List.length_cons,List.length_nil]; omega),List.filter_cons_of_pos (by exact hm),← z3j hii];simp only [bS]; rfl
   | false =>
    rw [if_neg (by simp),List.filter_cons_of_neg (by rw [hm]; simp)]
    simp
  ·unfold z6j;rw [if_neg (by rw [zlu]; simp)]; rfl
 unfold z8r;rw [this];simp only [bS]
theorem zcz (E:zc6 g) {m:Nat→Bool} {x:ID}:x∈z9d g m↔x∈g.IDs∧m (g.IDs.idxOf x)=true:=by
 unfold z9d;rw [List.mem_map]
 constructor
 ·rintro ⟨i,hi,rfl⟩
  rw [List.mem_filter,List.mem_range] at hi;have hii:i<g.IDs.length:=by rw [E.ids]; exact hi.1
  refine ⟨by rw [z3j hii]; exact List.getElem_mem _,?_⟩;rw [zod E hi.1]; exact hi.2
 ·rintro ⟨h1,h2⟩
  refine ⟨_,?_,zpb h1⟩;rw [List.mem_filter,List.mem_range,← E.ids];exact ⟨List.idxOf_lt_length_of_mem h1,h2⟩
theorem zg6 (E:zc6 g) (m:Nat→Bool):z8l (z9d g m)=true:=by
 rw [zgf];unfold z9d;rw [List.pairwise_map]
 have:(List.range g.Ops.length).Pairwise fun a b=>a<g.Ops.length∧b<g.Ops.length∧a<b:=by
  rw [List.pairwise_iff_getElem];intro i j hi hj hij;simp at hi hj ⊢;omega
 refine (this.filter m).imp fun {a b} hab=>?_;have ha:a<g.IDs.length:=by rw [E.ids]; exact hab.1
 have hb:b<g.IDs.length:=by rw [E.ids]; exact hab.2.1
 rw [z3j ha,z3j hb];exact zai E.ri ha hb hab.2.2
end
section
open Go
variable {g:z00}
theorem z153 (G:z7v g) (h:z3f g=some 0) (x:ID):zch g x=some (if x∈g.IDs then ((g.IDs.idxOf x:Int),0) else (0,6)):=by
 have hlen:=G.e.len;have hids:=G.e.ids;obtain ⟨k,h1,h2,h3⟩:=zww g.IDs (by omega) G.e.ri x;unfold zch;rw [h];simp only [bS];rw [if_neg (by simp),h1];simp only [bS];by_cases hx:x∈g.IDs
 ·rw [decide_eq_true hx,if_neg (by simp),if_pos hx,(h2 hx).1]
 ·rw [decide_eq_false hx,if_pos (by simp),if_neg hx]
theorem zpd (G:z7v g) {x:ID} (h:x∈g.IDs):g.IDs.idxOf x<g.Ops.length:=by rw [← G.e.ids]; exact List.idxOf_lt_length_of_mem h
theorem zsv {s:List ID} (hs:z8l s=true) (h:∀ y∈s,y∈g.IDs):s.length≤g.IDs.length:=zav _ _ (zke hs) h
def top (g:z00) (i x:Nat):Bool:=(List.range i).all fun k=>!decide (x∈z23 g k)
theorem z11j (i x:Nat):top g (i+1) x=(top g i x&&!decide (x∈z23 g i)):=by
 unfold top; rw [List.range_succ,List.all_append]; simp
theorem z11y (E:zc6 g) (h:zfy g=true) {r:List (ID × Int)} (hr:zqv g r) {i:Nat} (hi:i<g.Ops.length) (m:Nat→Bool):iter (z7f r g.Ops[i]) (tab g.Ops.length m,0)=some (tab g.Ops.length fun x=>m x&&!decide (x∈z23 g i)):=by
 have hlen:=E.len;have h4:=(E.op i hi).1;have hpl:(z23 g i).length=g.Ops[i].Preds.length:=by unfold z23; rw [z72 hi]; simp
 have:=z4b (F:=z7f r g.Ops[i]) (b:=tab g.Ops.length fun x=>m x&&!decide (x∈z23 g i)) g.Ops[i].Preds.length (fun j=>(tab g.Ops.length (fun x=>m x&&!decide (x∈(z23 g i).take j)),(j:Int))) (fun j hj=>?_) ?_
 ·simpa using this
 ·have hin:g.Ops[i].Preds[j]∈g.IDs:=zdd h i _ (by rw [z72 hi]; exact List.getElem_mem hj);have hk:g.IDs.idxOf g.Ops[i].Preds[j]<g.Ops.length:=by rw [← E.ids]; exact List.idxOf_lt_length_of_mem hin
  have hpj:(z23 g i)[j]'(by omega)=g.IDs.idxOf g.Ops[i].Preds[j]:=by
   unfold z23;simp only [z72 hi,List.getElem_map]
  unfold z7f;rw [if_pos (by simpa using hj)];simp only [];rw [z0f hj];simp only [bS];rw [hr _ hin,zc4 hk];simp only [bS,Int.toNat_natCast];rw [z0u (by omega)];have hset:(tab g.Ops.length (fun x=>m x&&!decide (x∈(z23 g i).take j))).set (g.IDs.idxOf g.Ops[i].Preds[j]) false=tab g.Ops.length (fun x=>m x&&!decide (x∈(z23 g i).take (j+1))):=by
   refine zhw hk ?_ fun x hx hne=>?_
   ·have:g.IDs.idxOf g.Ops[i].Preds[j]∈(z23 g i).take (j+1):=by
     rw [List.take_add_one,List.getElem?_eq_getElem (by omega),hpj];exact List.mem_append.2 (.inr (List.mem_singleton.2 rfl))
    rw [decide_eq_true this]; simp
   ·have:(x∈(z23 g i).take (j+1))↔(x∈(z23 g i).take j):=by
     rw [List.take_add_one,List.getElem?_eq_getElem (by omega),hpj,List.mem_append];exact ⟨fun h=>h.resolve_right fun e=>hne (List.mem_singleton.1 e),.inl⟩
    simp only [this]
  rw [hset]
 ·unfold z7f;rw [if_neg (by simp),← hpl,List.take_length]
theorem zvy (E:zc6 g) (h:zfy g=true) {r:List (ID × Int)} (hr:zqv g r):iter (z78 g r) (tab g.Ops.length (fun _=>true),0)=some (tab g.Ops.length (top g g.Ops.length)):=by
 have hlen:=E.len
 have:=z4b (F:=z78 g r) (b:=tab g.Ops.length (top g g.Ops.length)) g.Ops.length (fun i=>(tab g.Ops.length (top g i),(i:Int))) (fun i hi=>?_) ?_
 ·have e0:top g 0=fun _=>true:=by funext x; unfold top; simp
  rw [e0] at this; exact this
 ·unfold z78;rw [if_pos (by simpa using hi)];simp only [];rw [z0f hi];simp only [bS];rw [z11y E h hr hi,z0u (by omega)];simp only [bS]
  have:(fun x=>top g i x&&!decide (x∈z23 g i))=top g (i+1):=by funext x; rw [z11j]
  rw [this]
 ·unfold z78;rw [if_neg (by simp)]
theorem z197 (n:Nat) (h:n≤1000):iter (z7b (List.replicate n false)) (List.replicate n false,0)=some (tab n fun _=>true):=by
 have:=z4b (F:=z7b (List.replicate n false)) (b:=tab n fun _=>true) n (fun i=>(tab n (fun x=>decide (x<i)),(i:Int))) (fun i hi=>?_) ?_
 ·have e0:tab n (fun x=>decide (x<0))=List.replicate n false:=by
   rw [ze8]; exact zef fun j _=>by simp
  rw [e0] at this; exact this
 ·unfold z7b;rw [if_pos (by simpa using hi)];simp only [];rw [zc4 hi,z0u (by omega)];simp only [bS,Int.toNat_natCast]
  rw [zhw (g:=fun x=>decide (x<i+1)) hi (by simp) (fun j _ hj=>by
   rw [decide_eq_decide]; omega)]
 ·unfold z7b;rw [if_neg (by simp)];simp only [];rw [zef (f:=fun x=>decide (x<n)) (g:=fun _=>true) fun j hj=>by simpa using hj]
end
section
open Go
variable {P:Nat→List Nat} {n:Nat}
def zm5 (P:Nat→List Nat) (Q:List Nat) (i:Nat):Bool:=!decide (i∈Q)&&decide (∀ p∈P i,p∈Q)
theorem zht {Q:List Nat} {i:Nat}:zm5 P Q i=true↔i∉Q∧∀ p∈P i,p∈Q:=by
 unfold zm5; rw [Bool.and_eq_true,Bool.not_eq_true',decide_eq_false_iff_not,decide_eq_true_iff]
structure z181 (P:Nat→List Nat) (n:Nat) (Q:List Nat) (i:Nat):Prop where
 lt:i<n
 can:zm5 P Q i=true
 least:∀ j,j<i→zm5 P Q j=false
inductive zkx (P:Nat→List Nat) (n:Nat):List Nat→Prop
 | nil:zkx P n []
 | snoc {Q:List Nat} {i:Nat}:zkx P n Q→z181 P n Q i→zkx P n (Q++[i])
theorem zkx.got {Q:List Nat} (h:zkx P n Q):Got P n Q∧Topo P Q:=by
 induction h with
 | nil=>exact ⟨⟨by simp, by simp, by simp⟩, fun k hk=>by simp at hk⟩
 | @snoc Q i _ hi ih =>
  obtain ⟨h1,h2⟩:=zht.1 hi.can;refine ⟨⟨?_, fun x hx=>?_, fun x hx=>?_⟩,ih.2.snoc h2⟩
  ·rw [List.nodup_append];exact ⟨ih.1.nodup, by simp, fun a ha b hb e=>by rw [List.mem_singleton] at hb; subst hb; exact h1 (e ▸ ha)⟩
  ·rcases List.mem_append.1 hx with h | h
   ·exact ih.1.lt x h
   ·rw [List.mem_singleton] at h; subst h; exact hi.lt
  ·rcases List.mem_append.1 hx with h | h
   ·exact ih.1.wf x h
   ·rw [List.mem_singleton] at h; subst h; exact .mk _ fun p hp=>ih.1.wf p (h2 p hp)
end
section
open Go
variable {g:z00}
theorem z16d {o:z0a} (h:z68 o=some false):o.Preds.length≤20∧o.Act.Key.length≤100∧o.Act.Value.Text.length≤100:=by
 unfold z68 at h;by_cases h1:20<o.Preds.length
 ·rw [if_pos (by simp; omega)] at h; exact absurd h (by simp)
 ·rw [if_neg (by simp; omega)] at h;by_cases h2:100<o.Act.Key.length
  ·rw [if_pos (by simp; omega)] at h; exact absurd h (by simp)
  ·rw [if_neg (by simp; omega)] at h;simp only [bS] at h;have h:=Option.some.inj h;rw [decide_eq_false_iff_not] at h;exact ⟨by omega, by omega, by omega⟩
theorem zqj (o:z0a):∃ b,z68 o=some b:=by
 unfold z68
 split
 ·exact ⟨_,rfl⟩
 ·split
  ·exact ⟨_,rfl⟩
  ·exact ⟨_,rfl⟩
structure zvp (g:z00):Prop where
 ops:g.Ops.length≤70
 ids:g.IDs.length≤70
 op:∀ i (h:i<g.Ops.length),g.Ops[i].Preds.length≤20∧g.Ops[i].Act.Key.length≤100∧g.Ops[i].Act.Value.Text.length≤100
theorem zny (g:z00):∀ (k i:Nat),71 - i=k→i≤71→∃ r:Sum Bool Unit,iter (z4o g) (i:Int)=some r∧(r=.inl true∨(r=.inr ()∧∀ j (h:j<g.Ops.length),i≤j→j≤70→g.Ops[j].Preds.length≤20∧g.Ops[j].Act.Key.length≤100∧g.Ops[j].Act.Value.Text.length≤100))
 | 0,i,h1,h2=>by
  refine ⟨.inr (),z1s ?_,.inr ⟨rfl, fun j hj h3 h4=>by omega⟩⟩;unfold z4o
  split
  ·rw [if_neg (by simp; omega)]
  ·rfl
 | k+1,i,h1,h2=>by
  by_cases hi:i<g.Ops.length
  ·obtain ⟨b,hb⟩:=zqj g.Ops[i];have hF:z4o g (i:Int)=if b then some (.inl (.inl true)) else some (.inr ((i+1:Nat):Int)):=by
    unfold z4o;rw [if_pos (by simpa using hi),if_pos (by simp; omega),z0f hi];simp only [bS];rw [hb,z0u (by omega)];simp only [bS]
   cases b with
   | true=>exact ⟨_,z1s hF,.inl rfl⟩
   | false =>
    rw [if_neg (by simp)] at hF;obtain ⟨r,e1,e2⟩:=zny g k (i+1) (by omega) (by omega);refine ⟨r, by rw [z24 hF]; exact e1,e2.imp id fun ⟨e2,e3⟩=>⟨e2, fun j hj h3 h4=>?_⟩⟩;by_cases hji:j=i
    ·subst hji; exact z16d hb
    ·exact e3 j hj (by omega) h4
  ·refine ⟨.inr (),z1s ?_,.inr ⟨rfl, fun j hj h3 h4=>by omega⟩⟩;unfold z4o;rw [if_neg (by simpa using hi)]
theorem z11u (g:z00):∃ b,z9t g=some b∧(b=false→zvp g):=by
 obtain ⟨r,e1,e2⟩:=zny g 71 0 rfl (by omega);unfold z9t;rw [show (0:Int)=((0:Nat):Int) from rfl,e1];rcases e2 with rfl | ⟨rfl,e3⟩
 ·exact ⟨true,rfl, fun h=>absurd h (by simp)⟩
 ·simp only [zu0,bS];have key:∀ (P:Bool),(P=false→g.Ops.length≤70∧g.IDs.length≤70)→P=false→zvp g:=fun P h hp=>⟨(h hp).1,(h hp).2, fun i hi=>e3 i hi (Nat.zero_le _) (by have:=(h hp).1; omega)⟩;by_cases hA:70<g.Ops.length
  ·have a1:decide (70<(g.Ops.length:Int))=true:=by simp; omega
   have a2:decide ((g.Ops.length:Int)≤60)=false:=by simp; omega
   rw [a1,a2];simp only [if_true,Bool.false_eq_true,if_false];exact ⟨true, by split <;> rfl, fun h=>absurd h (by simp)⟩
  ·have a1:decide (70<(g.Ops.length:Int))=false:=by simp; omega
   rw [a1];simp only [Bool.false_eq_true,if_false];have k2:=key (decide (70<(g.IDs.length:Int))) fun h=>by simp at h; omega
   split
   ·split
    ·exact ⟨true,rfl, fun h=>absurd h (by simp)⟩
    ·exact ⟨_,rfl,k2⟩
   ·exact ⟨_,rfl,k2⟩
end
section
open Go
structure Pos (l:List ID) (x:ID) (k:Nat):Prop where
 le:k≤l.length
 lo:∀ i (h:i<l.length),i<k→kd l[i]<kd x
 hi:∀ i (h:i<l.length),k≤i→kd x≤kd l[i]
theorem Pos.uniq {l:List ID} {x:ID} {k k':Nat} (h:Pos l x k) (h':Pos l x k'):k=k':=by
 have a:=h.le; have b:=h'.le;refine Nat.le_antisymm (Nat.le_of_not_lt fun c=>?_) (Nat.le_of_not_lt fun c=>?_)
 ·have:=h.lo k' (by omega) c; have:=h'.hi k' (by omega) (Nat.le_refl _); omega
 ·have:=h'.lo k (by omega) c; have:=h.hi k (by omega) (Nat.le_refl _); omega
def zha {α:Type} (l:List α) (k:Nat) (x:α):List α:=l.take k++[x]++l.drop k
theorem zjq {α:Type} {l:List α} {k:Nat} {x:α} (h:k≤l.length):(zha l k x).length=l.length+1:=by
 unfold zha; simp; omega
theorem zsk {α:Type} {l:List α} {k i:Nat} {x:α} (h:k≤l.length) (hi:i<k):(zha l k x)[i]? = l[i]? := by
 unfold zha;rw [List.append_assoc,List.getElem?_append_left (by simp; omega),List.getElem?_take_of_lt hi]
theorem zt4 {α:Type} {l:List α} {k:Nat} {x:α} (h:k≤l.length):(zha l k x)[k]? = some x:=by
 unfold zha;rw [List.append_assoc,List.getElem?_append_right (by simp; omega)];simp [Nat.min_eq_left h]
theorem zsn {α:Type} {l:List α} {k i:Nat} {x:α} (h:k≤l.length) (hi:k<i):(zha l k x)[i]? = l[i - 1]? := by
 unfold zha;rw [List.getElem?_append_right (by simp; omega),List.getElem?_drop]
 congr 1; simp; omega
theorem zlh {α:Type} {l:List α} {k:Nat} {x y:α}:y∈zha l k x↔y=x∨y∈l:=by
 unfold zha
 have:y∈l↔y∈l.take k∨y∈l.drop k:=by rw [← List.mem_append,List.take_append_drop]
 rw [this];simp only [List.mem_append,List.mem_singleton]
 constructor
 ·rintro ((h | h) | h) <;> simp [h]
 ·rintro (h | h | h) <;> simp [h]
def insG (g:z00) (k:Nat) (x:ID) (o:z0a):z00:=⟨zha g.IDs k x,zha g.Ops k o⟩
theorem z11e (l:List ID) (hl:l.length≤4611686018427387903) (hi:z8l l=true) (x:ID) (hx:x∉l):∃ k:Nat,z0e l x=some ((k:Int),false)∧Pos l x k:=by
 obtain ⟨b,h1,k,rfl,h2,h3,h4⟩:=zzp l hl hi x;refine ⟨k,?_,h2,h3,h4⟩;unfold z0e;simp only [bS];rw [h1];simp only [bS];by_cases hk:k<l.length
 ·rw [if_pos (by simpa using hk),z0f hk];simp only [bS];rw [zqm];simp only [bS];rw [z18h,decide_eq_false fun (e:l[k]=x)=>hx (e ▸ List.getElem_mem hk)]
 ·rw [if_neg (by simpa using hk)]
theorem zqk (g:z00) (hl:g.IDs.length≤4611686018427387903) (hi:z8l g.IDs=true) (x:ID) (hx:x∉g.IDs):∃ k:Nat,zde g x=some ((k:Int),false)∧Pos g.IDs x k:=by
 obtain ⟨k,h1,h2⟩:=z11e g.IDs hl hi x hx;refine ⟨k,?_,h2⟩;unfold zde;rw [h1];simp only [bS]
theorem z12o {l:List ID} (hi:z8l l=true) (x:ID):∃ k,Pos l x k:=by
 induction l with
 | nil=>exact ⟨0,Nat.le_refl _, fun i h=>by simp at h, fun i h=>by simp at h⟩
 | cons y l ih =>
  have h1:=(zgf _).1 hi;obtain ⟨h2,h3⟩:=List.pairwise_cons.1 h1;by_cases hy:kd y<kd x
  ·obtain ⟨k,hk⟩:=ih ((zgf _).2 h3);refine ⟨k+1, by simpa using hk.le, fun i h hik=>?_, fun i h hik=>?_⟩
   ·cases i with
    | zero=>exact hy
    | succ i=>exact hk.lo i (by simpa using h) (by omega)
   ·cases i with
    | zero=>omega
    | succ i=>exact hk.hi i (by simpa using h) (by omega)
  ·refine ⟨0,Nat.zero_le _, fun i h hik=>by omega, fun i h _=>?_⟩
   cases i with
   | zero=>simpa using Nat.le_of_not_lt hy
   | succ i =>
    have hil:i<l.length:=by simpa using h
    have:=h2 l[i] (List.getElem_mem hil)
    simp only [List.getElem_cons_succ]; omega
theorem z15p {l:List ID} {k:Nat} {x:ID} (hk:k≤l.length) (hl:l.length≤1000000):insF l (k:Int) [x]=some (zha l k x):=by
 unfold insF;rw [z3k ⟨by omega, by simpa using hk,hl,rfl⟩];simp only [bS,Int.toNat_natCast];rfl
theorem z13m {l:List ID} (h:l.length≤1000000):z18 l=some l:=by
 unfold z18;rw [z2y (by simp; omega)];rfl
theorem zow {o:z0a} (h:o.Preds.length≤1000):zgo o=some o:=by
 unfold zgo;rw [z13m (by omega)];simp only [bS]
theorem z16t {α:Type} {l:List α} {i:Nat} {x:α} (h:l[i]? = some x):l.take i++[x]=l.take (i+1):=by
 rw [List.take_add_one,h]; rfl
theorem z17i {g:z00} (hl:g.IDs.length≤1000) (hi:z8l g.IDs=true) {x:ID} (hx:x∈g.IDs) (o:z0a):zif g x o=some (g,false):=by
 obtain ⟨k,k1,-,-⟩:=zi3 g (by omega) hi x;unfold zif;rw [k1,decide_eq_true hx];rfl
theorem z14g {g:z00} (hg:g.IDs.length=g.Ops.length) (hl:g.IDs.length≤1000) (hi:z8l g.IDs=true) {x:ID} (hx:x∉g.IDs) {o:z0a} (ho:o.Preds.length≤1000) (hp:∀ p∈g.Ops,p.Preds.length≤1000) :
  ∃ k,zif g x o=some (insG g k x o,true)∧Pos g.IDs x k:=by
 obtain ⟨k,k1,k2⟩:=zqk g (by omega) hi x hx;have hk:=k2.le;have hko:k≤g.Ops.length:=by omega
 refine ⟨k,?_,k2⟩;have hlen:(zha g.Ops k o).length=g.Ops.length+1:=zjq hko;have hleni:(zha g.IDs k x).length=g.Ops.length+1:=by rw [zjq hk,hg]
 have main:=z4b (F:=zgi g o ((k:Int),false) (zha g.IDs k x)) (b:=zha g.Ops k o) (g.Ops.length+1) (fun i=>((zha g.Ops k o).take i,(i:Int))) (fun i hin=>?_) ?_
 ·unfold zif;rw [k1];simp only [bS];rw [if_neg (by simp),z13m (by omega)];simp only [bS];rw [z15p hk (by omega)];simp only [bS];rw [List.take_zero] at main;rw [show (([]:List z0a),(0:Int))=([],((0:Nat):Int)) from rfl,main];simp only [bS];rfl
 ·have happ:∀ z,(zha g.Ops k o)[i]? = some z→app 112 ((zha g.Ops k o).take i) [z]=some ((zha g.Ops k o).take (i+1)):=fun z hz=>by
   rw [z2y (by simp; omega),z16t hz]
  unfold zgi;simp only [bS];rw [if_pos (by rw [hleni]; simp; omega)];by_cases h1:i<k
  ·have hio:i<g.Ops.length:=by omega
   rw [if_pos (by simpa using h1),z0f hio];simp only [bS];rw [zow (hp _ (List.getElem_mem hio))];simp only [bS];rw [happ _ (by rw [zsk hko h1,List.getElem?_eq_getElem hio]),z0u (by omega)];simp only [bS]
  ·by_cases h2:i=k
   ·subst h2;rw [if_neg (by simp),if_pos (by simp),zow ho];simp only [bS];rw [happ _ (zt4 hko),z0u (by omega)];simp only [bS]
   ·have hio:i - 1<g.Ops.length:=by omega
    have e:w64 ((i:Int) - 1)=((i - 1:Nat):Int):=by rw [z12 (by omega) (by omega)]; omega
    rw [if_neg (by simp; omega),if_neg (by simp; omega),e,z0f hio];simp only [bS];rw [zow (hp _ (List.getElem_mem hio))];simp only [bS];rw [happ _ (by rw [zsn hko (by omega),List.getElem?_eq_getElem hio]),z0u (by omega)];simp only [bS]
 ·unfold zgi;rw [if_neg (by rw [hleni]; simp)]
  rw [List.take_of_length_le (by rw [hlen]; exact Nat.le_refl _)]
theorem z12n {l:List ID} (hi:z8l l=true) {x:ID} (hx:x∉l) {k:Nat} (hk:Pos l x k):z8l (zha l k x)=true:=by
 rw [zgf] at hi ⊢;have hsplit:(l.take k++l.drop k).Pairwise (fun a b=>kd a<kd b):=by rw [List.take_append_drop]; exact hi
 obtain ⟨h1,h2,h3⟩:=List.pairwise_append.1 hsplit;have hlo:∀ a∈l.take k,kd a<kd x:=fun a ha=>by
  obtain ⟨i,hi',rfl⟩:=List.getElem_of_mem ha;rw [List.length_take] at hi';rw [List.getElem_take];exact hk.lo i (by omega) (by omega)
 have hhi:∀ a∈l.drop k,kd x<kd a:=fun a ha=>by
  obtain ⟨i,hi',rfl⟩:=List.getElem_of_mem ha;rw [List.length_drop] at hi';rw [List.getElem_drop];have h:=hk.hi (k+i) (by omega) (by omega);have hne:kd x≠kd l[k+i]:=fun e=>hx (zqu e ▸ List.getElem_mem _);omega
 unfold zha;rw [List.append_assoc,List.pairwise_append];refine ⟨h1,?_, fun a ha b hb=>?_⟩
 ·rw [List.singleton_append,List.pairwise_cons]; exact ⟨hhi,h2⟩
 ·rw [List.singleton_append] at hb;rcases List.mem_cons.1 hb with rfl | hb
  ·exact hlo a ha
  ·exact h3 a ha b hb
end
section
open Go
variable {g a b:z00}
structure Fit (g:z00) (n:Nat):Prop where
 ids:g.IDs.length=g.Ops.length
 len:g.Ops.length≤n
 ri:z8l g.IDs=true
 op:∀ o∈g.Ops,o.Preds.length≤20∧o.Act.Key.length≤100∧o.Act.Value.Text.length≤100
theorem z18y (G:z7v g) (S:zvp g):Fit g g.Ops.length:=⟨G.e.ids,Nat.le_refl _,G.e.ri, fun o ho=>by
 obtain ⟨i,hi,rfl⟩:=List.getElem_of_mem ho
 exact S.op i hi⟩
def posF (l:List ID) (x:ID):Nat:=(l.filter fun y=>decide (kd y<kd x)).length
theorem zle {l:List ID} (hi:z8l l=true) (x:ID):Pos l x (posF l x):=by
 obtain ⟨k,hk⟩:=z12o hi x;have hkl:=hk.le
 have:posF l x=k:=by
  unfold posF;rw [← List.take_append_drop k l,List.filter_append,List.filter_eq_self.2 fun y hy=>?_,List.filter_eq_nil_iff.2 fun y hy=>?_]
  ·simp; omega
  ·obtain ⟨i,hi',rfl⟩:=List.getElem_of_mem hy;rw [List.length_drop] at hi';rw [List.getElem_drop]
   have:=hk.hi (k+i) (by omega) (by omega)
   simp; omega
  ·obtain ⟨i,hi',rfl⟩:=List.getElem_of_mem hy;rw [List.length_take] at hi';rw [List.getElem_take]
   have:=hk.lo i (by omega) (by omega)
   simpa using this
 rw [this]; exact hk
def zf8 (g:z00) (p:ID × z0a):z00:=if p.1∈g.IDs then g else insG g (posF g.IDs p.1) p.1 p.2
theorem zoo {n:Nat} (h:Fit g n) {p:ID × z0a} (hp:p.2.Preds.length≤20∧p.2.Act.Key.length≤100∧p.2.Act.Value.Text.length≤100):Fit (zf8 g p) (n+1):=by
 unfold zf8
 split
 ·exact ⟨h.ids, by have:=h.len; omega,h.ri,h.op⟩
 ·rename_i hx;have hk:=zle h.ri p.1;have hkl:=hk.le;have hi:=h.ids;refine ⟨?_,?_,z12n h.ri hx hk, fun o ho=>?_⟩
  ·show (zha g.IDs _ _).length=(zha g.Ops _ _).length;rw [zjq hkl,zjq (by omega),hi]
  ·show (zha g.Ops _ _).length≤_;rw [zjq (by omega)]; have:=h.len; omega
  ·rcases zlh.1 ho with rfl | ho
   ·exact hp
   ·exact h.op o ho
theorem z14c {n:Nat} (h:Fit g n) (hn:n≤900) (p:ID × z0a) (hp:p.2.Preds.length≤20):zif g p.1 p.2=some (zf8 g p,!decide (p.1∈g.IDs)):=by
 have h1:=h.len;have h2:=h.ids;unfold zf8;by_cases hx:p.1∈g.IDs
 ·rw [z17i (by omega) h.ri hx,if_pos hx,decide_eq_true hx]; rfl
 ·obtain ⟨k,k1,k2⟩:=z14g h2 (by omega) h.ri hx (o:=p.2) (by omega) (fun q hq=>by have:=(h.op q hq).1; omega);rw [k1,if_neg hx,decide_eq_false hx,k2.uniq (zle h.ri p.1)]; rfl
end
section
open Go
variable {g h a b:z00} {n m:Nat}
theorem zzi:∀ {l:List Nat} {x:Nat},x∈l→x≤l.sum
 | [],_,h=>by simp at h
 | y::l,x,h=>by
  rw [List.sum_cons];rcases List.mem_cons.1 h with rfl | h
  ·omega
  ·have:=zzi h; omega
def z5q (g:z00) (x:ID):Option z0a:=if x∈g.IDs then g.Ops[g.IDs.idxOf x]? else none
theorem zcf (F:Fit g n) {x:ID} {o:z0a}:z5q g x=some o↔∃ i:Nat,g.IDs[i]? = some x∧g.Ops[i]? = some o:=by
 unfold z5q
 constructor
 ·intro h
  split at h
  ·rename_i hx;exact ⟨_, by rw [List.getElem?_eq_getElem (List.idxOf_lt_length_of_mem hx)]; simp,h⟩
  ·cases h
 ·rintro ⟨i,h1,h2⟩
  obtain ⟨hi,rfl⟩:=List.getElem?_eq_some_iff.1 h1;rw [if_pos (List.getElem_mem hi),zj3 F.ri hi,h2]
theorem zbj (F:Fit g n) {i:Nat} (hi:i<g.Ops.length):z5q g (g.IDs[i]'(by rw [F.ids]; exact hi))=some g.Ops[i] :=
 (zcf F).2 ⟨i,List.getElem?_eq_getElem (by rw [F.ids]; exact hi),List.getElem?_eq_getElem hi⟩
theorem zdh {x:ID} {o:z0a} (h:z5q g x=some o):x∈g.IDs∧o∈g.Ops:=by
 unfold z5q at h
 split at h
 ·exact ⟨by assumption,List.mem_of_getElem? h⟩
 ·cases h
theorem zxn (F:Fit g n) {x:ID} (hx:x∈g.IDs):∃ o,z5q g x=some o:=by
 have h1:g.IDs.idxOf x<g.Ops.length:=by rw [← F.ids]; exact List.idxOf_lt_length_of_mem hx
 exact ⟨g.Ops[g.IDs.idxOf x], by unfold z5q; rw [if_pos hx,List.getElem?_eq_getElem h1]⟩
theorem zzn {x:ID} (hx:x∉g.IDs):z5q g x=none:=by unfold z5q; rw [if_neg hx]
theorem zsq (F:Fit g n) (p:ID × z0a) {x:ID}:x∈(zf8 g p).IDs↔x=p.1∨x∈g.IDs:=by
 unfold zf8
 split
 ·rename_i h; constructor
  ·exact .inr
  ·rintro (rfl | h2)
   ·exact h
   ·exact h2
 ·exact zlh
theorem ztp (F:Fit g n) {p:ID × z0a} (hp:p.2.Preds.length≤20∧p.2.Act.Key.length≤100∧p.2.Act.Value.Text.length≤100) (hx:p.1∉g.IDs) (y:ID):z5q (zf8 g p) y=if y=p.1 then some p.2 else z5q g y:=by
 have Fa:=zoo F hp;have hk:=zle F.ri p.1;have hkl:=hk.le;have hi:=F.ids;have e:zf8 g p=insG g (posF g.IDs p.1) p.1 p.2:=by unfold zf8; rw [if_neg hx]
 rw [e] at Fa ⊢;generalize posF g.IDs p.1=k at hk hkl Fa;by_cases hy:y=p.1
 ·rw [if_pos hy,zcf Fa];exact ⟨k, by show (zha g.IDs k p.1)[k]? = _; rw [zt4 hkl,hy],zt4 (by omega)⟩
 ·rw [if_neg hy]
  cases ho:z5q g y with
  | some o =>
   obtain ⟨i,h1,h2⟩:=(zcf F).1 ho;rw [zcf Fa];by_cases hik:i<k
   ·exact ⟨i, by show (zha g.IDs k p.1)[i]? = _; rw [zsk hkl hik,h1], by show (zha g.Ops k p.2)[i]? = _; rw [zsk (by omega) hik,h2]⟩
   ·exact ⟨i+1, by show (zha g.IDs k p.1)[i+1]? = _; rw [zsn hkl (by omega)]; exact h1, by show (zha g.Ops k p.2)[i+1]? = _; rw [zsn (by omega) (by omega)]; exact h2⟩
  | none =>
   refine zzn fun hm=>?_;rcases zlh.1 hm with rfl | hm
   ·exact hy rfl
   ·obtain ⟨o,h⟩:=zxn F hm; rw [h] at ho; cases ho
def zyf (g:z00) (rk:ID→Nat):Prop:=∀ x o,z5q g x=some o→∀ p∈o.Preds,rk p<rk x
theorem zy0 (G:z7v g) (F:Fit g n):∃ rk,zyf g rk:=by
 obtain ⟨Q,-,q1,q2,q3⟩:=ztv G.e G.ins;refine ⟨fun x=>Q.idxOf (g.IDs.idxOf x), fun x o ho p hp=>?_⟩;obtain ⟨i,h1,h2⟩:=(zcf F).1 ho;obtain ⟨hi,rfl⟩:=List.getElem?_eq_some_iff.1 h1;obtain ⟨hio,rfl⟩:=List.getElem?_eq_some_iff.1 h2;have hiQ:i∈Q:=(q3 i).2 ⟨hio,G.wf i hio⟩;have hk:Q.idxOf i<Q.length:=List.idxOf_lt_length_of_mem hiQ;show Q.idxOf (g.IDs.idxOf p)<Q.idxOf (g.IDs.idxOf g.IDs[i]);rw [zj3 F.ri hi]
 have hm:=q2 (Q.idxOf i) hk (g.IDs.idxOf p) (by
  have:Q[Q.idxOf i]=i:=by simp
  rw [this];unfold z23
  exact List.mem_map.2 ⟨p, by rw [z72 hio]; exact hp,rfl⟩)
 obtain ⟨j,hj,e⟩:=List.getElem_of_mem hm;rw [List.length_take] at hj;rw [List.getElem_take] at e
 have:Q.idxOf (g.IDs.idxOf p)≤j:=by
  rw [← e];exact Nat.le_of_not_lt fun c=>by
   have:=List.not_of_lt_findIdx (p:=fun y=>y==Q[j]) (xs:=Q) (i:=j) (by simpa [List.idxOf] using c)
   simp at this
 omega
structure z12z (g:z00):Prop where
 ops:∀ x o,z5q g x=some o→zf3 o=0∧sha (zfl o)=x∧o.Preds.length≤4∧z8l o.Preds=true
 ins:∀ x o,z5q g x=some o→∀ p∈o.Preds,p∈g.IDs
 rk:∃ rk,zyf g rk
theorem zu6 (G:z7v g) (F:Fit g n):z12z g:=by
 refine ⟨fun x o ho=>?_, fun x o ho p hp=>?_,zy0 G F⟩
 ·obtain ⟨i,h1,h2⟩:=(zcf F).1 ho;obtain ⟨hi,rfl⟩:=List.getElem?_eq_some_iff.1 h1;obtain ⟨hio,rfl⟩:=List.getElem?_eq_some_iff.1 h2;obtain ⟨k1,k2⟩:=G.ops i hio;exact ⟨k1,k2.trans (z3j hi),G.e.op i hio⟩
 ·obtain ⟨i,h1,h2⟩:=(zcf F).1 ho;obtain ⟨hio,rfl⟩:=List.getElem?_eq_some_iff.1 h2;exact zdd G.ins i p (by rw [z72 hio]; exact hp)
theorem zy1 (F:Fit g 60) (S:z12z g):z7v g:=by
 have hl:=F.len;have E:zc6 g:=⟨hl,F.ids,F.ri, fun i hi=>(S.ops _ _ (zbj F hi)).2.2⟩
 have hin:zfy g=true:=by
  unfold zfy;rw [List.all_eq_true];intro o ho;rw [List.all_eq_true];intro p hp;obtain ⟨i,hi,rfl⟩:=List.getElem_of_mem ho
  simpa using S.ins _ _ (zbj F hi) p hp
 obtain ⟨rk,hrk⟩:=S.rk;refine ⟨E, fun i hi=>?_,hin, fun i hi=>?_⟩
 ·obtain ⟨k1,k2,-⟩:=S.ops _ _ (zbj F hi);exact ⟨k1,k2.trans (z3j (by rw [F.ids]; exact hi)).symm⟩
 ·have key:∀ r i (hi:i<g.Ops.length),rk (g.IDs[i]'(by rw [F.ids]; exact hi))=r→Wf (z23 g) i:=by
   intro r
   induction r using Nat.strongRecOn with
   | _ r ih =>
    intro i hi hr;refine .mk i fun p hp=>?_;unfold z23 at hp;obtain ⟨x,hx,rfl⟩:=List.mem_map.1 hp;rw [z72 hi] at hx;have hlt:=hrk _ _ (zbj F hi) x hx;have hxm:=S.ins _ _ (zbj F hi) x hx;have hpl:g.IDs.idxOf x<g.IDs.length:=List.idxOf_lt_length_of_mem hxm;refine ih (rk x) (by omega) (g.IDs.idxOf x) (by rw [← F.ids]; exact hpl) ?_
    congr 1
    simp
  exact key _ i hi rfl
theorem z10c (F:Fit g n) (S:z12z g) {p:ID × z0a} (hp:p.2.Preds.length≤20∧p.2.Act.Key.length≤100∧p.2.Act.Value.Text.length≤100) (hx:p.1∉g.IDs) (h1:zf3 p.2=0∧sha (zfl p.2)=p.1∧p.2.Preds.length≤4∧z8l p.2.Preds=true) (h2:∀ q∈p.2.Preds,q∈g.IDs):z12z (zf8 g p):=by
 obtain ⟨rk,hrk⟩:=S.rk;have hl:=ztp F hp hx;refine ⟨fun x o ho=>?_, fun x o ho q hq=>?_,?_⟩
 ·rw [hl] at ho
  split at ho
  ·rename_i e; cases ho; subst e; exact h1
  ·exact S.ops x o ho
 ·rw [zsq F];rw [hl] at ho
  split at ho
  ·cases ho; exact .inr (h2 q hq)
  ·exact .inr (S.ins x o ho q hq)
 ·refine ⟨fun y=>if y=p.1 then (g.IDs.map rk).sum+1 else rk y, fun x o ho q hq=>?_⟩;have hqm:q∈g.IDs:=by
   rw [hl] at ho
   split at ho
   ·cases ho; exact h2 q hq
   ·exact S.ins x o ho q hq
  have hqp:q≠p.1:=fun e=>hx (e ▸ hqm);simp only [if_neg hqp];rw [hl] at ho
  split at ho
  ·rename_i e;rw [if_pos e]
   have:rk q≤(g.IDs.map rk).sum:=zzi (List.mem_map.2 ⟨q,hqm,rfl⟩)
   omega
  ·rename_i e;rw [if_neg e];exact hrk x o ho q hq
end
section
open Go
variable {g a b:z00} {n m:Nat} {l:List z00}
structure Rp (g:z00):Prop where
 good:z7v g
 op:∀ o∈g.Ops,o.Preds.length≤20∧o.Act.Key.length≤100∧o.Act.Value.Text.length≤100
 wf:z7o g
theorem Rp.fit (h:Rp g):Fit g 60:=⟨h.good.e.ids,h.good.e.len,h.good.e.ri,h.op⟩
theorem Rp.chk (h:Rp g):z3f g=some 0∧z7z g=some 0:=by
 obtain ⟨c,c1,c2,c3⟩:=zuj h.wf
 have:=c3.2 h.good
 subst this;exact ⟨c1,c2⟩
end
section
open Go
variable {g a b:z00} {n m:Nat} {l:List z00}
theorem z13q (F:Fit g n) (hn:n≤1000) (h:∀ o∈g.Ops,zcr o):z7o g:=by
 have h1:=F.len; have h2:=F.ids;exact ⟨⟨fun x _ y _=>trivial, by omega⟩,⟨h, by omega⟩,trivial⟩
end
section
open Go
variable {g a b:z00} {n m:Nat} {l l0:List z00}
def zxt (l:List z00):Prop:=∀ g∈l,∀ h∈l,g.IDs=h.IDs
instance (l:List z00):Decidable (zxt l):=by unfold zxt; exact inferInstance
theorem zku (l:List z00):∀ (d i:Nat),11 - i=d→i≤11→∃ r,iter (z4n l) (i:Int)=some r∧(r=.inl true∨(r=.inr ()∧∀ j (h:j<l.length),i≤j→j≤10→zvp l[j]))
 | 0,i,hd,hi=>by
  have:i=11:=by omega
  subst this;refine ⟨.inr (),z1s ?_,.inr ⟨rfl, fun j hj h1 h2=>by omega⟩⟩;unfold z4n
  split
  ·rw [if_neg (by simp)]
  ·rfl
 | d+1,i,hd,hi=>by
  by_cases hl:i<l.length
  ·obtain ⟨b,b1,b2⟩:=z11u l[i];have hF:z4n l (i:Int)=if b then some (.inl (.inl true)) else some (.inr ((i+1:Nat):Int)):=by
    unfold z4n;rw [if_pos (by simpa using hl),if_pos (by simp; omega),z0f hl,z0u (by omega)];simp only [bS];rw [b1];simp only [bS]
   cases b with
   | true=>exact ⟨_,z1s hF,.inl rfl⟩
   | false =>
    rw [if_neg (by simp)] at hF;rw [z24 hF];obtain ⟨r,r1,r2⟩:=zku l d (i+1) (by omega) (by omega);refine ⟨r,r1,r2.imp id fun h=>⟨h.1, fun j hj h1 h2=>?_⟩⟩;by_cases e:j=i
    ·subst e; exact b2 rfl
    ·exact h.2 j hj (by omega) h2
  ·refine ⟨.inr (),z1s ?_,.inr ⟨rfl, fun j hj h1 h2=>by omega⟩⟩;unfold z4n;rw [if_neg (by simp; omega)]
theorem z16g (l:List z00):∃ b,z9s l=some b∧(b=false→l.length≤10∧∀ g∈l,zvp g):=by
 obtain ⟨r,r1,r2⟩:=zku l _ 0 rfl (by omega);unfold z9s;rw [show (0:Int)=((0:Nat):Int) from rfl,r1];rcases r2 with rfl | ⟨rfl,h⟩
 ·exact ⟨true,rfl, by simp⟩
 ·refine ⟨_,rfl, fun hb=>?_⟩;have hl:l.length≤10:=by simp at hb; omega
  exact ⟨hl, fun g hg=>by obtain ⟨j,hj,rfl⟩:=List.getElem_of_mem hg; exact h j hj (Nat.zero_le _) (by omega)⟩
end
section
open Go
variable {g:z00}
abbrev Str:=List UInt8
theorem zuk (x y:Str):zes x y=decide (x<y):=bytesLess_eq x y
def zkq (l:List Str):Prop:=l.Pairwise (· < ·)
theorem zlx (x:Str):¬ x<x:=List.lt_irrefl x
theorem z18x {x y:Str} (h:x<y):x≠y:=fun e=>by subst e; exact zlx _ h
theorem zqq {x y:Str} (h:x≤y) (hn:x≠y):x<y:=by
 by_cases c:x<y
 ·exact c
 ·exact absurd (List.le_antisymm h (List.not_lt.1 c)) hn
theorem zs0 {x y z:Str} (h:x<y) (k:y<z):x<z:=List.lt_trans h k
theorem z134 {x y:Str} (h:x<y) (k:y<x):False:=zlx x (zs0 h k)
theorem z142 {x y z:Str} (h:x≤y) (k:y<z):x<z:=by
 by_cases e:x=y
 ·rw [e]; exact k
 ·exact zs0 (zqq h e) k
theorem z15a (x y:Str):x<y∨x=y∨y<x:=by
 by_cases c:x<y
 ·exact .inl c
 ·by_cases e:x=y
  ·exact .inr (.inl e)
  ·exact .inr (.inr (zqq (List.not_lt.1 c) fun h=>e h.symm))
theorem zlv:∀ (l m:List Str),zkq l→zkq m→(∀ x,x∈l↔x∈m)→l=m
 | [],m,_,_,h=>by
  cases m with
  | nil=>rfl
  | cons b m=>have:=(h b).2 (by simp); simp at this
 | a::l,[],_,_,h=>by have:=(h a).1 (by simp); simp at this
 | a::l,b::m,h1,h2,h=>by
  obtain ⟨p1,p2⟩:=List.pairwise_cons.1 h1;obtain ⟨q1,q2⟩:=List.pairwise_cons.1 h2;have hab:a=b:=by
   have ha:=(h a).1 (by simp);have hb:=(h b).2 (by simp);rcases List.mem_cons.1 ha with e | ha'
   ·exact e
   ·rcases List.mem_cons.1 hb with e | hb'
    ·exact e.symm
    ·exact (z134 (q1 a ha') (p1 b hb')).elim
  subst hab
  congr 1
  refine zlv l m p2 q2 fun x=>⟨fun hx=>?_, fun hx=>?_⟩
  ·rcases List.mem_cons.1 ((h x).1 (by simp [hx])) with e | h'
   ·subst e; exact (zlx _ (p1 x hx)).elim
   ·exact h'
  ·rcases List.mem_cons.1 ((h x).2 (by simp [hx])) with e | h'
   ·subst e; exact (zlx _ (q1 x hx)).elim
   ·exact h'
theorem znx {l:List Str} (h:zkq l):l.Nodup:=h.imp fun h=>z18x h
theorem ztk {l:List Str} (h:l.Nodup):zkq (zs2 l):=by
 have h1:=zhu l;have h2:(zs2 l).Nodup:=(zm6 l).nodup_iff.2 h;exact (h1.and h2).imp fun {a b} hab=>zqq hab.1 hab.2
theorem z10v (l:List Str) (hl:l.length≤1000000):zol l=some (zs2 l):=by
 unfold zol; rw [z3k hl]; rfl
theorem zrk {α:Type} {l:List α} {n:Nat} (h:n<l.length):l.take (n+1)=l.take n++[l[n]]:=by
 rw [List.take_add_one,List.getElem?_eq_getElem h]; rfl
theorem zyq {l:List Str} (hso:l.Pairwise (· ≤ ·)) {n i:Nat} (hi:i<l.length) (hn:n≤i+1):∀ x∈l.take n,x≤l[i]:=by
 intro x hx;obtain ⟨j,hj,rfl⟩:=List.getElem_of_mem hx;rw [List.length_take] at hj;rw [List.getElem_take];by_cases hji:j=i
 ·subst hji; exact List.le_refl _
 ·exact List.pairwise_iff_getElem.1 hso j i (by omega) hi (by omega)
theorem zki {l:List Str} {x:Str} (h:zkq l) (hx:∀ y∈l,y<x):zkq (l++[x]):=by
 unfold zkq;rw [List.pairwise_append];exact ⟨h, by simp, fun a ha b hb=>by rw [List.mem_singleton] at hb; subst hb; exact hx a ha⟩
theorem zpc (l:List Str) (hl:l.length≤1000) (hso:l.Pairwise (· ≤ ·)) (s:Nat) (h1:1≤s) (hs:s<l.length) (hst:zkq (l.take s)) (heq:l[s]=l[s - 1]) :
  ∃ b:List Str × Int,iter (z2q l s) (l,(s:Int),1)=some b∧b.1.length=l.length∧∃ j:Nat,b.2=(j:Int)∧j<l.length∧zkq (b.1.take j)∧∀ x,x∈b.1.take j↔x∈l:=by
 refine z62 (F:=z2q l s) (l.length - s)
  (fun i st=>st.1.length=l.length∧st.2.2=(i:Int)∧1≤i∧∃ j:Nat,st.2.1=(j:Int)∧j+1≤s+i∧(∀ q,s+i - 1≤q→st.1[q]? = l[q]?)∧zkq (st.1.take j)∧∀ x,x∈st.1.take j↔x∈l.take (s+i)) _ ?_ ?_ _ 1 (by omega)
  ⟨rfl,rfl, by omega,s,rfl, by omega, fun _ _=>rfl,hst, fun x=>?_⟩
 ·rintro i ⟨c,j',i'⟩ hi ⟨e1,e2,e0,j,e3,e4,e5,e6,e7⟩
  simp only at e1 e2 e3 e5 e6 e7;subst e2 e3;have g1:c[s+i]'(by omega)=l[s+i]'(by omega):=by
   have:=e5 (s+i) (by omega)
   rw [List.getElem?_eq_getElem (by omega),List.getElem?_eq_getElem (by omega)] at this;exact Option.some.inj this
  have g2:c[s+(i - 1)]'(by omega)=l[s+(i - 1)]'(by omega):=by
   have:=e5 (s+(i - 1)) (by omega)
   rw [List.getElem?_eq_getElem (by omega),List.getElem?_eq_getElem (by omega)] at this;exact Option.some.inj this
  have hs1:l.take (s+(i+1))=l.take (s+i)++[l[s+i]'(by omega)]:=zrk (n:=s+i) (by omega);unfold z2q;rw [if_pos (by simp; omega)];simp only [Int.toNat_natCast];rw [zp1 (by omega),z12 (x:=(i:Int) - 1) (by omega) (by omega), show ((i:Int) - 1)=((i - 1:Nat):Int) by omega,zp1 (by omega)];simp only [bS];rw [z0f (by omega),z0f (by omega)];simp only [bS];by_cases hc:c[s+i]'(by omega)=c[s+(i - 1)]'(by omega)
  ·rw [if_neg (by simpa using hc)];refine ⟨_,rfl,e1,z0u (by omega), by omega,j,rfl, by omega, fun q hq=>e5 q (by omega),e6, fun x=>?_⟩;rw [e7,hs1,List.mem_append];refine ⟨.inl, fun h=>h.elim id fun h=>?_⟩;have hx:x=l[s+i]'(by omega):=List.mem_singleton.1 h;rw [hx,← g1,hc,g2,List.mem_take_iff_getElem];exact ⟨s+(i - 1), by omega,rfl⟩
  ·rw [if_pos (by simpa using hc),z0f (by omega)];simp only [bS];have hset:(c.set j (l[s+i]'(by omega))).take (j+1)=c.take j++[l[s+i]'(by omega)]:=by
    rw [zrk (by rw [List.length_set]; omega),List.take_set_of_le (Nat.le_refl _),List.getElem_set_self]
   refine ⟨_,rfl, by simpa using e1,z0u (by omega), by omega,j+1,z0u (by omega), by omega, fun q hq=>?_,?_, fun x=>?_⟩
   ·show (c.set j _)[q]? = _;rw [List.getElem?_set_ne (by omega)]; exact e5 q (by omega)
   ·show zkq ((c.set j (c[s+i]'(by omega))).take (j+1));rw [g1,hset];refine zki e6 fun y hy=>?_;have h1:=zyq hso (n:=s+i) (i:=s+(i - 1)) (by omega) (by omega) y ((e7 y).1 hy);have h2:l[s+(i - 1)]'(by omega)≤l[s+i]'(by omega):=List.pairwise_iff_getElem.1 hso _ _ (by omega) (by omega) (by omega);exact z142 h1 (zqq h2 fun e=>hc (by rw [g1,g2]; exact e.symm))
   ·show x∈(c.set j (c[s+i]'(by omega))).take (j+1)↔_;rw [g1,hset,hs1,List.mem_append,List.mem_append,e7]
 ·rintro ⟨c,j',i'⟩ ⟨e1,e2,e0,j,e3,e4,e5,e6,e7⟩
  simp only at e1 e2 e3 e5 e6 e7;subst e2 e3;unfold z2q;rw [if_neg (by simp <;> omega)]
  refine ⟨_,rfl,e1,j,rfl, by omega,e6, fun x=>?_⟩;rw [e7,List.take_of_length_le (by omega)]
 ·show x∈l.take s↔x∈l.take (s+1);rw [zrk hs,List.mem_append];refine ⟨.inl, fun h=>h.elim id fun h=>?_⟩;have hx:x=l[s]:=List.mem_singleton.1 h;rw [hx,heq,List.mem_take_iff_getElem];exact ⟨s - 1, by omega,rfl⟩
theorem zm1 (l:List Str) (hl:l.length≤1000) (hso:l.Pairwise (· ≤ ·)):∃ c,z4c l=some c∧zkq c∧∀ x,x∈c↔x∈l:=by
 have key:∀ k n,l.length - n=k→1≤n→n≤l.length→zkq (l.take n)→∃ r:Sum (List Str) Unit,iter (z1k l) (n:Int)=some r∧((r=.inr ()∧zkq l)∨(∃ c,r=.inl c∧zkq c∧∀ x,x∈c↔x∈l)):=by
  intro k
  induction k with
  | zero =>
   intro n hk h1 hn hst;refine ⟨_,z1s ?_,.inl ⟨rfl,?_⟩⟩
   ·unfold z1k;rw [if_neg (by simp; omega)]
   ·rw [List.take_of_length_le (by omega)] at hst; exact hst
  | succ k ih =>
   intro n hk h1 hn hst;have hlt:n<l.length:=by omega
   by_cases hc:l[n]=l[n - 1]
   ·obtain ⟨⟨c,j'⟩,e1,e2,j,e3,e4,e5,e6⟩:=zpc l hl hso n h1 hlt hst hc;simp only at e2 e3 e5 e6;subst e3;have hF:z1k l (n:Int)=some (.inl (.inl (c.take j))):=by
     unfold z1k;rw [if_pos (by simp; omega),z0f hlt,z12 (by omega) (by omega), show ((n:Int) - 1)=((n - 1:Nat):Int) by omega,z0f (by omega)];simp only [bS];rw [if_pos (by simpa using hc),z3k (by omega)];simp only [bS];rw [e1];simp only [bS];rw [z3k (by omega),z3k (by simp; omega)];simp only [bS,Int.toNat_natCast];rw [show (0:Int)=((0:Nat):Int) from rfl,zm3 (by omega) (by rw [zxe _ _ _ _ (by omega)]; omega)]
     simp only [bS,List.drop_zero,Nat.sub_zero]
     have:(clr c j (c.length - j) ([]:Str)).take j=c.take j:=by
      unfold clr
      first
       | rw [List.append_assoc,List.take_append_of_le_length (by rw [List.length_take]; omega),List.take_take,Nat.min_self]
       | rw [List.take_append_of_le_length (by rw [List.length_take]; omega),List.take_take,Nat.min_self]
     rw [this]
    exact ⟨_,z1s hF,.inr ⟨_,rfl,e5,e6⟩⟩
   ·have hF:z1k l (n:Int)=some (.inr ((n+1:Nat):Int)):=by
     unfold z1k;rw [if_pos (by simp; omega),z0f hlt,z12 (x:=(n:Int) - 1) (by omega) (by omega), show ((n:Int) - 1)=((n - 1:Nat):Int) by omega,z0f (by omega)];simp only [bS];rw [if_neg (by simpa using hc),z0u (by omega)]
    obtain ⟨r,h2,h3⟩:=ih (n+1) (by omega) (by omega) (by omega) (by
     rw [zrk hlt];refine zki hst fun y hy=>?_;have h1':=zyq hso (n:=n) (i:=n - 1) (by omega) (by omega) y hy;have h2':l[n - 1]'(by omega)≤l[n]:=List.pairwise_iff_getElem.1 hso _ _ (by omega) hlt (by omega)
     exact z142 h1' (zqq h2' fun e=>hc e.symm))
    exact ⟨r, by rw [z24 hF]; exact h2,h3⟩
 unfold z4c;by_cases h2:l.length<2
 ·rw [if_pos (by simp; omega)];refine ⟨l,rfl,?_, fun x=>Iff.rfl⟩
  match l,h2 with
  | [],_=>exact List.Pairwise.nil
  | [_],_=>exact List.pairwise_singleton _ _
 ·rw [if_neg (by simp; omega)];obtain ⟨r,e1,e2⟩:=key (l.length - 1) 1 rfl (by omega) (by omega) (by rw [zrk (by omega)]; simp [zkq]);rw [show (1:Int)=((1:Nat):Int) from rfl,e1];rcases e2 with ⟨rfl,h3⟩ | ⟨c,rfl,h3,h4⟩
  ·exact ⟨l,rfl,h3, fun x=>Iff.rfl⟩
  ·exact ⟨c,rfl,h3,h4⟩
theorem zok (l:List Str) (hl:l.length≤1000):z7s l l=some true:=by
 unfold z7s;rw [if_neg (by simp)]
 have:iter (z5u l l) ((0:Nat):Int)=some (.inr ()):=by
  refine z4b l.length (fun i=>(i:Int)) (fun i hi=>?_) ?_
  ·unfold z5u;rw [if_pos (by simpa using hi),z0f hi];simp only [bS];rw [if_neg (by simp),z0u (by omega)]
  ·unfold z5u;rw [if_neg (by simp)]
 rw [show (0:Int)=((0:Nat):Int) from rfl,this];rfl
def zt2 (g:z00) (i:Nat) (k:Str):Prop:=∃ j,∃ h:j<g.Ops.length,j<i∧g.Ops[j].Act.Kind≠1∧g.Ops[j].Act.Key=k
theorem zve {k:Str}:¬ zt2 g 0 k:=fun ⟨_,_,h,_⟩=>absurd h (by omega)
theorem zo0 {i:Nat} (hi:i<g.Ops.length) {k:Str}:zt2 g (i+1) k↔zt2 g i k∨g.Ops[i].Act.Kind≠1∧g.Ops[i].Act.Key=k:=by
 constructor
 ·rintro ⟨j,h,h1,h2⟩
  by_cases e:j=i
  ·subst e; exact .inr h2
  ·exact .inl ⟨j,h, by omega,h2⟩
 ·rintro (⟨j,h,h1,h2⟩ | h)
  ·exact ⟨j,h, by omega,h2⟩
  ·exact ⟨i,hi, by omega,h⟩
theorem zll {κ β:Type} [DecidableEq κ] (k:κ) (v:β):∀ m:List (κ × β),(zmz m k v).map Prod.fst=if k∈m.map Prod.fst then m.map Prod.fst else m.map Prod.fst++[k]
 | []=>rfl
 | p::m=>by
  unfold zmz;by_cases h:k=p.1
  ·rw [if_pos h,if_pos (by simp [h])]; rfl
  ·rw [if_neg h,List.map_cons,zll k v m];by_cases h2:k∈m.map Prod.fst
   ·rw [if_pos h2,if_pos (by rw [List.map_cons]; exact List.mem_cons_of_mem _ h2),List.map_cons]
   ·rw [if_neg h2,if_neg (by rw [List.map_cons]; exact fun h3=>(List.mem_cons.1 h3).elim h h2),List.map_cons]; rfl
theorem zw4 {κ β:Type} [DecidableEq κ] {k:κ} {v:β} {m:List (κ × β)} (h:(m.map Prod.fst).Nodup):((zmz m k v).map Prod.fst).Nodup:=by
 rw [zll];by_cases h2:k∈m.map Prod.fst
 ·rw [if_pos h2]; exact h
 ·rw [if_neg h2,List.nodup_append];exact ⟨h, by simp, fun a ha b hb e=>by rw [List.mem_singleton] at hb; subst hb; subst e; exact h2 ha⟩
theorem z110 {κ β:Type} [DecidableEq κ] {k x:κ} {v:β} {m:List (κ × β)}:x∈(zmz m k v).map Prod.fst↔x∈m.map Prod.fst∨x=k:=by
 rw [zll];by_cases h2:k∈m.map Prod.fst
 ·rw [if_pos h2]; exact ⟨.inl, fun h=>h.elim id fun e=>e ▸ h2⟩
 ·rw [if_neg h2,List.mem_append,List.mem_singleton]
theorem z10r {κ β:Type} [DecidableEq κ] {k:κ} {v:β} {m:List (κ × β)}:(zmz m k v).length≤m.length+1:=by
 have h:=congrArg List.length (zll k v m);rw [List.length_map] at h;rw [h]
 split <;> simp
theorem zv1:∀ (m:List (Str × Bool)) (acc:List Str),acc.length+m.length≤1000→zk7 (fun e s=>z84 e.1 e.2 s) m acc=some (acc++m.map Prod.fst)
 | [],acc,_=>by rw [List.map_nil,List.append_nil]; rfl
 | p::m,acc,h=>by
  rw [List.length_cons] at h;have e:z84 p.1 p.2 acc=some (acc++[p.1]):=by
   unfold z84;rw [z2y (by simp; omega)];rfl
  have h2:=zv1 m (acc++[p.1]) (by simp; omega);unfold zk7;simp only [e,bS];rw [h2]
  simp
theorem z11z (hl:g.Ops.length≤60):∃ m,iter (z81 g) ([],0)=some m∧(m.map Prod.fst).Nodup∧m.length≤60∧∀ k,k∈m.map Prod.fst↔zt2 g g.Ops.length k:=by
 refine z62 (F:=z81 g) g.Ops.length (fun i s=>s.2=(i:Int)∧(s.1.map Prod.fst).Nodup∧s.1.length≤i∧∀ k,k∈s.1.map Prod.fst↔zt2 g i k) _ (fun i s hi=>?_) (fun s=>?_) ([],0) 0 (Nat.zero_le _) ⟨rfl,List.Pairwise.nil,Nat.le_refl _, fun k=>⟨fun h=>absurd h (by simp), fun h=>absurd h zve⟩⟩
 ·obtain ⟨m,i'⟩:=s
  rintro ⟨e1,e2,e3,e4⟩
  simp only at e1 e2 e3 e4;subst e1;unfold z81;rw [if_pos (by simpa using hi)];simp only [z0f hi,bS,z0u (n:=i) (by omega)];by_cases c:g.Ops[i].Act.Kind=1
  ·rw [if_neg (by simp [c])];refine ⟨_,rfl,rfl,e2, by simp only; omega, fun k=>?_⟩;rw [zo0 hi];exact (e4 k).trans ⟨.inl, fun h=>h.elim id fun h=>absurd c h.1⟩
  ·rw [if_pos (by simpa using c)];refine ⟨_,rfl,rfl,zw4 e2,Nat.le_trans z10r (by omega), fun k=>?_⟩;rw [zo0 hi];refine z110.trans ?_;rw [e4];exact ⟨fun h=>h.imp id fun h=>⟨c,h.symm⟩, fun h=>h.imp id fun h=>h.2.symm⟩
 ·rintro ⟨e1,e2,e3,e4⟩
  unfold z81;rw [if_neg (by rw [e1]; simp)]
  exact ⟨_,rfl,e2, by omega,e4⟩
end
section
open Go
variable {g:z00}
theorem z16k (r:List ID × Int) (hr:r.1.length≤1000) (m:List (ID × Bool)):∃ b,iter (z7l r) (m,0)=some b∧∃ m',b=.inr m'∧∀ x,(zax m' x).getD false=true↔(zax m x).getD false=true∨x∈r.1:=by
 refine z62 (F:=z7l r) r.1.length (fun i s=>s.2=(i:Int)∧∀ x,(zax s.1 x).getD false=true↔(zax m x).getD false=true∨x∈r.1.take i) _ (fun i s hi=>?_) (fun s=>?_) (m,0) 0 (Nat.zero_le _) ⟨rfl, fun x=>by simp⟩
 ·obtain ⟨m1,i'⟩:=s
  rintro ⟨e1,e2⟩
  simp only at e1 e2;subst e1;unfold z7l;rw [if_pos (by simpa using hi)];simp only [z0f hi,bS,z0u (n:=i) (by omega)];refine ⟨_,rfl,rfl, fun x=>?_⟩;rw [ziy,zrk hi,List.mem_append,List.mem_singleton];by_cases e:x=r.1[i]
  ·rw [if_pos e]; simp [e]
  ·rw [if_neg e,e2];simp [e]
 ·rintro ⟨e1,e2⟩
  unfold z7l;rw [if_neg (by rw [e1]; simp)]
  exact ⟨_,rfl,_,rfl, fun x=>by rw [e2,List.take_length]⟩
def kO (g:z00) (i:Nat):z0a:=match g.Ops[i]? with | some o=>o | none=>⟨0,[],0,⟨0,[],⟨0,0,0,[]⟩⟩,⟨0,0⟩⟩
theorem znn {i:Nat} (h:i<g.Ops.length):g.Ops[i]=kO g i:=by unfold kO; rw [List.getElem?_eq_getElem h]
def zcl (g:z00) (key:Str):Nat→Option Nat
 | 0=>none
 | i+1=>if (kO g i).Act.Kind=4∧(kO g i).Act.Key=key∧(∀ b,zcl g key i=some b→(kO g b).Stamp≤(kO g i).Stamp) then some i else zcl g key i
def bI:Option Nat→Int
 | none=>-1
 | some b=>(b:Int)
theorem z19k (b:Nat):¬ bI (some b)<0:=by unfold bI; simp only; omega
theorem zhv (b:Nat):bI (some b)=(b:Int):=rfl
def inN (g:z00) (key:Str) (N:ID→Bool):Nat→Bool
 | 0=>false
 | i+1=>inN g key N i || (decide ((kO g i).Act.Kind=2)&&decide ((kO g i).Act.Key=key)&&!N (zb2 g i))
def vN (g:z00):Option Nat→z02
 | none=>⟨0,0,0,[]⟩
 | some b=>(kO g b).Act.Value
theorem zx1 (key:Str):∀ (i b:Nat),zcl g key i=some b→b<i
 | 0,b,h=>by simp [zcl] at h
 | i+1,b,h=>by
  unfold zcl at h
  split at h
  ·cases h; omega
  ·have:=zx1 key i b h; omega
theorem zgn {a b:UInt64}:a≤b↔a<b∨b=a:=by
 rw [UInt64.le_iff_toNat_le,UInt64.lt_iff_toNat_lt,← UInt64.toNat_inj];omega
theorem z19m (G:z7v g) (key:Str) (m:List (ID × Bool)):iter (z91 g key m) (⟨false,⟨0,0,0,[]⟩⟩,-1,0)=some ⟨inN g key (fun x=>(zax m x).getD false) g.Ops.length,vN g (zcl g key g.Ops.length)⟩:=by
 have hl:=G.e.len;refine z4b g.Ops.length (fun i=>((⟨inN g key (fun x=>(zax m x).getD false) i,vN g (zcl g key i)⟩:z0j),bI (zcl g key i),(i:Int))) (fun i hi=>?_) ?_
 ·have hid:i<g.IDs.length:=by rw [G.e.ids]; exact hi
  unfold z91;rw [if_pos (by simpa using hi)];simp only [z0f hi,bS,z0u (n:=i) (by omega)];simp only [znn hi];by_cases c:(kO g i).Act.Key=key
  ·rw [if_neg (by simp [c])];by_cases c2:(kO g i).Act.Kind=2
   ·have c4:¬ (kO g i).Act.Kind=4:=by rw [c2]; decide
    have hb:zcl g key (i+1)=zcl g key i:=by show (if _ then _ else _)=_; rw [if_neg fun h=>c4 h.1]
    rw [if_pos (by simp [c2]),z0f hid,← z3j hid];simp only [bS];by_cases c5:(zax m (zb2 g i)).getD false=true
    ·have hin:inN g key (fun x=>(zax m x).getD false) (i+1)=inN g key (fun x=>(zax m x).getD false) i:=by
      show (_ || _)=_;simp [c5]
     rw [if_neg (by simp [c5]),if_neg (by simp [c4])];simp only [bS,Bool.false_eq_true,if_false,hin,hb,zhv]
    ·have hin:inN g key (fun x=>(zax m x).getD false) (i+1)=true:=by
      show (_ || _)=_;simp only [Bool.not_eq_true] at c5;simp [c5,c,c2]
     simp only [Bool.not_eq_true] at c5;rw [if_pos (by simp [c5])];simp only [hin,hb]
   ·have hin:inN g key (fun x=>(zax m x).getD false) (i+1)=inN g key (fun x=>(zax m x).getD false) i:=by
     show (_ || _)=_;simp [c2]
    rw [if_neg (by simpa using c2)];simp only [bS,Bool.false_eq_true,if_false];by_cases c4:(kO g i).Act.Kind=4
    ·rw [if_pos (by simp [c4])]
     cases hbi:zcl g key i with
     | none =>
      have hb:zcl g key (i+1)=some i:=by show (if _ then _ else _)=_; rw [if_pos ⟨c4,c, fun b h=>by rw [hbi] at h; cases h⟩]
      rw [if_pos (by simp [bI])];simp only [bS,if_true,hin,hb,zhv,vN]
     | some b =>
      have hbl:=zx1 key i b hbi;have hbo:b<g.Ops.length:=by omega
      have hbd:b<g.IDs.length:=by omega
      rw [if_neg fun h=>absurd (of_decide_eq_true h) (z19k b)];simp only [zhv,z0f hbo,bS,znn hbo];by_cases s1:(kO g b).Stamp<(kO g i).Stamp
      ·have hb:zcl g key (i+1)=some i:=by show (if _ then _ else _)=_; rw [if_pos ⟨c4,c, fun b' h=>by rw [hbi] at h; cases h; exact zgn.2 (.inl s1)⟩]
       rw [if_pos (by simpa using s1)];simp only [bS,if_true,hin,hb,vN,zhv]
      ·rw [if_neg (by simpa using s1)];by_cases s2:(kO g i).Stamp=(kO g b).Stamp
       ·have hb:zcl g key (i+1)=some i:=by show (if _ then _ else _)=_; rw [if_pos ⟨c4,c, fun b' h=>by rw [hbi] at h; cases h; exact zgn.2 (.inr s2)⟩]
        have hk:=zai G.e.ri hbd hid hbl;rw [if_pos (by simpa using s2),z0f hid,z0f hbd];simp only [bS];rw [zqm,if_neg (by omega),if_pos hk];simp only [bS];rw [if_pos (by decide)];simp only [hin,hb,vN,zhv]
       ·have hb:zcl g key (i+1)=some b:=by
         show (if _ then _ else _)=_;rw [if_neg fun h=>(zgn.1 (h.2.2 b hbi)).elim s1 s2,hbi]
        rw [if_neg (by simpa using s2)];simp only [bS,Bool.false_eq_true,if_false,hin,hb,zhv]
    ·have hb:zcl g key (i+1)=zcl g key i:=by show (if _ then _ else _)=_; rw [if_neg fun h=>c4 h.1]
     rw [if_neg (by simpa using c4)];simp only [bS,Bool.false_eq_true,if_false,hin,hb,zhv]
  ·have hb:zcl g key (i+1)=zcl g key i:=by show (if _ then _ else _)=_; rw [if_neg fun h=>c h.2.1]
   have hin:inN g key (fun x=>(zax m x).getD false) (i+1)=inN g key (fun x=>(zax m x).getD false) i:=by
    show (_ || _)=_;simp [c]
   rw [if_pos (by simpa using c)];simp only [hin,hb]
 ·unfold z91;rw [if_neg (by simp)]
end
section
open Go
variable {g h a b:z00} {n m:Nat}
inductive zs3 (g:z00):ID→ID→Prop
 | one {x y:ID} {o:z0a}:z5q g y=some o→x∈o.Preds→zs3 g x y
 | step {x p y:ID} {o:z0a}:zs3 g p y→z5q g p=some o→x∈o.Preds→zs3 g x y
theorem zte (G:z7v g) {x:ID} {o:z0a} (h:z5q g x=some o):zpr g (g.IDs.idxOf x)=o.Preds:=by
 have hx:=(zdh h).1;unfold z5q at h;rw [if_pos hx] at h;unfold zpr;rw [h]
theorem z14s (G:z7v g) (F:Fit g n) {y:ID} {o:z0a} (hy:z5q g y=some o) {i:Nat} (h:Rch (z23 g) ((zpr g (g.IDs.idxOf y)).map fun x=>g.IDs.idxOf x) i):i<g.Ops.length∧zs3 g (zb2 g i) y:=by
 induction h with
 | base hm =>
  obtain ⟨x,hx,rfl⟩:=List.mem_map.1 hm;have hxg:=(zf4 G.ins hx).1;refine ⟨zpd G hxg,?_⟩;rw [z3j (List.idxOf_lt_length_of_mem hxg),List.getElem_idxOf];rw [zte G hy] at hx;exact .one hy hx
 | step _ hp ih =>
  rename_i t p hr;obtain ⟨x,hx,rfl⟩:=List.mem_map.1 hp;have hxg:=(zf4 G.ins hx).1;refine ⟨zpd G hxg,?_⟩;rw [z3j (List.idxOf_lt_length_of_mem hxg),List.getElem_idxOf];obtain ⟨ih1,ih2⟩:=ih;have hti:t<g.IDs.length:=by rw [F.ids]; exact ih1
  have hl:z5q g (zb2 g t)=some g.Ops[t]:=by rw [z3j hti]; exact zbj F ih1
  rw [z72 ih1] at hx;exact .step ih2 hl hx
theorem zxw (G:z7v g) {x y:ID} (h:zs3 g x y):x∈g.IDs∧Rch (z23 g) ((zpr g (g.IDs.idxOf y)).map fun x=>g.IDs.idxOf x) (g.IDs.idxOf x):=by
 induction h with
 | one hy hx =>
  rw [← zte G hy] at hx;exact ⟨(zf4 G.ins hx).1,.base (List.mem_map.2 ⟨_,hx,rfl⟩)⟩
 | step _ hp hx ih =>
  rw [← zte G hp] at hx;exact ⟨(zf4 G.ins hx).1,.step ih.2 (zf4 G.ins hx).2⟩
theorem z13a (G:z7v g) {x y:ID} (h:zs3 g x y):x∈g.IDs:=(zxw G h).1
def Over (g:z00) (key:Str) (x:ID):Prop:=∃ y q,z5q g y=some q∧q.Act.Key=key∧q.Act.Kind=3∧zs3 g x y
def InS (g:z00) (key:Str):Prop:=∃ x o,z5q g x=some o∧o.Act.Kind=2∧o.Act.Key=key∧¬ Over g key x
def z150 (g:z00) (key:Str) (x:ID) (o:z0a):Prop:=z5q g x=some o∧o.Act.Kind=4∧o.Act.Key=key
def Best (g:z00) (key:Str) (x:ID) (o:z0a):Prop:=z150 g key x o∧∀ y q,z150 g key y q→q.Stamp<o.Stamp∨(q.Stamp=o.Stamp∧kd y≤kd x)
def ValS (g:z00) (key:Str) (v:z02):Prop:=(∃ x o,Best g key x o∧v=o.Act.Value)∨((∀ x o,¬ z150 g key x o)∧v=⟨0,0,0,[]⟩)
theorem zzq (key:Str) (N:ID→Bool):∀ i,inN g key N i=true↔∃ j,j<i∧(kO g j).Act.Kind=2∧(kO g j).Act.Key=key∧N (zb2 g j)=false
 | 0=>by simp [inN]
 | i+1=>by
  show (_ || _)=true↔_;rw [Bool.or_eq_true,zzq key N i]
  constructor
  ·rintro (⟨j,h1,h2⟩ | h)
   ·exact ⟨j, by omega,h2⟩
   ·simp at h;exact ⟨i, by omega,h.1.1,h.1.2,h.2⟩
  ·rintro ⟨j,h1,h2,h3,h4⟩
   by_cases e:j=i
   ·subst e; right; simp [h2,h3,h4]
   ·exact .inl ⟨j, by omega,h2,h3,h4⟩
theorem zls (key:Str):∀ i, match zcl g key i with
  | none=>∀ j,j<i→¬ ((kO g j).Act.Kind=4∧(kO g j).Act.Key=key)
  | some b=>b<i∧(kO g b).Act.Kind=4∧(kO g b).Act.Key=key∧∀ j,j<i→(kO g j).Act.Kind=4→(kO g j).Act.Key=key→(kO g j).Stamp<(kO g b).Stamp∨((kO g j).Stamp=(kO g b).Stamp∧j≤b)
 | 0=>fun j hj=>absurd hj (by omega)
 | i+1=>by
  have ih:=zls key i;unfold zcl;by_cases c:(kO g i).Act.Kind=4∧(kO g i).Act.Key=key∧(∀ b,zcl g key i=some b→(kO g b).Stamp≤(kO g i).Stamp)
  ·rw [if_pos c];refine ⟨by omega,c.1,c.2.1, fun j hj h1 h2=>?_⟩;by_cases e:j=i
   ·subst e; exact .inr ⟨rfl,Nat.le_refl _⟩
   ·cases hb:zcl g key i with
    | none=>rw [hb] at ih; exact absurd ⟨h1,h2⟩ (ih j (by omega))
    | some b =>
     rw [hb] at ih;have h3:=c.2.2 b hb;rcases ih.2.2.2 j (by omega) h1 h2 with h4 | ⟨h4,h5⟩
     ·rcases zgn.1 h3 with h6 | h6
      ·left; rw [UInt64.lt_iff_toNat_lt] at *; omega
      ·left; rw [h6]; exact h4
     ·rcases zgn.1 h3 with h6 | h6
      ·left; rw [h4]; exact h6
      ·right; exact ⟨by rw [h4,h6], by omega⟩
  ·rw [if_neg c]
   cases hb:zcl g key i with
   | none =>
    rw [hb] at ih;intro j hj hk;by_cases e:j=i
    ·subst e; exact c ⟨hk.1,hk.2, fun b h=>by rw [hb] at h; cases h⟩
    ·exact ih j (by omega) hk
   | some b =>
    rw [hb] at ih;refine ⟨by omega,ih.2.1,ih.2.2.1, fun j hj h1 h2=>?_⟩;by_cases e:j=i
    ·subst e
     left
     have:¬ (kO g b).Stamp≤(kO g j).Stamp:=fun h3=>c ⟨h1,h2, fun b' hb'=>by rw [hb] at hb'; cases hb'; exact h3⟩;rw [UInt64.le_iff_toNat_le] at this;rw [UInt64.lt_iff_toNat_lt]; omega
    ·exact ih.2.2.2 j (by omega) h1 h2
theorem zmp (F:Fit g n) {i:Nat} (hi:i<g.Ops.length):z5q g (zb2 g i)=some (kO g i):=by
 have hid:i<g.IDs.length:=by rw [F.ids]; exact hi
 rw [z3j hid,← znn hi]; exact zbj F hi
theorem zkb (F:Fit g n) {x:ID} {o:z0a} (h:z5q g x=some o):∃ i,i<g.Ops.length∧kO g i=o∧zb2 g i=x:=by
 obtain ⟨i,h1,h2⟩:=(zcf F).1 h;obtain ⟨hid,rfl⟩:=List.getElem?_eq_some_iff.1 h1;obtain ⟨hi,rfl⟩:=List.getElem?_eq_some_iff.1 h2;exact ⟨i,hi,(znn hi).symm,z3j hid⟩
theorem zpl (F:Fit g n) {i j:Nat} (hi:i<g.Ops.length) (hj:j<g.Ops.length):j≤i↔kd (zb2 g j)≤kd (zb2 g i):=by
 have h1:i<g.IDs.length:=by rw [F.ids]; exact hi
 have h2:j<g.IDs.length:=by rw [F.ids]; exact hj
 rw [z3j h1,z3j h2]
 constructor
 ·intro h;by_cases e:j=i
  ·subst e; exact Nat.le_refl _
  ·exact Nat.le_of_lt (zai F.ri h2 h1 (by omega))
 ·intro h;refine Nat.le_of_not_lt fun c=>?_
  have:=zai F.ri h1 h2 c
  omega
theorem zxv {key:Str} (F:Fit g n) {x y:ID} {o q:z0a} (h1:Best g key x o) (h2:Best g key y q):o=q:=by
 have a1:=h1.2 y q h2.1;have a2:=h2.2 x o h1.1;have e:kd x=kd y:=by
  rcases a1 with a1 | ⟨a1,a3⟩ <;> rcases a2 with a2 | ⟨a2,a4⟩
  ·rw [UInt64.lt_iff_toNat_lt] at *; omega
  ·rw [a2] at a1; rw [UInt64.lt_iff_toNat_lt] at a1; omega
  ·rw [a1] at a2; rw [UInt64.lt_iff_toNat_lt] at a2; omega
  ·omega
 have e:=zqu e;subst e
 have:=h1.1.1
 rw [h2.1.1] at this;exact (Option.some.inj this).symm
theorem zv6 {key:Str} {v w:z02} (F:Fit g n) (h1:ValS g key v) (h2:ValS g key w):v=w:=by
 rcases h1 with ⟨x,o,h1,rfl⟩ | ⟨h1,rfl⟩ <;> rcases h2 with ⟨y,q,h2,rfl⟩ | ⟨h2,rfl⟩
 ·rw [zxv F h1 h2]
 ·exact absurd h1.1 (h2 _ _)
 ·exact absurd h2.1 (h1 _ _)
 ·rfl
end
section
open Go
variable {g:z00}
theorem zr3 (G:z7v g):∃ Q,z69 g=some (il Q)∧zkx (z23 g) g.Ops.length Q∧Q.length=g.Ops.length:=by
 have E:=G.e;have hP:=z15x E G.ins;have hlen:=E.len;have main:=zf0 (F:=z42 g)
  (fun s=>∃ Q b,s=zhf g Q b∧zkx (z23 g) g.Ops.length Q∧(b=false→∀ i,i<g.Ops.length→(∀ p∈z23 g i,p∈Q)→i∈Q))
  (fun s=>(g.Ops.length - s.1.length)+(if s.2.2.2 then 1 else 0))
  (fun r=>∃ Q:List Nat,r=il Q∧zkx (z23 g) g.Ops.length Q∧Q.length=g.Ops.length)
  (fun s hs=>by
   obtain ⟨Q,b,rfl,h1,h3⟩:=hs;obtain ⟨hg,ht⟩:=h1.got;have hql:=hg.len
   cases b with
   | false =>
    left
    refine ⟨il Q,rfl,Q,rfl,h1,?_⟩
    have:¬ Q.length<g.Ops.length:=(zpe hg.nodup hg.lt).2 fun i hi=>by
     have hw:=G.wf i hi
     revert hi
     induction hw with
     | mk i hpi ih=>exact fun hi=>h3 rfl i hi fun p hp=>ih p hp (hP.lt i p hp)
    omega
   | true =>
    right
    obtain ⟨r,e1,e2⟩:=z13x E G.ins Q hg ht;rcases e2 with ⟨i,rfl,e3,e4,e5,e6,e7,e8⟩ | ⟨rfl,e3⟩
    ·refine ⟨_,?_,⟨Q++[i],true,rfl,.snoc h1 ⟨e5,zht.2 ⟨e6,e7⟩, fun j hj=>?_⟩, by simp⟩,?_⟩
     ·unfold z42;exact (if_pos rfl).trans e1
     ·cases hc:zm5 (z23 g) Q j with
      | false=>rfl
      | true =>
       obtain ⟨c1,c2⟩:=zht.1 hc;exact absurd (e8 j hj c2) c1
     ·have:=e3.len
      simp only [zhf,zfi,List.length_append,List.length_cons,List.length_nil] at this ⊢;omega
    ·refine ⟨_,?_,⟨Q,false,rfl,h1, fun _=>e3⟩,?_⟩
     ·unfold z42;exact (if_pos rfl).trans e1
     ·simp [zhf])
  ([],[],List.replicate g.Ops.length false,true) ⟨[],true, by unfold zhf; rw [ze8]; simp [il],.nil, by simp⟩
 obtain ⟨r,e1,Q,rfl,e2,e3⟩:=main;refine ⟨Q,?_,e2,e3⟩;unfold z69;rw [zj7 (by omega) (by omega)];simp only [bS];rw [e1];simp only [bS]
end
section
open Go
variable {g:z00}
def z17n (g:z00) (xs:List ID) (m:Nat→Bool):Prop:=∀ i,m i=true↔Rch (z23 g) (xs.map fun x=>g.IDs.idxOf x) i
theorem z18u (G:z7v g) (h:z3f g=some 0) {x:ID} (hx:x∈g.IDs):∃ m,z4z g x=some (z9d g m,0)∧z17n g (zpr g (g.IDs.idxOf x)) m:=by
 have hk:=zpd G hx;have h4:=G.e.four (g.IDs.idxOf x);obtain ⟨m,r1,r2⟩:=z129 G.e G.ins (zpr g (g.IDs.idxOf x)) (zdd G.ins _) (by omega);refine ⟨m,?_,r2⟩;have d0:((0:Int) != 0)=false:=rfl;unfold z4z;rw [z153 G h,if_pos hx];simp only [bS,d0,Bool.false_eq_true,if_false];rw [z0f hk];simp only [bS];rw [← z72 hk,r1];simp only [bS];rw [zpv G.e m];rfl
theorem z12s (G:z7v g) (h:z3f g=some 0):zbh g=some (z9d g (top g g.Ops.length),0):=by
 have hlen:=G.e.len;have hids:=G.e.ids;obtain ⟨r,p1,p2⟩:=zry G.e;have d0:((0:Int) != 0)=false:=rfl;unfold zbh;rw [h];simp only [bS,d0,Bool.false_eq_true,if_false];rw [p1];simp only [bS];rw [zj7 (by omega) (by omega),hids];simp only [bS];rw [z197 _ (by omega)];simp only [bS];rw [zvy G.e G.ins p2];simp only [bS];rw [zpv G.e];rfl
end
section
open Go
variable {g:z00} {n m:Nat}
theorem z10m (G:z7v g) (F:Fit g n) (h:z3f g=some 0) {y:ID} {o:z0a} (hy:z5q g y=some o):∃ s,z4z g y=some (s,0)∧s.length≤60∧∀ x,x∈s↔zs3 g x y:=by
 obtain ⟨m,p1,p2⟩:=z18u G h (zdh hy).1;refine ⟨_,p1,?_, fun x=>?_⟩
 ·have:=zsv (g:=g) (zg6 G.e m) fun y hy=>((zcz G.e).1 hy).1
  have:=G.e.len; have:=G.e.ids; omega
 ·rw [zcz G.e]
  constructor
  ·rintro ⟨hx,hm⟩
   have:=(z14s G F hy ((p2 _).1 hm)).2
   rwa [zpb hx] at this
  ·intro hx;obtain ⟨hxg,hr⟩:=zxw G hx;exact ⟨hxg,(p2 _).2 hr⟩
theorem zya (F:Fit g n) {i:Nat} (hi:i<g.Ops.length):z5q g (zb2 g i)=some g.Ops[i]:=by
 rw [z3j (by rw [F.ids]; exact hi)]; exact zbj F hi
def zro (g:z00) (key:Str) (i:Nat) (x:ID):Prop:=∃ j,∃ h:j<g.Ops.length,j<i∧g.Ops[j].Act.Key=key∧g.Ops[j].Act.Kind=3∧zs3 g x (zb2 g j)
theorem zo2 {key:Str} {x:ID}:¬ zro g key 0 x:=fun ⟨_,_,h,_⟩=>absurd h (by omega)
theorem zel {key:Str} {i:Nat} (hi:i<g.Ops.length) {x:ID}:zro g key (i+1) x↔zro g key i x∨g.Ops[i].Act.Key=key∧g.Ops[i].Act.Kind=3∧zs3 g x (zb2 g i):=by
 constructor
 ·rintro ⟨j,h,h1,h2⟩
  by_cases e:j=i
  ·subst e; exact .inr h2
  ·exact .inl ⟨j,h, by omega,h2⟩
 ·rintro (⟨j,h,h1,h2⟩ | h)
  ·exact ⟨j,h, by omega,h2⟩
  ·exact ⟨i,hi, by omega,h⟩
theorem zjn (F:Fit g n) {key:Str} {x:ID}:zro g key g.Ops.length x↔Over g key x:=by
 constructor
 ·rintro ⟨j,hj,-,h1,h2,h3⟩
  exact ⟨_,_,zya F hj,h1,h2,h3⟩
 ·rintro ⟨y,q,hy,h1,h2,h3⟩
  obtain ⟨j,j1,j2⟩:=(zcf F).1 hy;obtain ⟨hid,rfl⟩:=List.getElem?_eq_some_iff.1 j1;obtain ⟨hj,rfl⟩:=List.getElem?_eq_some_iff.1 j2;exact ⟨j,hj,hj,h1,h2, by rw [z3j hid]; exact h3⟩
theorem z19h (G:z7v g) (F:Fit g n) (h:z3f g=some 0) (key:Str):∃ b,iter (z7g g key) ([],0)=some b∧∃ m,b=.inr m∧∀ x,(zax m x).getD false=true↔zro g key g.Ops.length x:=by
 have hl:=G.e.len;refine z62 (F:=z7g g key) g.Ops.length (fun i s=>s.2=(i:Int)∧∀ x,(zax s.1 x).getD false=true↔zro g key i x) _ (fun i s hi=>?_) (fun s=>?_) ([],0) 0 (Nat.zero_le _) ⟨rfl, fun x=>⟨fun h=>by simp [zax] at h, fun h=>absurd h zo2⟩⟩
 ·obtain ⟨m,i'⟩:=s
  rintro ⟨e1,e2⟩
  simp only at e1 e2;subst e1;have hid:i<g.IDs.length:=by rw [G.e.ids]; exact hi
  unfold z7g;rw [if_pos (by simpa using hi)];simp only [z0f hi,bS,z0u (n:=i) (by omega)];by_cases c:g.Ops[i].Act.Key=key
  ·rw [if_neg (by simp [c])];by_cases c2:g.Ops[i].Act.Kind=3
   ·rw [if_neg (by simp [c2]),z0f hid];simp only [bS];obtain ⟨s,s1,s2,s3⟩:=z10m G F h (zya F hi);rw [z3j hid] at s1;rw [s1];simp only [bS];rw [if_neg (by simp)];obtain ⟨_,q1,m',rfl,q2⟩:=z16k (s,0) (by simp only; omega) m;rw [q1];simp only [zu0];refine ⟨_,rfl,rfl, fun x=>?_⟩;rw [zel hi];refine (q2 x).trans ?_;rw [e2,← s3];exact ⟨fun h=>h.imp id fun h=>⟨c,c2,h⟩, fun h=>h.imp id fun h=>h.2.2⟩
   ·rw [if_pos (by simpa using c2)];simp only [zu0];refine ⟨_,rfl,rfl, fun x=>?_⟩;rw [zel hi];exact (e2 x).trans ⟨.inl, fun h=>h.elim id fun h=>absurd h.2.1 c2⟩
  ·rw [if_pos (by simpa using c)];simp only [zu0];refine ⟨_,rfl,rfl, fun x=>?_⟩;rw [zel hi];exact (e2 x).trans ⟨.inl, fun h=>h.elim id fun h=>absurd h.1 c⟩
 ·rintro ⟨e1,e2⟩
  unfold z7g;rw [if_neg (by rw [e1]; simp)]
  exact ⟨_,rfl,_,rfl,e2⟩
theorem zyl (G:z7v g) (F:Fit g n) (h:z3f g=some 0) (key:Str):∃ a,z9k g key=some (a,0)∧(a.in_=true↔InS g key)∧ValS g key a.v:=by
 obtain ⟨_,p1,m,rfl,p2⟩:=z19h G F h key;refine ⟨⟨inN g key (fun x=>(zax m x).getD false) g.Ops.length,vN g (zcl g key g.Ops.length)⟩,?_,?_,?_⟩
 ·unfold z9k;rw [p1];simp only [zu0];rw [z19m G key m];rfl
 ·show inN g key _ _=true↔_;rw [zzq]
  constructor
  ·rintro ⟨j,h1,h2,h3,h4⟩
   refine ⟨_,_,zmp F h1,h2,h3, fun ho=>?_⟩;rw [← zjn F,← p2,h4] at ho;simp at ho
  ·rintro ⟨x,o,h1,h2,h3,h4⟩
   obtain ⟨i,hi,rfl,rfl⟩:=zkb F h1;refine ⟨i,hi,h2,h3,?_⟩;rw [← zjn F,← p2,Bool.not_eq_true] at h4;exact h4
 ·show ValS g key (vN g _)
  have:=zls (g:=g) key g.Ops.length
  cases hb:zcl g key g.Ops.length with
  | none =>
   rw [hb] at this;refine .inr ⟨fun x o hs=>?_,rfl⟩;obtain ⟨i,hi,rfl,rfl⟩:=zkb F hs.1;exact this i hi ⟨hs.2.1,hs.2.2⟩
  | some b =>
   rw [hb] at this;refine .inl ⟨zb2 g b,kO g b,⟨⟨zmp F this.1,this.2.1,this.2.2.1⟩, fun y q hs=>?_⟩,rfl⟩;obtain ⟨i,hi,rfl,rfl⟩:=zkb F hs.1;rcases this.2.2.2 i hi hs.2.1 hs.2.2 with h1 | ⟨h1,h2⟩
   ·exact .inl h1
   ·exact .inr ⟨h1,(zpl F this.1 hi).1 h2⟩
theorem zzw (G:z7v g) (F:Fit g n) (h:z3f g=some 0) (key:Str):∃ i v,z4s g key=some (i,v,0)∧z9k g key=some (⟨i,v⟩,0)∧(i=true↔InS g key)∧ValS g key v:=by
 obtain ⟨⟨i,v⟩,a1,a2,a3⟩:=zyl G F h key;refine ⟨i,v,?_,a1,a2,a3⟩;unfold z4s;rw [h];simp only [bS];rw [if_neg (by simp),a1];rfl
theorem z13g (hl:g.Ops.length≤60) (h1:z3f g=some 0):∃ l,z95 g=some (l,0)∧zkq l∧l.length≤g.Ops.length∧∀ k,k∈l↔zt2 g g.Ops.length k:=by
 obtain ⟨m,q1,q2,q3,q4⟩:=z11z hl;have hm:∀ k,k∈zs2 (m.map Prod.fst)↔zt2 g g.Ops.length k:=fun k=>by rw [z12c,q4]
 refine ⟨zs2 (m.map Prod.fst),?_,ztk q2,?_,hm⟩
 ·unfold z95;rw [h1];simp only [bS];rw [if_neg (by simp),q1];simp only [bS];rw [zv1 m [] (by simp; omega),List.nil_append];simp only [bS];rw [z10v _ (by rw [List.length_map]; omega)];simp only [bS]
 ·have:=zav (zs2 (m.map Prod.fst)) (g.Ops.map fun o=>o.Act.Key) (znx (ztk q2)) fun k hk=>by
   obtain ⟨j,hj,-,-,rfl⟩:=(hm k).1 hk;exact List.mem_map.2 ⟨_,List.getElem_mem hj,rfl⟩
  simpa using this
end
section
open Go
variable {g:z00} {n m:Nat}
theorem zr0 (a b:Str):z6h a b=some (zsc a b):=by
  unfold z6h z9u zsc;simp only [bS,bne_self_eq_false,Bool.false_eq_true,if_false]
  cases zes a b <;> cases zes b a <;> rfl
theorem z136 (x y:Int):zeg [x,y]=some (if x=0 then y else x):=by
  have e0:z7p [x,y] ((0:Nat):Int)=if x=0 then some (.inr ((1:Nat):Int)) else some (.inl (.inl x)):=by
    unfold z7p;rw [if_pos (by simp),z0f (by simp),z0u (by omega)];simp only [bS];by_cases h:x=0 <;> simp [h]
  have e1:z7p [x,y] ((1:Nat):Int)=if y=0 then some (.inr ((2:Nat):Int)) else some (.inl (.inl y)):=by
    unfold z7p;rw [if_pos (by simp),z0f (by simp),z0u (by omega)];simp only [bS];by_cases h:y=0 <;> simp [h]
  have e2:z7p [x,y] ((2:Nat):Int)=some (.inl (.inr ())):=by
    unfold z7p;rw [if_neg (by simp)]
  unfold zeg;rw [show (0:Int)=((0:Nat):Int) from rfl];by_cases hx:x=0
  · rw [if_pos hx] at e0
    rw [z24 e0];by_cases hy:y=0
    · rw [if_pos hy] at e1
      rw [z24 e1,z1s e2];simp [z67,hx,hy]
    · rw [if_neg hy] at e1
      rw [z1s e1];simp [z67,hx]
  · rw [if_neg hx] at e0
    rw [z1s e0];simp [z67,hx]
theorem zyv (a b:z11):zce a b=some (cfT a b):=by
  unfold zce cfT;rw [zr0];simp only [bS];rw [show z6p a.ID.toList b.ID.toList=some (Lib.compareBytes a.ID.toList b.ID.toList) from rfl];simp only [bS];rw [z136];rfl
theorem z18d (o:z0a) (r:List ID × Int) (hr:r.1.length≤1000) (m:List (z11 × Bool)):∃ m',iter (zcs o r) (m,0)=some m'∧∀ t,(zax m' t).getD false=true↔(zax m t).getD false=true∨(t.Key=o.Act.Key∧t.ID∈r.1):=by
  refine z62 (F:=zcs o r) r.1.length (fun i s=>s.2=(i:Int)∧∀ t,(zax s.1 t).getD false=true↔(zax m t).getD false=true∨(t.Key=o.Act.Key∧t.ID∈r.1.take i)) _ (fun i s hi=>?_) (fun s=>?_) (m,0) 0 (Nat.zero_le _) ⟨rfl, fun t=>by simp⟩
  · obtain ⟨m1,i'⟩:=s
    rintro ⟨e1,e2⟩
    simp only at e1 e2;subst e1;unfold zcs;rw [if_pos (by simpa using hi)];simp only [z0f hi,bS,z0u (n:=i) (by omega)];refine ⟨_,rfl,rfl, fun t=>?_⟩;rw [ziy,zrk hi,List.mem_append,List.mem_singleton];by_cases e:t=(⟨o.Act.Key,r.1[i]⟩:z11)
    · rw [if_pos e]; simp [e]
    · rw [if_neg e,e2]
      constructor
      · rintro (h | ⟨h1,h2⟩)
        · exact .inl h
        · exact .inr ⟨h1,.inl h2⟩
      · rintro (h | ⟨h1,h2 | h2⟩)
        · exact .inl h
        · exact .inr ⟨h1,h2⟩
        · exact absurd (by cases t; simp only at h1 h2; rw [h1,h2]) e
  · rintro ⟨e1,e2⟩
    unfold zcs;rw [if_neg (by rw [e1]; simp)]
    exact ⟨_,rfl, fun t=>by rw [e2,List.take_length]⟩
theorem z18v (G:z7v g) (F:Fit g n) (h:z3f g=some 0):∃ m,iter (zcq g) ([],0)=some m∧∀ t,(zax m t).getD false=true↔zro g t.Key g.Ops.length t.ID:=by
  have hl:=G.e.len;refine z62 (F:=zcq g) g.Ops.length (fun i s=>s.2=(i:Int)∧∀ t,(zax s.1 t).getD false=true↔zro g t.Key i t.ID) _ (fun i s hi=>?_) (fun s=>?_) ([],0) 0 (Nat.zero_le _) ⟨rfl, fun x=>⟨fun h=>by simp [zax] at h, fun h=>absurd h zo2⟩⟩
  · obtain ⟨m,i'⟩:=s
    rintro ⟨e1,e2⟩
    simp only at e1 e2;subst e1;have hid:i<g.IDs.length:=by rw [G.e.ids]; exact hi
    unfold zcq;rw [if_pos (by simpa using hi)];simp only [z0f hi,bS,z0u (n:=i) (by omega)];by_cases c2:g.Ops[i].Act.Kind=3
    · rw [if_neg (by simp [c2]),z0f hid]
      simp only [bS];obtain ⟨s,s1,s2,s3⟩:=z10m G F h (zya F hi);rw [z3j hid] at s1;rw [s1];simp only [bS];obtain ⟨m',q1,q2⟩:=z18d g.Ops[i] (s,0) (by simp only; omega) m;rw [q1];simp only [bS];refine ⟨_,rfl,rfl, fun t=>?_⟩;rw [zel hi];refine (q2 t).trans ?_;rw [e2,← s3];exact ⟨fun h=>h.imp id fun h=>⟨h.1.symm,c2,h.2⟩, fun h=>h.imp id fun h=>⟨h.1.symm,h.2.2⟩⟩
    · rw [if_pos (by simpa using c2)]
      simp only [bS];refine ⟨_,rfl,rfl, fun t=>?_⟩;rw [zel hi];exact (e2 t).trans ⟨.inl, fun h=>h.elim id fun h=>absurd h.2.1 c2⟩
  · rintro ⟨e1,e2⟩
    unfold zcq;rw [if_neg (by rw [e1]; simp)]
    exact ⟨_,rfl,e2⟩
def ze5 (g:z00) (N:z11→Bool):Nat→List z11
  | 0=>[]
  | i+1=>ze5 g N i++if (kO g i).Act.Kind=2∧N ⟨(kO g i).Act.Key,zb2 g i⟩=false then [⟨(kO g i).Act.Key,zb2 g i⟩] else []
theorem zjc (N:z11→Bool):∀ i,(ze5 g N i).length≤i
  | 0=>by simp [ze5]
  | i+1=>by
    have:=zjc N i
    unfold ze5;rw [List.length_append]
    split <;> simp <;> omega
theorem zlz (N:z11→Bool) (t:z11):∀ i,t∈ze5 g N i↔∃ j,j<i∧(kO g j).Act.Kind=2∧t=⟨(kO g j).Act.Key,zb2 g j⟩∧N t=false
  | 0=>by simp [ze5]
  | i+1=>by
    unfold ze5;rw [List.mem_append,zlz N t i]
    constructor
    · rintro (⟨j,h1,h2⟩ | h)
      · exact ⟨j, by omega,h2⟩
      · split at h
        · rename_i hc
          rw [List.mem_singleton] at h;exact ⟨i, by omega,hc.1,h, by rw [h]; exact hc.2⟩
        · simp at h
    · rintro ⟨j,h1,h2,h3,h4⟩
      by_cases e:j=i
      · subst e
        right
        rw [if_pos ⟨h2, by rw [← h3]; exact h4⟩,h3];exact List.mem_singleton.2 rfl
      · exact .inl ⟨j, by omega,h2,h3,h4⟩
theorem zmu (F:Fit g n) (N:z11→Bool):∀ i,i≤g.Ops.length→(ze5 g N i).Nodup
  | 0,_=>by simp [ze5]
  | i+1,hi=>by
    have ih:=zmu F N i (by omega);unfold ze5
    split
    · rw [List.nodup_append]
      refine ⟨ih, by simp, fun a ha b hb=>?_⟩;rw [List.mem_singleton] at hb;subst hb
      rintro rfl
      obtain ⟨j,h1,h2,h3,-⟩:=(zlz N _ i).1 ha;have e:zb2 g i=zb2 g j:=congrArg z11.ID h3;have h1':zb2 g j=g.IDs[j]'(by rw [F.ids]; omega):=z3j (by rw [F.ids]; omega);have h2':zb2 g i=g.IDs[i]'(by rw [F.ids]; omega):=z3j (by rw [F.ids]; omega);rw [h1',h2'] at e
      have:=zm8 (zke F.ri) (by rw [F.ids]; omega) (by rw [F.ids]; omega) e;omega
    · rw [List.append_nil]; exact ih
theorem z16o (G:z7v g) (m:List (z11 × Bool)):iter (zbc g m) ([],0)=some (ze5 g (fun t=>(zax m t).getD false) g.Ops.length):=by
  have hl:=G.e.len;have key:∃ b,iter (zbc g m) ([],0)=some b∧b=ze5 g (fun t=>(zax m t).getD false) g.Ops.length:=by
   refine z62 (F:=zbc g m) g.Ops.length (fun i s=>s=(ze5 g (fun t=>(zax m t).getD false) i,(i:Int))) (fun b=>b=ze5 g (fun t=>(zax m t).getD false) g.Ops.length) (fun i s hi=>?_) (fun s=>?_) ([],0) 0 (Nat.zero_le _) rfl
   · rintro rfl
     have hid:i<g.IDs.length:=by rw [G.e.ids]; exact hi
     unfold zbc;rw [if_pos (by simpa using hi)];simp only [z0f hi,bS,z0u (n:=i) (by omega)];rw [z0f hid];simp only [bS];have e1:=znn hi;have e2:g.IDs[i]=zb2 g i:=(z3j hid).symm;rw [e1,e2];refine ⟨_,?_,rfl⟩;by_cases c:(kO g i).Act.Kind=2
     · rw [if_pos (by simp [c])]
       simp only [bS]
       cases hN:(zax m (⟨(kO g i).Act.Key,zb2 g i⟩:z11)).getD false with
       | true =>
         rw [if_neg (by simp)];simp only [ze5,hN,Bool.true_eq_false,and_false,if_false,List.append_nil]
       | false =>
         have:=zjc (g:=g) (fun t=>(zax m t).getD false) i
         rw [if_pos (by simp),z2y (by simp only [List.length_singleton]; omega)];simp only [bS,ze5,c,hN,and_self,if_true]
     · rw [if_neg (by simpa using c)]
       simp only [bS,Bool.false_eq_true,if_false,ze5,c,false_and,List.append_nil]
   · rintro rfl
     unfold zbc;rw [if_neg (by simp)];exact ⟨_,rfl,rfl⟩
  obtain ⟨b,b1,b2⟩:=key;rw [b1,b2]
structure zkn (g:z00) (T:List z11):Prop where
  len:T.length≤g.Ops.length
  ord:T.Pairwise fun a b=>cfT a b<0
  mem:∀ t,t∈T↔∃ o,z5q g t.ID=some o∧o.Act.Kind=2∧o.Act.Key=t.Key∧¬ Over g t.Key t.ID
theorem z16s (a b:z11) (h:¬ cfT b a<0) (hne:a≠b):cfT a b<0:=by
  rw [zyh] at *;rcases z15s a.Key b.Key with k | k | k
  · exact .inl k
  · refine .inr ⟨k,?_⟩
    refine Classical.byContradiction fun q=>h (.inr ⟨k.symm,?_⟩)
    have:kd a.ID≠kd b.ID:=fun e=>hne (by cases a; cases b; simp only at k e; rw [k,zqu e]);omega
  · exact absurd (.inl k) h
theorem z146 (G:z7v g) (F:Fit g n) (h:z3f g=some 0):∃ T,zlo g=some (⟨T⟩,0)∧zkn g T:=by
  have hl:=G.e.len;obtain ⟨m,m1,m2⟩:=z18v G F h;refine ⟨zwz zqr cfT (ze5 g (fun t=>(zax m t).getD false) g.Ops.length),?_,?_,?_, fun t=>?_⟩
  · have:=zjc (g:=g) (fun t=>(zax m t).getD false) g.Ops.length
    unfold zlo;rw [h];simp only [bS];rw [if_neg (by simp),m1];simp only [bS];rw [z16o G m];simp only [bS];unfold z15r;rw [z3k (by omega)];rfl
  · rw [zu2 zqr cfT swoT]; exact zjc _ _
  · have p:=zlw zqr cfT swoT (ze5 g (fun t=>(zax m t).getD false) g.Ops.length)
    have s:=zsl zqr cfT swoT (ze5 g (fun t=>(zax m t).getD false) g.Ops.length);have nd:(zwz zqr cfT (ze5 g (fun t=>(zax m t).getD false) g.Ops.length)).Nodup:=p.nodup_iff.2 (zmu F _ _ (Nat.le_refl _));exact (s.and nd).imp fun ⟨h1,h2⟩=>z16s _ _ h1 h2
  · rw [(zlw zqr cfT swoT _).mem_iff,zlz]
    constructor
    · rintro ⟨j,h1,h2,rfl,h4⟩
      refine ⟨_,zmp F h1,h2,rfl, fun ho=>?_⟩
      have:=(m2 _).2 ((zjn F).2 ho)
      rw [h4] at this
      cases this
    · rintro ⟨o,h1,h2,h3,h4⟩
      obtain ⟨i,hi,rfl,e⟩:=zkb F h1;refine ⟨i,hi,h2, by cases t; simp only at h3 e ⊢; rw [h3,e],?_⟩;rw [← Bool.not_eq_true,m2,zjn F];exact h4
end
section
open Go
variable {g:z00} {n m:Nat} {T:List z11}
theorem z154 (G:z7v g) (F:Fit g n) {x:ID} {o:z0a} (h:z5q g x=some o):ze3 o.Act=true∧¬ 1000000000000<o.Stamp:=by
 have h1:=((zu6 G F).ops x o h).1;have h2:=(z6e (za9 h1)).2.2;unfold zd9 at h2;simp only [Bool.and_eq_true,Bool.not_eq_true',decide_eq_false_iff_not] at h2;exact ⟨h2.2.2.1,h2.2.1⟩
theorem zyz (G:z7v g) (F:Fit g n) {x:ID} {o:z0a} (h:z5q g x=some o) (hk:o.Act.Kind=2∨o.Act.Kind=4):zb5 o.Act.Key=true:=by
 have h1:=(z154 G F h).1;unfold ze3 at h1;rcases hk with hk | hk
 ·rw [if_neg (by rw [hk]; decide),if_pos (.inl hk),Bool.and_eq_true] at h1
  exact h1.1
 ·rw [if_neg (by rw [hk]; decide),if_neg (by rw [hk]; decide),if_pos hk,Bool.and_eq_true] at h1
  exact h1.1
theorem z180 (G:z7v g) (F:Fit g n) {x:ID} {o:z0a} (h:z5q g x=some o) (hk:o.Act.Kind=4):okV o.Act.Value=true:=by
 have h1:=(z154 G F h).1;unfold ze3 at h1;rw [if_neg (by rw [hk]; decide),if_neg (by rw [hk]; decide),if_pos hk,Bool.and_eq_true] at h1
 exact h1.2
theorem zyp {k:Str} (h:zb5 k=true):za6 (⟨2,k,(⟨0,0,0,[]⟩:z02)⟩:z07)=some 0:=by
 rw [z13c _ (by simp)]
 have:ze3 (⟨2,k,(⟨0,0,0,[]⟩:z02)⟩:z07)=true:=by
  unfold ze3;rw [if_neg (by simp),if_pos (.inl rfl),h];rfl
 rw [this]; rfl
theorem zp3 {β:Type} {F:Int→Option (Sum β Int)} {b:β} (N:Nat) (h:∀ i:Nat,i<N→F (i:Int)=some (.inr ((i+1:Nat):Int))) (he:F (N:Int)=some (.inl b)):∀ i:Nat,i≤N→iter F (i:Int)=some b:=by
 intro i hi;obtain ⟨b',h1,h2⟩:=z62 (F:=F) N (fun i s=>s=(i:Int)) (fun b'=>b'=b) (fun i s hi hs=>⟨_, by rw [hs,h i hi],rfl⟩) (fun s hs=>⟨b, by rw [hs,he],rfl⟩) (i:Int) i hi rfl;rw [h1,h2]
theorem z10d (G:z7v g) (F:Fit g n) (K:zkn g T) {t:z11} (ht:t∈T):zb5 t.Key=true:=by
 obtain ⟨o,h1,h2,h3,-⟩:=(K.mem t).1 ht;rw [← h3]; exact zyz G F h1 (.inl h2)
theorem zns (G:z7v g) (F:Fit g n) (K:zkn g T):zbe ⟨T⟩=some 0:=by
 have hl:=G.e.len;have hl2:=K.len;unfold zbe;rw [if_neg (by simp; omega)]
 have:=zp3 (F:=zbk ⟨T⟩) (b:=.inr ()) T.length (fun i hi=>?_) ?_ 0 (Nat.zero_le _)
 ·rw [show (0:Int)=((0:Nat):Int) from rfl,this]; rfl
 ·unfold zbk;simp only [];rw [if_pos (by simpa using hi),z0f hi];simp only [bS];rw [zyp (z10d G F K (List.getElem_mem hi))];simp only [bS];rw [if_neg (by simp),z0u (by omega)];by_cases h0:0<i
  ·rw [if_pos (by simpa using h0)];have e1:w64 ((i:Int) - 1)=((i - 1:Nat):Int):=by rw [z12 (by omega) (by omega)]; omega
   rw [e1,z0f (by omega:i - 1<T.length)];simp only [bS];rw [zyv];simp only [bS]
   have:=List.pairwise_iff_getElem.1 K.ord (i - 1) i (by omega) hi (by omega)
   rw [show decide (0≤cfT T[i - 1] T[i])=false from decide_eq_false (by omega)];rfl
  ·rw [if_neg (by simpa using h0)];rfl
 ·unfold zbk;simp only [];rw [if_neg (by simp)]
theorem z11g (hl:T.length≤1000):iter (z96 ⟨T⟩) ([],0)=some (T.map z11.Key):=by
 have key:∃ b,iter (z96 ⟨T⟩) ([],0)=some b∧b=T.map z11.Key:=by
  refine z62 (F:=z96 ⟨T⟩) T.length (fun i s=>s=((T.take i).map z11.Key,(i:Int))) _ (fun i s hi=>?_) (fun s=>?_) ([],0) 0 (Nat.zero_le _) rfl
  ·rintro rfl
   unfold z96;simp only [];rw [if_pos (by simpa using hi),z0f hi,z0u (by omega)];simp only [bS];rw [z2y (by simp only [List.length_map,List.length_take,List.length_singleton]; omega)];refine ⟨_,rfl,?_⟩;rw [zrk hi,List.map_append];rfl
  ·rintro rfl
   unfold z96;simp only [];rw [if_neg (by simp)];exact ⟨_,rfl, by rw [List.take_length]⟩
 obtain ⟨b,b1,b2⟩:=key;rw [b1,b2]
theorem zxi (G:z7v g) (F:Fit g n) (K:zkn g T):∃ c,zgm ⟨T⟩=some (c,0)∧c.length≤1000∧∀ k,k∈c↔InS g k:=by
 have hl:=G.e.len;have hl2:=K.len;have hso:(T.map z11.Key).Pairwise (· ≤ ·):=by
  rw [List.pairwise_map];refine K.ord.imp fun {a b} h=>?_;rw [zyh] at h;rcases h with h | ⟨h,-⟩
  ·exact List.not_lt.1 fun k=>z134 h k
  ·rw [h]; exact List.le_refl _
 obtain ⟨c,c1,c2,c3⟩:=zm1 (T.map z11.Key) (by rw [List.length_map]; omega) hso;refine ⟨c,?_,?_, fun k=>?_⟩
 ·unfold zgm;rw [zns G F K];simp only [bS];rw [if_neg (by simp),z11g (by omega)];simp only [bS];rw [c1];rfl
 ·have:=zav c (T.map z11.Key) (znx c2) fun k hk=>(c3 k).1 hk
  rw [List.length_map] at this;omega
 ·rw [c3,List.mem_map]
  constructor
  ·rintro ⟨t,ht,rfl⟩
   obtain ⟨o,h1,h2,h3,h4⟩:=(K.mem t).1 ht;exact ⟨t.ID,o,h1,h2,h3,h4⟩
  ·rintro ⟨x,o,h1,h2,h3,h4⟩
   exact ⟨⟨k,x⟩,(K.mem _).2 ⟨o,h1,h2,h3,h4⟩,rfl⟩
theorem zxb (l:List Str) (k:Str) (hl:l.length≤1000):z3y l k=some (decide (k∈l)):=by
 have key:∃ b,iter (z1r l k) 0=some b∧((∃ i:Nat,b=.inl (i:Int))∧k∈l∨b=.inr ()∧k∉l):=by
  have step:∀ d i:Nat,l.length - i=d→i≤l.length→(∀ j (h:j<l.length),j<i→l[j]≠k)→∃ b,iter (z1r l k) (i:Int)=some b∧((∃ i:Nat,b=.inl (i:Int))∧k∈l∨b=.inr ()∧k∉l):=by
   intro d
   induction d with
   | zero =>
    intro i hd hi hn
    have:i=l.length:=by omega
    subst this;refine ⟨.inr (),z1s (by unfold z1r; rw [if_neg (by simp)]),.inr ⟨rfl, fun hk=>?_⟩⟩;obtain ⟨j,hj,e⟩:=List.getElem_of_mem hk;exact hn j hj hj e
   | succ d ih =>
    intro i hd hi hn;have hlt:i<l.length:=by omega
    by_cases c:k=l[i]
    ·refine ⟨.inl (i:Int),z1s (by
      unfold z1r;rw [if_pos (by simpa using hlt),z0f hlt];simp only [bS]
      rw [if_pos (by simpa using c)]),.inl ⟨⟨i,rfl⟩, by rw [c]; exact List.getElem_mem hlt⟩⟩
    ·have e:z1r l k (i:Int)=some (.inr ((i+1:Nat):Int)):=by
      unfold z1r;rw [if_pos (by simpa using hlt),z0f hlt,z0u (by omega)];simp only [bS];rw [if_neg (by simpa using c)]
     rw [z24 e];refine ih (i+1) (by omega) (by omega) fun j hj hji=>?_;by_cases e:j=i
     ·subst e; exact fun h=>c h.symm
     ·exact hn j hj (by omega)
  exact step l.length 0 rfl (Nat.zero_le _) fun j _ h=>absurd h (by omega)
 obtain ⟨b,b1,b2⟩:=key;unfold z3y z61;rw [b1];rcases b2 with ⟨⟨i,rfl⟩,hk⟩ | ⟨rfl,hk⟩
 ·rw [decide_eq_true hk];simp only [or_l,bS];rw [decide_eq_true (by omega)]
 ·rw [decide_eq_false hk];rfl
theorem z11i (G:z7v g) (F:Fit g n) (K:zkn g T) (k:Str):∃ b,zix ⟨T⟩ k=some (b,0)∧(b=true↔InS g k):=by
 obtain ⟨c,c1,c2,c3⟩:=zxi G F K;refine ⟨decide (k∈c),?_, by rw [decide_eq_true_eq,c3]⟩;unfold zix;rw [c1];simp only [bS];rw [zxb c k c2];rfl
end
section
open Go
variable {g:z00} {n m:Nat} {R:List z16}
abbrev zjx (R:List z16):List Str:=R.map z16.Key
theorem zuz (r:z16) (k:Str):z4j r k=some (zsc r.Key k):=by
 unfold z4j zsf;simp only [bS];rw [zr0];rfl
theorem zpi {l:List Str} (h:zkq l) {i j:Nat} (hi:i<l.length) (hj:j<l.length) (hij:i<j):l[i]<l[j]:=List.pairwise_iff_getElem.1 h i j hi hj hij
theorem z11c (R:List z16) (hl:R.length≤1000000) (hi:zkq (zjx R)) (k:Str):∃ b:Int,iter (z0b R k) (0,(R.length:Int))=some b∧∃ p:Nat,b=(p:Int)∧p≤R.length∧(∀ i (h:i<R.length),i<p→R[i].Key<k)∧(∀ i (h:i<R.length),p≤i→¬ R[i].Key<k):=by
 have lt:∀ {i j:Nat} (h1:i<R.length) (h2:j<R.length),i<j→R[i].Key<R[j].Key:=fun {i j} h1 h2 h=>by
  have:=zpi hi (i:=i) (j:=j) (by simpa using h1) (by simpa using h2) h
  simpa using this
 refine zf0 (F:=z0b R k)
  (fun st=>∃ s e:Nat,st=((s:Int),(e:Int))∧s≤e∧e≤R.length∧(∀ i (h:i<R.length),i<s→R[i].Key<k)∧(∀ i (h:i<R.length),e≤i→¬ R[i].Key<k))
  (fun st=>st.2.toNat - st.1.toNat) _ ?_ _ ⟨0,R.length,rfl, by omega, by omega, fun i _ h=>by omega, fun i h h2=>by omega⟩
 rintro st ⟨s,e,rfl,h1,h2,h3,h4⟩
 by_cases hse:s<e
 ·right
  have hm:(s+e) / 2<R.length:=by omega
  have hF:z0b R k ((s:Int),(e:Int))=if decide (zsc R[(s+e) / 2].Key k<0) then some (.inr ((((s+e) / 2+1:Nat):Int),(e:Int))) else some (.inr ((s:Int),(((s+e) / 2:Nat):Int))):=by
   unfold z0b;simp only [];rw [if_pos (by simpa using hse),zza _ _ (by omega)];simp only [bS];rw [z0f hm];simp only [bS];rw [zuz];simp only [bS];rw [z0u (show (s+e) / 2<9223372036854775807 by omega)]
  by_cases hc:R[(s+e) / 2].Key<k
  ·rw [decide_eq_true ((zsj _ _).2 hc),if_pos rfl] at hF;refine ⟨_,hF,⟨(s+e) / 2+1,e,rfl, by omega,h2, fun i h hi2=>?_,h4⟩, by simp; omega⟩;by_cases he:i=(s+e) / 2
   ·subst he; exact hc
   ·exact zs0 (lt h hm (by omega)) hc
  ·rw [decide_eq_false (fun h=>hc ((zsj _ _).1 h)),if_neg (by simp)] at hF;refine ⟨_,hF,⟨s,(s+e) / 2,rfl, by omega, by omega,h3, fun i h hi2=>?_⟩, by simp; omega⟩;by_cases he:i=(s+e) / 2
   ·subst he; exact hc
   ·exact fun hk=>hc (zs0 (lt hm h (by omega)) hk)
 ·left
  refine ⟨(s:Int),?_,s,rfl, by omega,h3, fun i h hi2=>h4 i h (by omega)⟩;unfold z0b;simp only [];rw [if_neg (by simpa using hse)]
structure z18b (R:List z16) (k:Str) (p:Nat):Prop where
 le:p≤R.length
 lo:∀ i (h:i<R.length),i<p→R[i].Key<k
 hi:∀ i (h:i<R.length),p≤i→¬ R[i].Key<k
theorem zu1 (R:List z16) (hl:R.length≤1000000) (hi:zkq (zjx R)) (k:Str):∃ (p:Nat) (b:Bool),z47 R k=some ((p:Int),b)∧z18b R k p∧(b=true↔∃ h:p<R.length,R[p].Key=k):=by
 obtain ⟨_,h1,p,rfl,h2,h3,h4⟩:=z11c R hl hi k;unfold z47 z1c;simp only [bS];rw [h1];simp only [bS];by_cases hp:p<R.length
 ·rw [if_pos (by simpa using hp),z0f hp];simp only [bS];rw [zuz];simp only [bS];refine ⟨p,_,rfl,⟨h2,h3,h4⟩,?_⟩;rw [beq_iff_eq,zs6];exact ⟨fun h=>⟨hp,h⟩, fun ⟨_,h⟩=>h⟩
 ·rw [if_neg (by simpa using hp)];exact ⟨p,_,rfl,⟨h2,h3,h4⟩, by simp; exact fun h=>absurd h hp⟩
theorem z17k (R:List z16) (k:Str):z5p R k=z47 R k:=rfl
theorem zl8 (hi:zkq (zjx R)) {k:Str} {p:Nat} (P:z18b R k p) {i:Nat} (h:i<R.length) (e:R[i].Key=k):i=p:=by
 have h1:¬ i<p:=fun c=>zlx k (by have:=P.lo i h c; rwa [e] at this)
 by_cases c:i=p
 ·exact c
 ·have hp:p<R.length:=by omega
  have:=zpi hi (i:=p) (j:=i) (by simpa using hp) (by simpa using h) (by omega)
  simp only [List.getElem_map] at this;rw [e] at this;exact absurd this (P.hi p hp (Nat.le_refl _))
def zn9 (g:z00) (i:Nat):z16:=⟨(kO g i).Act.Key,(kO g i).Act.Value,(kO g i).Stamp,zb2 g i⟩
structure zg2 (g:z00) (i:Nat) (R:List z16):Prop where
 len:R.length≤i
 ord:zkq (zjx R)
 mem:∀ r,r∈R↔∃ b,zcl g r.Key i=some b∧r=zn9 g b
theorem z15e (a b:UInt64):z8g a b=some (if a<b then -1 else if b<a then 1 else 0):=by
 unfold z8g za3;simp only [bS,bne_self_eq_false,Bool.false_eq_true,if_false];by_cases h:a<b
 ·simp [h]
 ·by_cases k:b<a <;> simp [h,k]
theorem z115 (a b:z16):zik a b=some (decide (b.Stamp<a.Stamp∨a.Stamp=b.Stamp∧kd b.ID<kd a.ID)):=by
 unfold zik;rw [z15e];simp only [bS];rw [show z6p a.ID.toList b.ID.toList=some (Lib.compareBytes a.ID.toList b.ID.toList) from rfl];simp only [bS];rw [z136];simp only [bS];rw [zq8]
 congr 1
 rw [decide_eq_decide];by_cases h:a.Stamp<b.Stamp
 ·have h2:¬ b.Stamp<a.Stamp:=fun k=>by rw [UInt64.lt_iff_toNat_lt] at *; omega
  have h3:a.Stamp≠b.Stamp:=fun k=>by rw [k] at h; rw [UInt64.lt_iff_toNat_lt] at h; omega
  simp [h,h2,h3]
 ·by_cases k:b.Stamp<a.Stamp
  ·simp [h,k]
  ·have e:a.Stamp=b.Stamp:=by
    apply UInt64.toNat_inj.1
    rw [UInt64.lt_iff_toNat_lt] at *; omega
   simp only [h,k,if_false,if_true,e,true_and,false_or];by_cases q:kd a.ID<kd b.ID
   ·have:¬ kd b.ID<kd a.ID:=by omega
    simp [q,this]
   ·by_cases q2:kd b.ID<kd a.ID <;> simp [q,q2]
theorem zgc (key:Str) (i:Nat):zcl g key (i+1)=if (kO g i).Act.Kind=4∧(kO g i).Act.Key=key∧(∀ b,zcl g key i=some b→(kO g b).Stamp≤(kO g i).Stamp) then some i else zcl g key i:=rfl
theorem zoi {key:Str} {i b:Nat} (h:zcl g key i=some b):(kO g b).Act.Key=key:=by
 have:=zls (g:=g) key i
 rw [h] at this;exact this.2.2.1
theorem z10s {l:List Str} (hs:zkq l) {k:Str} {p:Nat} (hp:p≤l.length) (lo:∀ i (h:i<l.length),i<p→l[i]<k) (hi:∀ i (h:i<l.length),p≤i→k<l[i]):zkq (l.take p++[k]++l.drop p):=by
 unfold zkq;rw [List.pairwise_append,List.pairwise_append];refine ⟨⟨hs.sublist (List.take_sublist _ _),List.pairwise_singleton _ _, fun a ha b hb=>?_⟩,hs.sublist (List.drop_sublist _ _), fun a ha b hb=>?_⟩
 ·rw [List.mem_singleton] at hb;subst hb;obtain ⟨i,hi',rfl⟩:=List.getElem_of_mem ha;rw [List.length_take] at hi';rw [List.getElem_take];exact lo i (by omega) (by omega)
 ·obtain ⟨j,hj,rfl⟩:=List.getElem_of_mem hb;rw [List.length_drop] at hj;rw [List.getElem_drop];have hk:=hi (p+j) (by omega) (by omega);rcases List.mem_append.1 ha with ha | ha
  ·obtain ⟨i,hi',rfl⟩:=List.getElem_of_mem ha;rw [List.length_take] at hi';rw [List.getElem_take];exact zs0 (lo i (by omega) (by omega)) hk
  ·rw [List.mem_singleton] at ha;subst ha;exact hk
theorem zy4 (F:Fit g n) {i:Nat} (hi:i<g.Ops.length) (hl:g.Ops.length≤1000) (K:zg2 g i R):∃ R',zje R g.Ops[i] (zb2 g i)=some R'∧zg2 g (i+1) R':=by
 have hRl:=K.len;rw [znn hi];unfold zje;by_cases hk:(kO g i).Act.Kind=4
 rotate_left
 ·rw [if_pos (by simpa using hk)];refine ⟨R,rfl, by omega,K.ord, fun r=>?_⟩;rw [K.mem,zgc,if_neg (fun h=>hk h.1)]
 ·rw [if_neg (by simp [hk]),z17k];obtain ⟨p,b,f1,P,f2⟩:=zu1 R (by omega) K.ord (kO g i).Act.Key;have other:∀ {k:Str},k≠(kO g i).Act.Key→zcl g k (i+1)=zcl g k i:=fun {k} hne=>by rw [zgc,if_neg (fun h=>hne h.2.1.symm)]
  rw [f1];simp only [bS]
  cases hb:b with
  | false =>
   subst hb;have hno:¬ ∃ h:p<R.length,R[p].Key=(kO g i).Act.Key:=fun h=>by have:=f2.2 h; cases this
   have hnone:zcl g (kO g i).Act.Key i=none:=by
    cases hc:zcl g (kO g i).Act.Key i with
    | none=>rfl
    | some c =>
     have hm:zn9 g c∈R:=(K.mem _).2 ⟨c, by
      show zcl g (kO g c).Act.Key i=some c
      rw [zoi hc]; exact hc,rfl⟩
     obtain ⟨j,hj,e⟩:=List.getElem_of_mem hm;have ek:R[j].Key=(kO g i).Act.Key:=by rw [e]; exact zoi hc
     have:=zl8 K.ord P hj ek
     subst this;exact absurd ⟨hj,ek⟩ hno
   have hbi:zcl g (kO g i).Act.Key (i+1)=some i:=by
    rw [zgc,if_pos ⟨hk,rfl, fun b hb=>by rw [hnone] at hb; cases hb⟩]
   rw [if_pos (by simp)];unfold insR;rw [z3k ⟨by omega, by simpa using P.le, by omega,rfl⟩];simp only [bS,Int.toNat_natCast];refine ⟨_,rfl,?_,?_, fun r=>?_⟩
   ·have:=P.le
    simp only [List.length_append,List.length_take,List.length_drop,List.length_singleton]; omega
   ·have e:zjx (R.take p++[(⟨(kO g i).Act.Key,(kO g i).Act.Value,(kO g i).Stamp,zb2 g i⟩:z16)]++R.drop p)=(zjx R).take p++[(kO g i).Act.Key]++(zjx R).drop p:=by
     simp [zjx,List.map_take,List.map_drop]
    rw [e];refine z10s K.ord (by simpa using P.le) (fun j h hj=>?_) (fun j h hj=>?_)
    ·have:=P.lo j (by simpa using h) hj
     simpa using this
    ·have h':j<R.length:=by simpa using h
     have h1:=P.hi j h' hj;have h2:R[j].Key≠(kO g i).Act.Key:=fun q=>by
      have hjp:=zl8 K.ord P h' q;exact hno ⟨by rw [← hjp]; exact h', by simp only [← hjp]; exact q⟩
     have h3:(zjx R)[j]=R[j].Key:=by simp
     rw [h3];rcases z15a R[j].Key (kO g i).Act.Key with q | q | q
     ·exact absurd q h1
     ·exact absurd q h2
     ·exact q
   ·have hm:r∈R.take p++[zn9 g i]++R.drop p↔r=zn9 g i∨r∈R:=by
     rw [List.mem_append,List.mem_append,List.mem_singleton]
     constructor
     ·rintro ((h | h) | h)
      ·exact .inr (List.mem_of_mem_take h)
      ·exact .inl h
      ·exact .inr (List.mem_of_mem_drop h)
     ·rintro (h | h)
      ·exact .inl (.inr h)
      ·rw [← List.take_append_drop p R,List.mem_append] at h;exact h.elim (fun h=>.inl (.inl h)) .inr
    refine hm.trans ?_;rw [K.mem];by_cases hr:r.Key=(kO g i).Act.Key
    ·rw [hr,hbi,hnone]
     constructor
     ·rintro (h | ⟨b,h,-⟩)
      ·exact ⟨i,rfl,h⟩
      ·cases h
     ·rintro ⟨b,h,h2⟩
      cases h
      exact .inl h2
    ·rw [other hr]
     constructor
     ·rintro (h | h)
      ·exact absurd (by rw [h]; rfl) hr
      ·exact h
     ·exact .inr
  | true =>
   subst hb;obtain ⟨hp,ek⟩:=f2.1 rfl;obtain ⟨c,c1,c2⟩:=(K.mem R[p]).1 (List.getElem_mem hp);rw [ek] at c1;have hcl:=zx1 (g:=g) _ _ _ c1;rw [if_neg (by simp),z0f hp];simp only [bS];rw [z115];simp only [bS];have hkd:kd (zb2 g c)<kd (zb2 g i):=by
    have h1:=zpl F hi (show c<g.Ops.length by omega);have h2:=zpl F (show c<g.Ops.length by omega) hi;have h3:=h1.1 (by omega);by_cases e:kd (zb2 g c)=kd (zb2 g i)
    ·have:=h2.2 (by omega); omega
    ·omega
   have hcond:decide (R[p].Stamp<(kO g i).Stamp∨(kO g i).Stamp=R[p].Stamp∧kd R[p].ID<kd (zb2 g i))=decide ((kO g c).Stamp≤(kO g i).Stamp):=by
    rw [decide_eq_decide,c2];show (kO g c).Stamp<(kO g i).Stamp∨(kO g i).Stamp=(kO g c).Stamp∧kd (zb2 g c)<kd (zb2 g i)↔_;rw [zgn];exact ⟨fun h=>h.imp id And.left, fun h=>h.imp id fun h=>⟨h,hkd⟩⟩
   rw [show decide ((R[p]).Stamp<(⟨(kO g i).Act.Key,(kO g i).Act.Value,(kO g i).Stamp,zb2 g i⟩:z16).Stamp∨(⟨(kO g i).Act.Key,(kO g i).Act.Value,(kO g i).Stamp,zb2 g i⟩:z16).Stamp=R[p].Stamp∧kd R[p].ID<kd (⟨(kO g i).Act.Key,(kO g i).Act.Value,(kO g i).Stamp,zb2 g i⟩:z16).ID)=decide ((kO g c).Stamp≤(kO g i).Stamp) from hcond];by_cases hst:(kO g c).Stamp≤(kO g i).Stamp
   ·have hbi:zcl g (kO g i).Act.Key (i+1)=some i:=by
     rw [zgc,if_pos ⟨hk,rfl, fun b hb=>by rw [c1] at hb; cases hb; exact hst⟩]
    rw [if_pos (by simpa using hst)];simp only [Int.toNat_natCast];refine ⟨_,rfl, by rw [List.length_set]; omega,?_, fun r=>?_⟩
    ·have e:zjx (R.set p (zn9 g i))=zjx R:=by
      unfold zjx;rw [List.map_set]
      have:(zn9 g i).Key=(R.map z16.Key)[p]'(by simpa using hp):=by rw [List.getElem_map,ek]; rfl
      rw [this];exact List.set_getElem_self _
     have h:zkq (zjx (R.set p (zn9 g i))):=by rw [e]; exact K.ord
     exact h
    ·have hm:r∈R.set p (zn9 g i)↔r=zn9 g i∨(r∈R∧r.Key≠(kO g i).Act.Key):=by
      constructor
      ·intro h;obtain ⟨j,hj,e⟩:=List.getElem_of_mem h;rw [List.getElem_set] at e;rw [List.length_set] at hj
       split at e
       ·exact .inl e.symm
       ·rename_i hne;refine .inr ⟨by rw [← e]; exact List.getElem_mem hj, fun e2=>?_⟩;rw [← e] at e2;exact hne (zl8 K.ord P hj e2).symm
      ·rintro (h | ⟨h,h2⟩)
       ·rw [h]; exact List.mem_iff_getElem.2 ⟨p, by simpa using hp, by simp⟩
       ·obtain ⟨j,hj,rfl⟩:=List.getElem_of_mem h;have hne:p≠j:=fun e=>by subst e; exact h2 ek
        exact List.mem_iff_getElem.2 ⟨j, by simpa using hj, by rw [List.getElem_set_ne hne]⟩
     refine hm.trans ?_;rw [K.mem];by_cases hr:r.Key=(kO g i).Act.Key
     ·rw [hr,hbi]
      constructor
      ·rintro (h | ⟨-,h⟩)
       ·exact ⟨i,rfl,h⟩
       ·exact absurd rfl h
      ·rintro ⟨b,h,h2⟩
       cases h
       exact .inl h2
     ·rw [other hr]
      constructor
      ·rintro (h | h)
       ·exact absurd (by rw [h]; rfl) hr
       ·exact h.1
      ·exact fun h=>.inr ⟨h,hr⟩
   ·have hbi:zcl g (kO g i).Act.Key (i+1)=zcl g (kO g i).Act.Key i:=by
     rw [zgc,if_neg (fun h=>hst (h.2.2 c c1))]
    rw [if_neg (by simpa using hst)];refine ⟨R,rfl, by omega,K.ord, fun r=>?_⟩;rw [K.mem];by_cases hr:r.Key=(kO g i).Act.Key
    ·rw [hr,hbi]
    ·rw [other hr]
theorem z159 (G:z7v g) (F:Fit g n) (h:z3f g=some 0):∃ R,zti g=some (⟨R⟩,0)∧zg2 g g.Ops.length R:=by
 have hl:=G.e.len;have key:∃ R,iter (zfu g) ([],0)=some R∧zg2 g g.Ops.length R:=by
  refine z62 (F:=zfu g) g.Ops.length (fun i s=>s.2=(i:Int)∧zg2 g i s.1) _ (fun i s hi=>?_) (fun s=>?_) ([],0) 0 (Nat.zero_le _) ⟨rfl,Nat.le_refl _,List.Pairwise.nil, fun r=>by simp [zcl]⟩
  ·obtain ⟨R,i'⟩:=s
   rintro ⟨e1,e2⟩
   simp only at e1 e2;subst e1;have hid:i<g.IDs.length:=by rw [G.e.ids]; exact hi
   obtain ⟨R',r1,r2⟩:=zy4 F hi (by omega) e2;rw [z3j hid] at r1;unfold zfu;rw [if_pos (by simpa using hi)];simp only [z0f hi,bS,z0u (n:=i) (by omega)];rw [z0f hid];simp only [bS];rw [r1];exact ⟨_,rfl,rfl,r2⟩
  ·rintro ⟨e1,e2⟩
   unfold zfu;rw [if_neg (by rw [e1]; simp)]
   exact ⟨_,rfl,e2⟩
 obtain ⟨R,r1,r2⟩:=key;refine ⟨R,?_,r2⟩;unfold zti;rw [h];simp only [bS];rw [if_neg (by simp),r1];rfl
end
section
open Go
variable {g:z00}
theorem zvh (G:z7v g):∀ i,i<g.Ops.length→∃ t,t<g.Ops.length∧top g g.Ops.length t=true∧Rch (z23 g) [t] i:=by
 obtain ⟨Q,q1,q2,q3⟩:=zr3 G;obtain ⟨got,topo⟩:=q2.got;have hall:∀ i,i<g.Ops.length→i∈Q:=(zpe got.nodup got.lt).1 (by omega);have key:∀ m i,g.Ops.length - Q.idxOf i=m→i<g.Ops.length→∃ t,t<g.Ops.length∧top g g.Ops.length t=true∧Rch (z23 g) [t] i:=by
  intro m
  induction m using Nat.strongRecOn with
  | _ m ih =>
   intro i hm hi
   cases ht:top g g.Ops.length i with
   | true=>exact ⟨i,hi,ht,.base (by simp)⟩
   | false =>
    have:∃ k,k<g.Ops.length∧i∈z23 g k:=by
     refine Classical.byContradiction fun hn=>?_
     have:top g g.Ops.length i=true:=by
      unfold top;rw [List.all_eq_true];intro k hk;have hk:k<g.Ops.length:=by simpa using hk
      have:i∉z23 g k:=fun hx=>hn ⟨k,hk,hx⟩
      simp [this]
     rw [ht] at this; simp at this
    obtain ⟨k,hk,hx⟩:=this;have hkQ:=List.idxOf_lt_length_of_mem (hall k hk);have hlt:Q.idxOf i<Q.idxOf k:=by
     have h1:=topo (Q.idxOf k) hkQ i (by rw [List.getElem_idxOf]; exact hx);obtain ⟨j,hj,e⟩:=List.getElem_of_mem h1;rw [List.length_take] at hj;rw [List.getElem_take] at e;have h2:Q.idxOf i≤j:=by
      refine Nat.le_of_not_lt fun c=>?_;have h3:=List.idxOf_lt_length_of_mem (hall i hi)
      have:=(List.getElem_inj (xs:=Q) (i:=j) (j:=Q.idxOf i) (h₀:=by omega) (h₁:=h3) got.nodup).1 (by rw [e,List.getElem_idxOf])
      omega
     omega
    obtain ⟨t,t1,t2,t3⟩:=ih _ (by omega) k rfl hk;exact ⟨t,t1,t2,.step t3 hx⟩
 exact fun i hi=>key _ i rfl hi
end
section
open Go
def frc {α:Type} (x:Nat) (k:Nat→α):α:=match x with
 | 0=>k 0
 | n+1=>k (n+1)
theorem z141 {α:Type} (x:Nat) (k:Nat→α):frc x k=k x:=by cases x <;> rfl
def zt7 {α:Type} (x:UInt32) (k:UInt32→α):α:=frc x.toNat fun n=>k (UInt32.ofNat n)
theorem zka {α:Type} (x:UInt32) (k:UInt32→α):zt7 x k=k x:=by unfold zt7; rw [z141,UInt32.ofNat_toNat]
def fB {α:Type}:List UInt8→(List UInt8→α)→α
 | [],k=>k []
 | x::l,k=>frc x.toNat fun n=>fB l fun m=>k (UInt8.ofNat n::m)
theorem z17t {α:Type}:∀ (l:List UInt8) (k:List UInt8→α),fB l k=k l
 | [],k=>rfl
 | x::l,k=>by rw [fB,z141,z17t l,UInt8.ofNat_toNat]
def fW {α:Type}:List UInt32→(List UInt32→α)→α
 | [],k=>k []
 | x::l,k=>zt7 x fun n=>fW l fun m=>k (n::m)
theorem z17s {α:Type}:∀ (l:List UInt32) (k:List UInt32→α),fW l k=k l
 | [],k=>rfl
 | x::l,k=>by rw [fW,zka,z17s l]
def wL:Nat→List UInt8→List UInt32
 | 0,_=>[]
 | n+1,l=>word l 0::wL n (l.drop 4)
theorem z10k (l:List UInt8) (k:Nat):word (l.drop 4) k=word l (k+1):=by
 unfold word;have e:∀ j,(l.drop 4).getD (4 * k+j) 0=l.getD (4 * (k+1)+j) 0:=fun j=>by
  rw [List.getD_eq_getElem?_getD,List.getD_eq_getElem?_getD,List.getElem?_drop]
  congr 2; omega
 have e0:=e 0;rw [Nat.add_zero,Nat.add_zero] at e0;rw [e0,e 1,e 2,e 3]
theorem z17u:∀ (n:Nat) (l:List UInt8),wL n l=(List.range n).map (word l)
 | 0,l=>rfl
 | n+1,l=>by
  rw [wL,z17u n,List.range_succ_eq_map,List.map_cons,List.map_map];exact congrArg (List.cons (word l 0)) (List.map_congr_left fun k hk=>z10k l k)
def sF {α:Type}:Nat→List UInt32→(List UInt32→α)→α
 | 0,r,k=>k r.reverse
 | n+1,r,k=>zt7 (((r.getD 15 0+r.getD 6 0)+sg0 (r.getD 14 0))+sg1 (r.getD 1 0)) fun w=>sF n (w::r) k
theorem zld (l:List UInt32) (i:Nat) (h:i<l.length):l.reverse.getD i 0=l.getD (l.length - (i+1)) 0:=by
 rw [List.getD_eq_getElem?_getD,List.getD_eq_getElem?_getD,List.getElem?_reverse h]
 congr 2
 omega
theorem z17w {α:Type} (b:List UInt8) (k:List UInt32→α):∀ (n m:Nat),sF n (z6t b m).reverse k=k (z6t b (m+n))
 | 0,m=>by rw [sF,List.reverse_reverse]; rfl
 | n+1,m=>by
  have hl:=zei b m;rw [sF,zka,zld _ 15 (by omega),zld _ 6 (by omega),zld _ 14 (by omega),zld _ 1 (by omega)]
  have:((((z6t b m).getD ((z6t b m).length - (15+1)) 0+(z6t b m).getD ((z6t b m).length - (6+1)) 0)+sg0 ((z6t b m).getD ((z6t b m).length - (14+1)) 0))+sg1 ((z6t b m).getD ((z6t b m).length - (1+1)) 0))::(z6t b m).reverse=(z6t b (m+1)).reverse:=by
   show _=(zt6 (z6t b m)).reverse;unfold zt6;rw [List.reverse_append]; rfl
  rw [this,z17w b k n (m+1)]
  congr 2; omega
def rF {α:Type}:List UInt32→List UInt32→O8→(O8→α)→α
 | q::K,w::W,s,k=>zt7 (rnd1 q w s) fun t=>zt7 (t+rnd2 s) fun x=>zt7 (s.2.2.2.1+t) fun y=>rF K W (x,s.1,s.2.1,s.2.2.1,y,s.2.2.2.2.1,s.2.2.2.2.2.1,s.2.2.2.2.2.2.1) k
 | _,_,s,k=>k s
theorem z18k {α:Type} (K W:List UInt32) (hK:K.length=64) (hW:W.length=64) (s:O8) (k:O8→α):∀ (n i:Nat),64 - i=n→i≤64→rF (K.drop i) (W.drop i) (zv3 K W s i) k=k (zv3 K W s 64)
 | 0,i,h,hi=>by
  have:i=64:=by omega
  subst this;rw [List.drop_eq_nil_of_le (by omega)]; rfl
 | n+1,i,h,hi=>by
  rw [List.drop_eq_getElem_cons (by omega),List.drop_eq_getElem_cons (by omega:i<W.length),rF,zka,zka,zka];rw [← z18k K W hK hW s k n (i+1) (by omega) (by omega)]
  congr 1
  rw [zv3,rnd,List.getD_eq_getElem?_getD,List.getD_eq_getElem?_getD,List.getElem?_eq_getElem (by omega),List.getElem?_eq_getElem (by omega)];rfl
def grK {α:Type} (h:O8) (b:List UInt8) (k:O8→α):α :=
 fW (wL 16 b).reverse fun r=>sF 48 r fun W=>rF z5i.toList W h fun s =>
 zt7 (h.1+s.1) fun a=>zt7 (h.2.1+s.2.1) fun b=>zt7 (h.2.2.1+s.2.2.1) fun c=>zt7 (h.2.2.2.1+s.2.2.2.1) fun d =>
 zt7 (h.2.2.2.2.1+s.2.2.2.2.1) fun e=>zt7 (h.2.2.2.2.2.1+s.2.2.2.2.2.1) fun f=>zt7 (h.2.2.2.2.2.2.1+s.2.2.2.2.2.2.1) fun g=>zt7 (h.2.2.2.2.2.2.2+s.2.2.2.2.2.2.2) fun z=>k (a,b,c,d,e,f,g,z)
def add8 (h s:O8):O8:=(h.1+s.1,h.2.1+s.2.1,h.2.2.1+s.2.2.1,h.2.2.2.1+s.2.2.2.1,h.2.2.2.2.1+s.2.2.2.2.1,h.2.2.2.2.2.1+s.2.2.2.2.2.1,h.2.2.2.2.2.2.1+s.2.2.2.2.2.2.1,h.2.2.2.2.2.2.2+s.2.2.2.2.2.2.2)
theorem z11r (h v:Vector UInt32 8):∀ j (hj:j<8),(addV h v)[j]=h[j]+v[j]:=by
 obtain ⟨r,h1,h2⟩:=z62 (F:=z1t v) 8 (fun i s=>s.2=(i:Int)∧∀ j (hj:j<8),s.1[j]=if j<i then h[j]+v[j] else h[j]) (fun r=>∀ j (hj:j<8),r[j]=h[j]+v[j]) (fun i s hi hs=>by
  obtain ⟨u,k⟩:=s;obtain ⟨hs,hu⟩:=hs;simp only at hs hu;subst hs;unfold z1t;rw [if_pos (by simp; omega)];rw [z8h (show i<8 by omega),z8h (show i<8 by omega)];simp only [bS,z0u (show i<9223372036854775807 by omega)];refine ⟨_,rfl,rfl, fun j hj=>?_⟩;simp only;rw [zgz hj,hu j hj,hu i hi];simp only [Int.toNat_natCast];by_cases e:i=j
  ·subst e; simp
  ·rw [if_neg e];by_cases l:j<i
   ·rw [if_pos l,if_pos (by omega)]
   ·rw [if_neg l,if_neg (by omega)]) (fun s hs=>by
  obtain ⟨u,k⟩:=s;obtain ⟨hs,hu⟩:=hs;simp only at hs hu;subst hs;unfold z1t;rw [if_neg (by simp)]
  exact ⟨_,rfl, fun j hj=>by rw [hu j hj,if_pos hj]⟩) (h,0) 0 (by omega) ⟨rfl, fun j hj=>by simp⟩
 unfold addV;rw [h1];exact h2
theorem z14v (h s:O8):addV (toV h) (toV s)=toV (add8 h s):=by
 apply Vector.ext
 intro j hj;rw [z11r]
 match j,hj with
 | 0,_=>rfl
 | 1,_=>rfl
 | 2,_=>rfl
 | 3,_=>rfl
 | 4,_=>rfl
 | 5,_=>rfl
 | 6,_=>rfl
 | 7,_=>rfl
theorem z14r (s:O8):ofV (toV s)=s:=rfl
theorem z16l {α:Type} (h:O8) (b:List UInt8) (k:O8→α):∃ s,gr (toV h) b=toV s∧grK h b k=k s:=by
 refine ⟨add8 h (zv3 z5i.toList (z6t b 48) h 64),?_,?_⟩
 ·unfold gr;rw [z14r,z14v]
 ·unfold grK;have e:wL 16 b=z6t b 0:=z17u 16 b;rw [z17s,e,z17w b _ 48 0]
  have:=z18k z5i.toList (z6t b 48) zph (by rw [zei]) h (fun s=>k (add8 h s)) 64 0 rfl (by omega)
  rw [← this];simp only [zka];rfl
def blkK {α:Type}:Nat→O8→List UInt8→(O8→α)→α
 | 0,h,b,k=>k h
 | n+1,h,b,k=>grK h (b.take 64) fun s=>blkK n s (b.drop 64) k
theorem zzh {α:Type}:∀ (n:Nat) (h:O8) (b:List UInt8) (k:O8→α),b.length=64 * n→∃ s,blk (toV h) b=toV s∧blkK n h b k=k s
 | 0,h,b,k,hb=>⟨h,zrc (by omega),rfl⟩
 | n+1,h,b,k,hb=>by
  obtain ⟨s,s1,s2⟩:=z16l h (b.take 64) (fun s=>blkK n s (b.drop 64) k);obtain ⟨t,t1,t2⟩:=zzh n s (b.drop 64) k (by rw [List.length_drop]; omega);refine ⟨t,?_,?_⟩
  ·rw [zq1 (by omega),s1,t1]
  ·rw [blkK,s2,t2]
def H8:O8:=(1779033703,3144134277,1013904242,2773480762,1359893119,2600822924,528734635,1541459225)
def shaK {α:Type} (b:List UInt8) (k:O8→α):α:=fB (b++tl b.length) fun m=>blkK (m.length / 64) H8 m k
theorem z189 (n:Nat):(n+(tl n).length) % 64=0:=by
 unfold tl z8j zrs
 simp
 omega
theorem z14l {α:Type} (b:List UInt8) (k:O8→α):∃ s,sha b=wr (toV s)∧shaK b k=k s:=by
 have hl:=z189 b.length;obtain ⟨s,s1,s2⟩:=zzh ((b++tl b.length).length / 64) H8 (b++tl b.length) k (by rw [List.length_append]; omega);refine ⟨s,?_,?_⟩
 ·unfold sha;rw [show H0=toV H8 from rfl,s1]
 ·unfold shaK;rw [z17t,s2]
def zvw (b:List UInt8) (s:O8):Bool:=shaK b fun t=>t==s
theorem z18g {b:List UInt8} {s:O8} (h:zvw b s=true):sha b=wr (toV s):=by
 unfold zvw at h;obtain ⟨t,t1,t2⟩:=z14l b (fun t=>t==s);rw [t2] at h;rw [t1,eq_of_beq h]
end
section
open Go
theorem z128 (m:List UInt8) (r:UInt32) (h:m.length≤9991):zcy 110 m [r]=some (zo8 (sha (([110]++four r)++m)) 8,0):=by
 have l1:iter (z4a [r]) ([110],0)=some ([110]++four r):=by
  have s1:z4a [r] ([110],0)=some (.inr ([110]++four r,1)):=by
   unfold z4a;rw [if_pos (by simp)];simp only [];rw [show idx [r] 0=some r from rfl,z12 (x:=(0:Int)+1) (by omega) (by omega)];simp only [bS];rw [z2y (by simp)];rfl
  have s3:z4a [r] ([110]++four r,1)=some (.inl ([110]++four r)):=by
   unfold z4a;rw [if_neg (by simp)]
  rw [z24 s1,z1s s3]
 unfold zcy;rw [if_neg (by simp; omega),l1];simp only [bS]
 rw [zmx _ (by simp) (by
  intro b hb;simp only [List.mem_cons,List.not_mem_nil,or_false] at hb;rcases hb with rfl | rfl
  ·simp [four]
  ·omega)]
 simp only [bS];rw [zut, show [[110]++four r,m].flatten=([110]++four r)++m by simp only [List.flatten_cons,List.flatten_nil,List.append_nil]];rfl
def zhq (k:UInt32) (m:List UInt8):UInt32:=(zo8 (sha (([110]++four k)++m)) 8 % 500000002).toUInt32+1
theorem zqw {k:UInt32} (h1:1≤k.toNat) (h2:k.toNat<gq):zek k=some 0:=by
 have h2:k.toNat<500000003:=h2;have hs:(k - 1).toNat=k.toNat - 1:=by
  rw [UInt32.toNat_sub_of_le _ _ (by rw [UInt32.le_iff_toNat_le]; exact h1)]; rfl
 unfold zek
 rw [if_neg (by
  rw [decide_eq_true_iff,UInt32.le_iff_toNat_le,hs]
  have:(500000002:UInt32).toNat=500000002:=rfl
  omega)]
theorem zzf (n:UInt64):zb6 n=some (u32 (4 ^ n.toNat % gp)):=by
 unfold zb6;rw [ztr]; rfl
theorem z12w {k:UInt32} (h1:1≤k.toNat) (h2:k.toNat<gq) (m:List UInt8) (h:m.length≤9991):zh0 k m=some (zhq k m,0):=by
 unfold zh0;rw [zqw h1 h2];simp only [bS];rw [if_neg (by simp),z128 m k h];simp only [bS];rw [if_neg (by simp)];rfl
theorem zqh {k:UInt32} (h1:1≤k.toNat) (h2:k.toNat<gq):zd8 k=some (u32 (4 ^ k.toNat % gp),0):=by
 unfold zd8;rw [zqw h1 h2];simp only [bS];rw [if_neg (by simp),zzf];simp only [bS]
 simp
theorem q64 (x y:UInt64) (h:x.toNat * y.toNat<18446744073709551616):(x * y % 500000003).toNat=x.toNat * y.toNat % gq:=by
 rw [UInt64.toNat_mod,UInt64.toNat_mul,Nat.mod_eq_of_lt h];rfl
theorem mulq (x y:UInt32):zah 500000003 [x,y]=some (u32 (x.toNat * y.toNat % gq)):=by
 have hx:=UInt32.toNat_lt x;have hy:=UInt32.toNat_lt y;have e1:(1 * x.toUInt64 % 500000003:UInt64).toNat=x.toNat % gq:=by
  rw [q64 _ _ (by simp; omega)]; simp
 have hlt:x.toNat % gq<500000003:=Nat.mod_lt _ (by decide);have hpr:(x.toNat % gq) * y.toNat≤500000003 * 4294967296:=Nat.mul_le_mul (by omega) (by omega);have e2:(1 * x.toUInt64 % 500000003 * y.toUInt64 % 500000003:UInt64).toNat=x.toNat * y.toNat % gq:=by
  rw [q64 _ _ (by rw [e1]; simp; omega),e1];simp only [UInt32.toNat_toUInt64];rw [Nat.mod_mul_mod]
 have s1:z49 500000003 [x,y] (1,0)=some (.inr (1 * x.toUInt64 % 500000003,1)):=by
  unfold z49;rw [if_pos (by simp)];simp only [];rw [show idx [x,y] 0=some x from rfl,z3k (by decide),z12 (x:=(0:Int)+1) (by omega) (by omega)];simp only [bS];rfl
 have s2:z49 500000003 [x,y] (1 * x.toUInt64 % 500000003,1)=some (.inr (1 * x.toUInt64 % 500000003 * y.toUInt64 % 500000003,2)):=by
  unfold z49;rw [if_pos (by simp)];simp only [];rw [show idx [x,y] 1=some y from rfl,z3k (by decide),z12 (x:=(1:Int)+1) (by omega) (by omega)];simp only [bS];rfl
 have s3:z49 500000003 [x,y] (1 * x.toUInt64 % 500000003 * y.toUInt64 % 500000003,2)=some (.inl (1 * x.toUInt64 % 500000003 * y.toUInt64 % 500000003)):=by
  unfold z49;rw [if_neg (by simp)]
 unfold zah;rw [z24 s1,z24 s2,z1s s3];simp only [bS];rw [to32 _ (by rw [e2]; exact Nat.lt_trans (Nat.mod_lt _ (by decide)) (by decide)),e2]
theorem z11a {x y:UInt32} (hx:x.toNat<gq) (hy:y.toNat<gq):zf5 x y=some (u32 (x.toNat * y.toNat % gq),0):=by
 unfold zf5;rw [zov];unfold za7;rw [decide_eq_true hx,decide_eq_true hy,if_neg (by simp),mulq];rfl
theorem z16h {x y:UInt32} (hx:x.toNat<gq) (hy:y.toNat<gq):zgl x y=some (u32 ((x.toNat+y.toNat) % gq),0):=by
 unfold zgl;rw [zov];unfold za7;rw [decide_eq_true hx,decide_eq_true hy,if_neg (by simp)];have hx:x.toNat<500000003:=hx;have hy:y.toNat<500000003:=hy
 have:(x+y) % 500000003=u32 ((x.toNat+y.toNat) % gq):=by
  apply UInt32.toNat_inj.1
  rw [z2i (Nat.lt_trans (Nat.mod_lt _ (by decide)) (by decide)),UInt32.toNat_mod,UInt32.toNat_add,Nat.mod_eq_of_lt (a:=x.toNat+y.toNat) (by omega)];rfl
 rw [this];rfl
theorem zxo (r y:UInt32) (m:List UInt8):(zwn r y m).toNat<gq:=by
 unfold zwn;rw [UInt64.toNat_toUInt32,UInt64.toNat_mod];exact Nat.lt_of_le_of_lt (Nat.mod_le _ _) (Nat.mod_lt _ (by decide))
def zwl (k:UInt32) (m:List UInt8):z0c :=
 ⟨zwn (u32 (4 ^ (zhq k m).toNat % gp)) (u32 (4 ^ k.toNat % gp)) m,u32 (((zhq k m).toNat+(zwn (u32 (4 ^ (zhq k m).toNat % gp)) (u32 (4 ^ k.toNat % gp)) m).toNat * k.toNat % gq) % gq)⟩
theorem z11b {k:UInt32} (h1:1≤k.toNat) (h2:k.toNat<gq) (m:List UInt8) (h:m.length≤9991) (hK:(zhq k m).toNat<gq):zjo k m=some (zwl k m,0):=by
 unfold zjo;rw [z12w h1 h2 m h];simp only [bS];rw [if_neg (by simp),zqh h1 h2];simp only [bS];rw [zzf];simp only [bS];rw [zkv _ _ _ h];simp only [bS];rw [z11a (zxo _ _ _) h2];simp only [bS];have hg:∀ n,n % gq<gp:=fun n=>Nat.lt_trans (Nat.mod_lt _ (by decide)) (by decide);rw [z16h hK (by rw [z2i (hg _)]; exact Nat.mod_lt _ (by decide)),z2i (hg _)];simp only [bS];unfold zwl
 simp
theorem z12d {n:Nat}:4 ^ (n % gq) % gp=4 ^ n % gp:=by
 have:=zms zu4 (n / gq) (n % gq)
 rw [Nat.div_add_mod] at this;exact this.symm
theorem z17z {k:UInt32} (h2:k.toNat<gq) (m:List UInt8) (hK:(zhq k m).toNat<gq):zmc (u32 (4 ^ k.toNat % gp)) m (zwl k m)=true:=by
 have hg:∀ n,n % gq<gp:=fun n=>Nat.lt_trans (Nat.mod_lt _ (by decide)) (by decide);have hp:∀ n,n % gp<gp:=fun n=>Nat.mod_lt _ (by decide);have hE:=zxo (u32 (4 ^ (zhq k m).toNat % gp)) (u32 (4 ^ k.toNat % gp)) m;have hr:sigR (u32 (4 ^ k.toNat % gp)) (zwl k m)=u32 (4 ^ (zhq k m).toNat % gp):=by
  unfold sigR zwl;generalize (zwn (u32 (4 ^ (zhq k m).toNat % gp)) (u32 (4 ^ k.toNat % gp)) m).toNat=E at *;generalize (zhq k m).toNat=K at *;generalize k.toNat=k at *;rw [z2i (hg _),z2i (hp _),Nat.add_mod_mod,z12d,zi7,← Nat.mul_mod,← Nat.pow_add]
  have:K+E * k+k * (gq - E)=gq * k+K:=by
   have e:k * (gq - E)+k * E=k * gq:=by rw [← Nat.mul_add,Nat.sub_add_cancel (Nat.le_of_lt hE)]
   rw [Nat.mul_comm E k,Nat.mul_comm gq k,← e]; omega
  rw [this,zms zu4]
 unfold zmc;rw [hr];have e1:za7 (zwl k m).E=true:=decide_eq_true hE
 have e2:za7 (zwl k m).S=true:=decide_eq_true (by
  show (u32 _).toNat<gq
  rw [z2i (hg _)]; exact Nat.mod_lt _ (by decide))
 rw [e1,e2];simp only [Bool.true_and];show (_==_)=true;simp [zwl]
def au (o:z0a) (y:UInt32):z0a:=⟨y,o.Preds,o.Stamp,o.Act,⟨0,0⟩⟩
def zwp (k:UInt32) (o:z0a):z0a:=⟨u32 (4 ^ k.toNat % gp),o.Preds,o.Stamp,o.Act,zwl k (msg (au o (u32 (4 ^ k.toNat % gp))))⟩
theorem z126 {k:UInt32} (h1:1≤k.toNat) (h2:k.toNat<gq) (o:z0a) (hs:o.Sig=⟨0,0⟩) (hc:z4w (au o (u32 (4 ^ k.toNat % gp)))=0) (hI:inI o.Act.Value.Num) (ht:o.Act.Value.Text.length≤9223372036854775807)
  (hK:(zhq k (msg (au o (u32 (4 ^ k.toNat % gp))))).toNat<gq):zkg k o=some (zwp k o,0):=by
 have hp:=(z6e hc).1;have hl:=zk3 hc hI;have hm:zbf (⟨u32 (4 ^ k.toNat % gp),o.Preds,o.Stamp,o.Act,⟨0,0⟩⟩:z0a)=some (msg (au o (u32 (4 ^ k.toNat % gp))),0):=zk1 (au o (u32 (4 ^ k.toNat % gp))) hc hI ht;unfold zkg;rw [zqh h1 h2];simp only [bS];rw [if_neg (by simp),zrp o.Preds (Nat.le_trans hp (by omega)),hs];simp only [bS];rw [hm];simp only [bS];rw [if_neg (by simp)];rw [z11b h1 h2 (msg (au o (u32 (4 ^ k.toNat % gp)))) (by omega) hK]
 rfl
theorem zyg (a b:z0a) (h1:a.Author=b.Author) (h2:a.Preds=b.Preds) (h3:a.Stamp=b.Stamp) (h4:a.Act=b.Act):msg a=msg b:=by
 unfold msg zpq;rw [h1,h2,h3,h4]
theorem z10t {k:UInt32} (h2:k.toNat<gq) (o:z0a) (hc:z4w (au o (u32 (4 ^ k.toNat % gp)))=0) (hK:(zhq k (msg (au o (u32 (4 ^ k.toNat % gp))))).toNat<gq):zf3 (zwp k o)=0:=by
 have hs:=z17z h2 _ hK;have hx:za7 (zwp k o).Sig.E=true∧za7 (zwp k o).Sig.S=true:=by
  have:=hs
  unfold zmc at this;simp only [Bool.and_eq_true] at this;exact ⟨this.1,this.2.1⟩
 have hc2:z4w (zwp k o)=0:=by
  obtain ⟨a1,a2,a3⟩:=z6e hc;unfold zd9 at a3;simp only [Bool.and_eq_true] at a3;unfold z4w;rw [if_neg (by exact Nat.not_lt.2 a1),if_neg (by rw [show (zwp k o).Preds=(au o (u32 (4 ^ k.toNat % gp))).Preds from rfl,a2]; simp),if_pos]
  unfold zd9;simp only [Bool.and_eq_true];exact ⟨a3.1,a3.2.1,a3.2.2.1,hx.1,hx.2⟩
 have hm:msg (zwp k o)=msg (au o (u32 (4 ^ k.toNat % gp))):=zyg _ _ rfl rfl rfl rfl;have ha:(zwp k o).Author=u32 (4 ^ k.toNat % gp):=rfl;have hg:(zwp k o).Sig=zwl k (msg (au o (u32 (4 ^ k.toNat % gp)))):=rfl;unfold zf3;rw [if_pos hc2,hm,ha,hg,if_pos hs]
end
section
open Go
@[irreducible] def idv (s:O8):V3:=wr (toV s)
theorem ztf {b:List UInt8} {s:O8} (h:zvw b s=true):sha b=idv s:=by rw [idv]; exact z18g h
def wds (s:O8):List UInt32:=[s.1,s.2.1,s.2.2.1,s.2.2.2.1,s.2.2.2.2.1,s.2.2.2.2.2.1,s.2.2.2.2.2.2.1,s.2.2.2.2.2.2.2]
@[irreducible] def wrL (s:O8):List UInt8:=(List.range 32).map fun i=>(z4m ((wds s).getD (i / 4) 0) (24 - 8 * (i % 4))).toUInt8
theorem zw6 {α:Type} (n:Nat) (g:Nat→α):(Vector.ofFn (fun i:Fin n=>g i.val)).toList=(List.range n).map g:=by
 apply List.ext_getElem
 ·simp
 ·intro i h1 h2
  simp
theorem z14o (h:Vector UInt32 8):(wr h).toList=(List.range 32).map fun i=>(z4m (h.toList.getD (i / 4) 0) (24 - 8 * (i % 4))).toUInt8:=by
 rw [← zw6 32 (fun i=>(z4m (h.toList.getD (i / 4) 0) (24 - 8 * (i % 4))).toUInt8)]
 have:∀ i (hi:i / 4<8),h[i / 4]=h.toList.getD (i / 4) 0:=fun i hi=>by
  rw [List.getD_eq_getElem?_getD,List.getElem?_eq_getElem (by simpa using hi)]
  simp
 unfold wr;exact congrArg (fun f=>(Vector.ofFn f).toList) (funext fun i=>by rw [this i.val (by omega)])
theorem zp7 (s:O8):(idv s).toList=wrL s:=by
 rw [idv,z14o,wrL];rfl
def dig:Nat→Nat→List UInt8
 | 0,_=>[]
 | f+1,n=>if n=0 then [] else UInt8.ofNat n::dig f (n / 256)
theorem z13u:∀ (f n:Nat),n<256 ^ f→z3h n=dig f n
 | 0,n,h=>by
  have:n=0:=by simpa using h
  subst this; exact zcx
 | f+1,n,h=>by
  rw [dig];by_cases hn:n=0
  ·rw [if_pos hn,hn,zcx]
  ·rw [if_neg hn,zgp n hn,z13u f (n / 256) (by rw [Nat.pow_succ] at h; omega)]
def zv9 (n:Nat):List UInt8:=if n≤247 then [UInt8.ofNat n] else UInt8.ofNat (247+(dig 8 n).length)::(dig 8 n).reverse
theorem zga (n:Nat) (h:n<256 ^ 8):z26 n=zv9 n:=by
 unfold z26 zv9;rw [z13u 8 n h]
def numl (l:List UInt8):Nat→Nat
 | 0=>0
 | i+1=>256 * numl l i+(l.getD i 0).toNat
theorem zuc (d:V3):∀ i,i≤8→(zo8 d i).toNat=numl d.toList i
 | 0,_=>rfl
 | i+1,h=>by
  have ih:=zuc d i (by omega);have hl:=ztb d i (by omega);have hy:=UInt8.toNat_lt (d.toList.getD i 0);have hp:256 ^ i≤256 ^ 7:=Nat.pow_le_pow_right (by omega) (by omega);have e7:(256:Nat) ^ 7=72057594037927936:=rfl;rw [zo8,UInt64.toNat_add,UInt64.toNat_mul];have e1:((d.toList.getD i 0).toUInt64).toNat=(d.toList.getD i 0).toNat:=by simp
  have e2:(256:UInt64).toNat=256:=rfl;rw [e1,e2,Nat.mod_eq_of_lt (a:=256 * (zo8 d i).toNat) (by omega),Nat.mod_eq_of_lt (by omega),ih];rfl
def num8 (s:O8):Nat:=numl (wrL s) 8
theorem zxs (s:O8):(zo8 (idv s) 8).toNat=num8 s:=by rw [zuc _ 8 (Nat.le_refl _),zp7]; rfl
def zsu:List O8→Bool
 | a::b::l=>decide (nk (wrL a)<nk (wrL b))&&zsu (b::l)
 | _=>true
theorem z13v (s:O8):kd (idv s)=nk (wrL s):=by unfold kd; rw [zp7]
theorem zp2:∀ l:List O8,z8l (l.map idv)=zsu l
 | []=>by rw [List.map_nil,z8l,zsu] <;> simp
 | [a]=>by rw [List.map_cons,List.map_nil,z8l,zsu] <;> simp
 | a::b::l=>by
  have ih:=zp2 (b::l);simp only [List.map_cons] at ih ⊢;rw [z8l,zsu,ih,zq8,z13v,z13v];generalize nk (wrL a)=x;generalize nk (wrL b)=y;by_cases h:x<y
  ·rw [if_pos h,decide_eq_true h]; rfl
  ·rw [if_neg h,decide_eq_false h]
   split <;> rfl
theorem zuy:∀ P:List O8,znm (P.map idv)=P.flatMap wrL
 | []=>rfl
 | a::l=>by
  have:=zuy l
  unfold znm at this ⊢;rw [List.map_cons,List.flatMap_cons,List.flatMap_cons,this,zp7]
theorem of32 {n:Nat} (h:n<gq):(UInt32.ofNat n).toNat=n:=z2i (Nat.lt_trans h (by decide))
end
section
open Go
def zkr (y:UInt32) (st:UInt64) (P:List O8) (a:z07) (sg:z0c):z0a:=⟨y,P.map idv,st,a,sg⟩
def keyK (k:List UInt8):List UInt8:=zv9 k.length++k
def valK (v:z02):List UInt8:=v.Kind::(if v.Kind=1 then zv9 (zig v.Num) else if v.Kind=2 then be8 v.Bits else zv9 v.Text.length++v.Text)
def actK (a:z07):List UInt8:=if a.Kind=1 then [a.Kind] else if a.Kind=4 then ([a.Kind]++keyK a.Key)++valK a.Value else [a.Kind]++keyK a.Key
def zzt (y st:Nat) (P:List O8) (a:z07):List UInt8:=[111]++(zv9 y++((zv9 P.length++P.flatMap wrL)++(zv9 st++actK a)))
theorem zto {a:z07} (h:ze3 a=true) (ht:a.Value.Text.length≤100):a.Key.length≤20:=by
 unfold ze3 at h
 split at h
 ·simp at h; rw [h.1]; simp
 ·split at h
  ·rw [Bool.and_eq_true] at h
   have:=h.1; unfold zb5 at this; simp at this; exact this.2.1
  ·split at h
   ·rw [Bool.and_eq_true] at h
    have:=h.1; unfold zb5 at this; simp at this; exact this.2.1
   ·cases h
theorem zy6 (y:UInt32) (st:UInt64) (P:List O8) (a:z07) (sg:z0c) (hP:P.length≤4) (hk:a.Key.length≤100) (ht:a.Value.Text.length≤100) (hI:inI a.Value.Num):msg (zkr y st P a sg)=zzt y.toNat st.toNat P a:=by
 have hy:=UInt32.toNat_lt y;have hs:=UInt64.toNat_lt st;have hz:=ztz hI;have e8:(256:Nat) ^ 8=18446744073709551616:=rfl;have hh:zpq (zkr y st P a sg)=[111]++(zv9 y.toNat++((zv9 P.length++P.flatMap wrL)++(zv9 st.toNat++[a.Kind]))):=by
  unfold zpq;show [111]++(z26 y.toNat++((z26 (P.map idv).length++znm (P.map idv))++(z26 st.toNat++[a.Kind])))=_;rw [List.length_map,zuy,zga _ (by omega),zga P.length (by omega),zga st.toNat (by omega)]
 have hkk:keyB a=keyK a.Key:=by unfold keyB keyK; rw [zga _ (by omega)]
 have hv:encV a.Value=valK a.Value:=by
  unfold encV valK;rw [zga _ (by omega),zga _ (by omega)]
 unfold msg zzt actK;show (if a.Kind=1 then zpq (zkr y st P a sg) else if a.Kind=4 then (zpq (zkr y st P a sg)++keyB a)++encV a.Value else zpq (zkr y st P a sg)++keyB a)=_;rw [hh,hkk,hv]
 split
 ·rfl
 ·split <;> simp [List.append_assoc]
def zm4 (k y K r E S st:Nat) (P:List O8) (a:z07) (h1 h2 h3:O8):Bool :=
 ze3 a&&(decide (-1000000≤a.Value.Num)&&(decide (a.Value.Num≤1000000)&&(decide (a.Value.Text.length≤100)&&(
 decide (1≤k)&&(decide (k<gq)&&(decide (st≤1000000000000)&&(decide (P.length≤4)&&(zsu P&&(pmod 30 4 k gp==y &&
 (zvw (([110]++four (UInt32.ofNat k))++zzt y st P a) h1&&(num8 h1 % 500000002+1==K&&(pmod 30 4 K gp==r &&
 (zvw ((([99]++four (UInt32.ofNat r))++four (UInt32.ofNat y))++zzt y st P a) h2&&(num8 h2 % gq==E&&((K+E * k % gq) % gq==S &&
 zvw (zzt y st P a++(zv9 E++zv9 S)) h3)))))))))))))))
def askA (st:Nat) (P:List O8) (a:z07):z0a:=⟨0,P.map idv,UInt64.ofNat st,a,⟨0,0⟩⟩
theorem zt1 {k y K r E S st:Nat} {P:List O8} {a:z07} {h1 h2 h3:O8} (h:zm4 k y K r E S st P a h1 h2 h3=true) :
  (ze3 a=true∧inI a.Value.Num∧a.Value.Text.length≤100∧P.length≤4) ∧
  1≤(UInt32.ofNat k).toNat∧(UInt32.ofNat k).toNat<gq∧z4w (au (askA st P a) (u32 (4 ^ (UInt32.ofNat k).toNat % gp)))=0∧(zhq (UInt32.ofNat k) (msg (au (askA st P a) (u32 (4 ^ (UInt32.ofNat k).toNat % gp))))).toNat<gq ∧
  zwp (UInt32.ofNat k) (askA st P a)=zkr (u32 y) (UInt64.ofNat st) P a ⟨u32 E,u32 S⟩∧sha (zfl (zkr (u32 y) (UInt64.ofNat st) P a ⟨u32 E,u32 S⟩))=idv h3:=by
 unfold zm4 at h;simp only [Bool.and_eq_true,decide_eq_true_eq,beq_iff_eq] at h;obtain ⟨hact,hn1,hn2,htx,k1,k2,st1,p4,pi,hy,s1,hK,hr,s2,hE,hS,s3⟩:=h;have hI:inI a.Value.Num:=by unfold inI; omega
 have hky:=zto hact htx;have g1:∀ n,n % gp<gp:=fun n=>Nat.mod_lt _ (by decide);have g2:∀ n,n % gq<gq:=fun n=>Nat.mod_lt _ (by decide);have q30:gq<2 ^ 30:=by decide
 rw [zoq 30 4 k gp (by omega)] at hy;have hKq:K<gq:=by
  have:=Nat.mod_lt (num8 h1) (show 0<500000002 by decide)
  show K<500000003;omega
 rw [zoq 30 4 K gp (by omega)] at hr;have yl:y<gp:=by rw [← hy]; exact g1 _
 have rl:r<gp:=by rw [← hr]; exact g1 _
 have El:E<gq:=by rw [← hE]; exact g2 _
 have Sl:S<gq:=by rw [← hS]; exact g2 _
 have ek:=of32 k2;have est:(UInt64.ofNat st).toNat=st:=by rw [UInt64.toNat_ofNat',Nat.mod_eq_of_lt (by omega)]
 have ey:u32 (4 ^ (UInt32.ofNat k).toNat % gp)=u32 y:=by rw [ek,hy]
 have eau:au (askA st P a) (u32 (4 ^ (UInt32.ofNat k).toNat % gp))=zkr (u32 y) (UInt64.ofNat st) P a ⟨0,0⟩:=by rw [ey]; rfl
 have em:msg (au (askA st P a) (u32 (4 ^ (UInt32.ofNat k).toNat % gp)))=zzt y st P a:=by rw [eau,zy6 _ _ _ _ _ p4 (Nat.le_trans hky (by omega)) htx hI,z2i yl,est]
 have eK:zhq (UInt32.ofNat k) (zzt y st P a)=u32 K:=by
  apply UInt32.toNat_inj.1
  unfold zhq;rw [ztf s1,z2i (Nat.lt_trans hKq (by decide)),UInt32.toNat_add,UInt64.toNat_toUInt32,UInt64.toNat_mod];rw [zxs h1, show (500000002:UInt64).toNat=500000002 from rfl, show (1:UInt32).toNat=1 from rfl]
  have:=Nat.mod_lt (num8 h1) (show 0<500000002 by decide)
  rw [Nat.mod_eq_of_lt (a:=num8 h1 % 500000002) (by omega),Nat.mod_eq_of_lt (by omega),hK]
 have eKn:(u32 K).toNat=K:=z2i (Nat.lt_trans hKq (by decide));have eE:zwn (u32 r) (u32 y) (zzt y st P a)=u32 E:=by
  apply UInt32.toNat_inj.1
  unfold zwn
  have:sha ((([99]++four (u32 r))++four (u32 y))++zzt y st P a)=idv h2:=ztf s2
  rw [this,z2i (Nat.lt_trans El (by decide)),UInt64.toNat_toUInt32,UInt64.toNat_mod];rw [zxs h2, show (500000003:UInt64).toNat=gq from rfl,hE,Nat.mod_eq_of_lt (by have:E<500000003:=El; omega)]
 have eS:zwl (UInt32.ofNat k) (zzt y st P a)=⟨u32 E,u32 S⟩:=by
  unfold zwl;rw [eK,eKn,hr,ey,eE,z2i (Nat.lt_trans El (by decide)),ek,hS]
 have eO:zwp (UInt32.ofNat k) (askA st P a)=zkr (u32 y) (UInt64.ofNat st) P a ⟨u32 E,u32 S⟩:=by
  unfold zwp;rw [em,eS,ey];rfl
 have hc:z4w (zkr (u32 y) (UInt64.ofNat st) P a ⟨0,0⟩)=0:=by
  unfold z4w;rw [if_neg (by show ¬ 4<(P.map idv).length; rw [List.length_map]; omega),if_neg (by show ¬ z8l (P.map idv)=false; rw [zp2,pi]; simp),if_pos]
  unfold zd9;have hg:inG (u32 y).toNat:=by rw [z2i yl,← hy]; exact zpg zu4 k
  rw [decide_eq_true (show inG (zkr (u32 y) (UInt64.ofNat st) P a ⟨0,0⟩).Author.toNat from hg)]
  have hst:decide (1000000000000<(zkr (u32 y) (UInt64.ofNat st) P a ⟨0,0⟩).Stamp)=false:=decide_eq_false (by
   show ¬ 1000000000000<UInt64.ofNat st
   rw [UInt64.lt_iff_toNat_lt,est, show (1000000000000:UInt64).toNat=1000000000000 from rfl]; omega)
  rw [hst];show (true&&(!false&&(ze3 a&&(za7 0&&za7 0))))=true;rw [hact]; rfl
 refine ⟨⟨hact,hI,htx,p4⟩, by rw [ek]; exact k1, by rw [ek]; exact k2, by rw [eau]; exact hc, by rw [em,eK,eKn]; exact hKq,eO,?_⟩;unfold zfl;rw [zy6 _ _ _ _ _ p4 (Nat.le_trans hky (by omega)) htx hI,z2i yl,est];show sha (zzt y st P a++(z26 (u32 E).toNat++z26 (u32 S).toNat))=_;have e8:(256:Nat) ^ 8=18446744073709551616:=rfl;have El':E<500000003:=El;have Sl':S<500000003:=Sl;rw [z2i (Nat.lt_trans El (by decide)),z2i (Nat.lt_trans Sl (by decide)),zga E (by omega),zga S (by omega)]
 exact ztf s3
theorem z14a {k y K r E S st:Nat} {P:List O8} {a:z07} {h1 h2 h3:O8} (h:zm4 k y K r E S st P a h1 h2 h3=true):zf3 (zkr (u32 y) (UInt64.ofNat st) P a ⟨u32 E,u32 S⟩)=0:=by
 obtain ⟨a0,a1,a2,a3,a4,a5,a6⟩:=zt1 h
 have:=z10t a2 (askA st P a) a3 a4
 rw [a5] at this;exact this
theorem z13j {k y K r E S st:Nat} {P:List O8} {a:z07} {h1 h2 h3:O8} (h:zm4 k y K r E S st P a h1 h2 h3=true) :
  zkg (UInt32.ofNat k) (askA st P a)=some (zkr (u32 y) (UInt64.ofNat st) P a ⟨u32 E,u32 S⟩,0)∧zf3 (zkr (u32 y) (UInt64.ofNat st) P a ⟨u32 E,u32 S⟩)=0∧sha (zfl (zkr (u32 y) (UInt64.ofNat st) P a ⟨u32 E,u32 S⟩))=idv h3:=by
 obtain ⟨a0,a1,a2,a3,a4,a5,a6⟩:=zt1 h
 have:=z126 a1 a2 (askA st P a) rfl a3 a0.2.1 (Nat.le_trans a0.2.2.1 (by omega)) a4
 rw [a5] at this;exact ⟨this,z14a h,a6⟩
end
section
open Go
set_option maxRecDepth 100000
def jA:O8:=(1294143477,3975288409,3380291633,1307637063,2795651328,2928963845,411773720,2599519767)
def jB:O8:=(4070957495,1238851194,3006791305,3668175944,650406923,985998243,636907915,2127284687)
def jC:O8:=(3154915704,380657572,2392697411,4006790293,310211487,3996731630,1763161259,1545847034)
def jD:O8:=(214237752,562617934,2925339097,2404143993,2653642058,1067609604,2030321912,3390539454)
def jE:O8:=(996896087,4229359918,4246052097,3585165131,2118121504,1573757983,2369888462,1325175427)
theorem runA:zm4 3 64 95506305 335829907 185496409 151995529 1 [] (⟨2,[97],⟨0,0,0,[]⟩⟩:z07) (112605313,1339207200,1783641366,3320412430,1947785253,487152164,375169229,140746137) (4265001831,3568637083,1604486293,949128176,2289321985,2236400609,176333793,3900060213) jA=true:=by decide +kernel
theorem runB:zm4 3 64 141788255 646516948 492454487 119151707 2 [] (⟨3,[97],⟨0,0,0,[]⟩⟩:z07) (3882237469,2177306030,1006850798,86203303,1336156971,2313066185,68934969,2115468275) (4130172674,1263323719,3433672759,611055768,1316858700,2969885039,1485087103,1088217163) jB=true:=by decide +kernel
theorem runC:zm4 3 64 492376741 627279180 392409973 169606651 2 [jA] (⟨3,[97],⟨0,0,0,[]⟩⟩:z07) (925417426,72426898,4076856283,2310706400,840437951,872380244,3668097350,2197053560) (411624535,2943686061,3857830700,274846134,1919296119,1903840105,2951769737,2272992105) jC=true:=by decide +kernel
theorem runD:zm4 3 64 42772635 337853101 233785741 244129855 7 [] (⟨4,[114],⟨1,1,0,[]⟩⟩:z07) (3135641637,1021782002,1207780359,1966295779,589288168,2356645,4214805611,206521163) (806112351,60469826,3431872122,4209747457,1453393459,2878547669,2922712136,3179314247) jD=true:=by decide +kernel
theorem runE:zm4 3 64 179289722 23439914 321420666 143551714 7 [] (⟨4,[114],⟨1,2,0,[]⟩⟩:z07) (2467158177,2290764905,3075396574,1684983312,2311403275,4110823011,1384208907,599205290) (2698625130,2350711846,114362680,1586131210,1925828534,2541578859,2338054721,1388965634) jE=true:=by decide +kernel
def xA:z0a:=zkr (u32 64) (UInt64.ofNat 1) [] (⟨2,[97],⟨0,0,0,[]⟩⟩:z07) ⟨u32 185496409,u32 151995529⟩
def xB:z0a:=zkr (u32 64) (UInt64.ofNat 2) [] (⟨3,[97],⟨0,0,0,[]⟩⟩:z07) ⟨u32 492454487,u32 119151707⟩
def xC:z0a:=zkr (u32 64) (UInt64.ofNat 2) [jA] (⟨3,[97],⟨0,0,0,[]⟩⟩:z07) ⟨u32 392409973,u32 169606651⟩
def xD:z0a:=zkr (u32 64) (UInt64.ofNat 7) [] (⟨4,[114],⟨1,1,0,[]⟩⟩:z07) ⟨u32 233785741,u32 244129855⟩
def xE:z0a:=zkr (u32 64) (UInt64.ofNat 7) [] (⟨4,[114],⟨1,2,0,[]⟩⟩:z07) ⟨u32 321420666,u32 143551714⟩
end
section
open Go
variable {g:z00} {n:Nat} {x y z:ID} {o q:z0a} {key:Str}
structure ze4 (g:z00) (x:ID) (o:z0a):Prop where
 sz:o.Preds.length≤20∧o.Act.Key.length≤100∧o.Act.Value.Text.length≤100
 ok:zf3 o=0∧sha (zfl o)=x∧o.Preds.length≤4∧z8l o.Preds=true
 wf:zcr o
 no:x∉g.IDs
 ins:∀ p∈o.Preds,p∈g.IDs
theorem Rp.nil:Rp (⟨[],[]⟩:z00):=by
 have F:Fit (⟨[],[]⟩:z00) 60:=⟨rfl, by simp,rfl, by simp⟩
 have hn:∀ z o,z5q (⟨[],[]⟩:z00) z≠some o:=fun z o h=>by have:=(zdh h).1; cases this
 exact ⟨zy1 F ⟨fun z o h=>absurd h (hn z o), fun z o h=>absurd h (hn z o), fun _=>0, fun z o h=>absurd h (hn z o)⟩, by simp,z13q F (by omega) (by simp)⟩
theorem z133 {p:ID × z0a} {q:z0a} (h:q∈(zf8 g p).Ops):q=p.2∨q∈g.Ops:=by
 unfold zf8 at h
 split at h
 ·exact .inr h
 ·exact zlh.1 h
theorem Rp.add (R:Rp g) (hl:g.Ops.length≤59) (N:ze4 g x o):Rp (zf8 g (x,o)):=by
 have S:=zu6 R.good R.fit;have F:=zoo (p:=(x,o)) R.fit N.sz;have hlen:(zf8 g (x,o)).Ops.length≤60:=by
  have F':Fit g g.Ops.length:=⟨R.fit.ids,Nat.le_refl _,R.fit.ri,R.fit.op⟩
  have:=(zoo (p:=(x,o)) F' N.sz).len
  omega
 have F6:Fit (zf8 g (x,o)) 60:=⟨F.ids,hlen,F.ri,F.op⟩
 refine ⟨zy1 F6 (z10c R.fit S (p:=(x,o)) N.sz N.no N.ok N.ins),F.op,z13q F6 (by omega) fun q hq=>?_⟩;rcases z133 hq with rfl | h
 ·exact N.wf
 ·exact R.wf.2.1.1 q h
theorem zyu (F:Fit g n) (N:ze4 g x o):(zf8 g (x,o)).Ops.length=g.Ops.length+1:=by
 have F1:=zle F.ri x
 have:=F1.le
 have hi:=F.ids;unfold zf8;rw [if_neg N.no];show (zha g.Ops _ o).length=_;unfold zha
 simp; omega
theorem zlq (F:Fit g n) (N:ze4 g x o) (y:ID):z5q (zf8 g (x,o)) y=if y=x then some o else z5q g y:=ztp F (p:=(x,o)) N.sz N.no y
theorem zj9 (F:Fit g n) (N:ze4 g x o) (h:z5q g y=some q):z5q (zf8 g (x,o)) y=some q:=by
 rw [zlq F N,if_neg fun e=>N.no (by rw [← e]; exact (zdh h).1),h]
theorem zir (F:Fit g n) (N:ze4 g x o):z5q (zf8 g (x,o)) x=some o:=by rw [zlq F N,if_pos rfl]
theorem zag (F:Fit g n) (N:ze4 g x o) (h:z5q (zf8 g (x,o)) y=some q):(y=x∧q=o)∨(y≠x∧z5q g y=some q):=by
 rw [zlq F N] at h;by_cases e:y=x
 ·rw [if_pos e] at h; exact .inl ⟨e,(Option.some.inj h).symm⟩
 ·rw [if_neg e] at h; exact .inr ⟨e,h⟩
theorem zzo (h:zs3 g x y):∃ o p,z5q g y=some o∧p∈o.Preds:=by
 induction h with
 | one h1 h2=>exact ⟨_,_,h1,h2⟩
 | step _ _ _ ih=>exact ih
theorem z121 {rk:ID→Nat} (hr:zyf g rk) (h:zs3 g x y):rk x<rk y:=by
 induction h with
 | one h1 h2=>exact hr _ _ h1 _ h2
 | step _ h2 h3 ih=>exact Nat.lt_trans (hr _ _ h2 _ h3) ih
theorem zt0 (R:Rp g) (N:ze4 g x o) (hy:y≠x):zs3 (zf8 g (x,o)) z y↔zs3 g z y:=by
 constructor
 ·intro h
  induction h with
  | one h1 h2 =>
   rcases zag R.fit N h1 with ⟨e,-⟩ | ⟨-,h⟩
   ·exact absurd e hy
   ·exact .one h h2
  | step _ h2 h3 ih =>
   rcases zag R.fit N h2 with ⟨e,-⟩ | ⟨-,h⟩
   ·exact absurd (z13a R.good (ih hy)) (by rw [e]; exact N.no)
   ·exact .step (ih hy) h h3
 ·intro h
  clear hy
  induction h with
  | one h1 h2=>exact .one (zj9 R.fit N h1) h2
  | step _ h2 h3 ih=>exact .step ih (zj9 R.fit N h2) h3
theorem z160 (R:Rp g) (hl:g.Ops.length≤59) (N:ze4 g x o):¬ zs3 (zf8 g (x,o)) x y:=fun h=>by
 by_cases e:y=x
 ·have R':=R.add hl N;obtain ⟨rk,hr⟩:=zy0 R'.good R'.fit
  have:=z121 hr h
  rw [e] at this;omega
 ·rw [zt0 R N e] at h;exact N.no (z13a R.good h)
theorem zra (R:Rp g) (N:ze4 g x o):Over (zf8 g (x,o)) key z↔Over g key z∨(o.Act.Key=key∧o.Act.Kind=3∧zs3 (zf8 g (x,o)) z x):=by
 constructor
 ·rintro ⟨y,q,h1,h2,h3,h4⟩
  rcases zag R.fit N h1 with ⟨e,rfl⟩ | ⟨e,h⟩
  ·subst e; exact .inr ⟨h2,h3,h4⟩
  ·exact .inl ⟨y,q,h,h2,h3,(zt0 R N e).1 h4⟩
 ·rintro (⟨y,q,h1,h2,h3,h4⟩ | ⟨h1,h2,h3⟩)
  ·exact ⟨y,q,zj9 R.fit N h1,h2,h3,(zt0 R N fun e=>N.no (by rw [← e]; exact (zdh h1).1)).2 h4⟩
  ·exact ⟨x,o,zir R.fit N,h1,h2,h3⟩
theorem z124 (R:Rp g) (hl:g.Ops.length≤59) (N:ze4 g x o):¬ Over (zf8 g (x,o)) key x:=fun ⟨_,_,_,_,_,h⟩=>z160 R hl N h
theorem z18j (R:Rp g) (hl:g.Ops.length≤59) (N:ze4 g x o) (hk:o.Act.Kind=2) (hkey:o.Act.Key=key):InS (zf8 g (x,o)) key :=
 ⟨x,o,zir R.fit N,hk,hkey,z124 R hl N⟩
theorem z14f (R:Rp g) (N:ze4 g x o) (h2:¬ (o.Act.Kind=2∧o.Act.Key=key)) (h3:¬ (o.Act.Kind=3∧o.Act.Key=key)):InS (zf8 g (x,o)) key↔InS g key:=by
 have ov:∀ z,Over (zf8 g (x,o)) key z↔Over g key z:=fun z=>by
  rw [zra R N];exact ⟨fun h=>h.elim id fun h=>absurd ⟨h.2.1,h.1⟩ h3,.inl⟩
 constructor
 ·rintro ⟨y,q,k1,k2,k3,k4⟩
  rcases zag R.fit N k1 with ⟨e,rfl⟩ | ⟨e,h⟩
  ·exact absurd ⟨k2,k3⟩ h2
  ·exact ⟨y,q,h,k2,k3, fun h=>k4 ((ov y).2 h)⟩
 ·rintro ⟨y,q,k1,k2,k3,k4⟩
  exact ⟨y,q,zj9 R.fit N k1,k2,k3, fun h=>k4 ((ov y).1 h)⟩
theorem z15n (R:Rp g) (N:ze4 g x o) (h3:o.Act.Kind=3) (hkey:o.Act.Key=key) (all:∀ z q,z5q g z=some q→zs3 (zf8 g (x,o)) z x):¬ InS (zf8 g (x,o)) key:=by
 rintro ⟨y,q,k1,k2,k3,k4⟩
 rcases zag R.fit N k1 with ⟨e,rfl⟩ | ⟨e,h⟩
 ·rw [h3] at k2; cases k2
 ·exact k4 ((zra R N).2 (.inr ⟨hkey,h3,all y q h⟩))
end
end Go.Proofs.YtcneilabmjkdlabGreatDoor
