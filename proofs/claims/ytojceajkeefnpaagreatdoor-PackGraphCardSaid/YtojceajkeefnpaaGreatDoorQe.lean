import Derived.Test.YtojceajkeefnpaaGreatDoorQd
set_option linter.unusedSimpArgs false
set_option linter.unusedVariables false
namespace Go.Proofs.YtojceajkeefnpaaGreatDoor
section
open Go Go.RowKit
set_option maxRecDepth 100000
set_option maxHeartbeats 4000000 in
theorem zdq (p0_0:Value) (c0_0:z0w) (a1:List V3) (q1:Value) (l1:List V3):z23 Tryz.prog 64 [.val (z07 p0_0 0),.vw aZ q1 l1 a1] [(1,some (p0_0,.box 112 [.rd z1k c0_0])),(2,some (q1,.list aZ 45 l1))] (z3g c0_0 a1) (fun r nv=>⟨[.rd z03 r.1],[(1,some (p0_0,.box 112 [.rd z1k r.2])),(2,some (q1,.list aZ 45 l1))]⟩):=by
 refine z2m 87 Tryz.func64 Z Z Z fun H w=>?_;refine gSR<|Eb Z (z6n 3 z6h (ZrE.rd (R:=z0s) (x:=0) (Zr.num Z) (ZrE.nilS (ZrE.rd (R:=z1z) (x:=0) (Zr.num Z) (ZrE.rd (R:=z0c) (x:=(⟨0,[],(⟨0,0,0,[]⟩:z00)⟩:z0b)) zlm (ZrE.rd (R:=z0e) (x:=(⟨0,0⟩:z0a)) zlc ZrE.nil Z) Z) Z)) Z)) fun v1=>Zn<|gSR<|Zm Z<|Zq (zdu 1 Z Z fH)<|Zq (faB 1 Z Z Tryz.underlying112 Z (by exact zet))<|Zq (ld 1 Z Z (fP (z1t _)) znl Z)<|Zc [] [(100,4)] Tryz.func112 Z (zbt _ _) fun r2 n3=>Zm Z<|Zq (ext Z Z)<|Zq (ext Z Z)<|Zq (ext Z Z)<|Za Z<|Za Z<|Zb Z<|z0x<|gSR<|Zm Z<|Zq (I.neq Z Z)<|Zj Z (fun h4=>?_) (fun h4=>?_)
 ·refine gSR<|Zm Z<|Zq (zdu 1 Z Z fH)<|Zq (faB 1 Z Z Tryz.underlying112 Z (by exact ti4))<|Es (sto 1 Z Z (fP (z4c _)) Z ti4)<|Zn<|gSR<|Zq (zuc [(0,1),(1,1),(2,1),(3,6),(9,2)] Tryz.underlying43 z6h (ZrE.rd (R:=z0s) (x:=0) (Zr.num Z) (ZrE.nilS (ZrE.rd (R:=z1z) (x:=0) (Zr.num Z) (ZrE.rd (R:=z0c) (x:=(⟨0,[],(⟨0,0,0,[]⟩:z00)⟩:z0b)) zlm (ZrE.rd (R:=z0e) (x:=(⟨0,0⟩:z0a)) zlc ZrE.nil Z) Z) Z)) Z) Z (zi7.done Z))<|Es (zpl 3 Z Z (z06.cast (z06.cons z09 (z06.cons z08 (z06.cons z09 (z06.cons z09 (z06.cons z09 z06.nil))))) Z) Z (z1e.cons z1n (z1e.cons z12 (z1e.cons z1n (z1e.cons z1n (z1e.cons z1n z1e.nil))))) (z06.cast (z06.cons z09 (z06.cons z08 (z06.cons z09 (z06.cons z09 (z06.cons z09 z06.nil))))) Z) z6h)<|Zn<|z0n<|z0u<|zn8 aZ [.rd z0s 0,.rd (z02 aZ) [],.rd z1z 0,.rd z0c (⟨0,[],(⟨0,0,0,[]⟩:z00)⟩:z0b),.rd z0e (⟨0,0⟩:z0a)] 3 [.rd z0s 0] [.rd z1z 0,.rd z0c (⟨0,[],(⟨0,0,0,[]⟩:z00)⟩:z0b),.rd z0e (⟨0,0⟩:z0a)] Z Z Z<|zxn (R:=z03) (⟨0,[],0,(⟨0,[],(⟨0,0,0,[]⟩:z00)⟩:z0b),(⟨0,0⟩:z0a)⟩:z05) 3 Z (Sp.via (Sp.prod (Sp.prod (Sp.prod (Sp.prod (Sp.prod Sp.unit))))))<|zbm [] [1,2] Z (eC 3 Z Z za3<|eN) (Zi Z<|Zi Z<|rN)
 ·refine Zt<|gSR<|Zm Z<|Zm Z<|Zq (zdu 1 Z Z fH)<|Zq (faB 1 Z Z Tryz.underlying112 Z (by exact zet))<|Zq (ld 1 Z Z (fP (z1t _)) znl Z)<|Zm Z<|z0q fun x5 h6=>Zq (zud Z (.to Z) .no h6 tu52 ti5)<|Zq (zdu 1 Z Z fH)<|Zq (faB 1 Z Z Tryz.underlying112 Z (by exact zet))<|Es (sto 1 Z Z (fP (z1t _)) Z zet)<|Zn<|gSR<|Zm Z<|zg9 4 [16,5,35] Z (fS Z<|fS Z<|fS Z<|fN)<|Zc [] [(100,5)] Tryz.func113 Z (zpb _) fun r7 n8=>Zm Z<|Zq (ext Z Z)<|Zq (ext Z Z)<|Eb Z (z6n 6 z6h (ZrE.rd (R:=z0s) (x:=0) (Zr.num Z) (ZrE.nilS (ZrE.rd (R:=z1z) (x:=0) (Zr.num Z) (ZrE.rd (R:=z0c) (x:=(⟨0,[],(⟨0,0,0,[]⟩:z00)⟩:z0b)) zlm (ZrE.rd (R:=z0e) (x:=(⟨0,0⟩:z0a)) zlc ZrE.nil Z) Z) Z)) Z)) fun v9=>Es (zpl 6 Z Z (z06.cast (z06.cons z09 (z06.cons z08 (z06.cons z09 (z06.cons z09 (z06.cons z09 z06.nil))))) Z) Z (z1e.cons z1n (z1e.cons z12 (z1e.cons z1n (z1e.cons z1n (z1e.cons z1n z1e.nil))))) (z06.cast (z06.cons z09 (z06.cons z08 (z06.cons z09 (z06.cons z09 (z06.cons z09 z06.nil))))) Z) z6h)<|Zb Z<|z0x<|z7x (fun (s10:Bool) aa ww=>Sta (ctx 87 H [(1,some (p0_0,.box 112 [.rd z1k c0_0])),(2,some (q1,.list aZ 45 l1))] w) [(0,.val (z07 p0_0 0)),(1,.vw aZ q1 l1 a1),(4,.val (z07 v1 0)),(8,.val (z07 v9 0)),(46,.rd z0h s10)] [(1,some (p0_0,.box 112 [.rd z1k ({ c0_0 with b:=x5 })])),(2,some (q1,.list aZ 45 l1)),(3,some (v1,.box 43 [.rd z0s 0,.val (.slice none 0 0),.rd z1z 0,.rd z0c (⟨0,[],(⟨0,0,0,[]⟩:z00)⟩:z0b),.rd z0e (⟨0,0⟩:z0a)])),(5,some ((n8 0),.list aZ 45 r7.1.Preds)),(6,some (v9,.box 43 [.rd z0s r7.1.Author,.val (n8 0),.rd z1z r7.1.Stamp,.rd z0c r7.1.Act,.rd z0e r7.1.Sig]))] aa ww) ?_ (fun s10=>?_)
  ·refine z28<|Zm Z<|Zq (I.neq Z Z)<|Zm Z<|z1h 41 Z (fun h11=>?_) (fun h11=>?_)
   ·refine lKn 40 Z h11<|Zk Z<|Zk Z<|Zk Z<|Zk Z<|Zq (pkT Z Z)<|z1p<|z3k (fun aa ww h=>Zu h [1,2,3,5,6])
   ·refine lKn 40 Z h11<|z13 Zx Z Z (faB 6 Z Z Tryz.underlying43 Z (by exact z8j))<|z13 Zx Z Z (ldV 6 Z Z (At.cast (At.next z09 At.here) Z) sc29 Z)<|z13 Zx Z Z (z3e Z (.own 5 Z) Z tu29)<|z13 Zx Z Z (I.gtr Z Z)<|Zq (pkF Z Z)<|z1p<|z3k (fun aa ww h=>Zu h [1,2,3,5,6])
  ·refine gIf Z Z (fun h12=>?_) (fun h12=>?_)
   ·refine gSR<|Zm Z<|Zq (zdu 1 Z Z fH)<|Zq (faB 1 Z Z Tryz.underlying112 Z (by exact ti4))<|Es (sto 1 Z Z (fP (z4c _)) Z ti4)<|Zn<|gSR<|Zq (zuc [(0,1),(1,1),(2,1),(3,6),(9,2)] Tryz.underlying43 z6h (ZrE.rd (R:=z0s) (x:=0) (Zr.num Z) (ZrE.nilS (ZrE.rd (R:=z1z) (x:=0) (Zr.num Z) (ZrE.rd (R:=z0c) (x:=(⟨0,[],(⟨0,0,0,[]⟩:z00)⟩:z0b)) zlm (ZrE.rd (R:=z0e) (x:=(⟨0,0⟩:z0a)) zlc ZrE.nil Z) Z) Z)) Z) Z (zi7.done Z))<|Es (zpl 3 Z Z (z06.cast (z06.cons z09 (z06.cons z08 (z06.cons z09 (z06.cons z09 (z06.cons z09 z06.nil))))) Z) Z (z1e.cons z1n (z1e.cons z12 (z1e.cons z1n (z1e.cons z1n (z1e.cons z1n z1e.nil))))) (z06.cast (z06.cons z09 (z06.cons z08 (z06.cons z09 (z06.cons z09 (z06.cons z09 z06.nil))))) Z) z6h)<|Zn<|z0n<|z0u<|zn8 aZ [.rd z0s 0,.rd (z02 aZ) [],.rd z1z 0,.rd z0c (⟨0,[],(⟨0,0,0,[]⟩:z00)⟩:z0b),.rd z0e (⟨0,0⟩:z0a)] 3 [.rd z0s 0] [.rd z1z 0,.rd z0c (⟨0,[],(⟨0,0,0,[]⟩:z00)⟩:z0b),.rd z0e (⟨0,0⟩:z0a)] Z Z Z<|zxn (R:=z03) (⟨0,[],0,(⟨0,[],(⟨0,0,0,[]⟩:z00)⟩:z0b),(⟨0,0⟩:z0a)⟩:z05) 3 Z (Sp.via (Sp.prod (Sp.prod (Sp.prod (Sp.prod (Sp.prod Sp.unit))))))<|zbm [] [1,2] Z (eC 3 Z Z za3<|eN) (Zi Z<|Zi Z<|rN)
   ·refine Zt<|z7x (fun (s13:(List V3) × z0w) aa ww=>∃ nv:Nat→Value,Sta (ctx 87 H [(1,some (p0_0,.box 112 [.rd z1k c0_0])),(2,some (q1,.list aZ 45 l1))] w) [(4,.val (z07 v1 0)),(8,.val (z07 v9 0))] [(3,some (v1,.box 43 [.rd z0s 0,.val (.slice none 0 0),.rd z1z 0,.rd z0c (⟨0,[],(⟨0,0,0,[]⟩:z00)⟩:z0b),.rd z0e (⟨0,0⟩:z0a)])),(5,some ((nv 0),.list aZ 45 s13.1)),(6,some (v9,.box 43 [.rd z0s r7.1.Author,.val (nv 0),.rd z1z r7.1.Stamp,.rd z0c r7.1.Act,.rd z0e r7.1.Sig])),(1,some (p0_0,.box 112 [.rd z1k s13.2])),(2,some (q1,.list aZ 45 l1))] aa ww) ?_ (fun s13=>?_)
    ·refine gSR<|Zm Z<|Zc [1] [(1,1)] Tryz.func63 Z (z9f _ _ _) fun r14 n15=>Zm Z<|Zn<|z29 (fun (s16:z0w × (List V3) × Int) aa ww=>∃ nv:Nat→Value,Sta (ctx 87 H [(1,some (p0_0,.box 112 [.rd z1k c0_0])),(2,some (q1,.list aZ 45 l1))] w) [(0,.val (z07 p0_0 0)),(1,.vw aZ q1 l1 a1),(4,.val (z07 v1 0)),(8,.val (z07 v9 0)),(52,.rd z0f r14.1),(53,.rd z0f s16.2.2)] [(1,some (p0_0,.box 112 [.rd z1k s16.1])),(2,some (q1,.list aZ 45 l1)),(3,some (v1,.box 43 [.rd z0s 0,.val (.slice none 0 0),.rd z1z 0,.rd z0c (⟨0,[],(⟨0,0,0,[]⟩:z00)⟩:z0b),.rd z0e (⟨0,0⟩:z0a)])),(5,some ((nv 0),.list aZ 45 s16.2.1)),(6,some (v9,.box 43 [.rd z0s r7.1.Author,.val (nv 0),.rd z1z r7.1.Stamp,.rd z0c r7.1.Act,.rd z0e r7.1.Sig]))] aa ww) (fun aa ww h=>⟨nvl [(n8 0)],Zu h [1,2,3,5,6]⟩) (fun s16=>?_)
     refine gEx fun n17=>gSR<|Zq (I.lss Z Z)<|Zn<|z0x<|gIf Z Z (fun h18=>?_) (fun h18=>?_)
     ·refine Zt<|z0x<|z4s<|gSR<|Zm Z<|Zm Z<|Zq (z3e Z (.vw 2 Z) Z tu29)<|Zc [1] [(1,1)] Tryz.func63 Z (z9f _ _ _) fun r19 n20=>Zb Z<|gSR<|Zm Z<|Zq (I.gtr Z Z)<|Zj Z (fun h21=>?_) (fun h21=>?_)
      ·refine z9u [5,6,34] mixed Z Z<|hTk 0 Z Z (faB 6 Z Z Tryz.underlying43 Z (by exact z8j))<|hTk 2 Z Z (mv Z)<|hTk 3 Z Z (mv Z)<|hTk 4 Z Z (z3e Z (.vw 2 Z) Z tu29)<|hTk 5 Z Z (mv Z)<|hTk 6 Z Z (I.sub Z Z)<|z5n fun x22 h23=>hTk 7 Z Z (ixQ 2 Z Z Z h23 tu29 z31)<|hTk 8 Z Z (ldQ 2 Z Z z59 Z)<|hAlt [1,9] (by kernel_rfl) Z ⟨?_,?_,trivial⟩
       ·refine oRun 1 Z (gd0 Z) Z Z z3t (ldV 6 Z Z (At.cast (At.next z09 At.here) Z) sc29 Z)<|Zo 9 Z Z Z (lit (R:=aZ) ([x22]:List V3) 34 (pP Z Z<|pN) Z tu29 z31 Z Z) fun v24=>hFrz 34 [70] Z (fS Z<|fN)<|z5n fun x25 h26=>Zo 10 Z Z Z (apn 5 Z Z Z .rd h26 tu29 z31 Z Z Z) fun v27=>hTk 11 Z Z (faB 6 Z Z Tryz.underlying43 Z (by exact z8j))<|Zp 12 Z Z Z Z Z (zo4 6 Z Z (z7f.cast (z7f.next z09 (z7f.here z08)) Z) Z z12 z08 z8j)<|z6e (by kernel_rfl)<|z3c<|z0y<|z28<|Zq (I.add Z Z)<|Zm Z<|z1p<|z1s (fun aa ww h=>⟨nvl [v27],Zu h [1,2,3,5,6]⟩)
       ·refine oDo 9 Z (gd0 Z) Z Z Z (lit (R:=aZ) ([x22]:List V3) 34 (pP Z Z<|pN) Z tu29 z31 Z Z) (fun _=>rfl) fun v28=>hRun 1 Z (by kernel_rfl) (gd0 Z) Z Z z3t (ldV 6 Z Z (At.cast (At.next z09 At.here) Z) sc29 Z)<|hFrz 34 [70] Z (fS Z<|fN)<|z5n fun x29 h30=>Zo 10 Z Z Z (apn 5 Z Z Z .rd h30 tu29 z31 Z Z Z) fun v31=>hTk 11 Z Z (faB 6 Z Z Tryz.underlying43 Z (by exact z8j))<|Zp 12 Z Z Z Z Z (zo4 6 Z Z (z7f.cast (z7f.next z09 (z7f.here z08)) Z) Z z12 z08 z8j)<|z6e (by kernel_rfl)<|z3c<|z0y<|z28<|Zq (I.add Z Z)<|Zm Z<|z1p<|z1s (fun aa ww h=>⟨nvl [v31],Zu h [1,2,3,5,6]⟩)
      ·refine gSR<|Zm Z<|Zq (zdu 1 Z Z fH)<|Zq (faB 1 Z Z Tryz.underlying112 Z (by exact ti4))<|Zq (ld 1 Z Z (fP (z4c _)) ty4 Z)<|Zq (zds Z)<|Zj Z (fun h32=>?_) (fun h32=>?_)
       ·refine zxx [(0,.val (z07 p0_0 0)),(1,.vw aZ q1 l1 a1),(4,.val (z07 v1 0)),(8,.val (z07 v9 0)),(52,.rd z0f r14.1),(53,.rd z0f s16.2.2)] [(1,some (p0_0,.box 112 [.rd z1k r19.2])),(2,some (q1,.list aZ 45 l1)),(3,some (v1,.box 43 [.rd z0s 0,.val (.slice none 0 0),.rd z1z 0,.rd z0c (⟨0,[],(⟨0,0,0,[]⟩:z00)⟩:z0b),.rd z0e (⟨0,0⟩:z0a)])),(5,some ((n17 0),.list aZ 45 s16.2.1)),(6,some (v9,.box 43 [.rd z0s r7.1.Author,.val (n17 0),.rd z1z r7.1.Stamp,.rd z0c r7.1.Act,.rd z0e r7.1.Sig]))] [1,2,3,5,6] (Zs Z Z Z Z<|sS Z<|sS Z<|sN) (Zi Z<|Zi Z<|Zi Z<|Zi Z<|Zi Z<|rN)<|z83 fun r33 h35=>z83 fun x36 h37=>gOr [] [⟨6,some ([], fun nv=>(v9,.box 43 [.rd z0s r7.1.Author,.val (n17 0),.rd z1z r7.1.Stamp,.rd z0c r7.1.Act,.rd z0e r7.1.Sig])),[(7,some ([2], fun nv=>(v9,.box 43 [.rd z0s r7.1.Author,.val (nv 2),.rd z1z r7.1.Stamp,.rd z0c r7.1.Act,.rd z0e r7.1.Sig])))]⟩,⟨1,some ([], fun nv=>(p0_0,.box 112 [.rd z1k r19.2])),[(3,some ([], fun nv=>(p0_0,.box 112 [.rd z1k r33.2])))]⟩,⟨49,none,[(4,none)]⟩,⟨5,some ([], fun nv=>((n17 0),.list aZ 45 s16.2.1)),[(5,some ([2], fun nv=>((nv 2),.list aZ 45 x36)))]⟩] [pk 78 (.val (z07 v9 (0+1))) [(0,0,false)],pk 79 (.val (n17 0)) [(0,0,false)],pd 80 (.val (z07 p0_0 0)),pk 81 (.rd aZ r33.1) [(1,0,true)],⟨some (82,[], fun nv=>.rd (z02 aZ) [r33.1]),[(2,0,true)],[1],[]⟩,⟨some (83,[2], fun nv=>.val (nv 2)),[(3,0,true)],[2],[]⟩,pk 84 (.val (z07 v9 (0+1))) [(0,0,false)],⟨none,[(3,1,false),(0,0,true)],[],[]⟩] mixed (oC (oRn (fun nv E=>faB 6 Z Z Tryz.underlying43 Z (by exact z8j)))<|oC (oRn (fun nv E=>ldV 6 Z Z (At.cast (At.next z09 At.here) Z) sc29 Z))<|oC (oRn (fun nv E=>mv Z))<|oC (oCl [] [1] [(1,1)] h35 Tryz.func114 Z (fun nv=>(zll _ _)) (fun nv=>(Y1 Z)) (fun nv E=>(y1 Z)))<|oC (oFz (A1:=fun nv=>[(49,some ((nv 1),.list aZ 45 [r33.1]))]) 49 1 (oEf 49 1 (fun nv E=>lit (R:=aZ) ([r33.1]:List V3) 49 (pP Z Z<|pN) Z tu29 z31 Z Z)))<|oC (oEf 5 2 (fun nv E=>apn 5 Z Z Z .rd h37 tu29 z31 Z Z Z))<|oC (oRn (fun nv E=>faB 6 Z Z Tryz.underlying43 Z (by exact z8j)))<|oC (oEs 6 (fun nv E=>zo4 6 Z Z (z7f.cast (z7f.next z09 (z7f.here z08)) Z) Z z12 z08 z8j))<|oN) fun n38=>z3c<|z0y<|z28<|Zq (I.add Z Z)<|Zm Z<|z1p<|z1s (fun aa ww h=>⟨nvl [(n38 2)],Zu h [1,2,3,5,6]⟩)
       ·refine z30<|z3c<|z0y<|z28<|Zq (I.add Z Z)<|Zm Z<|z1p<|z1s (fun aa ww h=>⟨nvl [(n17 0)],Zu h [1,2,3,5,6]⟩)
     ·refine z27<|z19<|z1b<|z3k (fun aa ww h=>⟨nvl [(n17 0)],Zu h [3,5,6,1,2]⟩)
    ·refine gEx fun n39=>gSR<|lPow [.rd z0s r7.1.Author,.rd (z02 aZ) s13.1,.rd z1z r7.1.Stamp,.rd z0c r7.1.Act,.rd z0e r7.1.Sig] 6 5 [.rd z0s r7.1.Author] [.rd z1z r7.1.Stamp,.rd z0c r7.1.Act,.rd z0e r7.1.Sig] Z Z Z Z Z<|zgt (R:=z03) (⟨r7.1.Author,s13.1,r7.1.Stamp,r7.1.Act,r7.1.Sig⟩:z05) 6 Z (Sp.via (Sp.prod (Sp.prod (Sp.prod (Sp.prod (Sp.prod Sp.unit))))))<|Zq (ld 6 Z Z fH za3 Z)<|zhd aZ [.rd z0s 0,.rd (z02 aZ) [],.rd z1z 0,.rd z0c (⟨0,[],(⟨0,0,0,[]⟩:z00)⟩:z0b),.rd z0e (⟨0,0⟩:z0a)] 3 [.rd z0s 0] [.rd z1z 0,.rd z0c (⟨0,[],(⟨0,0,0,[]⟩:z00)⟩:z0b),.rd z0e (⟨0,0⟩:z0a)] Z Z Z<|zgt (R:=z03) (⟨0,[],0,(⟨0,[],(⟨0,0,0,[]⟩:z00)⟩:z0b),(⟨0,0⟩:z0a)⟩:z05) 3 Z (Sp.via (Sp.prod (Sp.prod (Sp.prod (Sp.prod (Sp.prod Sp.unit))))))<|Es (sto 3 Z Z fH Z z6h)<|Zn<|z0n<|zbm [] [1,2] Z (eC 3 Z Z za3<|eN) (Zi Z<|Zi Z<|rN)
theorem zl6 (a0:List UInt8) (q0:Value) (l0:List UInt8) (a1:List UInt8):z23 Tryz.prog 66 [.vw u8R q0 l0 a0,.rd (z02 u8R) a1] [(1,some (q0,.list u8R 5 l0))] (zj8 a0 a1) (fun r nv=>⟨[.rd z0h r],[(1,some (q0,.list u8R 5 l0))]⟩):=by
 refine z2m 10 Tryz.func66 Z Z Z fun H w=>?_;refine gSR<|Zb Z<|gSR<|Zm Z<|Zq (cvBQ 1 Z vwI Z tu52 tu5 tu9 Z)<|Zm Z<|Zq (cvBS Z tu52 tu5 tu9)<|Zq (eqS Z Z)<|Zb Z<|z0n<|Ze [] [1] Z
def zcf (r10:Int × z0w) (s12:z0w × (List z05) × (List V3) × Int):Option (Sum (Sum ((List z05) × Int) (z0w × (List z05))) (z0w × (List z05) × (List V3) × Int)) :=
 if decide (s12.2.2.2<r10.1) then
  z3g s12.1 s12.2.2.1 >>= fun r15 =>
  zow r15.1 >>= fun r18 =>
  if r15.2.bad then
   some (.inl (.inl ([],12)))
  else
   if r18.2 != 0 then
    some (.inl (.inl ([],12)))
   else
    app 112 s12.2.1 [r15.1] >>= fun x23 =>
    app 32 s12.2.2.1 [r18.1] >>= fun x25 =>
    some (.inr (r15.2,x23,x25,w64 (s12.2.2.2+1)))
 else
  some (.inl (.inr (s12.1,s12.2.1)))
def zk2 (a0:List UInt8):Option ((List z05) × Int) :=
 if decide (30000<(a0.length:Int)) then
  some ([],4)
 else
  if (a0.length:Int)==0 then
   some ([],12)
  else
   idx a0 0 >>= fun x3 =>
   if x3 != 112 then
    some ([],12)
   else
    cut a0 1 (a0.length:Int) >>= fun x6 =>
    z4y (z54 (⟨x6,false⟩:z0w) 60 >>= fun r10 =>
    iter (zcf r10) (r10.2,[],[],0)) fun s9 =>
    z5w s9.2 >>= fun r29 =>
    (if s9.1.bad then
     some true
    else
     if r29.2 != 0 then
      some true
     else
      zj8 r29.1 a0 >>= fun r34 =>
      some (!r34)) >>= fun s31 =>
    if s31 then
     some ([],12)
    else
     some (s9.2,0)
set_option maxHeartbeats 4000000 in
theorem zs6 (a0:List UInt8):z23 Tryz.prog 28 [.rd (z02 u8R) a0] [zG1] (zk2 a0) (fun r nv=>⟨[.rd (z02 z03) r.1,.rd z0f r.2],[(1001,some (.bool true,.glob 1 (z3i 64 z0s) z6j))]⟩):=by
 refine z2m 77 Tryz.func28 Z Z Z fun H w=>?_;refine gSR<|Za Z<|Zb Z<|z0x<|gSR<|Zm Z<|Zq (z3e Z .rd Z tu52)<|Zq (I.gtr Z Z)<|Zj Z (fun h1=>?_) (fun h1=>?_)
 ·refine gSR<|Za Z<|Zb Z<|z0n<|z0u<|zi8 z03 2 Z<|Ze [] [1001] Z
 ·refine Zt<|z0x<|gSR<|Zm Z<|Zq (z3e Z .rd Z tu52)<|Zq (I.eql Z Z)<|Zm Z<|z1h 18 Z (fun h2=>?_) (fun h2=>?_)
  ·refine lKn 17 Z h2<|Zk Z<|Zk Z<|Zk Z<|Zk Z<|Zq (pkT Z Z)<|Zn<|zes Z<|gSR<|Za Z<|Zb Z<|z0n<|z0u<|zi8 z03 2 Z<|Ze [] [1001] Z
  ·refine lKn 17 Z h2<|z13 Zx Z Z (mv Z)<|z0q fun x3 h4=>z13 Zx Z Z (ixR Z Z h4 tu52 ti5 Z)<|z13 Zx Z Z (ldR Z ty5)<|z13 Zx Z Z (B.neq Z Z)<|Zq (pkF Z Z)<|Zj Z (fun h5=>?_) (fun h5=>?_)
   ·refine gKn 22 Z h5<|gSR<|Za Z<|Zb Z<|z0n<|z0u<|zi8 z03 2 Z<|Ze [] [1001] Z
   ·refine gKn 22 Z h5<|Zt<|gSR<|Zm Z<|z0q fun x6 h7=>Zq (zud Z (.to Z) .no h7 tu52 ti5)<|Zq (bld (x':=(⟨x6,false⟩:z0w)) [(0,1),(1,1)] Tryz.underlying112 z1c4 Z z1bq Z (Bld.cons (z1t _) Z Z<|Bld.done Z))<|Eb Z (bx 1 Z) fun v8=>Zb Z<|gSR<|Zb Z<|gSR<|Zb Z<|z7c (fun (s9:z0w × (List z05)) aa ww=>∃ nv:Nat→Value,Sta (ctx 77 H [zG1] w) [(0,.rd (z02 u8R) a0),(4,.val (z07 v8 0)),(5,.val (nv 0))] [(1,some (v8,.box 112 [.rd z1k s9.1])),(4,some ((nv 0),.list z03 43 s9.2)),zG1] aa ww) ?_ (fun s9=>?_)
    ·refine gSR<|Zm Z<|Zc [1] [(1,1)] Tryz.func63 Z (z9f _ _ _) fun r10 n11=>Zm Z<|Zn<|zub z03 43 1104<|zub aZ 45 1105<|z29 (fun (s12:z0w × (List z05) × (List V3) × Int) aa ww=>∃ nv:Nat→Value,Sta (ctx 77 H [zG1] w) [(0,.rd (z02 u8R) a0),(4,.val (z07 v8 0)),(5,.val (nv 0)),(6,.val (nv 1)),(29,.rd z0f r10.1),(30,.rd z0f s12.2.2.2)] [(1,some (v8,.box 112 [.rd z1k s12.1])),(1102,some ((nv 0),.list z03 43 s12.2.1)),(1103,some ((nv 1),.list aZ 45 s12.2.2.1)),zG1] aa ww) (fun aa ww h=>⟨nvl [(.slice none 0 0),(.slice none 0 0)],Zu h [1,1104,1105,1001]⟩) (fun s12=>?_)
     refine gEx fun n13=>gSR<|Zq (I.lss Z Z)<|Zn<|z0x<|gIf Z Z (fun h14=>?_) (fun h14=>?_)
     ·refine Zt<|z0x<|z4s<|gSR<|Zm Z<|Zm Z<|call [1,1103] [(1,1),(2,1103)] Z Tryz.func64 Z Z (zdq _ _ _ _ _) (aQ Z<|aW Z<|aN) (Zi Z<|Zi Z<|rN) fun r15 n16=>Eb Z (z6n 1106 z6h (ZrE.rd (R:=z0s) (x:=0) (Zr.num Z) (ZrE.nilS (ZrE.rd (R:=z1z) (x:=0) (Zr.num Z) (ZrE.rd (R:=z0c) (x:=(⟨0,[],(⟨0,0,0,[]⟩:z00)⟩:z0b)) zlm (ZrE.rd (R:=z0e) (x:=(⟨0,0⟩:z0a)) zlc ZrE.nil Z) Z) Z)) Z)) fun v17=>zhd aZ [.rd z0s 0,.rd (z02 aZ) [],.rd z1z 0,.rd z0c (⟨0,[],(⟨0,0,0,[]⟩:z00)⟩:z0b),.rd z0e (⟨0,0⟩:z0a)] 1106 [.rd z0s 0] [.rd z1z 0,.rd z0c (⟨0,[],(⟨0,0,0,[]⟩:z00)⟩:z0b),.rd z0e (⟨0,0⟩:z0a)] Z Z Z<|zgt (R:=z03) (⟨0,[],0,(⟨0,[],(⟨0,0,0,[]⟩:z00)⟩:z0b),(⟨0,0⟩:z0a)⟩:z05) 1106 Z (Sp.via (Sp.prod (Sp.prod (Sp.prod (Sp.prod (Sp.prod Sp.unit))))))<|Es (sto 1106 Z Z fH Z z6h)<|Zn<|gSR<|Zq (ld 1106 Z Z fH za3 Z)<|Zc [1001] [] Tryz.func65 Z (zhs _) fun r18 n19=>Zm Z<|Zq (ext Z Z)<|Zq (ext Z Z)<|Eb Z (z6n 1107 z31 (.zr (R:=aZ) (x:=(Vector.replicate 32 0)) zfo)) fun v20=>Es (sto 1107 Z Z fH Z z31)<|Zb Z<|z0x<|gSR<|Zm Z<|Zq (zdu 1 Z Z fH)<|Zq (faB 1 Z Z Tryz.underlying112 Z (by exact ti4))<|Zq (ld 1 Z Z (fP (z4c _)) ty4 Z)<|Zm Z<|z1h 44 Z (fun h21=>?_) (fun h21=>?_)
      ·refine lKn 43 Z h21<|Zk Z<|Zk Z<|Zq (pkT Z Z)<|Zn<|zes Z<|gSR<|Za Z<|Zb Z<|z0n<|z0u<|z3m<|z0u<|z6c<|z58<|zi8 z03 2 Z<|Ze [] [1001] Z
      ·refine lKn 43 Z h21<|z13 Zx Z Z (mv Z)<|z13 Zx Z Z (I.neq Z Z)<|Zq (pkF Z Z)<|Zj Z (fun h22=>?_) (fun h22=>?_)
       ·refine gKn 46 Z h22<|gSR<|Za Z<|Zb Z<|z0n<|z0u<|z3m<|z0u<|z6c<|z58<|zi8 z03 2 Z<|Ze [] [1001] Z
       ·refine gKn 46 Z h22<|Zt<|zxx [(5,.val (n13 0)),(6,.val (n13 1)),(0,.rd (z02 u8R) a0),(4,.val (z07 v8 0)),(29,.rd z0f r10.1),(30,.rd z0f s12.2.2.2),(7,.val (z07 v17 0)),(8,.val (z07 v20 0))] [(1,some (v8,.box 112 [.rd z1k r15.2])),(1102,some ((n13 0),.list z03 43 s12.2.1)),(1103,some ((n13 1),.list aZ 45 s12.2.2.1)),zG1,(1106,some (v17,.box 43 [.rd z03 r15.1])),(1107,some (v20,.box 45 [.rd aZ r18.1]))] [1,1102,1103,1001,1106,1107] (Zs Z Z Z Z<|Zs Z Z Z Z<|sN) (Zi Z<|Zi Z<|Zi Z<|Zi Z<|Zi Z<|Zi Z<|rN)<|z83 fun x23 h24=>z83 fun x25 h26=>gOr [(5,.val (n13 0),8),(6,.val (n13 1),9)] [⟨1106,some ([], fun nv=>(v17,.box 43 [.rd z03 r15.1])),[]⟩,⟨1108,none,[(2,none)]⟩,⟨1102,some ([], fun nv=>((n13 0),.list z03 43 s12.2.1)),[(3,some ([2], fun nv=>((nv 2),.list z03 43 x23)))]⟩,⟨1107,some ([], fun nv=>(v20,.box 45 [.rd aZ r18.1])),[]⟩,⟨1109,none,[(6,none)]⟩,⟨1103,some ([], fun nv=>((n13 1),.list aZ 45 s12.2.2.1)),[(7,some ([4], fun nv=>((nv 4),.list aZ 45 x25)))]⟩] [⟨some (48,[], fun nv=>.val (n13 0)),[],[],[0]⟩,pk 49 (.rd z03 r15.1) [(0,0,false)],⟨some (50,[], fun nv=>.rd (z02 z03) [r15.1]),[(1,0,true)],[1],[]⟩,⟨some (51,[2], fun nv=>.val (nv 2)),[(2,0,true)],[2],[]⟩,⟨some (52,[], fun nv=>.val (n13 1)),[],[],[1]⟩,pk 53 (.rd aZ r18.1) [(3,0,false)],⟨some (54,[], fun nv=>.rd (z02 aZ) [r18.1]),[(4,0,true)],[3],[]⟩,⟨some (55,[4], fun nv=>.val (nv 4)),[(5,0,true)],[4],[]⟩,⟨some (5,[2], fun nv=>.val (nv 2)),[],[],[]⟩,⟨some (6,[4], fun nv=>.val (nv 4)),[],[],[]⟩] mixed (oC (oRn (fun nv E=>mv Z))<|oC (oRn (fun nv E=>ld 1106 Z Z fH za3 Z))<|oC (oFz (A1:=fun nv=>[(1108,some ((nv 1),.list z03 43 [r15.1]))]) 1108 1 (oEf 1108 1 (fun nv E=>lit (R:=z03) ([r15.1]:List z05) 1108 (pP Z Z<|pN) Z tu22 z6h Z Z)))<|oC (oEf 1102 2 (fun nv E=>apn 1102 Z Z Z .rd h24 tu22 z6h Z Z Z))<|oC (oRn (fun nv E=>mv Z))<|oC (oRn (fun nv E=>ld 1107 Z Z fH z59 Z))<|oC (oFz (A1:=fun nv=>[(1109,some ((nv 3),.list aZ 45 [r18.1]))]) 1109 3 (oEf 1109 3 (fun nv E=>lit (R:=aZ) ([r18.1]:List V3) 1109 (pP Z Z<|pN) Z tu29 z31 Z Z)))<|oC (oEf 1103 4 (fun nv E=>apn 1103 Z Z Z .rd h26 tu29 z31 Z Z Z))<|oC (oRn (fun nv E=>asg Z))<|oC (oRn (fun nv E=>asg Z))<|oN) fun n27=>z3c<|z0y<|z28<|Zq (I.add Z Z)<|Zm Z<|z1p<|z1s (fun aa ww h=>⟨nvl [(n27 2),(n27 4)],Zu h [1,1102,1103,1001]⟩)
     ·refine z27<|z19<|z1b<|z5q (fun aa ww h=>⟨nvl [(n13 0)],Zu h [1,1102,1001]⟩)
    ·refine gEx fun n28=>z0x<|gSR<|Zm Z<|zg9 4 [5,58] Z (fS Z<|fS Z<|fN)<|Zc [1001] [(100,1110)] Tryz.func21 Z (zfy _) fun r29 n30=>Zm Z<|Zq (ext Z Z)<|Zq (ext Z Z)<|Za Z<|Zb Z<|z7x (fun (s31:Bool) aa ww=>Sta (ctx 77 H [zG1] w) [(5,.rd (z02 z03) s9.2),(75,.rd z0h s31)] [zG1] aa ww) ?_ (fun s31=>?_)
     ·refine z28<|Zm Z<|Zq (zdu 1 Z Z fH)<|Zq (faB 1 Z Z Tryz.underlying112 Z (by exact ti4))<|Zq (ld 1 Z Z (fP (z4c _)) ty4 Z)<|Zm Z<|z1h 66 Z (fun h32=>?_) (fun h32=>?_)
      ·refine lKn 65 Z h32<|Zk Z<|Zk Z<|Zq (pkT Z Z)<|Zm Z<|Zk Z<|Zk Z<|Zk Z<|Zk Z<|Zq (pkT Z Z)<|z1p<|z3k (fun aa ww h=>Zu h [1001])
      ·refine lKn 65 Z h32<|z13 Zx Z Z (mv Z)<|z13 Zx Z Z (I.neq Z Z)<|Zq (pkF Z Z)<|Zm Z<|z1h 70 Z (fun h33=>?_) (fun h33=>?_)
       ·refine lKn 68 Z h33<|lKn 69 Z h33<|Zk Z<|Zk Z<|Zk Z<|Zk Z<|Zq (pkT Z Z)<|z1p<|z3k (fun aa ww h=>Zu h [1001])
       ·refine lKn 68 Z h33<|lKn 69 Z h33<|z13 Zx Z Z (mv Z)<|z13 Zx Z Z (mv Z)<|zd3 [1110] [(1,1110)] Zx Z Tryz.func66 Z Z (zl6 _ _ _ _) (aW Z<|aQ Z<|aN) (y1 Z) fun r34 n35=>z13 Zx Z Z (zds Z)<|Zq (pkF Z Z)<|z1p<|z3k (fun aa ww h=>Zu h [1001])
     ·refine gIf Z Z (fun h36=>?_) (fun h36=>?_)
      ·refine gSR<|Za Z<|Zb Z<|z0n<|z0u<|zi8 z03 2 Z<|Ze [] [1001] Z
      ·refine Zt<|gSR<|Zm Z<|Za Z<|Zb Z<|z0n<|Ze [] [1001] Z
def z33 (a0:List V3) (a1:V3) (s3:Int):Option (Sum (Sum Int Unit) Int) :=
 if decide (s3<(a0.length:Int)) then
  idx a0 s3 >>= fun x5 =>
  if decide (a1=x5) then
   some (.inl (.inl s3))
  else
   some (.inr (w64 (s3+1)))
 else
  some (.inl (.inr ()))
def z6k (a0:List V3) (a1:V3):Option (Int) :=
 z4y (iter (z33 a0 a1) 0) fun s2 =>
 some (-1)
theorem zcr (a0:List V3) (a1:V3):z23 Tryz.prog 119 [.rd (z02 aZ) a0,.rd aZ a1] [] (z6k a0 a1) (fun r nv=>⟨[.rd z0f r],[]⟩):=by
 refine z2m 19 Tryz.func119 Z Z Z fun H w=>?_;refine gSR<|Eb Z (bx 1 Z) fun v1=>Zb Z<|z7c (fun (s2:Unit) aa ww=>Sta (ctx 19 H [] w) [] [] aa ww) ?_ (fun s2=>?_)
 ·refine gSR<|Zm Z<|Zq (z3e Z .rd Z tu29)<|Zm Z<|Zn<|z29 (fun (s3:Int) aa ww=>Sta (ctx 19 H [] w) [(0,.rd (z02 aZ) a0),(3,.val (z07 v1 0)),(7,.rd z0f (a0.length:Int)),(8,.rd z0f s3)] [(1,some (v1,.box 45 [.rd aZ a1]))] aa ww) (fun aa ww h=>Zu h [1]) (fun s3=>?_);refine gSR<|Zq (I.lss Z Z)<|Zn<|z0x<|gIf Z Z (fun h4=>?_) (fun h4=>?_)
  ·refine Zt<|z0x<|z4s<|gSR<|Zm Z<|Zb Z<|z0x<|zix mixed (by kernel_rfl)<|Rq Z (ld 1 Z Z fH z59 Z)<|Rq Z (mv Z)<|Rq Z (mv Z)<|z8n fun x5 h6=>Rq Z (ixR Z Z h6 tu29 z31 Z)<|Rq Z (ldR Z z59)<|Rq Z (eqA Z Z eq45 Z Z gq45)<|zvk<|z0y<|gIf Z Z (fun h7=>?_) (fun h7=>?_)
   ·refine gSR<|Zm Z<|Zb Z<|z0n<|z3m<|z0u<|z6c<|z58<|Ze [] [] Z
   ·refine z30<|z3c<|z0y<|z28<|Zq (I.add Z Z)<|Zm Z<|z1p<|z1s (fun aa ww h=>Zu h [1])
  ·refine z27<|z19<|z1b<|z5q (fun aa ww h=>Zu h [])
 ·refine gSR<|Zb Z<|z0n<|Ze [] [] Z
def z3u (a0:List V3) (a1:V3):Option (Bool) :=
 z6k a0 a1 >>= fun r2 =>
 some (decide (0≤r2)) >>= fun y4 =>
 some y4
theorem zbp (a0:List V3) (a1:V3):z23 Tryz.prog 71 [.rd (z02 aZ) a0,.rd aZ a1] [] (z3u a0 a1) (fun r nv=>⟨[.rd z0h r],[]⟩):=by
 refine z2m 9 Tryz.func71 Z Z Z fun H w=>?_;refine gSR<|Eb Z (bx 1 Z) fun v1=>Zb Z<|gSR<|Zm Z<|Zq (ld 1 Z Z fH z59 Z)<|Zc [] [] Tryz.func119 Z (zcr _ _) fun r2 n3=>Zq (I.geq Z Z)<|Za Z<|z24 4 Z fun y4=>Zn<|z0n<|Ze [] [] Z
def z99 (a0:z01) (a1:List V3) (s7:(List z05) × Int):Option (Sum ((List z05)) ((List z05) × Int)) :=
 if decide (s7.2<(a0.IDs.length:Int)) then
  idx a0.IDs s7.2 >>= fun x10 =>
  z3u a1 x10 >>= fun r13 =>
  if !r13 then
   idx a0.Ops s7.2 >>= fun x16 =>
   app 112 s7.1 [x16] >>= fun x19 =>
   some (.inr (x19,w64 (s7.2+1)))
  else
   some (.inr (s7.1,w64 (s7.2+1)))
 else
  some (.inl s7.1)
def ze6 (a0:z01) (a1:List V3):Option ((List z05) × Int) :=
 z7v a0 >>= fun r2 =>
 if r2 != 0 then
  some ([],r2)
 else
  if decide (60<(a1.length:Int)) then
   some ([],4)
  else
   (iter (z99 a0 a1) ([],0)) >>= fun s6 =>
   zf4 s6 >>= fun r23 =>
   some (r23.1,r23.2)
theorem zoo (a0:z01) (a1:List V3):z23 Tryz.prog 31 [.rd z04 a0,.rd (z02 aZ) a1] [zG1] (ze6 a0 a1) (fun r nv=>⟨[.val (nv 0),.rd z0f r.2],[(1001,some (.bool true,.glob 1 (z3i 64 z0s) z6j)),(100,some (nv 0,.list z03 43 r.1))]⟩):=by
 refine z2m 43 Tryz.func31 Z Z Z fun H w=>?_;refine gSR<|Eb Z (bx 1 Z) fun v1=>Za Z<|Zb Z<|z0x<|gSR<|Zq (ld 1 Z Z fH zcv Z)<|Zc [1001] [] Tryz.func70 Z (ze7 _) fun r2 n3=>Zb Z<|gSR<|Zm Z<|Zq (I.neq Z Z)<|Zj Z (fun h4=>?_) (fun h4=>?_)
 ·refine gSR<|Zm Z<|Za Z<|Zb Z<|z0n<|z0u<|zlp z03 43 2<|Ze [(.slice none 0 0)] [1001,2] Z
 ·refine Zt<|z0x<|gSR<|Zm Z<|Zq (z3e Z .rd Z tu29)<|Zq (I.gtr Z Z)<|Zj Z (fun h5=>?_) (fun h5=>?_)
  ·refine gSR<|Za Z<|Zb Z<|z0n<|z0u<|zlp z03 43 3<|Ze [(.slice none 0 0)] [1001,3] Z
  ·refine Zt<|gSR<|Zb Z<|z7x (fun (s6:(List z05)) aa ww=>∃ nv:Nat→Value,Sta (ctx 43 H [zG1] w) [(7,.val (nv 0))] [(6,some ((nv 0),.list z03 43 s6)),zG1] aa ww) ?_ (fun s6=>?_)
   ·refine gSR<|Zq (faB 1 Z Z Tryz.underlying66 Z (by exact z8j))<|Zq (ld 1 Z Z (fP (z0r _)) zbn Z)<|Zq (z3e Z .rd Z tu29)<|Zm Z<|Zn<|zub z03 43 1103<|z29 (fun (s7:(List z05) × Int) aa ww=>∃ nv:Nat→Value,Sta (ctx 43 H [zG1] w) [(1,.rd (z02 aZ) a1),(2,.val (z07 v1 0)),(7,.val (nv 0)),(19,.rd (z02 aZ) a0.IDs),(20,.rd z0f (a0.IDs.length:Int)),(21,.rd z0f s7.2)] [(1,some (v1,.box 66 [.rd z04 a0])),(1102,some ((nv 0),.list z03 43 s7.1)),zG1] aa ww) (fun aa ww h=>⟨nvl [(.slice none 0 0)],Zu h [1,1103,1001]⟩) (fun s7=>?_)
    refine gEx fun n8=>gSR<|Zq (I.lss Z Z)<|Zn<|z0x<|gIf Z Z (fun h9=>?_) (fun h9=>?_)
    ·refine Zt<|z0x<|z4s<|gSR<|Zm Z<|z0q fun x10 h11=>Zq (ixR Z Z h11 tu29 z31 Z)<|Zq (ldR Z z59)<|Eb Z (z6n 1104 z31 (.zr (R:=aZ) (x:=(Vector.replicate 32 0)) zfo)) fun v12=>Za Z<|Es (sto 1104 Z Z fH Z z31)<|Zn<|gSR<|Zm Z<|Zq (ld 1104 Z Z fH z59 Z)<|Zc [] [] Tryz.func71 Z (zbp _ _) fun r13 n14=>Zq (zds Z)<|Zj Z (fun h15=>?_) (fun h15=>?_)
     ·refine z28<|Zm Z<|Zq (faB 1 Z Z Tryz.underlying66 Z (by exact zcx))<|Zq (ld 1 Z Z (fP (z0g _)) zgb Z)<|Zm Z<|z0q fun x16 h17=>Zq (ixR Z Z h17 tu22 z6h Z)<|Zq (ldR Z za3)<|Ef Z (lit (R:=z03) ([x16]:List z05) 1105 (pP Z Z<|pN) Z tu22 z6h Z Z) fun v18=>zg9 1105 [36] Z (fS Z<|fN)<|z0q fun x19 h20=>Ef Z (apn 1102 Z Z Z .rd h20 tu22 z6h Z Z Z) fun v21=>Za Z<|z1p<|z3c<|z0y<|z28<|Zq (I.add Z Z)<|Zm Z<|z1p<|z1s (fun aa ww h=>⟨nvl [v21],Zu h [1,1102,1001]⟩)
     ·refine z30<|z3c<|z0y<|z28<|Zq (I.add Z Z)<|Zm Z<|z1p<|z1s (fun aa ww h=>⟨nvl [(n8 0)],Zu h [1,1102,1001]⟩)
    ·refine z27<|z19<|z1b<|z3k (fun aa ww h=>⟨nvl [(n8 0)],Zu h [1102,1001]⟩)
   ·refine gEx fun n22=>gSR<|Zm Z<|zg9 6 [7,39] Z (fS Z<|fS Z<|fN)<|Zc [1001] [(100,1106)] Tryz.func12 Z (zso _) fun r23 n24=>Zq (ext Z Z)<|Zq (ext Z Z)<|Za Z<|Zb Z<|z0n<|Ze [(n24 0)] [1001,1106] Z
def z4b (r18:(List z05) × Int) (r25:(List V3) × Int) (s39:Int):Option (Sum (Sum Bool Unit) Int) :=
 if decide (s39<(r18.1.length:Int)) then
  idx r18.1 s39 >>= fun x41 =>
  idx r25.1 s39 >>= fun x43 =>
  zbj x41 >>= fun r45 =>
  if !decide (r45=x43) then
   some (.inl (.inl false))
  else
   some (w64 (s39+1)) >>= fun y48 =>
   some (.inr y48)
 else
  some (.inl (.inr ()))
def z4a (r52:(List z05) × Int) (s59:z01 × Int):Option (Sum (Sum Bool z01) (z01 × Int)) :=
 if decide (s59.2<(r52.1.length:Int)) then
  idx r52.1 s59.2 >>= fun x61 =>
  zof s59.1 x61 >>= fun r63 =>
  if r63.2.2 != 0 then
   some (.inl (.inl false))
  else
   some (w64 (s59.2+1)) >>= fun y68 =>
   some (.inr (r63.1,y68))
 else
  some (.inl (.inr s59.1))
def za2 (a0:z01) (a1:List V3):Option (Bool) :=
 zaq >>= fun r2 =>
 (zaf a0 >>= fun r5 =>
 if r5 then
  some true
 else
  zal a0 >>= fun r8 =>
  if r8 != 0 then
   some true
  else
   if decide (20<(a1.length:Int)) then
    some true
   else
    z3p a0.IDs a1 >>= fun r12 =>
    if !r12 then
     some true
    else
     some (!r2)) >>= fun s4 =>
 if s4 then
  some r2
 else
  z5w a0.Ops >>= fun r16 =>
  zk2 r16.1 >>= fun r18 =>
  zss r18.1 >>= fun r20 =>
  zck a0.Ops >>= fun r23 =>
  zaa a0 >>= fun r25 =>
  (if r16.2 != 0 then
   some true
  else
   if r18.2 != 0 then
    some true
   else
    if r20.2 != 0 then
     some true
    else
     if r23.2 != 0 then
      some true
     else
      if r25.2 != 0 then
       some true
      else
       z95 a0 r20.1 >>= fun r33 =>
       if !r33 then
        some true
       else
        if decide (0<(r23.1.length:Int)) then
         some true
        else
         some ((r25.1.length:Int) != (r18.1.length:Int))) >>= fun s27 =>
  if s27 then
   some false
  else
   z4y (iter (z4b r18 r25) 0) fun s38 =>
   zc3 a0 a1 >>= fun r49 =>
   ze6 a0 r49.1.IDs >>= fun r52 =>
   (if r49.2 != 0 then
    some true
   else
    if r52.2 != 0 then
     some true
    else
     some ((w64 ((r52.1.length:Int)+(r49.1.IDs.length:Int))) != (a0.IDs.length:Int))) >>= fun s54 =>
   if s54 then
    some false
   else
    z4y (iter (z4a r52) (r49.1,0)) fun s58 =>
    if r2 then
     z95 s58 a0 >>= fun r70 =>
     some r70
    else
     some false
set_option maxHeartbeats 4000000 in
theorem zfg (a0:z01) (a1:List V3):z23 Tryz.prog 8 [.rd z04 a0,.rd (z02 aZ) a1] [zG1] (za2 a0 a1) (fun r nv=>⟨[.rd z0h r],[(1001,some (.bool true,.glob 1 (z3i 64 z0s) z6j))]⟩):=by
 refine z2m 185 Tryz.func8 Z Z Z fun H w=>?_;refine gSR<|Eb Z (bx 1 Z) fun v1=>Zb Z<|gSR<|Zc [1001] [] Tryz.func9 Z (zik) fun r2 n3=>Zb Z<|z0x<|z7x (fun (s4:Bool) aa ww=>Sta (ctx 185 H [zG1] w) [(1,.rd (z02 aZ) a1),(2,.val (z07 v1 0)),(5,.rd z0h r2),(48,.rd z0h s4)] [(1,some (v1,.box 66 [.rd z04 a0])),zG1] aa ww) ?_ (fun s4=>?_)
 ·refine z28<|Zq (ld 1 Z Z fH zcv Z)<|Zc [] [] Tryz.func29 Z (zit _) fun r5 n6=>Zm Z<|z1h 28 Z (fun h7=>?_) (fun h7=>?_)
  ·refine lKn 27 Z h7<|Zk Z<|Zk Z<|Zk Z<|Zq (pkT Z Z)<|Zm Z<|Zk Z<|Zk Z<|Zk Z<|Zq (pkT Z Z)<|Zm Z<|Zk Z<|Zk Z<|Zk Z<|Zk Z<|Zk Z<|Zq (pkT Z Z)<|Zm Z<|Zk Z<|Zk Z<|Zq (pkT Z Z)<|z1p<|z3k (fun aa ww h=>Zu h [1,1001])
  ·refine lKn 27 Z h7<|z13 Zx Z Z (ld 1 Z Z fH zcv Z)<|zd3 [] [] Zx Z Tryz.func35 Z Z (zin _) (Y1 Z) rN fun r8 n9=>z13 Zx Z Z (I.neq Z Z)<|Zq (pkF Z Z)<|Zm Z<|z1h 33 Z (fun h10=>?_) (fun h10=>?_)
   ·refine lKn 31 Z h10<|lKn 32 Z h10<|Zk Z<|Zk Z<|Zk Z<|Zq (pkT Z Z)<|Zm Z<|Zk Z<|Zk Z<|Zk Z<|Zk Z<|Zk Z<|Zq (pkT Z Z)<|Zm Z<|Zk Z<|Zk Z<|Zq (pkT Z Z)<|z1p<|z3k (fun aa ww h=>Zu h [1,1001])
   ·refine lKn 31 Z h10<|lKn 32 Z h10<|z13 Zx Z Z (mv Z)<|z13 Zx Z Z (z3e Z .rd Z tu29)<|z13 Zx Z Z (I.gtr Z Z)<|Zq (pkF Z Z)<|Zm Z<|z1h 38 Z (fun h11=>?_) (fun h11=>?_)
    ·refine lKn 36 Z h11<|lKn 37 Z h11<|Zk Z<|Zk Z<|Zk Z<|Zk Z<|Zk Z<|Zq (pkT Z Z)<|Zm Z<|Zk Z<|Zk Z<|Zq (pkT Z Z)<|z1p<|z3k (fun aa ww h=>Zu h [1,1001])
    ·refine lKn 36 Z h11<|lKn 37 Z h11<|z13 Zx Z Z (faB 1 Z Z Tryz.underlying66 Z (by exact z8j))<|z13 Zx Z Z (ld 1 Z Z (fP (z0r _)) zbn Z)<|z13 Zx Z Z (mv Z)<|zd3 [] [] Zx Z Tryz.func36 Z Z (zf3 _ _) (Y2 Z Z) rN fun r12 n13=>z13 Zx Z Z (zds Z)<|Zq (pkF Z Z)<|Zm Z<|z1h 45 Z (fun h14=>?_) (fun h14=>?_)
     ·refine lKn 43 Z h14<|lKn 44 Z h14<|Zk Z<|Zk Z<|Zq (pkT Z Z)<|z1p<|z3k (fun aa ww h=>Zu h [1,1001])
     ·refine lKn 43 Z h14<|lKn 44 Z h14<|z13 Zx Z Z (mv Z)<|z13 Zx Z Z (zds Z)<|Zq (pkF Z Z)<|z1p<|z3k (fun aa ww h=>Zu h [1,1001])
 ·refine gIf Z Z (fun h15=>?_) (fun h15=>?_)
  ·refine gSR<|Zm Z<|Zb Z<|z0n<|z0u<|Ze [] [1001] Z
  ·refine Zt<|gSR<|Zq (faB 1 Z Z Tryz.underlying66 Z (by exact zcx))<|Zq (ld 1 Z Z (fP (z0g _)) zgb Z)<|Zc [1001] [(100,1100)] Tryz.func21 Z (zfy _) fun r16 n17=>Zm Z<|Zq (ext Z Z)<|Zq (ext Z Z)<|Za Z<|Zb Z<|gSR<|Zm Z<|zg9 1100 [54,6,57] Z (fS Z<|fS Z<|fS Z<|fN)<|Zc [1001] [] Tryz.func28 Z (zs6 _) fun r18 n19=>Zm Z<|Zq (ext Z Z)<|Zq (ext Z Z)<|Za Z<|Zb Z<|gSR<|Zm Z<|Zc [1001] [] Tryz.func37 Z (zzl _) fun r20 n21=>Zm Z<|Zq (ext Z Z)<|Zq (ext Z Z)<|Eb Z (z6n 1101 zde (ZrE.nilS (ZrE.nilS ZrE.nil))) fun v22=>zhd aZ [.rd (z02 aZ) [],.val (.slice none 0 0)] 1101 [] [.val (.slice none 0 0)] Z Z Z<|zhd z03 [.rd (z02 aZ) [],.rd (z02 z03) []] 1101 [.rd (z02 aZ) []] [] Z Z Z<|zgt (R:=z04) (⟨[],[]⟩:z01) 1101 Z (Sp.via (Sp.prod (Sp.prod Sp.unit)))<|Es (sto 1101 Z Z fH Z zde)<|Zb Z<|gSR<|Zq (faB 1 Z Z Tryz.underlying66 Z (by exact zcx))<|Zq (ld 1 Z Z (fP (z0g _)) zgb Z)<|Zc [1001] [(100,1102)] Tryz.func13 Z (zny _) fun r23 n24=>Zm Z<|Zq (ext Z Z)<|Zq (ext Z Z)<|Za Z<|Zb Z<|gSR<|Zq (ld 1 Z Z fH zcv Z)<|Zc [1001] [(100,1103)] Tryz.func38 Z (zlb _) fun r25 n26=>Zm Z<|Zq (ext Z Z)<|Zq (ext Z Z)<|Za Z<|Zb Z<|z0x<|z7x (fun (s27:Bool) aa ww=>Sta (ctx 185 H [zG1] w) [(1,.rd (z02 aZ) a1),(2,.val (z07 v1 0)),(5,.rd z0h r2),(8,.rd (z02 z03) r18.1),(14,.val (n26 0)),(112,.rd z0h s27)] [(1,some (v1,.box 66 [.rd z04 a0])),(1103,some ((n26 0),.list aZ 45 r25.1)),zG1] aa ww) ?_ (fun s27=>?_)
   ·refine z28<|Zm Z<|Zq (I.neq Z Z)<|Zm Z<|z1h 79 Z (fun h28=>?_) (fun h28=>?_)
    ·refine lKn 78 Z h28<|Zk Z<|Zk Z<|Zq (pkT Z Z)<|Zm Z<|Zk Z<|Zk Z<|Zq (pkT Z Z)<|Zm Z<|Zk Z<|Zk Z<|Zq (pkT Z Z)<|Zm Z<|Zk Z<|Zk Z<|Zq (pkT Z Z)<|Zm Z<|Zk Z<|Zk Z<|Zk Z<|Zk Z<|Zq (pkT Z Z)<|Zm Z<|Zk Z<|Zk Z<|Zk Z<|Zq (pkT Z Z)<|Zm Z<|Zk Z<|Zk Z<|Zk Z<|Zk Z<|Zk Z<|Zq (pkT Z Z)<|z1p<|z3k (fun aa ww h=>Zu h [1,1103,1001])
    ·refine lKn 78 Z h28<|z13 Zx Z Z (mv Z)<|z13 Zx Z Z (I.neq Z Z)<|Zq (pkF Z Z)<|Zm Z<|z1h 83 Z (fun h29=>?_) (fun h29=>?_)
     ·refine lKn 81 Z h29<|lKn 82 Z h29<|Zk Z<|Zk Z<|Zq (pkT Z Z)<|Zm Z<|Zk Z<|Zk Z<|Zq (pkT Z Z)<|Zm Z<|Zk Z<|Zk Z<|Zq (pkT Z Z)<|Zm Z<|Zk Z<|Zk Z<|Zk Z<|Zk Z<|Zq (pkT Z Z)<|Zm Z<|Zk Z<|Zk Z<|Zk Z<|Zq (pkT Z Z)<|Zm Z<|Zk Z<|Zk Z<|Zk Z<|Zk Z<|Zk Z<|Zq (pkT Z Z)<|z1p<|z3k (fun aa ww h=>Zu h [1,1103,1001])
     ·refine lKn 81 Z h29<|lKn 82 Z h29<|z13 Zx Z Z (mv Z)<|z13 Zx Z Z (I.neq Z Z)<|Zq (pkF Z Z)<|Zm Z<|z1h 87 Z (fun h30=>?_) (fun h30=>?_)
      ·refine lKn 85 Z h30<|lKn 86 Z h30<|Zk Z<|Zk Z<|Zq (pkT Z Z)<|Zm Z<|Zk Z<|Zk Z<|Zq (pkT Z Z)<|Zm Z<|Zk Z<|Zk Z<|Zk Z<|Zk Z<|Zq (pkT Z Z)<|Zm Z<|Zk Z<|Zk Z<|Zk Z<|Zq (pkT Z Z)<|Zm Z<|Zk Z<|Zk Z<|Zk Z<|Zk Z<|Zk Z<|Zq (pkT Z Z)<|z1p<|z3k (fun aa ww h=>Zu h [1,1103,1001])
      ·refine lKn 85 Z h30<|lKn 86 Z h30<|z13 Zx Z Z (mv Z)<|z13 Zx Z Z (I.neq Z Z)<|Zq (pkF Z Z)<|Zm Z<|z1h 91 Z (fun h31=>?_) (fun h31=>?_)
       ·refine lKn 89 Z h31<|lKn 90 Z h31<|Zk Z<|Zk Z<|Zq (pkT Z Z)<|Zm Z<|Zk Z<|Zk Z<|Zk Z<|Zk Z<|Zq (pkT Z Z)<|Zm Z<|Zk Z<|Zk Z<|Zk Z<|Zq (pkT Z Z)<|Zm Z<|Zk Z<|Zk Z<|Zk Z<|Zk Z<|Zk Z<|Zq (pkT Z Z)<|z1p<|z3k (fun aa ww h=>Zu h [1,1103,1001])
       ·refine lKn 89 Z h31<|lKn 90 Z h31<|z13 Zx Z Z (mv Z)<|z13 Zx Z Z (I.neq Z Z)<|Zq (pkF Z Z)<|Zm Z<|z1h 95 Z (fun h32=>?_) (fun h32=>?_)
        ·refine lKn 93 Z h32<|lKn 94 Z h32<|Zk Z<|Zk Z<|Zk Z<|Zk Z<|Zq (pkT Z Z)<|Zm Z<|Zk Z<|Zk Z<|Zk Z<|Zq (pkT Z Z)<|Zm Z<|Zk Z<|Zk Z<|Zk Z<|Zk Z<|Zk Z<|Zq (pkT Z Z)<|z1p<|z3k (fun aa ww h=>Zu h [1,1103,1001])
        ·refine lKn 93 Z h32<|lKn 94 Z h32<|z13 Zx Z Z (ld 1 Z Z fH zcv Z)<|z13 Zx Z Z (ld 1101 Z Z fH zcv Z)<|zd3 [] [] Zx Z Tryz.func39 Z Z (zec _ _) (Y2 Z Z) rN fun r33 n34=>z13 Zx Z Z (zds Z)<|Zq (pkF Z Z)<|Zm Z<|z1h 101 Z (fun h35=>?_) (fun h35=>?_)
         ·refine lKn 99 Z h35<|lKn 100 Z h35<|Zk Z<|Zk Z<|Zk Z<|Zq (pkT Z Z)<|Zm Z<|Zk Z<|Zk Z<|Zk Z<|Zk Z<|Zk Z<|Zq (pkT Z Z)<|z1p<|z3k (fun aa ww h=>Zu h [1,1103,1001])
         ·refine lKn 99 Z h35<|lKn 100 Z h35<|z13 Zx Z Z (mv Z)<|z13 Zx Z Z (z3e Z (.own 1102 Z) Z tu29)<|z13 Zx Z Z (I.gtr Z Z)<|Zq (pkF Z Z)<|Zm Z<|z1h 106 Z (fun h36=>?_) (fun h36=>?_)
          ·refine lKn 104 Z h36<|lKn 105 Z h36<|Zk Z<|Zk Z<|Zk Z<|Zk Z<|Zk Z<|Zq (pkT Z Z)<|z1p<|z3k (fun aa ww h=>Zu h [1,1103,1001])
          ·refine lKn 104 Z h36<|lKn 105 Z h36<|z13 Zx Z Z (mv Z)<|z13 Zx Z Z (z3e Z (.own 1103 Z) Z tu29)<|z13 Zx Z Z (mv Z)<|z13 Zx Z Z (z3e Z .rd Z tu22)<|z13 Zx Z Z (I.neq Z Z)<|Zq (pkF Z Z)<|z1p<|z3k (fun aa ww h=>Zu h [1,1103,1001])
   ·refine gIf Z Z (fun h37=>?_) (fun h37=>?_)
    ·refine gSR<|Zb Z<|z0n<|z0u<|Ze [] [1001] Z
    ·refine Zt<|z7c (fun (s38:Unit) aa ww=>Sta (ctx 185 H [zG1] w) [(1,.rd (z02 aZ) a1),(2,.val (z07 v1 0)),(5,.rd z0h r2)] [(1,some (v1,.box 66 [.rd z04 a0])),zG1] aa ww) ?_ (fun s38=>?_)
     ·refine gSR<|Zb Z<|z29 (fun (s39:Int) aa ww=>Sta (ctx 185 H [zG1] w) [(1,.rd (z02 aZ) a1),(2,.val (z07 v1 0)),(5,.rd z0h r2),(8,.rd (z02 z03) r18.1),(14,.val (n26 0)),(16,.rd z0f s39)] [(1,some (v1,.box 66 [.rd z04 a0])),(1103,some ((n26 0),.list aZ 45 r25.1)),zG1] aa ww) (fun aa ww h=>Zu h [1,1103,1001]) (fun s39=>?_);refine z0x<|gSR<|Zm Z<|Zm Z<|Zq (z3e Z .rd Z tu22)<|Zq (I.lss Z Z)<|Zj Z (fun h40=>?_) (fun h40=>?_)
      ·refine Zt<|z0x<|z4s<|z0x<|z9u [] mixed Z Z<|hTk 0 Z Z (mv Z)<|hTk 1 Z Z (mv Z)<|z5n fun x41 h42=>hTk 2 Z Z (ixR Z Z h42 tu22 z6h Z)<|hTk 3 Z Z (ldR Z za3)<|hTk 5 Z Z (mv Z)<|hTk 6 Z Z (mv Z)<|z5n fun x43 h44=>hTk 7 Z Z (ixO 1103 Z Z Z h44 tu29 z31)<|hTk 8 Z Z (ld 1103 Z Z (Foc.el h44) z59 Z)<|z10b 4 [] [] Z (by kernel_rfl) Z (gd0 Z) Z Tryz.func16 Z Z (zg7 _) (Y1 Z) rN Z fun r45 n46=>Zf 9 Z Z zdo (neA Z Z eq45 Z Z gq45)<|z6e (by kernel_rfl)<|z0y<|gIf Z Z (fun h47=>?_) (fun h47=>?_)
       ·refine gSR<|Zb Z<|z0n<|z3m<|z0u<|z6c<|z58<|Ze [] [1001] Z
       ·refine z30<|z3c<|z0y<|z28<|Zm Z<|Zq (I.add Z Z)<|Za Z<|z24 16 Z fun y48=>z1p<|z1s (fun aa ww h=>Zu h [1,1103,1001])
      ·refine z27<|z19<|z1b<|z5q (fun aa ww h=>Zu h [1,1001])
     ·refine gSR<|Zq (ld 1 Z Z fH zcv Z)<|Zm Z<|Zc [1001] [] Tryz.func40 Z (zli _ _) fun r49 n50=>Zm Z<|Zq (ext Z Z)<|Zq (ext Z Z)<|Eb Z (z6n 1137 zde (ZrE.nilS (ZrE.nilS ZrE.nil))) fun v51=>zhd aZ [.rd (z02 aZ) [],.val (.slice none 0 0)] 1137 [] [.val (.slice none 0 0)] Z Z Z<|zhd z03 [.rd (z02 aZ) [],.rd (z02 z03) []] 1137 [.rd (z02 aZ) []] [] Z Z Z<|zgt (R:=z04) (⟨[],[]⟩:z01) 1137 Z (Sp.via (Sp.prod (Sp.prod Sp.unit)))<|Es (sto 1137 Z Z fH Z zde)<|Zb Z<|gSR<|Zq (ld 1 Z Z fH zcv Z)<|Zq (faB 1137 Z Z Tryz.underlying66 Z (by exact z8j))<|Zq (ld 1137 Z Z (fP (z0r _)) zbn Z)<|Zc [1001] [(100,1138)] Tryz.func31 Z (zoo _ _) fun r52 n53=>Zm Z<|Zq (ext Z Z)<|Zq (ext Z Z)<|Za Z<|Zb Z<|z0x<|z7x (fun (s54:Bool) aa ww=>Sta (ctx 185 H [zG1] w) [(2,.val (z07 v1 0)),(5,.rd z0h r2),(17,.val (z07 v51 0)),(19,.val (n53 0)),(159,.rd z0h s54)] [(1,some (v1,.box 66 [.rd z04 a0])),(1137,some (v51,.box 66 [.rd z04 r49.1])),(1138,some ((n53 0),.list z03 43 r52.1)),zG1] aa ww) ?_ (fun s54=>?_)
      ·refine z28<|Zm Z<|Zq (I.neq Z Z)<|Zm Z<|z1h 144 Z (fun h55=>?_) (fun h55=>?_)
       ·refine lKn 143 Z h55<|Zk Z<|Zk Z<|Zq (pkT Z Z)<|Zm Z<|Zk Z<|Zk Z<|Zk Z<|Zk Z<|Zk Z<|Zk Z<|Zk Z<|Zk Z<|Zk Z<|Zk Z<|Zq (pkT Z Z)<|z1p<|z3k (fun aa ww h=>Zu h [1,1137,1138,1001])
       ·refine lKn 143 Z h55<|z13 Zx Z Z (mv Z)<|z13 Zx Z Z (I.neq Z Z)<|Zq (pkF Z Z)<|Zm Z<|z1h 148 Z (fun h56=>?_) (fun h56=>?_)
        ·refine lKn 146 Z h56<|lKn 147 Z h56<|Zk Z<|Zk Z<|Zk Z<|Zk Z<|Zk Z<|Zk Z<|Zk Z<|Zk Z<|Zk Z<|Zk Z<|Zq (pkT Z Z)<|z1p<|z3k (fun aa ww h=>Zu h [1,1137,1138,1001])
        ·refine lKn 146 Z h56<|lKn 147 Z h56<|z13 Zx Z Z (mv Z)<|z13 Zx Z Z (z3e Z (.own 1138 Z) Z tu22)<|z13 Zx Z Z (faB 1137 Z Z Tryz.underlying66 Z (by exact z8j))<|z13 Zx Z Z (ld 1137 Z Z (fP (z0r _)) zbn Z)<|z13 Zx Z Z (z3e Z .rd Z tu29)<|z13 Zx Z Z (I.add Z Z)<|z13 Zx Z Z (faB 1 Z Z Tryz.underlying66 Z (by exact z8j))<|z13 Zx Z Z (ld 1 Z Z (fP (z0r _)) zbn Z)<|z13 Zx Z Z (z3e Z .rd Z tu29)<|z13 Zx Z Z (I.neq Z Z)<|Zq (pkF Z Z)<|z1p<|z3k (fun aa ww h=>Zu h [1,1137,1138,1001])
      ·refine gIf Z Z (fun h57=>?_) (fun h57=>?_)
       ·refine gSR<|Zb Z<|z0n<|z0u<|Ze [] [1001] Z
       ·refine Zt<|z7c (fun (s58:z01) aa ww=>Sta (ctx 185 H [zG1] w) [(2,.val (z07 v1 0)),(5,.rd z0h r2),(17,.val (z07 v51 0))] [(1,some (v1,.box 66 [.rd z04 a0])),(1137,some (v51,.box 66 [.rd z04 s58])),zG1] aa ww) ?_ (fun s58=>?_)
        ·refine gSR<|Zb Z<|z29 (fun (s59:z01 × Int) aa ww=>Sta (ctx 185 H [zG1] w) [(2,.val (z07 v1 0)),(5,.rd z0h r2),(17,.val (z07 v51 0)),(19,.val (n53 0)),(21,.rd z0f s59.2)] [(1,some (v1,.box 66 [.rd z04 a0])),(1137,some (v51,.box 66 [.rd z04 s59.1])),(1138,some ((n53 0),.list z03 43 r52.1)),zG1] aa ww) (fun aa ww h=>Zu h [1,1137,1138,1001]) (fun s59=>?_);refine z0x<|gSR<|Zm Z<|Zm Z<|Zq (z3e Z (.own 1138 Z) Z tu22)<|Zq (I.lss Z Z)<|Zj Z (fun h60=>?_) (fun h60=>?_)
         ·refine Zt<|z0x<|z4s<|z0x<|zxx [(2,.val (z07 v1 0)),(5,.rd z0h r2),(17,.val (z07 v51 0)),(19,.val (n53 0)),(21,.rd z0f s59.2)] [(1,some (v1,.box 66 [.rd z04 a0])),(1137,some (v51,.box 66 [.rd z04 s59.1])),(1138,some ((n53 0),.list z03 43 r52.1)),zG1] [1,1137,1138,1001] (Zs Z Z Z Z<|sS Z<|sN) (Zi Z<|Zi Z<|Zi Z<|Zi Z<|rN)<|z83 fun x61 h62=>z83 fun r63 h65=>gOr [] [⟨1137,some ([], fun nv=>(v51,.box 66 [.rd z04 s59.1])),[]⟩,⟨1138,some ([], fun nv=>((n53 0),.list z03 43 r52.1)),[]⟩,⟨1001,some ([], fun nv=>((.bool true),.glob 1 (z3i 64 z0s) z6j)),[]⟩,⟨1139,none,[(10,some ([1], fun nv=>((nv 1),.box 66 [.rd z04 (⟨[],[]⟩:z01)]))),(12,some ([1], fun nv=>((nv 1),.box 66 [.rd z04 r63.1])))]⟩,⟨1140,none,[(11,some ([2], fun nv=>((nv 2),.box 45 [.rd aZ (Vector.replicate 32 0)]))),(13,some ([2], fun nv=>((nv 2),.box 45 [.rd aZ r63.2.1])))]⟩] [pk 167 (.rd z04 s59.1) [(0,0,false)],pd 168 (.val (n53 0)),pd 169 (.rd z0f s59.2),pk 170 (.val (z07 (n53 0) ((s59.2:Int).toNat * 11))) [(1,0,false)],pk 171 (.rd z03 x61) [(1,0,false)],pk 172 (.tup [.rd z04 r63.1,.rd aZ r63.2.1,.rd z0f r63.2.2]) [(2,0,false)],pd 166 (.tup [.rd z04 r63.1,.rd aZ r63.2.1,.rd z0f r63.2.2]),pd 173 (.rd z04 r63.1),pd 174 (.rd aZ r63.2.1),pd 175 (.rd z0f r63.2.2),⟨some (22,[1], fun nv=>.val (z07 (nv 1) 0)),[(3,0,true)],[1],[]⟩,⟨some (23,[2], fun nv=>.val (z07 (nv 2) 0)),[(4,0,true)],[2],[]⟩,⟨none,[(3,1,true)],[],[]⟩,⟨none,[(4,1,true)],[],[]⟩,pd 24 (.rd z0f r63.2.2)] mixed (oC (oRn (fun nv E=>ld 1137 Z Z fH zcv Z))<|oC (oRn (fun nv E=>mv Z))<|oC (oRn (fun nv E=>mv Z))<|oC (oRn (fun nv E=>ixO 1138 Z Z Z h62 tu22 z6h))<|oC (oRn (fun nv E=>ld 1138 Z Z (Foc.el h62) za3 Z))<|oC (oCl [] [1001] [] h65 Tryz.func41 Z (fun nv=>(zyc _ _)) (fun nv=>(Y2 Z Z)) (fun nv E=>(y1 Z)))<|oC (oRn (fun nv E=>mv Z))<|oC (oRn (fun nv E=>ext Z Z))<|oC (oRn (fun nv E=>ext Z Z))<|oC (oRn (fun nv E=>ext Z Z))<|oC (oEb 1139 1 (fun nv E=>z6n 1139 zde (.zr (R:=z04) (x:=(⟨[],[]⟩:z01)) zr66)))<|oC (oEb 1140 2 (fun nv E=>z6n 1140 z31 (.zr (R:=aZ) (x:=(Vector.replicate 32 0)) zfo)))<|oC (oEs 1139 (fun nv E=>sto 1139 Z Z fH Z zde))<|oC (oEs 1140 (fun nv E=>sto 1140 Z Z fH Z z31))<|oC (oRn (fun nv E=>asg Z))<|oN) fun n66=>z0y<|z0x<|gSR<|Zm Z<|Zq (I.neq Z Z)<|Zj Z (fun h67=>?_) (fun h67=>?_)
          ·refine gSR<|Zb Z<|z0n<|z0u<|z3m<|z0u<|z6c<|z58<|Ze [] [1001] Z
          ·refine Zt<|z28<|Zq (ld 1139 Z Z fH zcv Z)<|Es (sto 1137 Z Z fH Z zde)<|z1p<|z3c<|z0y<|z28<|Zm Z<|Zq (I.add Z Z)<|Za Z<|z24 21 Z fun y68=>z1p<|z1s (fun aa ww h=>Zu h [1,1137,1138,1001])
         ·refine z27<|z19<|z1b<|z5q (fun aa ww h=>Zu h [1,1137,1001])
        ·refine gSR<|Zm Z<|Zm Z<|z1h 180 Z (fun h69=>?_) (fun h69=>?_)
         ·refine lKn 5 Z h69<|lKn 179 Z h69<|z13 Zx Z Z (ld 1137 Z Z fH zcv Z)<|z13 Zx Z Z (ld 1 Z Z fH zcv Z)<|zd3 [] [] Zx Z Tryz.func39 Z Z (zec _ _) (Y2 Z Z) rN fun r70 n71=>Zq (pkT Z Z)<|Zb Z<|z0n<|Ze [] [1001] Z
         ·refine lKn 5 Z h69<|lKn 179 Z h69<|Zk Z<|Zk Z<|Zk Z<|Zq (pkF Z Z)<|Zb Z<|z0n<|Ze [] [1001] Z
end
section
open Go
section
variable {α:Type}
theorem zh0 {l:List α} {i:Nat} (d:α) (h:i<l.length):idx l (i:Int)=some (l.getD i d):=by rw [z0k h]; simp [h]
theorem z12d {n:Nat} {v:Vector α n} {i:Int}:z84 v i=idx v.toList i:=rfl
theorem z16a {n:Nat} {v:Vector α n} {i:Nat} {x:α}:(zjl v (i:Int) x).toList=v.toList.set i x:=by
 unfold zjl; simp
theorem z156 {l:List α} {i j:Nat} {x d:α} (h:i<l.length):(l.set i x).getD j d=if i=j then x else l.getD j d:=by
 simp only [List.getD_eq_getElem?_getD,List.getElem?_set];by_cases e:i=j
 ·subst e; simp [h]
 ·simp [e]
theorem zt0 {l:List α} {n i:Nat} {d:α} (h:i<n):(l.take n).getD i d=l.getD i d:=by
 simp [List.getD_eq_getElem?_getD,List.getElem?_take,h]
theorem zqr {l:List α} {n:Nat} {x:α} (h:n<l.length):(l.set n x).take (n+1)=l.take n++[x]:=by
 rw [List.take_add_one,List.getElem?_set_self h,List.take_set_of_le (Nat.le_refl _)]; rfl
end
theorem zvm (a:UInt32) (n:Nat):(zr5 a n).toNat=a.toNat * 2 ^ (min n 32) % 4294967296:=by unfold zr5; simp
theorem zfl (a:UInt32) (n:Nat):(z4i a n).toNat=a.toNat / 2 ^ (min n 32):=by
 unfold z4i;have h1:=UInt32.toNat_lt a;have h2:a.toNat / 2 ^ (min n 32)≤a.toNat:=Nat.div_le_self _ _
 simp; omega
def tr (x:UInt32) (n:Nat):UInt32:=z4i x n ||| zr5 x (32 - n)
theorem zed (x:UInt32) (n:Nat) (h:n≤32):z2v x (n:Int)=some (tr x n):=by
 unfold z2v;rw [z2z (by omega),z17 (by omega) (by omega),z2z (by omega)];simp only [bS];unfold tr;rw [show ((32:Int) - (n:Int)).toNat=32 - n by omega,Int.toNat_natCast]
theorem znc (x:UInt32) (n:Nat) (h:1≤n) (h2:n≤31):z1y x (-(n:Int))=some (tr x n):=by
 have key:∀ n:Fin 32,1≤n.val→(UInt64.ofInt (-(n.val:Int)) &&& 31)=UInt64.ofNat (32 - n.val):=by decide +kernel
 have k2:∀ n:Fin 32,1≤n.val→(UInt64.ofNat (32 - n.val)).toNat=32 - n.val∧(32 - UInt64.ofNat (32 - n.val)).toNat=n.val:=by decide +kernel
 unfold z1y;rw [key ⟨n, by omega⟩ h];simp only [bS];rw [(k2 ⟨n, by omega⟩ h).1,(k2 ⟨n, by omega⟩ h).2];unfold tr;rw [UInt32.or_comm]
theorem z15y (x:UInt32) (a b c:Nat) (ha:1≤a∧a≤31) (hb:1≤b∧b≤31) (hc:1≤c∧c≤31):zeq x (a:Int) (b:Int) (c:Int)=some ((tr x a ^^^ tr x b) ^^^ tr x c):=by
 unfold zeq;rw [z17 (by omega) (by omega),z17 (by omega) (by omega),z17 (by omega) (by omega)];rw [show (0:Int) - (a:Int) = -(a:Int) by omega, show (0:Int) - (b:Int) = -(b:Int) by omega, show (0:Int) - (c:Int) = -(c:Int) by omega];rw [znc x a ha.1 ha.2,znc x b hb.1 hb.2,znc x c hc.1 hc.2];rfl
def sg0 (x:UInt32):UInt32:=(tr x 7 ^^^ tr x 18) ^^^ z4i x 3
def sg1 (x:UInt32):UInt32:=(tr x 17 ^^^ tr x 19) ^^^ z4i x 10
def word (b:List UInt8) (k:Nat):UInt32:=(((b.getD (4 * k) 0).toUInt32 * 256+(b.getD (4 * k+1) 0).toUInt32) * 256+(b.getD (4 * k+2) 0).toUInt32) * 256+(b.getD (4 * k+3) 0).toUInt32
def zve (l:List UInt32):List UInt32:=l++[((l.getD (l.length - 16) 0+l.getD (l.length - 7) 0)+sg0 (l.getD (l.length - 15) 0))+sg1 (l.getD (l.length - 2) 0)]
def z79 (b:List UInt8):Nat→List UInt32
 | 0=>(List.range 16).map (word b)
 | n+1=>zve (z79 b n)
theorem zf2 (b:List UInt8):∀ n,(z79 b n).length=16+n
 | 0=>by simp [z79]
 | n+1=>by simp [z79,zve,zf2 b n]; omega
theorem zwa (l:List UInt32) (t:Nat) (h:l.length=t):zve l=l++[((l.getD (t - 16) 0+l.getD (t - 7) 0)+sg0 (l.getD (t - 15) 0))+sg1 (l.getD (t - 2) 0)]:=by subst h; rfl
theorem z152 (b:List UInt8) (hb:64≤b.length):iter (z5g b) ([],0)=some (z79 b 0):=by
 refine z3d (F:=z5g b) (b:=z79 b 0) 16 (fun i=>((List.range i).map (word b),(i:Int))) (fun i hi=>?_) ?_
 ·unfold z5g;rw [if_pos (by simp; omega)];simp only [];rw [z17 (x:=4 * (i:Int)) (by omega) (by omega),z17 (x:=4 * (i:Int)+1) (by omega) (by omega),z17 (x:=4 * (i:Int)+2) (by omega) (by omega),z17 (x:=4 * (i:Int)+3) (by omega) (by omega)];rw [show (4 * (i:Int))=((4 * i:Nat):Int) by omega, show (((4 * i:Nat):Int)+1)=((4 * i+1:Nat):Int) by omega, show (((4 * i:Nat):Int)+2)=((4 * i+2:Nat):Int) by omega, show (((4 * i:Nat):Int)+3)=((4 * i+3:Nat):Int) by omega]
  rw [zh0 0 (by omega),zh0 0 (by omega),zh0 0 (by omega),zh0 0 (by omega)];simp only [bS];rw [z1l (by simp; omega)];simp only [bS,z0l (show i<9223372036854775807 by omega)];rw [List.range_succ,List.map_append];rfl
 ·unfold z5g;rw [if_neg (by simp)];rfl
theorem z14w (b:List UInt8):iter (z5l) (z79 b 0,16)=some (z79 b 48):=by
 refine z3d (F:=z5l) (b:=z79 b 48) 48 (fun i=>(z79 b i,((16+i:Nat):Int))) (fun i hi=>?_) ?_
 ·have hl:=zf2 b i;unfold z5l;rw [if_pos (by simp; omega)];simp only [];rw [z17 (x:=((16+i:Nat):Int) - 15) (by omega) (by omega),z17 (x:=((16+i:Nat):Int) - 2) (by omega) (by omega),z17 (x:=((16+i:Nat):Int) - 16) (by omega) (by omega),z17 (x:=((16+i:Nat):Int) - 7) (by omega) (by omega)];rw [show ((16+i:Nat):Int) - 15=((16+i - 15:Nat):Int) by omega, show ((16+i:Nat):Int) - 2=((16+i - 2:Nat):Int) by omega, show ((16+i:Nat):Int) - 16=((16+i - 16:Nat):Int) by omega, show ((16+i:Nat):Int) - 7=((16+i - 7:Nat):Int) by omega]
  rw [zh0 0 (by omega),zh0 0 (by omega),zh0 0 (by omega),zh0 0 (by omega)];simp only [bS];rw [show (7:Int)=((7:Nat):Int) from rfl, show (18:Int)=((18:Nat):Int) from rfl, show (17:Int)=((17:Nat):Int) from rfl, show (19:Int)=((19:Nat):Int) from rfl];rw [zed _ 7 (by omega),zed _ 18 (by omega),zed _ 17 (by omega),zed _ 19 (by omega)];simp only [bS];rw [z1l (by simp; omega)];simp only [bS,z0l (show 16+i<9223372036854775807 by omega)]
  rw [show z79 b (i+1)=zve (z79 b i) from rfl,zwa _ (16+i) hl];rfl
 ·unfold z5l;rw [if_neg (by simp)]
theorem z19x (x:UInt32) (y:UInt8) (h:x.toNat<16777216):(zr5 x 8) ||| y.toUInt32=x * 256+y.toUInt32:=by
 apply UInt32.toNat_inj.1
 have hy:=UInt8.toNat_lt y;rw [UInt32.toNat_or,zvm,UInt32.toNat_add,UInt32.toNat_mul];have e1:(y.toUInt32).toNat=y.toNat:=by simp
 have e2:(256:UInt32).toNat=256:=rfl;rw [e1,e2, show (2:Nat) ^ (min 8 32)=256 from rfl,Nat.mod_eq_of_lt (a:=x.toNat * 256) (by omega),Nat.mod_eq_of_lt (a:=x.toNat * 256+y.toNat) (by omega)]
 have:=Nat.shiftLeft_add_eq_or_of_lt (i:=8) (b:=y.toNat) (by simpa using hy) x.toNat
 rw [Nat.shiftLeft_eq, show (2:Nat) ^ 8=256 from rfl] at this;exact this.symm
def zmi (b:List UInt8) (k:Nat):Nat→UInt32
 | 0=>0
 | m+1=>zmi b k m * 256+(b.getD (4 * k+m) 0).toUInt32
theorem zx7 (b:List UInt8) (k:Nat):∀ m,m≤4→(zmi b k m).toNat<256 ^ m
 | 0,_=>by simp [zmi]
 | m+1,h=>by
  have ih:=zx7 b k m (by omega);have hy:=UInt8.toNat_lt (b.getD (4 * k+m) 0);have hp:256 ^ m≤256 ^ 3:=Nat.pow_le_pow_right (by omega) (by omega);have e3:(256:Nat) ^ 3=16777216:=rfl;have ep:256 ^ (m+1)=256 ^ m * 256:=Nat.pow_succ ..;rw [zmi,UInt32.toNat_add,UInt32.toNat_mul,ep];have e1:((b.getD (4 * k+m) 0).toUInt32).toNat=(b.getD (4 * k+m) 0).toNat:=by simp
  have e2:(256:UInt32).toNat=256:=rfl;rw [e1,e2,Nat.mod_eq_of_lt (a:=(zmi b k m).toNat * 256) (by omega),Nat.mod_eq_of_lt (by omega)];omega
theorem zxv (b:List UInt8) (k:Nat):zmi b k 4=word b k:=by
 simp only [zmi,word,Nat.add_zero]
 simp
theorem z105 (b:List UInt8) (hb:b.length=64):∃ w,iter (z6x b) (Vector.replicate 64 0,0)=some w∧w.toList.take 16=z79 b 0:=by
 refine z7b (F:=z6x b) 64 (fun i s=>s.2=(i:Int)∧∀ k,k<16→s.1.toList.getD k 0=zmi b k (min 4 (i - 4 * k))) (fun w=>w.toList.take 16=z79 b 0) (fun i s hi hs=>?_) (fun s hs=>?_) (Vector.replicate 64 0,0) 0 (by omega) ⟨rfl, fun k hk=>?_⟩
 ·obtain ⟨w,j⟩:=s;obtain ⟨h1,h2⟩:=hs;simp only at h1 h2;subst h1;have hlw:w.toList.length=64:=by simp
  have hdiv:w64 (Int.tdiv (i:Int) 4)=((i / 4:Nat):Int):=by
   have:Int.tdiv (i:Int) 4=((i / 4:Nat):Int):=by
    rw [Int.tdiv_eq_ediv_of_nonneg (by omega)]; omega
   rw [this,z17 (by omega) (by omega)]
  refine ⟨(zjl w ((i / 4:Nat):Int) (zmi b (i / 4) (i % 4+1)),((i+1:Nat):Int)),?_,rfl, fun k hk=>?_⟩
  ·unfold z6x;rw [if_pos (by simp; omega)];simp only [hdiv,z12d];rw [zh0 0 (by omega)];simp only [bS];rw [zh0 0 (by omega)];simp only [bS,z0l (show i<9223372036854775807 by omega)];rw [h2 (i / 4) (by omega), show min 4 (i - 4 * (i / 4))=i % 4 by omega];have hlt:=zx7 b (i / 4) (i % 4) (by omega);have hp:256 ^ (i % 4)≤256 ^ 3:=Nat.pow_le_pow_right (by omega) (by omega);have e3:(256:Nat) ^ 3=16777216:=rfl
   rw [z19x _ _ (by omega)];have e4:zmi b (i / 4) (i % 4+1)=zmi b (i / 4) (i % 4) * 256+(b.getD i 0).toUInt32:=by
    show zmi b (i / 4) (i % 4) * 256+(b.getD (4 * (i / 4)+i % 4) 0).toUInt32=_;rw [show 4 * (i / 4)+i % 4=i by omega]
   rw [e4]
  ·simp only [];rw [z16a,z156 (by omega)];by_cases hk2:i / 4=k
   ·subst hk2;rw [if_pos rfl, show min 4 (i+1 - 4 * (i / 4))=i % 4+1 by omega]
   ·rw [if_neg hk2,h2 k hk]
    congr 1; omega
 ·obtain ⟨w,j⟩:=s;obtain ⟨h1,h2⟩:=hs;simp only at h1 h2;subst h1;have hlw:w.toList.length=64:=by simp
  refine ⟨w,?_,?_⟩
  ·unfold z6x;rw [if_neg (by simp [hb])]
  ·apply List.ext_getElem
   ·simp [z79]
   ·intro k k1 k2;have hk:k<16:=by simp [z79] at k2; exact k2
    have:=h2 k hk
    rw [show min 4 (64 - 4 * k)=4 by omega,zxv] at this;have e:w.toList.getD k 0=w.toList[k]'(by omega):=by rw [List.getD_eq_getElem?_getD,List.getElem?_eq_getElem (by omega)]; rfl
    rw [e] at this;simp only [List.getElem_take,this,z79,List.getElem_map,List.getElem_range]
 ·show (Vector.replicate 64 (0:UInt32)).toList.getD k 0=_;rw [show min 4 (0 - 4 * k)=0 by omega,Vector.toList_replicate,List.getD_eq_getElem?_getD,List.getElem?_replicate,if_pos (by omega)];rfl
theorem zy7 (v:Vector UInt32 64) (t:Nat) (h1:16≤t) (h2:t<64) (p q r s u:UInt32) (e1:z84 v ((t - 15:Nat):Int)=some p) (e2:z84 v ((t - 2:Nat):Int)=some q) (e3:z84 v ((t - 16:Nat):Int)=some r) (e4:z84 v ((t - 7:Nat):Int)=some s) (e5:z84 v (t:Int)=some u) :
  z51 (v,(t:Int))=some (.inr (zjl v (t:Int) (((r+s)+sg0 p)+sg1 q),((t+1:Nat):Int))):=by
 have r1:=znc p 7 (by omega) (by omega);have r2:=znc p 18 (by omega) (by omega);have r3:=znc q 17 (by omega) (by omega);have r4:=znc q 19 (by omega) (by omega);have hw:=z0l (show t<9223372036854775807 by omega);have hd:decide ((t:Int)<64)=true:=by simp; omega
 have w1:w64 ((t:Int) - 15)=((t - 15:Nat):Int):=by rw [z17 (by omega) (by omega)]; omega
 have w2:w64 ((t:Int) - 2)=((t - 2:Nat):Int):=by rw [z17 (by omega) (by omega)]; omega
 have w3:w64 ((t:Int) - 16)=((t - 16:Nat):Int):=by rw [z17 (by omega) (by omega)]; omega
 have w4:w64 ((t:Int) - 7)=((t - 7:Nat):Int):=by rw [z17 (by omega) (by omega)]; omega
 unfold z51;rw [if_pos hd];simp only [];rw [w1,w2,w3,w4,hw,e1,e2,e3,e4,e5];simp only [bS];rw [show (-7:Int) = -((7:Nat):Int) from rfl, show (-18:Int) = -((18:Nat):Int) from rfl, show (-17:Int) = -((17:Nat):Int) from rfl, show (-19:Int) = -((19:Nat):Int) from rfl,r1,r2,r3,r4];simp only [bS];rfl
theorem z109 (b:List UInt8) (w:Vector UInt32 64) (hw:w.toList.take 16=z79 b 0):∃ v,iter (z51) (w,16)=some v∧v.toList=z79 b 48:=by
 refine z7b (F:=z51) 48 (fun i s=>s.2=((16+i:Nat):Int)∧s.1.toList.take (16+i)=z79 b i) (fun v=>v.toList=z79 b 48) (fun i s hi hs=>?_) (fun s hs=>?_) (w,16) 0 (by omega) ⟨rfl,hw⟩
 ·obtain ⟨w,j⟩:=s;obtain ⟨h1,h2⟩:=hs;simp only at h1 h2;subst h1;have hlw:w.toList.length=64:=by simp
  have hl:=zf2 b i;have hg:∀ k,k<16+i→w.toList.getD k 0=(z79 b i).getD k 0:=fun k hk=>by rw [← h2,zt0 hk]
  have hv:∀ k,k<16+i→z84 w (k:Int)=some ((z79 b i).getD k 0):=fun k hk=>by rw [z12d,zh0 0 (by omega),hg k hk]
  refine ⟨_,zy7 w (16+i) (by omega) (by omega) _ _ _ _ _ (hv _ (by omega)) (hv _ (by omega)) (hv _ (by omega)) (hv _ (by omega)) (z8y (by omega)),rfl,?_⟩;simp only [];rw [z16a, show 16+(i+1)=16+i+1 by omega,zqr (by omega),h2, show z79 b (i+1)=zve (z79 b i) from rfl,zwa _ (16+i) hl]
 ·obtain ⟨w,j⟩:=s;obtain ⟨h1,h2⟩:=hs;simp only at h1 h2;subst h1;refine ⟨w,?_,?_⟩
  ·unfold z51;rw [if_neg (by simp)]
  ·rw [← h2,List.take_of_length_le (by simp)]
abbrev O8:=UInt32 × UInt32 × UInt32 × UInt32 × UInt32 × UInt32 × UInt32 × UInt32
def toV (s:O8):Vector UInt32 8:=#v[s.1,s.2.1,s.2.2.1,s.2.2.2.1,s.2.2.2.2.1,s.2.2.2.2.2.1,s.2.2.2.2.2.2.1,s.2.2.2.2.2.2.2]
def ofV (h:Vector UInt32 8):O8:=(h[0],h[1],h[2],h[3],h[4],h[5],h[6],h[7])
theorem z171 (h:Vector UInt32 8):toV (ofV h)=h:=by
 apply Vector.ext
 intro i hi;unfold toV ofV
 match i,hi with
 | 0,_=>rfl
 | 1,_=>rfl
 | 2,_=>rfl
 | 3,_=>rfl
 | 4,_=>rfl
 | 5,_=>rfl
 | 6,_=>rfl
 | 7,_=>rfl
def rnd1 (k w:UInt32) (s:O8):UInt32:=(((s.2.2.2.2.2.2.2+((tr s.2.2.2.2.1 6 ^^^ tr s.2.2.2.2.1 11) ^^^ tr s.2.2.2.2.1 25))+((s.2.2.2.2.1 &&& s.2.2.2.2.2.1) ^^^ ((~~~s.2.2.2.2.1) &&& s.2.2.2.2.2.2.1)))+k)+w
def rnd2 (s:O8):UInt32:=((tr s.1 2 ^^^ tr s.1 13) ^^^ tr s.1 22)+(((s.1 &&& s.2.1) ^^^ (s.1 &&& s.2.2.1)) ^^^ (s.2.1 &&& s.2.2.1))
def rnd (k w:UInt32) (s:O8):O8:=(rnd1 k w s+rnd2 s,s.1,s.2.1,s.2.2.1,s.2.2.2.1+rnd1 k w s,s.2.2.2.2.1,s.2.2.2.2.2.1,s.2.2.2.2.2.2.1)
def zwu (K W:List UInt32) (s:O8):Nat→O8
 | 0=>s
 | n+1=>rnd (K.getD n 0) (W.getD n 0) (zwu K W s n)
theorem z12r:za1=some z6j.toList:=rfl
theorem zqk:z6j.toList.length=64:=by simp
theorem zzn (w:Vector UInt32 64) (a b c d e f g z:UInt32) (i:Nat) (hi:i<64) (k u:UInt32) (hk:z84 z6j (i:Int)=some k) (hu:z84 w (i:Int)=some u) :
  z63 w (a,b,c,d,e,f,g,z,(i:Int))=some (.inr (rnd1 k u (a,b,c,d,e,f,g,z)+rnd2 (a,b,c,d,e,f,g,z),a,b,c,d+rnd1 k u (a,b,c,d,e,f,g,z),e,f,g,((i+1:Nat):Int))):=by
 have m1:=z15y e 6 11 25 (by omega) (by omega) (by omega);have m2:=z15y a 2 13 22 (by omega) (by omega) (by omega);have hw:=z0l (show i<9223372036854775807 by omega);have hd:decide ((i:Int)<64)=true:=by simp; omega
 unfold z63;rw [if_pos hd];simp only [];rw [hk,hu,hw];simp only [bS];rw [show (6:Int)=((6:Nat):Int) from rfl, show (11:Int)=((11:Nat):Int) from rfl, show (25:Int)=((25:Nat):Int) from rfl, show (2:Int)=((2:Nat):Int) from rfl, show (13:Int)=((13:Nat):Int) from rfl, show (22:Int)=((22:Nat):Int) from rfl,m1,m2];simp only [bS];rfl
theorem z14v (K W:List UInt32) (a b c d e f g z:UInt32) (i:Nat) (hi:i<64) (k u:UInt32) (hk:idx K (i:Int)=some k) (hu:idx W (i:Int)=some u) :
  z3n W K (#v[a,b,c,d,e,f,g,z],(i:Int))=some (.inr (#v[rnd1 k u (a,b,c,d,e,f,g,z)+rnd2 (a,b,c,d,e,f,g,z),a,b,c,d+rnd1 k u (a,b,c,d,e,f,g,z),e,f,g],((i+1:Nat):Int))):=by
 have t1:=zed e 6 (by omega);have t2:=zed e 11 (by omega);have t3:=zed e 25 (by omega);have t4:=zed a 2 (by omega);have t5:=zed a 13 (by omega);have t6:=zed a 22 (by omega);have hw:=z0l (show i<9223372036854775807 by omega);have hd:decide ((i:Int)<64)=true:=by simp; omega
 have v0:z84 #v[a,b,c,d,e,f,g,z] 0=some a:=rfl;have v1:z84 #v[a,b,c,d,e,f,g,z] 1=some b:=rfl;have v2:z84 #v[a,b,c,d,e,f,g,z] 2=some c:=rfl;have v3:z84 #v[a,b,c,d,e,f,g,z] 3=some d:=rfl;have v4:z84 #v[a,b,c,d,e,f,g,z] 4=some e:=rfl;have v5:z84 #v[a,b,c,d,e,f,g,z] 5=some f:=rfl;have v6:z84 #v[a,b,c,d,e,f,g,z] 6=some g:=rfl;have v7:z84 #v[a,b,c,d,e,f,g,z] 7=some z:=rfl;unfold z3n;rw [if_pos hd];simp only []
 rw [v0,v1,v2,v3,v4,v5,v6,v7,hk,hu,hw];simp only [bS];rw [show (6:Int)=((6:Nat):Int) from rfl, show (11:Int)=((11:Nat):Int) from rfl, show (25:Int)=((25:Nat):Int) from rfl, show (2:Int)=((2:Nat):Int) from rfl, show (13:Int)=((13:Nat):Int) from rfl, show (22:Int)=((22:Nat):Int) from rfl,t1,t2,t3,t4,t5,t6];simp only [bS];rfl
def zy6 (s:O8) (i:Int):UInt32 × UInt32 × UInt32 × UInt32 × UInt32 × UInt32 × UInt32 × UInt32 × Int:=match s with
 | (a,b,c,d,e,f,g,z)=>(a,b,c,d,e,f,g,z,i)
theorem zyq (w:Vector UInt32 64) (s:O8) (i:Nat) (hi:i<64):z63 w (zy6 s (i:Int))=some (.inr (zy6 (rnd (z6j.toList.getD i 0) (w.toList.getD i 0) s) ((i+1:Nat):Int))):=by
 obtain ⟨a,b,c,d,e,f,g,z⟩:=s;exact zzn w a b c d e f g z i hi _ _ (zh0 0 (by rw [zqk]; exact hi)) (zh0 0 (by simp; exact hi))
theorem zyv (w:Vector UInt32 64) (s:O8):iter (z63 w) (zy6 s 0)=some (zwu z6j.toList w.toList s 64):=by
 refine z3d (F:=z63 w) (b:=zwu z6j.toList w.toList s 64) 64 (fun i=>zy6 (zwu z6j.toList w.toList s i) (i:Int)) (fun i hi=>zyq w _ i hi) ?_;generalize zwu z6j.toList w.toList s 64=q;obtain ⟨a,b,c,d,e,f,g,z⟩:=q;unfold zy6 z63;rw [if_neg (by simp)]
theorem z12s (K W:List UInt32) (hk:K.length=64) (hW:W.length=64) (s:O8) (i:Nat) (hi:i<64):z3n W K (toV s,(i:Int))=some (.inr (toV (rnd (K.getD i 0) (W.getD i 0) s),((i+1:Nat):Int))):=by
 obtain ⟨a,b,c,d,e,f,g,z⟩:=s;exact z14v K W a b c d e f g z i hi _ _ (zh0 0 (by omega)) (zh0 0 (by omega))
theorem zz2 (K W:List UInt32) (hk:K.length=64) (hW:W.length=64) (s:O8):iter (z3n W K) (toV s,0)=some (toV (zwu K W s 64)):=by
 refine z3d (F:=z3n W K) (b:=toV (zwu K W s 64)) 64 (fun i=>(toV (zwu K W s i),(i:Int))) (fun i hi=>z12s K W hk hW _ i hi) ?_;generalize toV (zwu K W s 64)=q;unfold z3n;rw [if_neg (by simp)]
theorem z17n (s:O8):zdn s=z21 (toV s):=by
 funext x
 obtain ⟨h,i⟩:=x;unfold zdn z21;simp only [bS];show (if decide (i<8)=true then z84 (toV s) i >>= _ else _)=_
 split
 ·cases h1:z84 (toV s) i <;> cases h2:z84 h i <;> rfl
 ·rfl
def addV (h v:Vector UInt32 8):Vector UInt32 8:=(iter (z21 v) (h,0)).getD h
theorem z11i (h v:Vector UInt32 8):iter (z21 v) (h,0)=some (addV h v):=by
 obtain ⟨r,h1,-⟩:=z7b (F:=z21 v) 8 (fun i s=>s.2=(i:Int)) (fun _=>True) (fun i s hi hs=>by
  obtain ⟨u,j⟩:=s;simp only at hs;subst hs;unfold z21;rw [if_pos (by simp; omega)];rw [z8y (show i<8 by omega),z8y (show i<8 by omega)];simp only [bS,z0l (show i<9223372036854775807 by omega)]
  exact ⟨_,rfl,rfl⟩) (fun s hs=>by
  obtain ⟨u,j⟩:=s;simp only at hs;subst hs;unfold z21;rw [if_neg (by simp)]
  exact ⟨_,rfl,trivial⟩) (h,0) 0 (by omega) rfl
 unfold addV;rw [h1]; rfl
def gr (h:Vector UInt32 8) (b:List UInt8):Vector UInt32 8:=addV h (toV (zwu z6j.toList (z79 b 48) (ofV h) 64))
theorem z1b7 (h:Vector UInt32 8) (b:List UInt8) (hb:b.length=64):z9s h b=some (gr h b):=by
 unfold z9s;rw [z152 b (by omega)];simp only [bS];rw [z14w b];simp only [bS,z12r]
 have:=zz2 z6j.toList (z79 b 48) zqk (by rw [zf2]) (ofV h)
 rw [z171] at this;rw [this];simp only [bS];rw [z11i];rfl
theorem z16v (h:Vector UInt32 8) (b:List UInt8) (hb:64≤b.length):zdy h b=some (gr h (b.take 64)):=by
 unfold zdy zdf;rw [show (64:Int)=((64:Nat):Int) from rfl, show (0:Int)=((0:Nat):Int) from rfl,zav (by omega) hb];simp only [bS,List.drop_zero,Nat.sub_zero];obtain ⟨w,h1,h2⟩:=z105 (b.take 64) (by simp; omega);rw [show ((0:Nat):Int)=0 from rfl,h1];simp only [bS];obtain ⟨v,h3,h4⟩:=z109 (b.take 64) w h2;rw [h3];simp only [bS];have hv:∀ i:Nat,(hi:i<8)→z84 h (i:Int)=some h[i]:=fun i hi=>z8y hi;rw [show z84 h 0=some h[0] from hv 0 (by omega), show z84 h 1=some h[1] from hv 1 (by omega), show z84 h 2=some h[2] from hv 2 (by omega), show z84 h 3=some h[3] from hv 3 (by omega), show z84 h 4=some h[4] from hv 4 (by omega), show z84 h 5=some h[5] from hv 5 (by omega), show z84 h 6=some h[6] from hv 6 (by omega), show z84 h 7=some h[7] from hv 7 (by omega)]
 simp only [bS]
 have:=zyv v (ofV h)
 rw [show (h[0],h[1],h[2],h[3],h[4],h[5],h[6],h[7],(0:Int))=zy6 (ofV h) 0 from rfl,this];simp only [bS];rw [z17n,h4,z11i];rfl
end
section
open Go
def blk (h:Vector UInt32 8) (b:List UInt8):Vector UInt32 8:=if h64:64≤b.length then blk (gr h (b.take 64)) (b.drop 64) else h
termination_by b.length
decreasing_by simp; omega
theorem zua {h:Vector UInt32 8} {b:List UInt8} (hb:b.length<64):blk h b=h:=by rw [blk,dif_neg (by omega)]
theorem zsj {h:Vector UInt32 8} {b:List UInt8} (hb:64≤b.length):blk h b=blk (gr h (b.take 64)) (b.drop 64):=by rw [blk,dif_pos hb]
def lft (b:List UInt8):List UInt8:=b.drop (b.length / 64 * 64)
theorem z10w {b:List UInt8} (hb:b.length<64):lft b=b:=by unfold lft; rw [Nat.div_eq_of_lt hb]; simp
theorem zzw {b:List UInt8} (hb:64≤b.length):lft b=lft (b.drop 64):=by
 unfold lft;rw [List.drop_drop,List.length_drop]
 congr 1
 omega
theorem z11u (b:List UInt8):(lft b).length<64:=by unfold lft; simp; omega
theorem z18g (h:Vector UInt32 8):∀ (n:Nat) (a c:List UInt8),a.length=n→blk h (a++c)=blk (blk h a) (lft a++c)∧lft (a++c)=lft (lft a++c):=by
 intro n
 induction n using Nat.strongRecOn generalizing h with
 | _ n ih =>
  intro a c ha;by_cases h64:64≤a.length
  ·have e1:(a++c).take 64=a.take 64:=by rw [List.take_append_of_le_length h64]
   have e2:(a++c).drop 64=a.drop 64++c:=by rw [List.drop_append_of_le_length h64]
   have hl:64≤(a++c).length:=by simp; omega
   obtain ⟨i1,i2⟩:=ih (a.drop 64).length (by simp; omega) (gr h (a.take 64)) (a.drop 64) c rfl;rw [zsj hl,e1,e2,zsj h64,zzw h64,zzw hl,e2];exact ⟨i1,i2⟩
  ·rw [zua (b:=a) (by omega),z10w (b:=a) (by omega)];exact ⟨rfl,rfl⟩
theorem z12q:∀ (n:Nat) (m:z2q) (r:List UInt8),r.length=n→iter za7 (m,r)=some ({ m with Words:=blk m.Words r },lft r):=by
 intro n
 induction n using Nat.strongRecOn with
 | _ n ih =>
  intro m r hr;by_cases h64:64≤r.length
  ·have hs:za7 (m,r)=some (.inr ({ m with Words:=gr m.Words (r.take 64) },r.drop 64)):=by
    unfold za7;rw [if_pos (by simp; omega)];simp only [];rw [z16v _ _ h64, show (64:Int)=((64:Nat):Int) from rfl,zav h64 (Nat.le_refl _)];simp only [bS];rw [List.take_of_length_le (l:=r.drop 64) (by simp)]
   rw [z2c hs,ih (r.drop 64).length (by simp; omega) _ _ rfl,zsj h64,zzw h64]
  ·refine (z1r (b:=(m,r)) ?_).trans ?_
   ·unfold za7;rw [if_neg (by simp; omega)]
   ·rw [zua (by omega),z10w (by omega)]
theorem z18f (a b:List UInt8) (h:a.length+b.length≤1000000):z2h [a,b]=some (a++b):=by
 have l1:iter (z16 [a,b]) (0,0)=some ((a.length+b.length:Nat):Int):=by
  have s1:z16 [a,b] (0,0)=some (.inr ((a.length:Int),1)):=by
   unfold z16;rw [if_pos (by simp)];simp only [];rw [show idx [a,b] 0=some a from rfl];simp only [bS];rw [z17 (x:=(0:Int)+(a.length:Int)) (by omega) (by omega),z17 (x:=(0:Int)+1) (by omega) (by omega)];rw [if_neg (by simp)]
   simp
  have s2:z16 [a,b] ((a.length:Int),1)=some (.inr (((a.length+b.length:Nat):Int),2)):=by
   unfold z16;rw [if_pos (by simp)];simp only [];rw [show idx [a,b] 1=some b from rfl];simp only [bS];rw [z17 (x:=(a.length:Int)+(b.length:Int)) (by omega) (by omega),z17 (x:=(1:Int)+1) (by omega) (by omega)];rw [if_neg (by simp; omega)]
   simp
  have s3:z16 [a,b] (((a.length+b.length:Nat):Int),2)=some (.inl ((a.length+b.length:Nat):Int)):=by
   unfold z16;rw [if_neg (by simp)]
  rw [z2c s1,z2c s2,z1r s3]
 have gw:z3z ((a.length+b.length:Nat):Int)=some []:=by
  unfold z3z;rw [if_neg (by simp; omega)];rw [show ((([]:List UInt8).length:Nat):Int)=0 from rfl, show w64 ((0:Int) - 0)=0 by decide,Int.sub_zero,z17 (by omega) (by omega)];simp only [bS]
  split
  ·rw [zks (by omega) (by omega)];simp only [bS];rw [show (0:Int)=((0:Nat):Int) from rfl,zav (Nat.le_refl _) (Nat.zero_le _)]
   simp
  ·rfl
 have l2:iter (z14 [a,b]) ([],0)=some (a++b):=by
  have s1:z14 [a,b] ([],0)=some (.inr (a,1)):=by
   unfold z14;rw [if_pos (by simp)];simp only [];rw [show idx [a,b] 0=some a from rfl,z17 (x:=(0:Int)+1) (by omega) (by omega)];simp only [bS];rw [z1l (by simp; omega)]
   simp
  have s2:z14 [a,b] (a,1)=some (.inr (a++b,2)):=by
   unfold z14;rw [if_pos (by simp)];simp only [];rw [show idx [a,b] 1=some b from rfl,z17 (x:=(1:Int)+1) (by omega) (by omega)];simp only [bS];rw [z1l (by simp; omega)]
   simp
  have s3:z14 [a,b] (a++b,2)=some (.inl (a++b)):=by
   unfold z14;rw [if_neg (by simp)]
  rw [z2c s1,z2c s2,z1r s3]
 unfold z2h;rw [l1];simp only [bS];rw [gw];simp only [bS];rw [l2];simp only [bS]
theorem z17e (m:z2q) (b:List UInt8) (h:m.Rest.length+b.length≤1000000):zbu m b=some ⟨blk m.Words (m.Rest++b),lft (m.Rest++b),w64 (m.N+(b.length:Int))⟩:=by
 unfold zbu;rw [z18f _ _ h];simp only [bS];rw [z12q _ _ _ rfl];simp only [bS];unfold z8v
 have:=z11u (m.Rest++b)
 rw [z1l (by simp; omega)];simp only [bS,List.nil_append]
def H0:Vector UInt32 8:=#v[1779033703,3144134277,1013904242,2773480762,1359893119,2600822924,528734635,1541459225]
def zyy (a:List UInt8):z2q:=⟨blk H0 a,lft a,(a.length:Int)⟩
theorem z13b:zdv=some (zyy []):=by
 unfold zdv zyy;rw [zua (by simp),z10w (by simp)];rfl
theorem zsd (a b:List UInt8) (h:a.length+b.length≤500000):zbu (zyy a) b=some (zyy (a++b)):=by
 have hl:=z11u a;rw [z17e (zyy a) b (by show (lft a).length+b.length≤1000000; omega)];obtain ⟨h1,h2⟩:=z18g H0 _ a b rfl;unfold zyy;rw [h1,h2,z17 (by simp; omega) (by simp; omega)]
 simp
theorem zyj (b:List UInt8) (hb:b.length≤1000000):∀ (n:Nat) (h:Vector UInt32 8) (i:Nat),(b.drop i).length=n→i≤b.length→iter (z5i b) (h,(i:Int))=some (blk h (b.drop i)):=by
 intro n
 induction n using Nat.strongRecOn with
 | _ n ih =>
  intro h i hn hi;have hw:w64 ((i:Int)+64)=((i+64:Nat):Int):=by rw [z17 (by omega) (by omega)]; omega
  simp only [List.length_drop] at hn;by_cases h64:i+64≤b.length
  ·have hs:z5i b (h,(i:Int))=some (.inr (gr h ((b.drop i).take 64),((i+64:Nat):Int))):=by
    unfold z5i;simp only [hw];rw [if_pos (by simp; omega),zav (by omega) h64];simp only [bS];rw [show i+64 - i=64 by omega,z1b7 _ _ (by simp; omega)];simp only [bS]
   rw [z2c hs,ih (b.drop (i+64)).length (by simp; omega) _ _ rfl h64,zsj (b:=b.drop i) (by simp; omega),List.drop_drop]
  ·refine (z1r (b:=h) ?_).trans ?_
   ·unfold z5i;simp only [hw];rw [if_neg (by simp; omega)]
   ·rw [zua (by simp; omega)]
theorem z101 (h:Vector UInt32 8) (b:List UInt8) (hb:b.length≤1000000):z9w h b=some (blk h b):=by
 unfold z9w
 have:=zyj b hb _ h 0 rfl (by omega)
 rw [show (0:Int)=((0:Nat):Int) from rfl,this];simp only [bS,List.drop_zero]
def zrs (n:Nat):Nat:=(119 - n % 64) % 64
def z94 (n:Nat):List UInt8:=(List.range 8).map fun i=>(z6l (UInt64.ofNat n * 8) (56 - 8 * i)).toUInt8
def tl (n:Nat):List UInt8:=([128]++List.replicate (zrs n) 0)++z94 n
theorem zsc (n:Nat):UInt64.ofInt (n:Int)=UInt64.ofNat n:=by
 apply UInt64.toNat_inj.1
 unfold UInt64.ofInt;simp only [UInt64.toNat_ofNat'];omega
theorem z12m (n:Nat) (x:List UInt8) (hx:x.length≤100):iter (zb4 (UInt64.ofNat n * 8)) (x,56)=some (x++z94 n):=by
 rw [show (x,(56:Int))=(x++(z94 n).take 0,56 - 8 * ((0:Nat):Int)) by simp];refine z3d (F:=zb4 (UInt64.ofNat n * 8)) (b:=x++z94 n) 8 (fun i=>(x++(z94 n).take i,56 - 8 * (i:Int))) (fun i hi=>?_) ?_
 ·have hl:(z94 n).length=8:=by simp [z94]
  unfold zb4;rw [if_pos (by simp; omega)];simp only [];rw [z2z (by omega),z17 (by omega) (by omega)];simp only [bS];rw [z1l (by simp; omega)];simp only [bS];rw [List.take_add_one,List.getElem?_eq_getElem (by omega)];simp only [Option.toList_some,List.append_assoc];rw [show (56 - 8 * (i:Int)).toNat=56 - 8 * i by omega, show (56 - 8 * (i:Int) - 8)=56 - 8 * ((i+1:Nat):Int) by omega];simp [z94]
 ·have hl:(z94 n).length=8:=by simp [z94]
  unfold zb4;rw [if_neg (by simp),List.take_of_length_le (by omega)]
theorem z12i (n:Nat) (x:List UInt8) (hx:x.length≤100):iter (z6v (n:Int)) (x,7)=some (x++z94 n):=by
 rw [show (x,(7:Int))=(x++(z94 n).take 0,7 - ((0:Nat):Int)) by simp];refine z3d (F:=z6v (n:Int)) (b:=x++z94 n) 8 (fun i=>(x++(z94 n).take i,7 - (i:Int))) (fun i hi=>?_) ?_
 ·have hl:(z94 n).length=8:=by simp [z94]
  unfold z6v;rw [if_pos (by simp; omega)];simp only [];rw [z17 (x:=8 * (7 - (i:Int))) (by omega) (by omega),z2z (by omega),z17 (by omega) (by omega)];simp only [bS];rw [z1l (by simp; omega)];simp only [bS];rw [List.take_add_one,List.getElem?_eq_getElem (by omega)];simp only [Option.toList_some,List.append_assoc];rw [show (8 * (7 - (i:Int))).toNat=56 - 8 * i by omega, show (7 - (i:Int) - 1)=7 - ((i+1:Nat):Int) by omega]
  rw [zsc];simp [z94,UInt64.mul_comm]
 ·have hl:(z94 n).length=8:=by simp [z94]
  unfold z6v;rw [if_neg (by simp),List.take_of_length_le (by omega)]
theorem z11f (n:Nat) (hn:n≤1000000):iter (z6z (n:Int)) [128]=some ([128]++List.replicate (zrs n) 0):=by
 refine z3d (F:=z6z (n:Int)) (b:=[128]++List.replicate (zrs n) 0) (zrs n) (fun i=>[128]++List.replicate i 0) (fun i hi=>?_) ?_
 ·have hz:zrs n<64:=Nat.mod_lt _ (by omega);have hl:(([128]++List.replicate i 0:List UInt8).length:Int)=((1+i:Nat):Int):=by simp; omega
  unfold z6z;rw [hl,z17 (x:=(n:Int)+((1+i:Nat):Int)) (by omega) (by omega),z17 (by omega) (by omega)];have ht:Int.tmod ((n:Int)+((1+i:Nat):Int)+8) 64=(((n+9+i) % 64:Nat):Int):=by
   rw [Int.tmod_eq_emod_of_nonneg (by omega)]; omega
  rw [ht,if_pos]
  ·rw [z1l (by simp; omega)];simp only [bS];rw [List.replicate_succ',List.append_assoc]
  ·simp only [bne_iff_ne,ne_eq];unfold zrs at hi;omega
 ·have hl:(([128]++List.replicate (zrs n) 0:List UInt8).length:Int)=((1+zrs n:Nat):Int):=by simp; omega
  have hz:zrs n<64:=Nat.mod_lt _ (by omega);unfold z6z;rw [hl,z17 (x:=(n:Int)+((1+zrs n:Nat):Int)) (by omega) (by omega),z17 (by omega) (by omega)];have ht:Int.tmod ((n:Int)+((1+zrs n:Nat):Int)+8) 64=0:=by
   rw [Int.tmod_eq_emod_of_nonneg (by omega)];unfold zrs;omega
  rw [ht,if_neg (by simp)]
theorem z14o (n:Nat) (hn:n≤1000000):zbk (n:Int)=some (tl n):=by
 have hz:zrs n<64:=Nat.mod_lt _ (by omega);unfold zbk;rw [z11f n hn];simp only [bS];rw [z12i n _ (by simp; omega)];simp only [bS];rfl
def wr (h:Vector UInt32 8):V3:=Vector.ofFn fun i=>(z4i (h[i.val / 4]'(by omega)) (24 - 8 * (i.val % 4))).toUInt8
theorem zyp (h:Vector UInt32 8):z8z h=some (wr h):=by
 have:∃ r,iter (z4t h) (Vector.replicate 32 0,0)=some r∧r=wr h:=by
  refine z7b (F:=z4t h) 32 (fun i s=>s.2=(i:Int)∧∀ k (hk:k<32),k<i→s.1[k]=(wr h)[k]) (fun r=>r=wr h) (fun i s hi hs=>?_) (fun s hs=>?_) (Vector.replicate 32 0,0) 0 (by omega) ⟨rfl, fun k hk h0=>by omega⟩
  ·obtain ⟨v,j⟩:=s;obtain ⟨h1,h2⟩:=hs;simp only at h1 h2;subst h1;have hd:w64 (Int.tdiv (i:Int) 4)=((i / 4:Nat):Int):=by
    have:Int.tdiv (i:Int) 4=((i / 4:Nat):Int):=by rw [Int.tdiv_eq_ediv_of_nonneg (by omega)]; omega
    rw [this,z17 (by omega) (by omega)]
   have hm:w64 (8 * (Int.tmod (i:Int) 4))=((8 * (i % 4):Nat):Int):=by
    have:Int.tmod (i:Int) 4=((i % 4:Nat):Int):=by rw [Int.tmod_eq_emod_of_nonneg (by omega)]; omega
    rw [this,z17 (by omega) (by omega)]; omega
   have hs:w64 (24 - ((8 * (i % 4):Nat):Int))=((24 - 8 * (i % 4):Nat):Int):=by rw [z17 (by omega) (by omega)]; omega
   refine ⟨(zjl v (i:Int) ((z4i (h[i / 4]'(by omega)) (24 - 8 * (i % 4))).toUInt8),((i+1:Nat):Int)),?_,rfl, fun k hk hk2=>?_⟩
   ·unfold z4t;rw [if_pos (by simp; omega)];simp only [];rw [hd,hm,hs,z8y (show i / 4<8 by omega),z2z (by omega),z8y hi,z0l (show i<9223372036854775807 by omega)];simp only [bS,Int.toNat_natCast]
   ·simp only [];rw [zhl hk,Int.toNat_natCast];by_cases e:i=k
    ·subst e;rw [if_pos rfl];simp [wr]
    ·rw [if_neg e]; exact h2 k hk (by omega)
  ·obtain ⟨v,j⟩:=s;obtain ⟨h1,h2⟩:=hs;simp only at h1 h2;subst h1;refine ⟨v,?_,?_⟩
   ·unfold z4t;rw [if_neg (by simp)]
   ·exact Vector.ext fun k hk=>h2 k hk hk
 obtain ⟨r,h1,rfl⟩:=this;unfold z8z;rw [h1];simp only [bS]
theorem zs3 (m:z2q):iter (z9m m) (Vector.replicate 32 0,0)=some (wr m.Words):=by
 have:∃ r,iter (z9m m) (Vector.replicate 32 0,0)=some r∧r=wr m.Words:=by
  refine z7b (F:=z9m m) 8 (fun i s=>s.2=(i:Int)∧∀ k (hk:k<32),k<4 * i→s.1[k]=(wr m.Words)[k]) (fun r=>r=wr m.Words) (fun i s hi hs=>?_) (fun s hs=>?_) (Vector.replicate 32 0,0) 0 (by omega) ⟨rfl, fun k hk h0=>by omega⟩
  ·obtain ⟨v,j⟩:=s;obtain ⟨h1,h2⟩:=hs;simp only at h1 h2;subst h1;have e0:w64 (4 * (i:Int))=((4 * i:Nat):Int):=by rw [z17 (by omega) (by omega)]; omega
   have e1:w64 (((4 * i:Nat):Int)+1)=((4 * i+1:Nat):Int):=by rw [z17 (by omega) (by omega)]; omega
   have e2:w64 (((4 * i:Nat):Int)+2)=((4 * i+2:Nat):Int):=by rw [z17 (by omega) (by omega)]; omega
   have e3:w64 (((4 * i:Nat):Int)+3)=((4 * i+3:Nat):Int):=by rw [z17 (by omega) (by omega)]; omega
   refine ⟨(zjl (zjl (zjl (zjl v ((4 * i:Nat):Int) (z4i m.Words[i] 24).toUInt8) ((4 * i+1:Nat):Int) (z4i m.Words[i] 16).toUInt8) ((4 * i+2:Nat):Int) (z4i m.Words[i] 8).toUInt8) ((4 * i+3:Nat):Int) m.Words[i].toUInt8,((i+1:Nat):Int)),?_,rfl, fun k hk hk2=>?_⟩
   ·unfold z9m;rw [if_pos (by simp; omega)];simp only [];rw [e0,e1,e2,e3,z8y hi,z8y (show 4 * i<32 by omega),z0l (show i<9223372036854775807 by omega)];simp only [bS];rw [z8y (show 4 * i+1<32 by omega),z8y (show 4 * i+2<32 by omega),z8y (show 4 * i+3<32 by omega)];simp only [bS]
   ·simp only [];rw [zhl hk,zhl hk,zhl hk,zhl hk];simp only [Int.toNat_natCast];have hw:(wr m.Words)[k]=(z4i (m.Words[k / 4]'(by omega)) (24 - 8 * (k % 4))).toUInt8:=by simp [wr]
    have s0:∀ x:UInt32,z4i x 0=x:=fun x=>by
     apply UInt32.toNat_inj.1; rw [zfl]; simp
    by_cases c3:4 * i+3=k
    ·subst c3;rw [if_pos rfl,hw];have a1:(4 * i+3) / 4=i:=by omega
     have a2:24 - 8 * ((4 * i+3) % 4)=0:=by omega
     simp only [a1,a2,s0]
    ·rw [if_neg c3];by_cases c2:4 * i+2=k
     ·subst c2;rw [if_pos rfl,hw];have a1:(4 * i+2) / 4=i:=by omega
      have a2:24 - 8 * ((4 * i+2) % 4)=8:=by omega
      simp only [a1,a2]
     ·rw [if_neg c2];by_cases c1:4 * i+1=k
      ·subst c1;rw [if_pos rfl,hw];have a1:(4 * i+1) / 4=i:=by omega
       have a2:24 - 8 * ((4 * i+1) % 4)=16:=by omega
       simp only [a1,a2]
      ·rw [if_neg c1];by_cases c0:4 * i=k
       ·subst c0;rw [if_pos rfl,hw];have a1:(4 * i) / 4=i:=by omega
        have a2:24 - 8 * ((4 * i) % 4)=24:=by omega
        simp only [a1,a2]
       ·rw [if_neg c0];exact h2 k hk (by omega)
  ·obtain ⟨v,j⟩:=s;obtain ⟨h1,h2⟩:=hs;simp only at h1 h2;subst h1;refine ⟨v,?_,?_⟩
   ·unfold z9m;rw [if_neg (by simp)]
   ·exact Vector.ext fun k hk=>h2 k hk (by omega)
 obtain ⟨r,h1,rfl⟩:=this;exact h1
def sha (b:List UInt8):V3:=wr (blk H0 (b++tl b.length))
theorem z1a4 (a:List UInt8) (h:a.length≤300000):zha (zyy a)=some (sha a):=by
 have hz:zrs a.length<64:=Nat.mod_lt _ (by omega);unfold zha;rw [show (zyy a).N=((a.length:Nat):Int) from rfl,zsc];simp only [bS];have ht:Int.tmod (w64 (119 - Int.tmod ((a.length:Nat):Int) 64)) 64=((zrs a.length:Nat):Int):=by
  have e1:Int.tmod ((a.length:Nat):Int) 64=((a.length % 64:Nat):Int):=by rw [Int.tmod_eq_emod_of_nonneg (by omega)]; omega
  rw [e1,z17 (by omega) (by omega),Int.tmod_eq_emod_of_nonneg (by omega)];unfold zrs;omega
 rw [ht];have hap:appz 1 ([128]:List UInt8) 0 ((zrs a.length:Nat):Int)=some ([128]++List.replicate (zrs a.length) 0):=by
  unfold appz;rw [if_pos ⟨by omega, by simp; omega⟩,Int.toNat_natCast]
 rw [hap];simp only [bS];rw [z12m _ _ (by simp; omega)];simp only [bS];have htl:(tl a.length).length≤200:=by simp [tl,z94]; omega
 rw [show ([128]++List.replicate (zrs a.length) 0)++z94 a.length=tl a.length from rfl,zsd a _ (by omega)];simp only [bS];rw [zs3];simp only [bS];rfl
theorem z1ag (b:List UInt8) (h:b.length≤300000):zb5 b=some (sha b):=by
 have hz:zrs b.length<64:=Nat.mod_lt _ (by omega);have htl:(tl b.length).length≤200:=by simp [tl,z94]; omega
 unfold zb5 zcp;simp only [bS];rw [z1l (by simp; omega)];simp only [bS,List.nil_append];rw [z14o _ (by omega)];simp only [bS];rw [z1l (by simp; omega)];simp only [bS];rw [z101 _ _ (by simp; omega)];simp only [bS];rw [zyp];simp only [bS];rfl
end
section
open Go Go.RowKit
def pmod:Nat→Nat→Nat→Nat→Nat
 | 0,_,_,m=>1 % m
 | f+1,a,n,m=>if n=0 then 1 % m else (if n % 2=1 then a * pmod f (a * a % m) (n / 2) m % m else pmod f (a * a % m) (n / 2) m)
theorem z111:∀ (f a n m:Nat),n<2 ^ f→pmod f a n m=a ^ n % m
 | 0,a,n,m,h=>by
  have:n=0:=by simpa using h
  subst this; rfl
 | f+1,a,n,m,h=>by
  have h2:n / 2<2 ^ f:=by rw [Nat.pow_succ] at h; omega
  have key:(a * a % m) ^ (n / 2) % m=a ^ (2 * (n / 2)) % m:=by
   rw [← Nat.pow_mod,← Nat.pow_two,← Nat.pow_mul]
  simp only [pmod,z111 f _ _ _ h2,key]
  split
  ·rename_i h0; subst h0; rfl
  ·split
   ·rename_i h1;rw [Nat.mul_mod,Nat.mod_mod,← Nat.mul_mod, show a * a ^ (2 * (n / 2))=a ^ (2 * (n / 2)+1) by rw [Nat.pow_succ,Nat.mul_comm], show 2 * (n / 2)+1=n by omega]
   ·rename_i h1;rw [show 2 * (n / 2)=n by omega]
abbrev gp:Nat:=1000000007
abbrev gq:Nat:=500000003
theorem z16i:4 ^ gq % gp=1:=by
 rw [← z111 64 4 gq gp (by decide)]
 decide +kernel
def inG (a:Nat):Prop:=0<a∧a<gp∧a ^ gq % gp=1
instance:DecidablePred inG:=fun a=>by unfold inG; exact inferInstance
theorem znj (a m n p:Nat):(a ^ m % p) ^ n % p=a ^ (m * n) % p:=by rw [← Nat.pow_mod,← Nat.pow_mul]
theorem zsl {a:Nat} (h:a ^ gq % gp=1) (k:Nat):a ^ (gq * k) % gp=1:=by
 rw [Nat.pow_mul,Nat.pow_mod,h,Nat.one_pow];rfl
theorem z107 {a:Nat} (h:a ^ gq % gp=1) (k r:Nat):a ^ (gq * k+r) % gp=a ^ r % gp:=by
 rw [Nat.pow_add,Nat.mul_mod,zsl h,Nat.one_mul,Nat.mod_mod]
theorem zqh {a:Nat} (h:a ^ gq % gp=1) (n:Nat):inG (a ^ n % gp):=by
 have h2:(a ^ n % gp) ^ gq % gp=1:=by rw [znj,Nat.mul_comm,zsl h]
 refine ⟨Nat.pos_of_ne_zero fun h0=>?_,Nat.mod_lt _ (by decide),h2⟩;rw [h0,Nat.zero_pow (by decide)] at h2;exact absurd h2 (by decide)
theorem z182 {y E:Nat} (h:y ^ gq % gp=1) (hE:E<gq):(y ^ E % gp) ^ (gq - 1) % gp=y ^ (gq - E) % gp:=by
 rw [znj];by_cases h0:E=0
 ·subst h0;rw [Nat.zero_mul,Nat.sub_zero,h,Nat.pow_zero]
  decide
 ·have e:E * (gq - 1)=gq * (E - 1)+(gq - E):=by
   obtain ⟨k,rfl⟩:∃ k,E=k+1:=⟨E - 1, by omega⟩
   have hE':k+1<500000003:=hE;show (k+1) * 500000002=500000003 * (k+1 - 1)+(500000003 - (k+1));omega
  rw [e,z107 h]
theorem z119 {a n i p:Nat}:((a ^ (n >>> (i+1)) % p) * (a ^ (n >>> (i+1)) % p) % p) * a ^ ((n >>> i) % 2) % p=a ^ (n >>> i) % p:=by
 have e:n >>> i=2 * (n >>> (i+1))+(n >>> i) % 2:=by
  rw [Nat.shiftRight_succ]; omega
 have key:∀ x y:Nat,((x % p) * (x % p) % p) * y % p=x * x * y % p:=fun x y=>by
  rw [Nat.mul_mod ((x % p) * (x % p) % p) y,Nat.mod_mod,← Nat.mul_mod x x,← Nat.mul_mod]
 rw [key,← Nat.pow_add,← Nat.pow_add]
 congr 2
 omega
end
section
open Go
def u32 (n:Nat):UInt32:=UInt32.ofNat n
theorem z8l {n:Nat} (h:n<gp):(u32 n).toNat=n:=by
 have h:n<1000000007:=h;unfold u32; simp; omega
theorem m64 (x y:UInt64) (h:x.toNat * y.toNat<18446744073709551616):(x * y % 1000000007).toNat=x.toNat * y.toNat % gp:=by
 rw [UInt64.toNat_mod,UInt64.toNat_mul,Nat.mod_eq_of_lt h];rfl
theorem to32 (x:UInt64) (h:x.toNat<gp):x.toUInt32=u32 x.toNat:=by
 apply UInt32.toNat_inj.1
 have h:x.toNat<1000000007:=h;rw [z8l h]; simp; omega
theorem mul2 (x y:UInt32):zeu 1000000007 [x,y]=some (u32 (x.toNat * y.toNat % gp)):=by
 have hx:=UInt32.toNat_lt x;have hy:=UInt32.toNat_lt y;have e1:(1 * x.toUInt64 % 1000000007:UInt64).toNat=x.toNat % gp:=by
  rw [m64 _ _ (by simp; omega)]; simp
 have hlt:x.toNat % gp<1000000007:=Nat.mod_lt _ (by decide);have hpr:(x.toNat % gp) * y.toNat≤1000000007 * 4294967296:=Nat.mul_le_mul (by omega) (by omega);have e2:(1 * x.toUInt64 % 1000000007 * y.toUInt64 % 1000000007:UInt64).toNat=x.toNat * y.toNat % gp:=by
  rw [m64 _ _ (by rw [e1]; simp; omega),e1];simp only [UInt32.toNat_toUInt64];rw [Nat.mod_mul_mod]
 have s1:z9j 1000000007 [x,y] (1,0)=some (.inr (1 * x.toUInt64 % 1000000007,1)):=by
  unfold z9j;rw [if_pos (by simp)];simp only [];rw [show idx [x,y] 0=some x from rfl,z2z (by decide),z17 (x:=(0:Int)+1) (by omega) (by omega)];simp only [bS];rfl
 have s2:z9j 1000000007 [x,y] (1 * x.toUInt64 % 1000000007,1)=some (.inr (1 * x.toUInt64 % 1000000007 * y.toUInt64 % 1000000007,2)):=by
  unfold z9j;rw [if_pos (by simp)];simp only [];rw [show idx [x,y] 1=some y from rfl,z2z (by decide),z17 (x:=(1:Int)+1) (by omega) (by omega)];simp only [bS];rfl
 have s3:z9j 1000000007 [x,y] (1 * x.toUInt64 % 1000000007 * y.toUInt64 % 1000000007,2)=some (.inl (1 * x.toUInt64 % 1000000007 * y.toUInt64 % 1000000007)):=by
  unfold z9j;rw [if_neg (by simp)]
 unfold zeu;rw [z2c s1,z2c s2,z1r s3];simp only [bS];rw [to32 _ (by rw [e2]; exact Nat.mod_lt _ (by decide)),e2]
theorem z150 (a:UInt32) (n:UInt64) (i:Nat) (hi:i<64):zce a n (u32 (a.toNat ^ (n.toNat >>> (64 - i)) % gp),(i:Int))=some (.inr (u32 (a.toNat ^ (n.toNat >>> (64 - (i+1))) % gp),((i+1:Nat):Int))):=by
 have hlt:a.toNat ^ (n.toNat >>> (64 - i)) % gp<gp:=Nat.mod_lt _ (by decide);have hlt2:(a.toNat ^ (n.toNat >>> (64 - i)) % gp) * (a.toNat ^ (n.toNat >>> (64 - i)) % gp) % gp<gp:=Nat.mod_lt _ (by decide);have hw:w64 (63 - (i:Int))=((63 - i:Nat):Int):=by rw [z17 (by omega) (by omega)]; omega
 have key:=z119 (a:=a.toNat) (n:=n.toNat) (i:=63 - i) (p:=gp);rw [show 63 - i+1=64 - i by omega] at key;have hb:=z1bv n (63 - i) (by omega);unfold zce zj4;rw [if_pos (by simp; omega)];simp only [];rw [mul2,z8l hlt];simp only [bS];rw [hw,z2z (by omega),z0l (show i<9223372036854775807 by omega)];simp only [bS];rw [show 64 - (i+1)=63 - i by omega];have hs:n.toNat >>> (63 - i) % 2=(if n.toNat.testBit (63 - i) then 1 else 0):=by
  rw [Nat.testBit_eq_decide_div_mod_eq,← Nat.shiftRight_eq_div_pow];by_cases h:n.toNat >>> (63 - i) % 2=1
  ·simp [h]
  ·simp [h]; omega
 cases ht:n.toNat.testBit (63 - i) with
 | true =>
  rw [ht] at hs;rw [hs,if_pos rfl,Nat.pow_one] at key;rw [if_pos (by rw [Int.toNat_natCast,hb]; exact ht),mul2,z8l hlt2,key];simp only [bS]
 | false =>
  rw [ht] at hs;rw [hs,if_neg (by simp),Nat.pow_zero,Nat.mul_one,Nat.mod_mod] at key;rw [if_neg (by rw [Int.toNat_natCast,hb,ht]; simp),key]
theorem zzu (a:UInt32) (n:UInt64):zex a n=some (u32 (a.toNat ^ n.toNat % gp)):=by
 have h0:n.toNat >>> 64=0:=by
  rw [Nat.shiftRight_eq_div_pow]; exact Nat.div_eq_of_lt (UInt64.toNat_lt n)
 have:=z3d (F:=zce a n) (b:=u32 (a.toNat ^ n.toNat % gp)) 64 (fun i=>(u32 (a.toNat ^ (n.toNat >>> (64 - i)) % gp),(i:Int))) (fun i hi=>z150 a n i hi) (by
  unfold zce;rw [if_neg (by simp)]
  simp)
 simp only [Nat.sub_zero,h0,Nat.pow_zero] at this;unfold zex;rw [show ((1:UInt32),(0:Int))=(u32 (1 % gp),((0:Nat):Int)) from rfl,this];simp only [bS]
theorem zxu:∀ (k:Nat) (a n o:UInt64),n.toNat=k→a.toNat<4294967296→o.toNat<gp→∃ r:UInt64,iter (z64 1000000007) (a,n,o)=some r∧r.toNat=o.toNat * a.toNat ^ n.toNat % gp:=by
 intro k
 induction k using Nat.strongRecOn with
 | _ k ih =>
  intro a n o hk ha ho;have ho':o.toNat<1000000007:=ho;by_cases hn:n.toNat=0
  ·refine ⟨o,z1r ?_,?_⟩
   ·unfold z64;rw [if_neg];simp only [decide_eq_true_eq,UInt64.lt_iff_toNat_lt]
    simp; omega
   ·rw [hn,Nat.pow_zero,Nat.mul_one,Nat.mod_eq_of_lt ho]
  ·have haa:(a * a % 1000000007).toNat=a.toNat * a.toNat % gp:=m64 a a (by
    have:a.toNat * a.toNat≤4294967295 * 4294967295:=Nat.mul_le_mul (by omega) (by omega)
    omega)
   have hoa:(o * a % 1000000007).toNat=o.toNat * a.toNat % gp:=m64 o a (by
    have:o.toNat * a.toNat≤1000000007 * 4294967295:=Nat.mul_le_mul (by omega) (by omega)
    omega)
   have hn2:(n / 2).toNat=n.toNat / 2:=by simp
   have hm2:((n % 2)==1)=decide (n.toNat % 2=1):=by
    rw [Bool.eq_iff_iff,beq_iff_eq,← UInt64.toNat_inj]
    simp
   have hlt:a.toNat * a.toNat % gp<1000000007:=Nat.mod_lt _ (by decide);have hol:o.toNat * a.toNat % gp<gp:=Nat.mod_lt _ (by decide);have hpow:∀ m:Nat,(a.toNat * a.toNat % gp) ^ m % gp=a.toNat ^ (2 * m) % gp:=fun m=>by
    rw [← Nat.pow_mod,← Nat.pow_two,← Nat.pow_mul]
   have hstep:z64 1000000007 (a,n,o)=some (.inr (a * a % 1000000007,n / 2, if n.toNat % 2=1 then o * a % 1000000007 else o)):=by
    unfold z64;rw [if_pos (by simp only [decide_eq_true_eq,UInt64.lt_iff_toNat_lt]; simp; omega)];simp only [];rw [hm2,z2z (by decide)];by_cases h:n.toNat % 2=1
    ·rw [if_pos (by simpa using h),if_pos h];simp only [bS]
    ·rw [if_neg (by simpa using h),if_neg h];simp only [bS]
   rw [z2c hstep];by_cases h:n.toNat % 2=1
   ·rw [if_pos h];obtain ⟨r,h1,h2⟩:=ih (n / 2).toNat (by rw [hn2]; omega) (a * a % 1000000007) (n / 2) (o * a % 1000000007) rfl (by rw [haa]; omega) (by rw [hoa]; exact hol);refine ⟨r,h1,?_⟩;rw [h2,haa,hoa,hn2,Nat.mul_mod,hpow,Nat.mod_mod,← Nat.mul_mod,Nat.mul_assoc, show a.toNat * a.toNat ^ (2 * (n.toNat / 2))=a.toNat ^ (2 * (n.toNat / 2)+1) by rw [Nat.pow_succ,Nat.mul_comm], show 2 * (n.toNat / 2)+1=n.toNat by omega]
   ·rw [if_neg h];obtain ⟨r,h1,h2⟩:=ih (n / 2).toNat (by rw [hn2]; omega) (a * a % 1000000007) (n / 2) o rfl (by rw [haa]; omega) ho;refine ⟨r,h1,?_⟩;rw [h2,haa,hn2,Nat.mul_mod,hpow,← Nat.mul_mod, show 2 * (n.toNat / 2)=n.toNat by omega]
theorem zxe (a n:UInt64) (ha:a.toNat<4294967296):∃ r:UInt64,z8r a n 1000000007=some r∧r.toNat=a.toNat ^ n.toNat % gp:=by
 obtain ⟨r,h1,h2⟩:=zxu _ a n 1 rfl ha (by decide);refine ⟨r,?_, by rw [h2]; simp⟩
 unfold z8r;rw [h1];simp only [bS]
theorem zns (a:UInt32) (n:UInt64):z5v a n=some (u32 (a.toNat ^ n.toNat % gp)):=by
 obtain ⟨r,h1,h2⟩:=zxe a.toUInt64 n (by simp; exact UInt32.toNat_lt a);unfold z5v;rw [h1];simp only [bS];simp only [UInt32.toNat_toUInt64] at h2;rw [to32 _ (by rw [h2]; exact Nat.mod_lt _ (by decide)),h2]
theorem z1aw (a:UInt32):(u32 (a.toNat ^ (500000003:UInt64).toNat % gp)==1)=decide (a.toNat ^ gq % gp=1):=by
 have hlt:a.toNat ^ gq % gp<gp:=Nat.mod_lt _ (by decide);rw [show (500000003:UInt64).toNat=gq from rfl,Bool.eq_iff_iff,beq_iff_eq,decide_eq_true_iff,← UInt32.toNat_inj,z8l hlt];rfl
theorem z120 (a:UInt32):zhe a=some (decide (inG a.toNat)):=by
 unfold zhe;have h1:decide (0<a)=decide (0<a.toNat):=by simp [UInt32.lt_iff_toNat_lt]
 have h2:decide (a<1000000007)=decide (a.toNat<gp):=by simp [UInt32.lt_iff_toNat_lt]
 rw [h1,h2,zzu];simp only [bS];rw [z1aw];unfold inG;by_cases c1:0<a.toNat
 ·by_cases c2:a.toNat<gp
  ·simp [c1,c2]
  ·simp [c1,c2]
 ·simp [c1]
theorem zx1 (a:UInt32):zb1 a=some (decide (inG a.toNat)):=by
 obtain ⟨r,hr1,hr2⟩:=zxe a.toUInt64 500000003 (by simp; exact UInt32.toNat_lt a);unfold zb1;have h1:decide (1≤a)=decide (0<a.toNat):=by
  rw [decide_eq_decide,UInt32.le_iff_toNat_le]; simp; omega
 have h2:decide (a<1000000007)=decide (a.toNat<gp):=by simp [UInt32.lt_iff_toNat_lt]
 rw [h1,h2,hr1];simp only [bS];have h3:(r==1)=decide (a.toNat ^ gq % gp=1):=by
  simp only [UInt32.toNat_toUInt64] at hr2;rw [Bool.eq_iff_iff,beq_iff_eq,decide_eq_true_iff,← UInt64.toNat_inj,hr2];rfl
 rw [h3];unfold inG;by_cases c1:0<a.toNat
 ·by_cases c2:a.toNat<gp
  ·simp [c1,c2]
  ·simp [c1,c2]
 ·simp [c1]
end
section
open Go
theorem z12v (l:List (List UInt8)) (h0:l.length≤20) (h:∀ b∈l,b.length≤10000):z1w l=some false:=by
 have:iter (z1f l) 0=some (.inr ()):=by
  refine z3d (F:=z1f l) (b:=.inr ()) l.length (fun i=>(i:Int)) (fun i hi=>?_) ?_
  ·have hb:=h l[i] (List.getElem_mem _);unfold z1f zdl;rw [if_pos (by simp; omega),z0k hi];simp only [bS];rw [if_neg (by simp; omega),z0l (show i<9223372036854775807 by omega)]
  ·unfold z1f;rw [if_neg (by simp)]
 unfold z1w z36;rw [this];simp only [zq5,bS];rfl
theorem zn0:∀ (l:List (List UInt8)),(∀ b∈l,b.length≤10000)→l.flatten.length≤l.length * 10000
 | [],_=>by simp
 | b::l,h=>by
  have h1:=h b (by simp);have h2:=zn0 l (fun c hc=>h c (by simp [hc]));simp only [List.flatten_cons,List.length_append,List.length_cons]; omega
theorem zte (l:List (List UInt8)) (h0:l.length≤20) (h:∀ b∈l,b.length≤10000):zb8 l=some (sha l.flatten,0):=by
 have hl:iter (z8q l) (zyy [],0)=some (zyy l.flatten):=by
  have:=z3d (F:=z8q l) (b:=zyy l.flatten) l.length (fun i=>(zyy (l.take i).flatten,(i:Int))) (fun i hi=>?_) ?_
  ·simpa using this
  ·have hb:=h l[i] (List.getElem_mem _);have hf:=zn0 (l.take i) (fun b hb'=>h b (List.mem_of_mem_take hb'));simp only [List.length_take] at hf;unfold z8q;rw [if_pos (by simp; omega)];simp only [];rw [z0k hi];simp only [bS];rw [zsd _ _ (by omega),z0l (show i<9223372036854775807 by omega)];simp only [bS];rw [List.take_add_one,List.getElem?_eq_getElem hi,List.flatten_append];rw [show ((some l[i]:Option (List UInt8)).toList).flatten=l[i] by simp]
  ·unfold z8q;rw [if_neg (by simp)]
   simp
 have hf:=zn0 l h;unfold zb8;rw [if_neg (by simp; omega),z12v l h0 h];simp only [bS];rw [if_neg (by simp),z13b];simp only [bS];rw [hl];simp only [bS];rw [z1a4 _ (by omega)];simp only [bS]
theorem z1a6 (b:List UInt8) (h:b.length≤10000):zhc b=some (sha b,0):=by
 unfold zhc;rw [zte [b] (by simp) (by simpa using h)]
 simp
def four (x:UInt32):List UInt8:=[(z4i x 24).toUInt8,(z4i x 16).toUInt8,(z4i x 8).toUInt8,x.toUInt8]
theorem zzk (x:UInt32):z96 x=some (four x):=by
 unfold z96 four;have hx:=UInt32.toNat_lt x;have e1:(x / 16777216).toUInt8=(z4i x 24).toUInt8:=by
  apply UInt8.toNat_inj.1
  simp only [UInt32.toNat_toUInt8,zfl,UInt32.toNat_div]; rfl
 have e2:((x / 65536) % 256).toUInt8=(z4i x 16).toUInt8:=by
  apply UInt8.toNat_inj.1
  simp only [UInt32.toNat_toUInt8,zfl,UInt32.toNat_div,UInt32.toNat_mod];exact Nat.mod_mod _ _
 have e3:((x / 256) % 256).toUInt8=(z4i x 8).toUInt8:=by
  apply UInt8.toNat_inj.1
  simp only [UInt32.toNat_toUInt8,zfl,UInt32.toNat_div,UInt32.toNat_mod];exact Nat.mod_mod _ _
 have e4:(x % 256).toUInt8=x.toUInt8:=by
  apply UInt8.toNat_inj.1
  simp only [UInt32.toNat_toUInt8,UInt32.toNat_mod];exact Nat.mod_mod _ _
 rw [e1,e2,e3,e4]
def zwb (d:V3):Nat→UInt64
 | 0=>0
 | i+1=>256 * zwb d i+(d.toList.getD i 0).toUInt64
theorem z11k (d:V3):∀ i,i≤8→(zwb d i).toNat<256 ^ i
 | 0,_=>by simp [zwb]
 | i+1,h=>by
  have ih:=z11k d i (by omega);have hy:=UInt8.toNat_lt (d.toList.getD i 0);have ep:256 ^ (i+1)=256 ^ i * 256:=Nat.pow_succ ..;have hp:256 ^ i≤256 ^ 7:=Nat.pow_le_pow_right (by omega) (by omega);have e7:(256:Nat) ^ 7=72057594037927936:=rfl;rw [zwb,UInt64.toNat_add,UInt64.toNat_mul,ep];have e1:((d.toList.getD i 0).toUInt64).toNat=(d.toList.getD i 0).toNat:=by simp
  have e2:(256:UInt64).toNat=256:=rfl;rw [e1,e2,Nat.mod_eq_of_lt (a:=256 * (zwb d i).toNat) (by omega),Nat.mod_eq_of_lt (by omega)];omega
theorem z15k (x:UInt64) (y:UInt8) (h:x.toNat<72057594037927936):(zkj x 8) ||| y.toUInt64=256 * x+y.toUInt64:=by
 apply UInt64.toNat_inj.1
 have hy:=UInt8.toNat_lt y;rw [UInt64.toNat_or,zja,UInt64.toNat_add,UInt64.toNat_mul];have e1:(y.toUInt64).toNat=y.toNat:=by simp
 have e2:(256:UInt64).toNat=256:=rfl;rw [e1,e2, show (2:Nat) ^ (min 8 64)=256 from rfl,Nat.mod_eq_of_lt (a:=x.toNat * 256) (by omega),Nat.mod_eq_of_lt (a:=256 * x.toNat) (by omega),Nat.mod_eq_of_lt (by omega)]
 have:=Nat.shiftLeft_add_eq_or_of_lt (i:=8) (b:=y.toNat) (by simpa using hy) x.toNat
 rw [Nat.shiftLeft_eq, show (2:Nat) ^ 8=256 from rfl] at this;rw [← this]; omega
theorem z13y (d:V3) (e:Int):iter (zcb (d,e)) (0,0)=some (zwb d 8):=by
 refine z3d (F:=zcb (d,e)) (b:=zwb d 8) 8 (fun i=>(zwb d i,(i:Int))) (fun i hi=>?_) ?_
 ·have hl:((d.toList.drop 0).take 8).length=8:=by simp
  have hlt:=z11k d i (by omega);have hp:256 ^ i≤256 ^ 7:=Nat.pow_le_pow_right (by omega) (by omega);have e7:(256:Nat) ^ 7=72057594037927936:=rfl;unfold zcb;simp only [hl];rw [if_pos (by simp; omega),zh0 0 (by rw [hl]; exact hi)];simp only [bS];rw [List.drop_zero,zt0 hi,z15k _ _ (by omega),z0l (show i<9223372036854775807 by omega)];rfl
 ·have hl:((d.toList.drop 0).take 8).length=8:=by simp
  unfold zcb;simp only [hl];rw [if_neg (by simp)]
theorem z18l (b:List UInt8) (h:b.length≤300000):z9v b=some (zwb (sha b) 8):=by
 have:iter (z5f (sha b)) (0,0)=some (zwb (sha b) 8):=by
  refine z3d (F:=z5f (sha b)) (b:=zwb (sha b) 8) 8 (fun i=>(zwb (sha b) i,(i:Int))) (fun i hi=>?_) ?_
  ·unfold z5f;rw [if_pos (by simp; omega)];simp only [z12d];rw [zh0 0 (by simp; omega),z0l (show i<9223372036854775807 by omega)];simp only [bS];rfl
  ·unfold z5f;rw [if_neg (by simp)]
 unfold z9v;rw [z1ag b h];simp only [bS];rw [this];simp only [bS]
def chal (r y:UInt32) (m:List UInt8):UInt32:=(zwb (sha ((([99]++four r)++four y)++m)) 8 % 500000003).toUInt32
theorem z16r (m:List UInt8) (r y:UInt32) (h:m.length≤9991):zkn 99 m [r,y]=some (zwb (sha ((([99]++four r)++four y)++m)) 8,0):=by
 have l1:iter (z88 [r,y]) ([99],0)=some (([99]++four r)++four y):=by
  have s1:z88 [r,y] ([99],0)=some (.inr ([99]++four r,1)):=by
   unfold z88;rw [if_pos (by simp)];simp only [];rw [show idx [r,y] 0=some r from rfl,z17 (x:=(0:Int)+1) (by omega) (by omega)];simp only [bS];rw [z1l (by simp)];rfl
  have s2:z88 [r,y] ([99]++four r,1)=some (.inr (([99]++four r)++four y,2)):=by
   unfold z88;rw [if_pos (by simp)];simp only [];rw [show idx [r,y] 1=some y from rfl,z17 (x:=(1:Int)+1) (by omega) (by omega)];simp only [bS];rw [z1l (by simp [four])];rfl
  have s3:z88 [r,y] (([99]++four r)++four y,2)=some (.inl (([99]++four r)++four y)):=by
   unfold z88;rw [if_neg (by simp)]
  rw [z2c s1,z2c s2,z1r s3]
 unfold zkn;rw [if_neg (by simp; omega),l1];simp only [bS]
 rw [zte _ (by simp) (by
  intro b hb;simp only [List.mem_cons,List.not_mem_nil,or_false] at hb;rcases hb with rfl | rfl
  ·simp [four]
  ·omega)]
 simp only [bS];rw [z13y, show [([99]++four r)++four y,m].flatten=(([99]++four r)++four y)++m by simp only [List.flatten_cons,List.flatten_nil,List.append_nil]];rfl
theorem zrw (r y:UInt32) (m:List UInt8) (h:m.length≤9991):zc5 r y m=some (chal r y m,0):=by
 unfold zc5;rw [z16r m r y h];simp only [bS];rw [if_neg (by simp)];rfl
theorem zne (r y:UInt32) (m:List UInt8) (h:m.length≤9991):z7j r y m=some (chal r y m):=by
 unfold z7j;rw [zzk];simp only [bS];rw [z1l (by simp [four]),zzk];simp only [bS];rw [z1l (by simp [four])];simp only [bS];rw [z1l (by simp [four]; omega)];simp only [bS];rw [z18l _ (by simp [four]; omega)];simp only [bS];rfl
def zd1 (x:UInt32):Bool:=decide (x.toNat<gq)
theorem zfe (x:UInt32):z3v x=some (zd1 x):=by
 have e:decide (x.toUInt64<500000003)=zd1 x:=by unfold zd1; simp [UInt64.lt_iff_toNat_lt]
 unfold z3v;rw [e];rfl
def sigR (y:UInt32) (s:z0a):UInt32:=u32 ((4 ^ s.S.toNat % gp) * (y.toNat ^ (gq - s.E.toNat) % gp) % gp)
def zrq (y:UInt32) (m:List UInt8) (s:z0a):Bool:=zd1 s.E&&(zd1 s.S&&(chal (sigR y s) y m==s.E))
theorem z14y (y:UInt32) (m:List UInt8) (s:z0a) (hy:inG y.toNat) (h:m.length≤9991):zao y m s=some (zrq y m s):=by
 unfold zao zrq;rw [zfe];simp only [bS]
 cases hE:zd1 s.E with
 | false=>rw [if_pos (by simp)]; rfl
 | true =>
  rw [if_neg (by simp),zfe];simp only [bS]
  cases hS:zd1 s.S with
  | false=>rw [if_pos (by simp)]; rfl
  | true =>
   have hE':s.E.toNat<gq:=by simpa [zd1] using hE
   have hin:=zqh hy.2.2 s.E.toNat;have hlt:y.toNat ^ s.E.toNat % gp<gp:=Nat.mod_lt _ (by decide);rw [if_neg (by simp),zns];simp only [bS];unfold zeg zej zdm;rw [zx1,z8l (by simpa using hlt)];simp only [bS];have hE64:s.E.toUInt64.toNat=s.E.toNat:=by simp
   rw [hE64,decide_eq_true hin,if_neg (by simp),zns,z8l hlt,zns];simp only [bS];rw [show (500000002:UInt64).toNat=gq - 1 from rfl,z182 hy.2.2 hE'];unfold zaz;simp only [bS];have hS64:s.S.toUInt64.toNat=s.S.toNat:=by simp
   have hl1:4 ^ s.S.toNat % gp<gp:=Nat.mod_lt _ (by decide);have hl2:y.toNat ^ (gq - s.E.toNat) % gp<gp:=Nat.mod_lt _ (by decide);have hprod:((u32 ((4:UInt32).toNat ^ s.S.toUInt64.toNat % gp)).toUInt64 * (u32 (y.toNat ^ (gq - s.E.toNat) % gp)).toUInt64 % 1000000007).toUInt32=sigR y s:=by
    have hb:(4 ^ s.S.toNat % gp) * (y.toNat ^ (gq - s.E.toNat) % gp)≤1000000007 * 1000000007:=Nat.mul_le_mul (Nat.le_of_lt hl1) (Nat.le_of_lt hl2);have e1:=m64 (u32 ((4:UInt32).toNat ^ s.S.toUInt64.toNat % gp)).toUInt64 (u32 (y.toNat ^ (gq - s.E.toNat) % gp)).toUInt64;simp only [UInt32.toNat_toUInt64] at e1;rw [show (4:UInt32).toNat=4 from rfl,z8l hl1,z8l hl2] at e1;have e1:=e1 (by omega);rw [show (4:UInt32).toNat=4 from rfl,hS64,to32 _ (by rw [e1]; exact Nat.mod_lt _ (by decide)),e1]
    rfl
   rw [hprod,zne _ _ _ h];simp only [bS];rfl
theorem all1 (a:UInt32) (h:inG a.toNat):zdk [a]=some true:=by
 unfold zdk;have s1:z4x [a] 0=some (.inr 1):=by
  unfold z4x;rw [if_pos (by simp), show idx [a] 0=some a from rfl];simp only [bS];rw [z120,decide_eq_true h,z17 (x:=(0:Int)+1) (by omega) (by omega)];rfl
 have s2:z4x [a] 1=some (.inl (.inr ())):=by
  unfold z4x;rw [if_neg (by simp)]
 rw [z2c s1,z1r s2];rfl
theorem all2 (a b:UInt32) (h:inG a.toNat) (h2:inG b.toNat):zdk [a,b]=some true:=by
 unfold zdk;have s1:z4x [a,b] 0=some (.inr 1):=by
  unfold z4x;rw [if_pos (by simp), show idx [a,b] 0=some a from rfl];simp only [bS];rw [z120,decide_eq_true h,z17 (x:=(0:Int)+1) (by omega) (by omega)];rfl
 have s2:z4x [a,b] 1=some (.inr 2):=by
  unfold z4x;rw [if_pos (by simp), show idx [a,b] 1=some b from rfl];simp only [bS];rw [z120,decide_eq_true h2,z17 (x:=(1:Int)+1) (by omega) (by omega)];rfl
 have s3:z4x [a,b] 2=some (.inl (.inr ())):=by
  unfold z4x;rw [if_neg (by simp)]
 rw [z2c s1,z2c s2,z1r s3];rfl
theorem z11m (y:UInt32) (m:List UInt8) (s:z0a) (hy:inG y.toNat) (h:m.length≤9991):zfz y m s=some (if zrq y m s then 0 else 22):=by
 have hmax:decide (500000003≤max s.E s.S)=!(zd1 s.E&&zd1 s.S):=by
  have e1:(500000003≤max s.E s.S)↔(500000003≤s.E∨500000003≤s.S):=by
   rw [show max s.E s.S=if s.E≤s.S then s.S else s.E from rfl]
   split
   ·rename_i hh
    constructor
    ·exact fun h=>.inr h
    ·rintro (h | h)
     ·exact UInt32.le_trans h hh
     ·exact h
   ·rename_i hh
    constructor
    ·exact fun h=>.inl h
    ·rintro (h | h)
     ·exact h
     ·rw [UInt32.le_iff_toNat_le] at *; omega
  rw [Bool.eq_iff_iff,decide_eq_true_iff,e1];unfold zd1;simp only [UInt32.le_iff_toNat_le,Bool.not_eq_true',Bool.and_eq_false_iff,decide_eq_false_iff_not,Nat.not_lt];rfl
 unfold zfz;rw [z120,decide_eq_true hy];simp only [bS];rw [if_neg (by simp),if_neg (by simp; omega),hmax]
 cases hE:zd1 s.E with
 | false=>unfold zrq; rw [hE]; rfl
 | true =>
  cases hS:zd1 s.S with
  | false=>unfold zrq; rw [hE,hS]; rfl
  | true =>
   have hE':s.E.toNat<gq:=by simpa [zd1] using hE
   have hE':s.E.toNat<500000003:=hE';rw [if_neg (by simp)];unfold znr zkw znk;rw [all1 y hy];simp only [bS];rw [if_neg (by simp),zzu];simp only [bS];rw [zzu];simp only [bS];have hS64:s.S.toUInt64.toNat=s.S.toNat:=by simp
   have hq:(500000003 - s.E.toUInt64).toNat=gq - s.E.toNat:=by
    rw [UInt64.toNat_sub_of_le _ _ (by rw [UInt64.le_iff_toNat_le]; simp; omega)]
    simp
   have hl1:4 ^ s.S.toNat % gp<gp:=Nat.mod_lt _ (by decide);have hl2:y.toNat ^ (gq - s.E.toNat) % gp<gp:=Nat.mod_lt _ (by decide);rw [hq,hS64, show (4:UInt32).toNat=4 from rfl];rw [all2 _ _ (by rw [z8l hl1]; exact zqh z16i _) (by rw [z8l hl2]; exact zqh hy.2.2 _)];simp only [bS];rw [if_neg (by simp),mul2,z8l hl1,z8l hl2];simp only [bS];rw [zrw _ _ _ h];simp only [bS];rw [if_neg (by simp)];unfold zrq
   rw [hE,hS];show (if (chal (sigR y s) y m != s.E)=true then some 22 else some 0)=_;by_cases hc:chal (sigR y s) y m=s.E
   ·simp [hc]
   ·simp [hc]
end
section
open Go
def okc (c:UInt8):Bool:=decide (33≤c.toNat)&&decide (c.toNat≤126)
theorem z18h (x:Int):zn2 x=some (decide (x<33) || decide (126<x)):=by
 unfold zn2
 cases decide (x<33) <;> rfl
theorem zw6 (b:List UInt8):∀ (rest pre:List UInt8),b=pre++rest →
  (rest.all okc=true→iter (z2e b true) pre.length=some (.inr ()))∧(rest.all okc=false→∃ i:Nat,iter (z2e b true) pre.length=some (.inl (i:Int)))
 | [],pre,e=>by
  refine ⟨fun _=>z1r ?_, fun h=>by simp at h⟩;subst e;unfold z2e
  simp
 | c::rest,pre,e=>by
  have hlen:pre.length<b.length:=by rw [e]; simp
  have hget:b[pre.length]'hlen=c:=by subst e; simp
  have hF:z2e b true pre.length=if ((decide (((z9z b pre.length).1:Int)<33) || decide (126<((z9z b pre.length).1:Int)))==true) then some (.inl (.inl (pre.length:Int))) else some (.inr (pre.length+(z9z b pre.length).2)):=by
   unfold z2e;rw [if_pos hlen];simp only [bs,z18h]
  cases hc:okc c with
  | false =>
   refine ⟨fun h=>by simp [hc] at h, fun _=>⟨pre.length,z1r ?_⟩⟩;rw [hF,if_pos];by_cases h8:c.toNat<128
   ·rw [zqt hlen (by rw [hget]; exact h8),hget];simp only [okc,Bool.and_eq_false_iff,decide_eq_false_iff_not] at hc
    simp; omega
   ·have:=z10d hlen (by rw [hget]; omega)
    simp; omega
  | true =>
   simp only [okc,Bool.and_eq_true,decide_eq_true_eq] at hc;rw [zqt hlen (by rw [hget]; omega),hget,if_neg (by simp; omega)] at hF;have ih:=zw6 b rest (pre++[c]) (by simp [e]);simp only [List.length_append,List.length_cons,List.length_nil,Nat.zero_add] at ih;rw [z2c hF];have hc':okc c=true:=by simp [okc,hc]
   simpa [hc'] using ih
theorem z10l (b:List UInt8) (hb:b.length≤9223372036854775807):∀ (rest pre:List UInt8),b=pre++rest→iter (z71 b) (pre.length:Int)=some (if rest.all okc then .inr () else .inl false)
 | [],pre,e=>by
  refine z1r ?_;subst e;unfold z71
  simp
 | c::rest,pre,e=>by
  have hlen:pre.length<b.length:=by rw [e]; simp
  have hget:b[pre.length]'hlen=c:=by subst e; simp
  have hF:z71 b (pre.length:Int)=if okc c then some (.inr ((pre.length+1:Nat):Int)) else some (.inl (.inl false)):=by
   unfold z71;rw [if_pos (by simp <;> omega)]
   simp only [z0k hlen,hget,bs,z0l (show pre.length<9223372036854775807 by omega)];simp only [okc,UInt8.lt_iff_toNat_lt,UInt8.reduceToNat];by_cases h1:c.toNat<33
   ·have:¬ 33≤c.toNat:=by omega
    simp [h1,this]
   ·by_cases h2:126<c.toNat
    ·have:¬ c.toNat≤126:=by omega
     simp [h1,h2,this]
    ·have h3:33≤c.toNat:=by omega
     have h4:c.toNat≤126:=by omega
     simp [h1,h2,h3,h4]
  cases hc:okc c with
  | false=>rw [hc] at hF; rw [z1r hF]; simp [hc]
  | true =>
   rw [hc] at hF;rw [z2c hF];have ih:=z10l b hb rest (pre++[c]) (by simp [e]);simp only [List.length_append,List.length_cons,List.length_nil,Nat.zero_add] at ih;rw [ih]; simp [hc]
def zga (k:List UInt8):Bool:=decide (1≤k.length)&&(decide (k.length≤20)&&k.all okc)
theorem z191 (k:List UInt8):z97 k=some (zga k):=by
 unfold z97 zga;by_cases h1:1≤k.length
 ·by_cases h2:k.length≤20
  ·have h:=z10l k (by omega) k [] rfl;rw [if_neg (by simp; omega),if_neg (by simp; omega), show (0:Int)=(([]:List UInt8).length:Int) from rfl,h,decide_eq_true h1,decide_eq_true h2]
   cases k.all okc <;> rfl
  ·rw [if_neg (by simp; omega),if_pos (by simp; omega),decide_eq_false h2]; simp
 ·rw [if_pos (by simp; omega),decide_eq_false h1]; rfl
theorem z1ao (k:List UInt8):zrz k=some (zga k):=by
 unfold zrz zga z6m z6p;by_cases h1:1≤k.length
 ·by_cases h2:k.length≤20
  ·obtain ⟨e1,e2⟩:=zw6 k k [] rfl;simp only [List.length_nil] at e1 e2;rw [if_pos (by simp; omega),if_pos (by simp; omega),decide_eq_true h1,decide_eq_true h2]
   cases h:k.all okc
   ·obtain ⟨i,hi⟩:=e2 h;rw [hi];simp only [zz3,bS];rw [decide_eq_false (by omega)]; rfl
   ·rw [e1 h]; rfl
  ·rw [if_pos (by simp; omega),if_neg (by simp; omega),decide_eq_false h2]; simp
 ·rw [if_neg (by simp; omega),decide_eq_false h1]; rfl
def v0:z00:=⟨0,0,0,[]⟩
def zl7 (a:z0b):Bool :=
 if a.Kind=1 then decide (a.Key=[])&&decide (a.Value=v0)
 else if a.Kind=2∨a.Kind=3 then zga a.Key&&decide (a.Value=v0)
 else if a.Kind=4 then zga a.Key&&okV a.Value
 else false
theorem z19v (a:z0b) (h:a.Value.Text.length≤9223372036854775807):zfk a=some (if zl7 a then 0 else 8):=by
 obtain ⟨K,key,v⟩:=a;unfold zfk zl7;simp only at h ⊢;rw [z1ao,zon v h];by_cases h1:K=1
 ·subst h1;by_cases hk:key=[] <;> by_cases hv:v=⟨0,0,0,[]⟩ <;> simp [hk,hv,v0]
 by_cases h2:K=2∨K=3
 ·have e:(if K==2 then some true else some (K==3))=some true:=by
   rcases h2 with rfl | rfl <;> rfl
  rw [if_neg (by simpa using h1),e,if_neg h1,if_pos h2];simp only [bS];rw [if_pos trivial]
  cases zga key with
  | false=>rfl
  | true =>
   by_cases hv:v=⟨0,0,0,[]⟩
   ·subst hv; rfl
   ·have hv':¬ v=v0:=hv;simp only [bS,if_true,decide_eq_false hv,decide_eq_false hv']; rfl
 ·have e:(if K==2 then some true else some (K==3))=some false:=by
   have e2:(K==2)=false:=by simp; exact fun h=>h2 (.inl h)
   have e3:(K==3)=false:=by simp; exact fun h=>h2 (.inr h)
   rw [e2,e3]; rfl
  rw [if_neg (by simpa using h1),e,if_neg h1,if_neg h2];simp only [bS];rw [if_neg (by simp)];by_cases h4:K=4
  ·subst h4;rw [if_pos (by decide),if_pos rfl]
   cases zga key with
   | false=>rfl
   | true=>cases okV v <;> rfl
  ·rw [if_neg (by simpa using h4),if_neg h4]; rfl
theorem z11g (a:z0b) (h:a.Value.Text.length≤9223372036854775807):z8h a=some (if zl7 a then 0 else 8):=by
 obtain ⟨K,key,v⟩:=a;unfold z8h zl7;simp only at h ⊢;rw [z191,zzv v h];simp only [bS];by_cases h1:K=1
 ·subst h1;by_cases hk:key=[] <;> by_cases hv:v=⟨0,0,0,[]⟩ <;> simp [hk,hv,v0]
 by_cases h2:K=2∨K=3
 ·have e:(if K==2 then some true else some (K==3))=some true:=by
   rcases h2 with rfl | rfl <;> rfl
  rw [if_neg (by simpa using h1),e,if_neg h1,if_pos h2];simp only [bS];rw [if_pos trivial]
  cases zga key with
  | false=>rfl
  | true =>
   by_cases hv:v=⟨0,0,0,[]⟩
   ·subst hv; rfl
   ·have hv':¬ v=v0:=hv;simp only [bS,if_true,decide_eq_false hv,decide_eq_false hv']; rfl
 ·have e:(if K==2 then some true else some (K==3))=some false:=by
   have e2:(K==2)=false:=by simp; exact fun h=>h2 (.inl h)
   have e3:(K==3)=false:=by simp; exact fun h=>h2 (.inr h)
   rw [e2,e3]; rfl
  rw [if_neg (by simpa using h1),e,if_neg h1,if_neg h2];simp only [bS];rw [if_neg (by simp)];by_cases h4:K=4
  ·subst h4;rw [if_pos (by decide),if_pos rfl]
   cases zga key with
   | false=>rfl
   | true=>cases okV v <;> rfl
  ·rw [if_neg (by simpa using h4),if_neg h4]; rfl
theorem zjo (l:List V3) (h:l.length≤100):z15 l=some l:=by
 unfold z15;rw [z1l (by simp; omega)]; rfl
def zcd (a:z05):Bool:=decide (inG a.Author.toNat)&&(!decide (1000000000000<a.Stamp)&&(zl7 a.Act&&(zd1 a.Sig.E&&zd1 a.Sig.S)))
def z1v (a:z05):Int:=if 4<a.Preds.length then 4 else if z8a a.Preds=false then 32 else if zcd a then 0 else 8
theorem z141 (x y:UInt32):decide (500000003≤max x y)=!(zd1 x&&zd1 y):=by
 have e1:(500000003≤max x y)↔(500000003≤x∨500000003≤y):=by
  rw [show max x y=if x≤y then y else x from rfl]
  split
  ·rename_i hh
   constructor
   ·exact fun h=>.inr h
   ·rintro (h | h)
    ·exact UInt32.le_trans h hh
    ·exact h
  ·rename_i hh
   constructor
   ·exact fun h=>.inl h
   ·rintro (h | h)
    ·exact h
    ·rw [UInt32.le_iff_toNat_le] at *; omega
 rw [Bool.eq_iff_iff,decide_eq_true_iff,e1];unfold zd1;simp only [UInt32.le_iff_toNat_le,Bool.not_eq_true',Bool.and_eq_false_iff,decide_eq_false_iff_not,Nat.not_lt];rfl
theorem zuw (l:List V3) (h:l.length≤4):(z1i l >>= fun r5=>if !r5 then some true else z15 l >>= fun r8=>z1g r8 >>= fun r10=>some ((r10.length:Int) != (l.length:Int)) >>= fun y12=>some y12)=some (!z8a l):=by
 obtain ⟨b,e1,e2⟩:=z108 l (by omega);obtain ⟨c,e3,e4⟩:=zxt l (by omega);have e5:=z155 l;rw [e1];simp only [bS]
 cases b with
 | false =>
  have:z8a l=false:=by
   rw [← Bool.not_eq_true,e5]; intro h; have:=e2.2 h.1; simp at this
  rw [this]; rfl
 | true =>
  rw [if_neg (by simp),zjo l (by omega)];simp only [bS];rw [e3];simp only [bS];by_cases hc:c.length=l.length
  ·rw [e5.2 ⟨e2.1 rfl,e4.1 hc⟩,hc]; simp
  ·have:z8a l=false:=by
    rw [← Bool.not_eq_true,e5]; intro h; exact hc (e4.2 h.2)
   rw [this]; simp; omega
theorem zf0 (a:z05) (h:a.Act.Value.Text.length≤9223372036854775807):ze0 a=some (z1v a):=by
 unfold ze0 z1v;simp only [bS];by_cases h4:4<a.Preds.length
 ·rw [if_pos (by simp; omega),if_pos h4]
 ·rw [if_neg (by simp; omega),if_neg h4]
  have:=zuw a.Preds (by omega)
  simp only [bS] at this;rw [this];simp only [bS]
  cases hi:z8a a.Preds with
  | false=>rfl
  | true =>
   rw [if_neg (by simp),z120,z19v _ h,z141];simp only [bS];unfold zcd
   cases decide (inG a.Author.toNat) with
   | false=>rfl
   | true =>
    cases decide (1000000000000<a.Stamp) with
    | true=>rfl
    | false=>cases zl7 a.Act <;> cases zd1 a.Sig.E <;> cases zd1 a.Sig.S <;> rfl
theorem zvc (a:z05) (h:a.Act.Value.Text.length≤9223372036854775807):z8s a=some (z1v a):=by
 unfold z8s z1v;by_cases h4:4<a.Preds.length
 ·rw [if_pos (by simp; omega),if_pos h4]
 ·rw [if_neg (by simp; omega),if_neg h4,ztt _ (by omega)];simp only [bS]
  cases hi:z8a a.Preds with
  | false=>rfl
  | true =>
   rw [if_neg (by simp),zx1,z11g _ h,zfe,zfe];simp only [bS];unfold zcd
   cases decide (inG a.Author.toNat) with
   | false=>rfl
   | true =>
    cases decide (1000000000000<a.Stamp) with
    | true=>rfl
    | false=>cases zl7 a.Act <;> cases zd1 a.Sig.E <;> cases zd1 a.Sig.S <;> rfl
theorem z40 {a:z05} (h:z1v a=0):a.Preds.length≤4∧z8a a.Preds=true∧zcd a=true:=by
 unfold z1v at h;by_cases h4:4<a.Preds.length
 ·rw [if_pos h4] at h; omega
 ·rw [if_neg h4] at h
  cases hi:z8a a.Preds with
  | false=>rw [hi] at h; simp at h
  | true =>
   rw [hi] at h
   cases hr:zcd a with
   | false=>rw [hr] at h; simp at h
   | true=>exact ⟨by omega,rfl,rfl⟩
theorem zqa {k:List UInt8} (h:zga k=true):k.length≤20:=by
 unfold zga at h;simp only [Bool.and_eq_true,decide_eq_true_eq] at h;exact h.2.1
theorem zbz {a:z0b} (h:zl7 a=true):(a.Kind=1∧a.Key=[])∨((a.Kind=2∨a.Kind=3)∧a.Key.length≤20)∨(a.Kind=4∧a.Key.length≤20∧okV a.Value=true):=by
 unfold zl7 at h;by_cases h1:a.Kind=1
 ·rw [if_pos h1] at h; simp only [Bool.and_eq_true,decide_eq_true_eq] at h; exact .inl ⟨h1,h.1⟩
 ·rw [if_neg h1] at h;by_cases h2:a.Kind=2∨a.Kind=3
  ·rw [if_pos h2] at h; simp only [Bool.and_eq_true,decide_eq_true_eq] at h; exact .inr (.inl ⟨h2,zqa h.1⟩)
  ·rw [if_neg h2] at h;by_cases h4:a.Kind=4
   ·rw [if_pos h4] at h; simp only [Bool.and_eq_true] at h; exact .inr (.inr ⟨h4,zqa h.1,h.2⟩)
   ·rw [if_neg h4] at h; simp at h
end
section
open Go
theorem zsf {α:Type} (l:List (List α)) (i:Nat) (h:i<l.length):(l.take (i+1)).flatten=(l.take i).flatten++l[i]:=by
 rw [List.take_add_one,List.getElem?_eq_getElem h,List.flatten_append]
 simp
theorem zu4 (l:List (List UInt8)) (h0:l.length≤20) (h:∀ b∈l,b.length≤10000):z2h l=some l.flatten:=by
 have hb:∀ i,(l.take i).flatten.length≤200000:=fun i=>by
  have:=zn0 (l.take i) (fun b hb'=>h b (List.mem_of_mem_take hb'))
  simp only [List.length_take] at this; omega
 have e1:iter (z16 l) (0,0)=some (l.flatten.length:Int):=by
  have:=z3d (F:=z16 l) (b:=(l.flatten.length:Int)) l.length (fun i=>(((l.take i).flatten.length:Int),(i:Int))) (fun i hi=>?_) ?_
  ·simpa using this
  ·have h1:=hb (i+1);have e:=congrArg List.length (zsf l i hi);rw [List.length_append] at e;unfold z16;rw [if_pos (by simp; omega)];simp only [];rw [z0k hi];simp only [bS];rw [z17 (x:=((l.take i).flatten.length:Int)+(l[i].length:Int)) (by omega) (by omega),if_neg (by simp; omega),z0l (show i<9223372036854775807 by omega),e]
   simp
  ·unfold z16;rw [if_neg (by simp)]
   simp
 have e2:z3z (l.flatten.length:Int)=some []:=by
  have h1:=hb l.length;rw [List.take_length] at h1;unfold z3z;rw [if_neg (by simp)];simp only [bS];generalize l.flatten.length=n at h1 ⊢;rw [show (0:Int) - (([]:List UInt8).length:Int)=0 from rfl,z17 (x:=0) (by omega) (by omega), show (n:Int) - 0=(n:Int) by omega,z17 (by omega) (by omega)];by_cases h2:0<n
  ·rw [if_pos (by simpa using h2),zks (by omega) (by omega)];simp only [bS];rw [show (0:Int)=((0:Nat):Int) from rfl, show ((([]:List UInt8).length:Nat):Int)=((0:Nat):Int) from rfl,zav (by omega) (by simp)]
   simp
  ·rw [if_neg (by simpa using h2)]
 have e3:iter (z14 l) ([],0)=some l.flatten:=by
  have:=z3d (F:=z14 l) (b:=l.flatten) l.length (fun i=>((l.take i).flatten,(i:Int))) (fun i hi=>?_) ?_
  ·simpa using this
  ·have h1:=hb (i+1);have e:=zsf l i hi;rw [e,List.length_append] at h1;unfold z14;rw [if_pos (by simp; omega)];simp only [];rw [z0k hi];simp only [bS];rw [z1l (by omega),z0l (show i<9223372036854775807 by omega),e];simp only [bS]
  ·unfold z14;rw [if_neg (by simp)]
   simp
 unfold z2h;rw [e1];simp only [bS];rw [e2];simp only [bS];rw [e3];simp only [bS]
def head (a:z05):List UInt8:=[111]++(z0i a.Author.toNat++((z0i a.Preds.length++zg4 a.Preds)++(z0i a.Stamp.toNat++[a.Act.Kind])))
def zwx (a:z0b):List UInt8:=z0i a.Key.length++a.Key
def msg (a:z05):List UInt8 :=
 if a.Act.Kind=1 then head a else if a.Act.Kind=4 then (head a++zwx a.Act)++zue a.Act.Value else head a++zwx a.Act
def z7h (a:z05):List UInt8:=msg a++(z0i a.Sig.E.toNat++z0i a.Sig.S.toNat)
theorem zr2 {v:z00} (h:okV v=true) (hI:inI v.Num):(zue v).length≤100:=by
 unfold zue;rcases zhk h with k | k | k
 ·have:=z0o (zig v.Num) (zwc hI)
  rw [if_pos k]; simp; omega
 ·rw [k,if_neg (by decide),if_pos rfl]; simp [be8]
 ·have h3:=(okV3 h k).2.2.1
  have:=z0o v.Text.length (by omega)
  rw [k,if_neg (by decide),if_neg (by decide)]; simp; omega
theorem zrg {a:z05} (h:z1v a=0):(head a).length≤160:=by
 obtain ⟨h1,h2,h3⟩:=z40 h;have l1:=z0o a.Author.toNat (by have:=UInt32.toNat_lt a.Author; omega);have l2:=z0o a.Preds.length (by omega);have l3:=z0o a.Stamp.toNat (UInt64.toNat_lt _);have l4:=zhp a.Preds;unfold head;simp only [List.length_append,List.length_cons,List.length_nil]; omega
theorem zrb {a:z0b} (h:zl7 a=true):(zwx a).length≤30:=by
 have hk:a.Key.length≤20:=by
  rcases zbz h with ⟨_,h⟩ | ⟨_,h⟩ | ⟨_,h,_⟩
  ·simp [h]
  ·exact h
  ·exact h
 have:=z0o a.Key.length (by omega)
 unfold zwx; simp only [List.length_append]; omega
theorem zhg {a:z05} (h:zcd a=true):zl7 a.Act=true:=by
 unfold zcd at h;simp only [Bool.and_eq_true] at h;exact h.2.2.1
theorem zoj {a:z05} (h:zcd a=true):inG a.Author.toNat:=by
 unfold zcd at h;simp only [Bool.and_eq_true,decide_eq_true_eq] at h;exact h.1
theorem zlk {a:z05} (h:z1v a=0) (hI:inI a.Act.Value.Num):(msg a).length≤300:=by
 have h1:=zrg h;have ha:=zhg (z40 h).2.2;have h2:=zrb ha;unfold msg
 split
 ·omega
 ·split
  ·rename_i h4
   have:okV a.Act.Value=true:=by
    rcases zbz ha with ⟨k,_⟩ | ⟨k,_⟩ | ⟨_,_,k⟩
    ·rw [h4] at k; simp at k
    ·rw [h4] at k; simp at k
    ·exact k
   have h3:=zr2 this hI;simp only [List.length_append]; omega
  ·simp only [List.length_append]; omega
theorem zo0 {a:z05} (h:z1v a=0) (hI:inI a.Act.Value.Num):(z7h a).length≤400:=by
 have h1:=zlk h hI;have l1:=z0o a.Sig.E.toNat (by have:=UInt32.toNat_lt a.Sig.E; omega);have l2:=z0o a.Sig.S.toNat (by have:=UInt32.toNat_lt a.Sig.S; omega);unfold z7h;simp only [List.length_append]; omega
def bare (a:z05):z05:={ a with Sig:=(⟨0,0⟩:z0a) }
theorem z10s {a:z05} (h:z1v a=0):z1v (bare a)=0:=by
 obtain ⟨h1,h2,h3⟩:=z40 h;unfold zcd at h3;simp only [Bool.and_eq_true] at h3;obtain ⟨g1,g2,g3,g4,g5⟩:=h3;unfold z1v bare;rw [if_neg (by simp; omega),h2,if_neg (by simp),if_pos];unfold zcd;rw [g1,g2,g3]; rfl
theorem zpk (a:z05) (h:z1v a=0) (hI:inI a.Act.Value.Num) (ht:a.Act.Value.Text.length≤9223372036854775807):zen a=some (msg a,0):=by
 obtain ⟨h1,h2,h3⟩:=z40 h;have ha:=zhg h3;have l1:=z0o a.Author.toNat (by have:=UInt32.toNat_lt a.Author; omega);have l2:=z0o a.Preds.length (by omega);have l3:=z0o a.Stamp.toNat (UInt64.toNat_lt _);have l4:=zhp a.Preds;have hl:=zrg h;have e1:ze0 { a with Sig:=(⟨0,0⟩:z0a) }=some 0:=by
  have:=zf0 (bare a) ht
  rw [z10s h] at this;exact this
 unfold zen;rw [e1];simp only [bS];rw [if_neg (by simp),z181 _ (by omega) h2];simp only [bS];rw [z4r,z4r];simp only [bS]
 rw [zu4 _ (by simp) (by
  intro b hb;simp only [List.mem_cons,List.not_mem_nil,or_false] at hb;rcases hb with rfl | rfl | rfl | rfl | rfl
  ·simp
  ·simp; omega
  ·simp only [List.length_append]; omega
  ·omega
  ·simp)]
 simp only [bS];have e2:[[111],z0i a.Author.toUInt64.toNat,z0i a.Preds.length++zg4 a.Preds,z0i a.Stamp.toNat,[a.Act.Kind]].flatten=head a:=by
  unfold head;simp only [List.flatten_cons,List.flatten_nil,List.append_nil,UInt32.toNat_toUInt64]
 rw [e2];unfold msg;by_cases k1:a.Act.Kind=1
 ·rw [if_pos (by simpa using k1),if_pos k1]
 ·rw [if_neg (by simpa using k1),if_neg k1];have hk:a.Act.Key.length≤20:=by
   rcases zbz ha with ⟨_,h⟩ | ⟨_,h⟩ | ⟨_,h,_⟩
   ·simp [h]
   ·exact h
   ·exact h
  have l5:=zrb ha;have e3:zbx a.Act.Key=some (zwx a.Act,0):=znq _ (by omega);rw [z2z (by omega)];simp only [bS];rw [e3];simp only [bS];rw [z1l (by omega)];simp only [bS];by_cases k4:a.Act.Kind=4
  ·have hv:okV a.Act.Value=true:=by
    rcases zbz ha with ⟨k,_⟩ | ⟨k,_⟩ | ⟨_,_,k⟩
    ·rw [k4] at k; simp at k
    ·rw [k4] at k; simp at k
    ·exact k
   have l6:=zr2 hv hI;rw [if_pos (by simpa using k4),if_pos k4,z19d _ hI ht,hv];simp only [bS,if_true];rw [z1l (by simp only [List.length_append]; omega)];simp only [bS]
  ·rw [if_neg (by simpa using k4),if_neg k4]
theorem zz5 (a:z05) (h:z1v a=0) (hI:inI a.Act.Value.Num):z9e a=some (msg a):=by
 obtain ⟨h1,h2,h3⟩:=z40 h;have ha:=zhg h3;have l1:=z0o a.Author.toNat (by have:=UInt32.toNat_lt a.Author; omega);have l2:=z0o a.Preds.length (by omega);have l3:=z0o a.Stamp.toNat (UInt64.toNat_lt _);have l4:=zhp a.Preds;have hl:=zrg h;unfold z9e;rw [z87];simp only [bS];rw [z1l (by simp; omega),z142 _ (by omega)];simp only [bS];rw [z1l (by simp; omega),z87];simp only [bS];rw [z1l (by simp; omega)];simp only [bS]
 rw [z1l (by simp; omega)];simp only [bS];have e2:[111]++z0i a.Author.toUInt64.toNat++(z0i a.Preds.length++zg4 a.Preds)++z0i a.Stamp.toNat++[a.Act.Kind]=head a:=by
  unfold head;simp only [List.append_assoc,UInt32.toNat_toUInt64]
 rw [e2];unfold msg;by_cases k1:a.Act.Kind=1
 ·rw [if_neg (by simp [k1]),if_pos k1];simp only [bS];rw [k1]; rfl
 ·rw [if_pos (by simpa using k1),if_neg k1];have hk:a.Act.Key.length≤20:=by
   rcases zbz ha with ⟨_,h⟩ | ⟨_,h⟩ | ⟨_,h,_⟩
   ·simp [h]
   ·exact h
   ·exact h
  have l5:=zrb ha;have e3:z7y a.Act.Key=some (zwx a.Act):=zpj _ (by omega);rw [z2z (by omega)];simp only [bS];rw [e3];simp only [bS];rw [z1l (by omega)];simp only [bS];by_cases k4:a.Act.Kind=4
  ·have hv:okV a.Act.Value=true:=by
    rcases zbz ha with ⟨k,_⟩ | ⟨k,_⟩ | ⟨_,_,k⟩
    ·rw [k4] at k; simp at k
    ·rw [k4] at k; simp at k
    ·exact k
   have l6:=zr2 hv hI;rw [if_pos (by simpa using k4),if_pos k4,z11e _ hI hv];simp only [bS];rw [z1l (by simp only [List.length_append]; omega)];simp only [bS]
  ·rw [if_neg (by simpa using k4),if_neg k4]
theorem zu3 (a:z05) (h:z1v a=0) (hI:inI a.Act.Value.Num) (ht:a.Act.Value.Text.length≤9223372036854775807):zdc a=some (z7h a,0):=by
 have hm:=zlk h hI;have l1:=z0o a.Sig.E.toNat (by have:=UInt32.toNat_lt a.Sig.E; omega);have l2:=z0o a.Sig.S.toNat (by have:=UInt32.toNat_lt a.Sig.S; omega);unfold zdc;rw [zf0 _ ht,h];simp only [bS];rw [if_neg (by simp),zpk _ h hI ht,z4r,z4r];simp only [bS,UInt32.toNat_toUInt64]
 rw [zu4 _ (by simp) (by
  intro b hb;simp only [List.mem_cons,List.not_mem_nil,or_false] at hb
  rcases hb with rfl | rfl | rfl <;> omega)]
 simp only [bS,List.flatten_cons,List.flatten_nil,List.append_nil];rfl
theorem zug (a:z05) (h:z1v a=0) (hI:inI a.Act.Value.Num):zah a=some (z7h a):=by
 have hm:=zlk h hI;have l1:=z0o a.Sig.E.toNat (by have:=UInt32.toNat_lt a.Sig.E; omega);have l2:=z0o a.Sig.S.toNat (by have:=UInt32.toNat_lt a.Sig.S; omega);unfold zah z7h;rw [zz5 _ h hI,z87,z87];simp only [bS,UInt32.toNat_toUInt64];rw [z1l (by omega)];simp only [bS];rw [z1l (by simp only [List.length_append]; omega)];simp only [bS,List.append_assoc]
def z32:V3:=Vector.replicate 32 0
theorem zky (a:z05) (hI:inI a.Act.Value.Num) (ht:a.Act.Value.Text.length≤9223372036854775807):zow a=some (if z1v a=0 then (sha (z7h a),0) else (z32,z1v a)):=by
 unfold zow;by_cases h:z1v a=0
 ·have:=zo0 h hI
  rw [zu3 a h hI ht];simp only [bS];rw [if_neg (by simp),z1a6 _ (by omega),if_pos h];simp only [bS]
 ·have e:zdc a=some ([],z1v a):=by
   unfold zdc;rw [zf0 _ ht];simp only [bS];rw [if_pos (by simpa using h)]
  rw [e];simp only [bS];rw [if_pos (by simpa using h),if_neg h]; rfl
theorem zwt (a:z05) (h:z1v a=0) (hI:inI a.Act.Value.Num):zbj a=some (sha (z7h a)):=by
 have:=zo0 h hI
 unfold zbj;rw [zug a h hI];simp only [bS];rw [z1ag _ (by omega)];simp only [bS]
def zk9 (a:z05):Int:=if z1v a=0 then (if zrq a.Author (msg a) a.Sig then 0 else 22) else z1v a
theorem ziw (a:z05) (hI:inI a.Act.Value.Num) (ht:a.Act.Value.Text.length≤9223372036854775807):zeo a=some (zk9 a):=by
 unfold zeo zk9;rw [zf0 _ ht];simp only [bS];by_cases h:z1v a=0
 ·have:=zlk h hI
  rw [if_neg (by simp [h]),if_pos h,zpk a h hI ht];simp only [bS];rw [z11m _ _ _ (zoj (z40 h).2.2) (by omega)];simp only [bS]
 ·rw [if_pos (by simpa using h),if_neg h]
theorem ztq (a:z05) (hI:inI a.Act.Value.Num) (ht:a.Act.Value.Text.length≤9223372036854775807):z9y a=some (zk9 a):=by
 unfold z9y zk9 zbw;rw [zvc _ ht];simp only [bS];by_cases h:z1v a=0
 ·have:=zlk h hI
  rw [if_neg (by simp [h]),if_pos h,zz5 a h hI];simp only [bS];rw [z14y _ _ _ (zoj (z40 h).2.2) (by omega)];simp only [bS]
  cases zrq a.Author (msg a) a.Sig <;> rfl
 ·rw [if_pos (by simpa using h),if_neg h]
end
section
open Go
theorem zcz {α:Type} [DecidableEq α]:∀ (p q:List α),p.Nodup→(∀ x∈p,x∈q)→p.length≤q.length
 | [],_,_,_=>by simp
 | a::p,q,h,hs=>by
  have ha:=hs a (by simp);have hn:=List.nodup_cons.1 h
  have:=zcz p (q.erase a) hn.2 (fun x hx=>by
   have hne:x≠a:=fun e=>hn.1 (e ▸ hx)
   exact (List.mem_erase_of_ne hne).2 (hs x (by simp [hx])))
  rw [List.length_erase_of_mem ha] at this;have hp:=List.length_pos_of_mem ha;simp only [List.length_cons]; omega
theorem zz6 {α:Type} [DecidableEq α] {p q:List α} (h1:p.Nodup) (h2:q.Nodup) (h:∀ x,x∈p↔x∈q):p.length=q.length :=
 Nat.le_antisymm (zcz p q h1 fun x hx=>(h x).1 hx) (zcz q p h2 fun x hx=>(h x).2 hx)
abbrev ID:=V3
theorem zfa {l:List ID} (h:z8a l=true) {i j:Nat} (hi:i<l.length) (hj:j<l.length) (hij:i<j):kd l[i]<kd l[j] :=
 List.pairwise_iff_getElem.1 ((zcq l).1 h) i j hi hj hij
theorem z15b {l:List ID} (h:z8a l=true) {i j:Nat} (hi:i<l.length) (hj:j<l.length) (e:l[i]=l[j]):i=j:=by
 rcases Nat.lt_trichotomy i j with c | c | c
 ·have:=zfa h hi hj c; rw [e] at this; omega
 ·exact c
 ·have:=zfa h hj hi c; rw [e] at this; omega
theorem zd7 {l:List ID} (h:z8a l=true):l.Nodup:=by
 have:=(zcq l).1 h
 exact this.imp fun {a b} hab e=>by rw [e] at hab; omega
theorem zc7 {l:List ID} (h:z8a l=true) {k:Nat} (hk:k<l.length):l.idxOf l[k]=k:=by
 have h1:l.idxOf l[k]<l.length:=List.idxOf_lt_length_of_mem (List.getElem_mem hk);exact z15b h h1 hk (by simp)
theorem z18s (s e:Nat) (h:s+e<9223372036854775807):w64 ((z6l (UInt64.ofInt (w64 ((s:Int)+(e:Int)))) 1).toNat:Int)=(((s+e) / 2:Nat):Int):=by
 rw [z17 (x:=(s:Int)+(e:Int)) (by omega) (by omega), show ((s:Int)+(e:Int))=((s+e:Nat):Int) by omega,zat,zdr (by omega)];rw [show min 1 64=1 from rfl,Nat.pow_one,z17 (by omega) (by omega)]
theorem z12w (l:List ID) (hl:l.length≤4611686018427387903) (hi:z8a l=true) (x:ID):∃ b:Int,iter (z0p l x) (0,(l.length:Int))=some b∧∃ k:Nat,b=(k:Int)∧k≤l.length∧(∀ i (h:i<l.length),i<k→kd l[i]<kd x)∧(∀ i (h:i<l.length),k≤i→kd x≤kd l[i]):=by
 refine zfi (F:=z0p l x)
  (fun st=>∃ s e:Nat,st=((s:Int),(e:Int))∧s≤e∧e≤l.length∧(∀ i (h:i<l.length),i<s→kd l[i]<kd x)∧(∀ i (h:i<l.length),e≤i→kd x≤kd l[i]))
  (fun st=>st.2.toNat - st.1.toNat) _ ?_ _ ⟨0,l.length,rfl, by omega, by omega, fun i _ h=>by omega, fun i h h2=>by omega⟩
 rintro st ⟨s,e,rfl,h1,h2,h3,h4⟩
 by_cases hse:s<e
 ·right
  have hm:(s+e) / 2<l.length:=by omega
  have hF:z0p l x ((s:Int),(e:Int))=if decide (kd l[(s+e) / 2]<kd x) then some (.inr ((((s+e) / 2+1:Nat):Int),(e:Int))) else some (.inr ((s:Int),(((s+e) / 2:Nat):Int))):=by
   unfold z0p;simp only [];rw [if_pos (by simpa using hse),z18s _ _ (by omega)];simp only [bS];rw [z0k hm];simp only [bS];rw [zxh];simp only [bS];rw [zu9,z0l (show (s+e) / 2<9223372036854775807 by omega)]
  by_cases hc:kd l[(s+e) / 2]<kd x
  ·rw [decide_eq_true hc,if_pos rfl] at hF;refine ⟨_,hF,⟨(s+e) / 2+1,e,rfl, by omega,h2, fun i h hi2=>?_,h4⟩, by simp; omega⟩;by_cases he:i=(s+e) / 2
   ·subst he; exact hc
   ·have:=zfa hi h hm (by omega); omega
  ·rw [decide_eq_false hc,if_neg (by simp)] at hF;refine ⟨_,hF,⟨s,(s+e) / 2,rfl, by omega, by omega,h3, fun i h hi2=>?_⟩, by simp; omega⟩;by_cases he:i=(s+e) / 2
   ·subst he; omega
   ·have:=zfa hi hm h (by omega); omega
 ·left
  refine ⟨(s:Int),?_,s,rfl, by omega,h3, fun i h hi2=>h4 i h (by omega)⟩;unfold z0p;simp only [];rw [if_neg (by simpa using hse)]
theorem z18d (l:List ID) (hl:l.length≤4611686018427387903) (hi:z8a l=true) (x:ID):∃ k:Nat,z0t l x=some ((k:Int),decide (x∈l))∧(x∈l→k=l.idxOf x∧k<l.length)∧k≤l.length:=by
 obtain ⟨b,h1,k,rfl,h2,h3,h4⟩:=z12w l hl hi x;unfold z0t;simp only [bS];rw [h1];simp only [bS];have hmem:x∈l→∃ h:k<l.length,l[k]=x:=fun hx=>by
  obtain ⟨i,hi1,rfl⟩:=List.getElem_of_mem hx;have a1:¬ i<k:=fun c=>by have:=h3 i hi1 c; omega
  by_cases a2:k=i
  ·subst a2; exact ⟨hi1,rfl⟩
  ·have hk:k<l.length:=by omega
   have:=h4 k hk (Nat.le_refl _)
   have:=zfa hi hk hi1 (by omega)
   omega
 by_cases hk:k<l.length
 ·rw [if_pos (by simpa using hk),z0k hk];simp only [bS];rw [zxh];simp only [bS];rw [z1bh];refine ⟨k,?_, fun hx=>?_, by omega⟩
  ·have:decide (l[k]=x)=decide (x∈l):=by
    rw [decide_eq_decide];exact ⟨fun e=>e ▸ List.getElem_mem hk, fun hx=>(hmem hx).2⟩
   rw [this]
  ·obtain ⟨h,e⟩:=hmem hx;subst e;exact ⟨(zc7 hi h).symm,h⟩
 ·rw [if_neg (by simpa using hk)];refine ⟨k,?_, fun hx=>absurd (hmem hx).1 hk, by omega⟩;rw [decide_eq_false fun hx=>hk (hmem hx).1]
theorem zjc (g:z01) (hl:g.IDs.length≤4611686018427387903) (hi:z8a g.IDs=true) (x:ID):∃ k:Nat,zea g x=some ((k:Int),decide (x∈g.IDs))∧(x∈g.IDs→k=g.IDs.idxOf x∧k<g.IDs.length)∧k≤g.IDs.length:=by
 obtain ⟨k,h1,h2,h3⟩:=z18d g.IDs hl hi x;refine ⟨k,?_,h2,h3⟩;unfold zea;rw [h1];simp only [bS]
theorem z116 (l:List ID) (x:ID) (hl:l.length≤9223372036854775806):∀ (rest pre:List ID),l=pre++rest→∃ r:Sum Int Unit,iter (z3s l x) (pre.length:Int)=some r∧((r=.inr ()∧x∉rest)∨∃ i:Nat,r=.inl (i:Int)∧∃ h:i<l.length,l[i]=x)
 | [],pre,e=>by
  refine ⟨_,z1r ?_,.inl ⟨rfl, by simp⟩⟩;subst e;unfold z3s;rw [if_neg (by simp)]
 | c::rest,pre,e=>by
  have hlen:pre.length<l.length:=by rw [e]; simp
  have hget:l[pre.length]'hlen=c:=by subst e; simp
  have hF:z3s l x (pre.length:Int)=if decide (c=x) then some (.inl (.inl (pre.length:Int))) else some (.inr ((pre.length+1:Nat):Int)):=by
   unfold z3s;rw [if_pos (by simpa using hlen),z0k hlen,hget,z0l (by omega)];simp only [bS]
  by_cases hc:c=x
  ·rw [decide_eq_true hc,if_pos rfl] at hF;exact ⟨_,z1r hF,.inr ⟨pre.length,rfl,hlen, by rw [hget,hc]⟩⟩
  ·rw [decide_eq_false hc,if_neg (by simp)] at hF;obtain ⟨r,h1,h2⟩:=z116 l x hl rest (pre++[c]) (by simp [e]);simp only [List.length_append,List.length_cons,List.length_nil,Nat.zero_add] at h1;refine ⟨r, by rw [z2c hF]; exact h1,?_⟩;rcases h2 with ⟨h2,h3⟩ | h2
   ·exact .inl ⟨h2, by simp; exact ⟨fun e=>hc e.symm,h3⟩⟩
   ·exact .inr h2
theorem z1bk (l:List ID) (x:ID) (hl:l.length≤9223372036854775806):∃ k:Int,z5p l x=some k∧((k = -1∧x∉l)∨∃ i:Nat,k=(i:Int)∧∃ h:i<l.length,l[i]=x):=by
 obtain ⟨r,h1,h2⟩:=z116 l x hl l [] rfl;unfold z5p;rw [show (0:Int)=(([]:List ID).length:Int) from rfl,h1];rcases h2 with ⟨rfl,h3⟩ | ⟨i,rfl,h3⟩
 ·exact ⟨-1,rfl,.inl ⟨rfl,h3⟩⟩
 ·exact ⟨(i:Int),rfl,.inr ⟨i,rfl,h3⟩⟩
theorem z1a0 (l:List ID) (x:ID) (hl:l.length≤9223372036854775806):∃ k:Int,z5p l x=some k∧decide (k<0)=!decide (x∈l):=by
 obtain ⟨k,h1,h2⟩:=z1bk l x hl;refine ⟨k,h1,?_⟩;rcases h2 with ⟨rfl,h2⟩ | ⟨i,rfl,h,rfl⟩
 ·rw [decide_eq_false h2]; rfl
 ·rw [decide_eq_true (List.getElem_mem h),decide_eq_false (by omega)]; rfl
theorem zx6 (l:List ID) (p:List ID) (hl:l.length≤9223372036854775806) (hp:p.length≤9223372036854775806):∀ (rest pre:List ID),p=pre++rest→iter (z81 l p) (pre.length:Int)=some (if rest.all (fun x=>decide (x∈l)) then .inr () else .inl false)
 | [],pre,e=>by
  refine z1r ?_;subst e;unfold z81
  simp
 | c::rest,pre,e=>by
  have hlen:pre.length<p.length:=by rw [e]; simp
  have hget:p[pre.length]'hlen=c:=by subst e; simp
  obtain ⟨k,k1,k2⟩:=z1a0 l c hl;have hF:z81 l p (pre.length:Int)=if decide (c∈l) then some (.inr ((pre.length+1:Nat):Int)) else some (.inl (.inl false)):=by
   unfold z81;rw [if_pos (by simpa using hlen),z0k hlen,hget,z0l (by omega)];simp only [bS];rw [k1];simp only [bS];rw [k2]
   cases decide (c∈l) <;> rfl
  cases hc:decide (c∈l) with
  | false=>rw [hc] at hF; rw [z1r hF,List.all_cons,hc]; rfl
  | true =>
   rw [hc] at hF;rw [z2c hF];have ih:=zx6 l p hl hp rest (pre++[c]) (by simp [e]);simp only [List.length_append,List.length_cons,List.length_nil,Nat.zero_add] at ih;rw [ih,List.all_cons,hc,Bool.true_and]
theorem zzo (l p:List ID) (hl:l.length≤9223372036854775806) (hp:p.length≤9223372036854775806):z3p l p=some (p.all fun x=>decide (x∈l)):=by
 have h:=zx6 l p hl hp p [] rfl;unfold z3p;rw [show (0:Int)=(([]:List ID).length:Int) from rfl,h]
 cases p.all fun x=>decide (x∈l) <;> rfl
theorem z13h (g:z01) (hl:g.IDs.length≤9223372036854775807):z4y (ρ:=Int) (iter (z9c g) 1)=fun k=>if z8a g.IDs then k () else some 32:=by
 have key:∀ (n i:Nat),g.IDs.length - i=n→1≤i→i≤g.IDs.length→iter (z9c g) (i:Int)=some (if z8a (g.IDs.drop (i - 1)) then .inr () else .inl 32):=by
  intro n
  induction n with
  | zero =>
   intro i hn h1 hi;have h:=znp g.IDs hl 0 i hn h1 hi;have e:g.IDs.drop (i - 1)=[g.IDs[i - 1]'(by omega)]:=by
    rw [List.drop_eq_getElem_cons (by omega),List.drop_eq_nil_of_le (by omega)]
   rw [e];refine z1r ?_;unfold z9c;rw [if_neg (by simp; omega)];simp [z8a]
  | succ n ih =>
   intro i hn h1 hi;have hlt:i<g.IDs.length:=by omega
   have e:g.IDs.drop (i - 1)=g.IDs[i - 1]::g.IDs[i]::g.IDs.drop (i+1):=by
    rw [List.drop_eq_getElem_cons (by omega), show i - 1+1=i by omega,List.drop_eq_getElem_cons hlt]
   have e':g.IDs.drop (i+1 - 1)=g.IDs[i]::g.IDs.drop (i+1):=by rw [Nat.add_sub_cancel,List.drop_eq_getElem_cons hlt]
   have hF:z9c g (i:Int)=if decide (0≤Lib.compareBytes (g.IDs[i - 1]).toList (g.IDs[i]).toList) then some (.inl (.inl 32)) else some (.inr ((i+1:Nat):Int)):=by
    unfold z9c;rw [if_pos (by simp; omega),z17 (by omega) (by omega), show ((i:Int) - 1)=((i - 1:Nat):Int) by omega];simp only [z0k hlt,z0k (show i - 1<g.IDs.length by omega),bs,zur,z0l (show i<9223372036854775807 by omega)]
   rw [e,z8a]
   cases hc:decide (0≤Lib.compareBytes (g.IDs[i - 1]).toList (g.IDs[i]).toList) with
   | true=>rw [hc] at hF; rw [z1r hF]; rfl
   | false =>
    rw [hc] at hF;rw [z2c hF,ih (i+1) (by omega) (by omega) (by omega),e']; simp
 funext k
 by_cases h0:g.IDs.length=0
 ·have hnil:g.IDs=[]:=List.length_eq_zero_iff.1 h0;rw [z1r (b:=.inr ())]
  ·rw [hnil]; rfl
  ·unfold z9c;rw [if_neg (by simp; omega)]
 ·rw [show (1:Int)=((1:Nat):Int) from rfl,key (g.IDs.length - 1) 1 rfl (by omega) (by omega),Nat.sub_self,List.drop_zero]
  cases z8a g.IDs <;> rfl
end
section
open Go
def il (l:List Nat):List Int:=l.map fun k:Nat=>(k:Int)
theorem zgj (l:List Nat):(il l).length=l.length:=by simp [il]
theorem z16f {l:List Nat} {i:Nat} (h:i<l.length):idx (il l) (i:Int)=some (l[i]:Int):=by
 rw [z0k (by rw [zgj]; exact h)]; simp [il]
theorem z11s (l m:List Nat):il (l++m)=il l++il m:=by simp [il]
def tab {α:Type} (n:Nat) (f:Nat→α):List α:=(List.range n).map f
theorem znv {α:Type} (n:Nat) (f:Nat→α):(tab n f).length=n:=by simp [tab]
theorem zuf {α:Type} {n:Nat} {f:Nat→α} {i:Nat} (h:i<(tab n f).length):(tab n f)[i]=f i:=by simp [tab]
theorem zby {α:Type} {n:Nat} {f:Nat→α} {i:Nat} (h:i<n):idx (tab n f) (i:Int)=some (f i):=by
 rw [z0k (by rw [znv]; exact h),zuf]
theorem zl2 {α:Type} {n:Nat} {f g:Nat→α} {i:Nat} {x:α} (hi:i<n) (h1:g i=x) (h2:∀ j,j<n→j≠i→g j=f j):(tab n f).set i x=tab n g:=by
 apply List.ext_getElem
 ·simp [znv]
 ·intro j hj1 hj2;rw [List.getElem_set,zuf,zuf];rw [znv] at hj2
  split
  ·rename_i e; subst e; exact h1.symm
  ·rename_i e; exact (h2 j hj2 (fun c=>e c.symm)).symm
theorem zjy {α:Type} {n:Nat} {f g:Nat→α} (h:∀ j,j<n→f j=g j):tab n f=tab n g:=by
 unfold tab;exact List.map_congr_left fun j hj=>h j (by simpa using hj)
theorem zh4 {α:Type} (n:Nat) (x:α):List.replicate n x=tab n (fun _=>x):=by
 apply List.ext_getElem
 ·simp [tab]
 ·intro j h1 h2; simp [tab]
def zy8 (g:z01) (i:Nat):List ID:=match g.Ops[i]? with | some o=>o.Preds | none=>[]
theorem z7l {g:z01} {i:Nat} (h:i<g.Ops.length):zy8 g i=(g.Ops[i]).Preds:=by unfold zy8; rw [List.getElem?_eq_getElem h]
def z2n (g:z01) (i:Nat):List Nat:=(zy8 g i).map fun x=>g.IDs.idxOf x
structure zbq (g:z01):Prop where
 len:g.Ops.length≤60
 ids:g.IDs.length=g.Ops.length
 ri:z8a g.IDs=true
 op:∀ i (h:i<g.Ops.length),(g.Ops[i]).Preds.length≤4∧z8a (g.Ops[i]).Preds=true
variable {g:z01}
theorem zbq.four (E:zbq g) (i:Nat):(zy8 g i).length≤4:=by
 unfold zy8;by_cases h:i<g.Ops.length
 ·rw [List.getElem?_eq_getElem h]; exact (E.op i h).1
 ·rw [List.getElem?_eq_none (by omega)]; simp
theorem zbq.nodup (E:zbq g) (i:Nat):(zy8 g i).Nodup:=by
 unfold zy8;by_cases h:i<g.Ops.length
 ·rw [List.getElem?_eq_getElem h]; exact zd7 (E.op i h).2
 ·rw [List.getElem?_eq_none (by omega)]; simp
theorem znx {l:List ID} {x y:ID} (hx:x∈l) (h:l.idxOf y=l.idxOf x):y=x:=by
 have h1:l.idxOf x<l.length:=List.idxOf_lt_length_of_mem hx;have h2:l.idxOf y<l.length:=by omega
 have e1:l[l.idxOf x]'h1=x:=by simp
 have e2:l[l.idxOf y]'h2=y:=by simp
 rw [← e1,← e2]; congr 1
def zgw (g:z01) (i x:Nat):List Nat:=(List.range i).filter fun k=>decide (x∈z2n g k)
theorem z123 (g:z01) (i x:Nat):(zgw g i x).length≤i:=by
 have:=List.length_filter_le (fun k=>decide (x∈z2n g k)) (List.range i)
 unfold zgw; simpa using this
def zi3 (g:z01) (i j x:Nat):List Nat:=zgw g i x++(if x∈(z2n g i).take j then [i] else [])
theorem zyn (g:z01) (i x:Nat):zgw g (i+1) x=zi3 g i (z2n g i).length x:=by
 unfold zgw zi3;rw [List.range_succ,List.filter_append,List.take_length];by_cases h:x∈z2n g i
 ·rw [if_pos h]; simp [zgw,h]
 ·rw [if_neg h]; simp [zgw,h]
theorem zxw (g:z01) (i x:Nat):zi3 g i 0 x=zgw g i x:=by unfold zi3; simp
theorem z15p (E:zbq g) {i:Nat} (hi:i<g.Ops.length) (s:(List Int) × (List (List Int)) × (List Int) × Int) (hs:s.2.2.2=(i:Int)):∀ (rest pre:List ID),g.Ops[i].Preds=pre++rest →
  iter (zax g s g.Ops[i]) (tab g.Ops.length (fun x=>il (zi3 g i pre.length x)),(pre.length:Int))=some (if rest.all (fun x=>decide (x∈g.IDs)) then .inr (tab g.Ops.length fun x=>il (zi3 g i (z2n g i).length x)) else .inl (.inl (.inl 40)))
 | [],pre,e=>by
  refine z1r ?_;unfold zax
  have:(z2n g i).length=pre.length:=by unfold z2n; rw [z7l hi,e]; simp
  rw [if_neg (by rw [e]; simp),this]
  rfl
 | c::rest,pre,e=>by
  have h4:=(E.op i hi).1;have hn:=E.nodup i;rw [z7l hi] at hn;have hlen:pre.length<g.Ops[i].Preds.length:=by rw [e]; simp
  have hget:g.Ops[i].Preds[pre.length]'hlen=c:=by simp [e]
  have hpl:(z2n g i).length=g.Ops[i].Preds.length:=by unfold z2n; rw [z7l hi]; simp
  have hpg:(z2n g i)[pre.length]'(by omega)=g.IDs.idxOf c:=by
   unfold z2n;simp only [z7l hi,List.getElem_map,hget]
  obtain ⟨k,f1,f2,f3⟩:=zjc g (by have:=E.ids; have:=E.len; omega) E.ri c;rw [List.all_cons];by_cases hc:c∈g.IDs
  ·rw [decide_eq_true hc,Bool.true_and];obtain ⟨rfl,hk⟩:=f2 hc;rw [E.ids] at hk;have hsl:=z123 g i (g.IDs.idxOf c);have hll:(zi3 g i pre.length (g.IDs.idxOf c)).length≤i+1:=by
    unfold zi3; rw [List.length_append]; split <;> simp <;> omega
   have hset:(tab g.Ops.length (fun x=>il (zi3 g i pre.length x))).set (g.IDs.idxOf c) (il (zi3 g i pre.length (g.IDs.idxOf c))++[(i:Int)])=tab g.Ops.length (fun x=>il (zi3 g i (pre.length+1) x)):=by
    refine zl2 hk ?_ fun x hx hne=>?_
    ·have h1:¬ g.IDs.idxOf c∈(z2n g i).take pre.length:=by
      intro hm;have e5:(z2n g i).take pre.length=pre.map fun x=>g.IDs.idxOf x:=by
       unfold z2n;rw [z7l hi,e,List.map_append,List.take_left' (by simp)]
      rw [e5,List.mem_map] at hm;obtain ⟨y,hy,e6⟩:=hm
      have:=znx hc e6
      subst this;rw [e,List.nodup_append] at hn;exact hn.2.2 y hy y (by simp) rfl
     have h2:g.IDs.idxOf c∈(z2n g i).take (pre.length+1):=by
      rw [List.take_add_one,List.getElem?_eq_getElem (by omega),hpg]; simp
     unfold zi3;rw [if_pos h2,if_neg h1]; simp [il]
    ·have:(x∈(z2n g i).take (pre.length+1))↔(x∈(z2n g i).take pre.length):=by
      rw [List.take_add_one,List.getElem?_eq_getElem (by omega),hpg];simp [hne]
     unfold zi3;simp only [this]
   have hF:zax g s g.Ops[i] (tab g.Ops.length (fun x=>il (zi3 g i pre.length x)),(pre.length:Int))=some (.inr (tab g.Ops.length (fun x=>il (zi3 g i (pre.length+1) x)),((pre.length+1:Nat):Int))):=by
    have hlen2:=E.len;unfold zax;rw [if_pos (by simpa using hlen)];simp only [];rw [z0k hlen,hget];simp only [bS];rw [f1];simp only [bS];rw [decide_eq_true hc,if_neg (by simp),zby hk];simp only [bS];rw [hs,z1l (by rw [zgj]; simp; omega),z0l (by omega)];simp only [bS,Int.toNat_natCast];rw [hset]
   rw [z2c hF];have ih:=z15p E hi s hs rest (pre++[c]) (by simp [e]);simp only [List.length_append,List.length_cons,List.length_nil,Nat.zero_add] at ih;exact ih
  ·rw [decide_eq_false hc];refine z1r ?_;unfold zax;rw [if_pos (by simpa using hlen)];simp only [];rw [z0k hlen,hget];simp only [bS];rw [f1];simp only [bS];rw [decide_eq_false hc]; rfl
def zgz (g:z01):Bool:=g.Ops.all fun o=>o.Preds.all fun x=>decide (x∈g.IDs)
def zhz (g:z01) (i x:Nat):Int:=if x<i then ((z2n g x).length:Int) else 0
def ready (g:z01) (i:Nat):List Nat:=(List.range i).filter fun k=>decide ((z2n g k).length=0)
theorem zzj (g:z01) (i:Nat):(ready g i).length≤i:=by
 have:=List.length_filter_le (fun k=>decide ((z2n g k).length=0)) (List.range i)
 unfold ready; simpa using this
theorem z15q (E:zbq g):∀ (rest pre:List z05),g.Ops=pre++rest →
  iter (zaw g) (tab g.Ops.length (zhz g pre.length),tab g.Ops.length (fun x=>il (zgw g pre.length x)),il (ready g pre.length),(pre.length:Int)) =
   some (if rest.all (fun o=>o.Preds.all fun x=>decide (x∈g.IDs)) then .inr (tab g.Ops.length (zhz g g.Ops.length),tab g.Ops.length (fun x=>il (zgw g g.Ops.length x)),il (ready g g.Ops.length)) else .inl 40)
 | [],pre,e=>by
  refine z1r ?_;have hl:g.Ops.length=pre.length:=by rw [e]; simp
  unfold zaw;rw [if_neg (by simp; omega),hl];rfl
 | o::rest,pre,e=>by
  have hlen2:=E.len;have hlen:pre.length<g.Ops.length:=by rw [e]; simp
  have hget:g.Ops[pre.length]'hlen=o:=by simp [e]
  have h4:=z15p E hlen (tab g.Ops.length (zhz g pre.length),tab g.Ops.length (fun x=>il (zgw g pre.length x)),il (ready g pre.length),(pre.length:Int)) rfl o.Preds [] (by rw [hget]; rfl);rw [hget] at h4;simp only [List.length_nil,zxw] at h4;have hpl:(z2n g pre.length).length=o.Preds.length:=by unfold z2n; rw [z7l hlen,hget]; simp
  rw [List.all_cons]
  cases hc:o.Preds.all fun x=>decide (x∈g.IDs) with
  | false =>
   rw [hc] at h4;refine z1r ?_;unfold zaw;rw [if_pos (by simpa using hlen)];simp only [];rw [z0k hlen,hget];simp only [bS];rw [show (0:Int)=((0:Nat):Int) from rfl,h4];rfl
  | true =>
   rw [hc] at h4;rw [Bool.true_and];have hset:(tab g.Ops.length (zhz g pre.length)).set pre.length (o.Preds.length:Int)=tab g.Ops.length (zhz g (pre.length+1)):=by
    refine zl2 hlen ?_ fun x hx hne=>?_
    ·unfold zhz; rw [if_pos (by omega),hpl]
    ·unfold zhz;by_cases h:x<pre.length
     ·rw [if_pos h,if_pos (by omega)]
     ·rw [if_neg h,if_neg (by omega)]
   have hrl:=zzj g pre.length;have hready:il (ready g (pre.length+1))=if (o.Preds.length:Int)==0 then il (ready g pre.length)++[(pre.length:Int)] else il (ready g pre.length):=by
    unfold ready;rw [List.range_succ,List.filter_append,z11s];by_cases h:o.Preds.length=0
    ·have hd:decide ((z2n g pre.length).length=0)=true:=decide_eq_true (by rw [hpl]; exact h);rw [if_pos (by simpa using h),List.filter_cons_of_pos (p:=fun k=>decide ((z2n g k).length=0)) hd]; rfl
    ·have hd:¬ decide ((z2n g pre.length).length=0)=true:=by rw [decide_eq_true_iff,hpl]; exact h
     rw [if_neg (by simpa using h),List.filter_cons_of_neg (p:=fun k=>decide ((z2n g k).length=0)) hd]; simp [il]
   have hsucc:(fun x=>il (zi3 g pre.length (z2n g pre.length).length x))=fun x=>il (zgw g (pre.length+1) x):=by
    funext x; rw [zyn]
   rw [hsucc] at h4;have hF:zaw g (tab g.Ops.length (zhz g pre.length),tab g.Ops.length (fun x=>il (zgw g pre.length x)),il (ready g pre.length),(pre.length:Int))=some (.inr (tab g.Ops.length (zhz g (pre.length+1)),tab g.Ops.length (fun x=>il (zgw g (pre.length+1) x)),il (ready g (pre.length+1)),((pre.length+1:Nat):Int))):=by
    unfold zaw;rw [if_pos (by simpa using hlen)];simp only [];rw [z0k hlen,hget];simp only [bS];rw [show (0:Int)=((0:Nat):Int) from rfl,h4];simp only [if_true,zq5];rw [zby hlen];simp only [bS,Int.toNat_natCast];rw [hset,zby hlen];simp only [bS];have e5:zhz g (pre.length+1) pre.length=(o.Preds.length:Int):=by unfold zhz; rw [if_pos (by omega),hpl]
    rw [e5,hready,z0l (by omega)];by_cases h:o.Preds.length=0
    ·rw [if_pos (by simpa using h),if_pos (by simpa using h),z1l (by rw [zgj]; simp; omega)];simp only [bS]
    ·rw [if_neg (by simpa using h),if_neg (by simpa using h)]
   rw [z2c hF];have ih:=z15q E rest (pre++[o]) (by simp [e]);simp only [List.length_append,List.length_cons,List.length_nil,Nat.zero_add] at ih;exact ih
theorem zqc (E:zbq g):∀ (rest pre:List z05),g.Ops=pre++rest →
  iter (z5z g) (pre.length:Int)=some (if rest.all (fun o=>o.Preds.all fun x=>decide (x∈g.IDs)) then .inr () else .inl 40)
 | [],pre,e=>by
  refine z1r ?_;unfold z5z;rw [if_neg (by rw [e]; simp)]; rfl
 | o::rest,pre,e=>by
  have hlen2:=E.len;have hlen:pre.length<g.Ops.length:=by rw [e]; simp
  have hget:g.Ops[pre.length]'hlen=o:=by simp [e]
  have h4:=(E.op _ hlen).1;rw [hget] at h4;have hF:z5z g (pre.length:Int)=if (o.Preds.all fun x=>decide (x∈g.IDs)) then some (.inr ((pre.length+1:Nat):Int)) else some (.inl (.inl 40)):=by
   unfold z5z;rw [if_pos (by simpa using hlen),z0k hlen,hget];simp only [bS];rw [zzo _ _ (by have:=E.ids; omega) (by omega),z0l (by omega)];simp only [bS]
   cases o.Preds.all fun x=>decide (x∈g.IDs) <;> rfl
  rw [List.all_cons]
  cases hc:o.Preds.all fun x=>decide (x∈g.IDs) with
  | false=>rw [hc] at hF; rw [z1r hF]; rfl
  | true =>
   rw [hc] at hF;rw [z2c hF];have ih:=zqc E rest (pre++[o]) (by simp [e]);simp only [List.length_append,List.length_cons,List.length_nil,Nat.zero_add] at ih;rw [ih,Bool.true_and]
end
section
open Go
theorem zkc {α:Type} {l:List α} (h:l.Nodup) {i j:Nat} (hi:i<l.length) (hj:j<l.length) (e:l[i]=l[j]):i=j:=by
 rcases Nat.lt_trichotomy i j with c | c | c
 ·exact absurd e (List.pairwise_iff_getElem.1 h i j hi hj c)
 ·exact c
 ·exact absurd e.symm (List.pairwise_iff_getElem.1 h j i hj hi c)
inductive Wf (P:Nat→List Nat):Nat→Prop
 | mk (i:Nat):(∀ p∈P i,Wf P p)→Wf P i
def cnt (P:Nat→List Nat) (T:List Nat) (i:Nat):Int:=(((P i).filter fun p=>!decide (p∈T)).length:Int)
theorem zxk {P:Nat→List Nat} {T:List Nat} {i:Nat}:cnt P T i=0↔∀ p∈P i,p∈T:=by
 unfold cnt
 constructor
 ·intro h p hp;have h0:((P i).filter fun p=>!decide (p∈T))=[]:=List.length_eq_zero_iff.1 (by omega);rw [List.filter_eq_nil_iff] at h0
  simpa using h0 p hp
 ·intro h;have h0:((P i).filter fun p=>!decide (p∈T))=[]:=by
   rw [List.filter_eq_nil_iff];intro p hp
   simpa using h p hp
  rw [h0]; rfl
theorem z11h (P:Nat→List Nat) (i:Nat):cnt P [] i=((P i).length:Int):=by
 unfold cnt;rw [List.filter_eq_self.2 (fun a _=>by simp)]
theorem z19f (P:Nat→List Nat) (T:List Nat) (i:Nat):cnt P T i≤((P i).length:Int):=by
 unfold cnt
 have:=List.length_filter_le (fun p=>!decide (p∈T)) (P i)
 omega
theorem zjh {T:List Nat} {x:Nat} (hx:x∉T):∀ l:List Nat,l.Nodup→(l.filter fun p=>!decide (p∈T)).length=(l.filter fun p=>!decide (p∈T++[x])).length+(if x∈l then 1 else 0)
 | [],_=>by simp
 | a::l,h=>by
  have hn:=List.nodup_cons.1 h;have ih:=zjh hx l hn.2;by_cases ha:a=x
  ·subst ha;rw [if_neg hn.1] at ih;rw [if_pos (by simp),List.filter_cons_of_pos (by simpa using hx),List.filter_cons_of_neg (by simp),List.length_cons,ih]
  ·have e:(x∈a::l)↔(x∈l):=by
    rw [List.mem_cons]; exact ⟨fun h=>h.resolve_left fun e=>ha e.symm,.inr⟩
   by_cases hT:a∈T
   ·rw [List.filter_cons_of_neg (by simp [hT]),List.filter_cons_of_neg (by simp [hT]),ih];simp only [e]
   ·rw [List.filter_cons_of_pos (by simp [hT]),List.filter_cons_of_pos (by simp [hT,ha]),List.length_cons,List.length_cons,ih];simp only [e]; omega
theorem z16h {P:Nat→List Nat} {T:List Nat} {x i:Nat} (hx:x∉T) (hn:(P i).Nodup) (hi:x∈P i):cnt P T i=cnt P (T++[x]) i+1:=by
 unfold cnt;rw [zjh hx _ hn,if_pos hi]; omega
theorem z177 {P:Nat→List Nat} {T:List Nat} {x i:Nat} (hx:x∉T) (hn:(P i).Nodup) (hi:x∉P i):cnt P T i=cnt P (T++[x]) i:=by
 unfold cnt;rw [zjh hx _ hn,if_neg hi]; omega
structure z16o (P:Nat→List Nat) (n:Nat):Prop where
 n60:n≤60
 nodup:∀ i,(P i).Nodup
 four:∀ i,(P i).length≤4
 lt:∀ i,∀ p∈P i,p<n
def over (P:Nat→List Nat) (n x:Nat):List Nat:=(List.range n).filter fun k=>decide (x∈P k)
theorem zw2 {P:Nat→List Nat} {n x k:Nat}:k∈over P n x↔k<n∧x∈P k:=by unfold over; simp
theorem zyu (P:Nat→List Nat) (n x:Nat):(over P n x).Nodup:=List.Pairwise.filter _ List.nodup_range
structure Got (P:Nat→List Nat) (n:Nat) (Q:List Nat):Prop where
 nodup:Q.Nodup
 lt:∀ x∈Q,x<n
 wf:∀ x∈Q,Wf P x
theorem Got.len {P:Nat→List Nat} {n:Nat} {Q:List Nat} (h:Got P n Q):Q.length≤n:=by
 have:=zcz Q (List.range n) h.nodup fun x hx=>by simpa using h.lt x hx
 simpa using this
variable {P:Nat→List Nat} {n:Nat}
theorem z19a (E:z16o P n) (Q:List Nat) (pos:Nat) (hp:pos<Q.length) (hQ:Got P n Q) (hd:∀ i,i<n→(i∈Q↔cnt P (Q.take pos) i=0)) :
  ∃ b:List Int × List Int,iter (zau (il (over P n Q[pos]))) (tab n (cnt P (Q.take pos)),il Q,0)=some b∧∃ R,b=(tab n (cnt P ((Q++R).take (pos+1))),il (Q++R))∧Got P n (Q++R)∧∀ i,i<n→(i∈Q++R↔cnt P ((Q++R).take (pos+1)) i=0):=by
 have hx:Q[pos]∉Q.take pos:=by
  intro hm;obtain ⟨j,hj,e⟩:=List.getElem_of_mem hm;rw [List.getElem_take] at e;rw [List.length_take] at hj
  have:=zkc hQ.nodup _ _ e
  omega
 have htk:∀ R:List Nat,(Q++R).take (pos+1)=Q.take pos++[Q[pos]]:=fun R=>by
  rw [List.take_append_of_le_length (by omega),List.take_add_one,List.getElem?_eq_getElem hp]; rfl
 let T:=Q.take pos
 let x:=Q[pos]
 have hwx:Wf P x:=hQ.wf x (List.getElem_mem hp);have hwT:∀ y∈T,Wf P y:=fun y hy=>hQ.wf y (List.mem_of_mem_take hy)
 let c:=fun (j i:Nat)=>if i∈(over P n x).take j then cnt P (T++[x]) i else cnt P T i
 have hc_in:∀ j i,i∈(over P n x).take j→c j i=cnt P (T++[x]) i:=fun j i h=>if_pos h;have hc_out:∀ j i,i∉(over P n x).take j→c j i=cnt P T i:=fun j i h=>if_neg h;have hcnt2:∀ i,cnt P (T++[x]) i=0→Wf P i:=fun i hi=>.mk i fun p hpi=>by
  have:=zxk.1 hi p hpi
  rcases List.mem_append.1 this with h | h
  ·exact hwT p h
  ·rw [List.mem_singleton] at h; subst h; exact hwx
 have main:=z7b (F:=zau (il (over P n x))) (over P n x).length
  (fun j st=>∃ R,st=(tab n (c j),il (Q++R),(j:Int))∧Got P n (Q++R)∧∀ i,i<n→(i∈Q++R↔c j i=0))
  (fun b=>∃ R,b=(tab n (c (over P n x).length),il (Q++R))∧Got P n (Q++R)∧∀ i,i<n→(i∈Q++R↔c (over P n x).length i=0))
  (fun j st hj hst=>by
   obtain ⟨R,rfl,hR,hm⟩:=hst;have hyo:(over P n x)[j]∈over P n x:=List.getElem_mem hj;obtain ⟨hyn,hyx⟩:=zw2.1 hyo;have hyt:(over P n x)[j]∉(over P n x).take j:=by
    intro hm;obtain ⟨k,hk,e⟩:=List.getElem_of_mem hm;rw [List.getElem_take] at e;rw [List.length_take] at hk
    have:=zkc (zyu P n x) _ _ e
    omega
   have hcy:c j (over P n x)[j]=cnt P (T++[x]) (over P n x)[j]+1:=by
    rw [hc_out _ _ hyt]; exact z16h hx (E.nodup _) hyx
   have hcl:cnt P T (over P n x)[j]≤4:=by have:=z19f P T (over P n x)[j]; have:=E.four (over P n x)[j]; omega
   have h0:0≤cnt P (T++[x]) (over P n x)[j]:=by unfold cnt; omega
   have hcs:cnt P T (over P n x)[j]=cnt P (T++[x]) (over P n x)[j]+1:=z16h hx (E.nodup _) hyx;have hnot:(over P n x)[j]∉Q++R:=by
    rw [hm _ hyn,hcy]; omega
   have hcy1:c (j+1) (over P n x)[j]=cnt P (T++[x]) (over P n x)[j]:=by
    refine hc_in _ _ ?_;rw [List.take_add_one,List.getElem?_eq_getElem hj];exact List.mem_append.2 (.inr (List.mem_singleton.2 rfl))
   have hc1:∀ i,i≠(over P n x)[j]→c (j+1) i=c j i:=fun i hne=>by
    show (if _ then _ else _)=(if _ then _ else _)
    have:(i∈(over P n x).take (j+1))↔(i∈(over P n x).take j):=by
     rw [List.take_add_one,List.getElem?_eq_getElem hj,List.mem_append];exact ⟨fun h=>h.resolve_right fun e=>hne (List.mem_singleton.1 e),.inl⟩
    simp only [this]
   have hset:(tab n (c j)).set (over P n x)[j] (cnt P (T++[x]) (over P n x)[j])=tab n (c (j+1)):=zl2 hyn hcy1 fun i _ hne=>hc1 i hne;have hov:(over P n x).length≤n:=by
    have:=List.length_filter_le (fun k=>decide (x∈P k)) (List.range n)
    unfold over; simpa using this
   have hn60:=E.n60;have hlen:=hR.len;have hF:zau (il (over P n x)) (tab n (c j),il (Q++R),(j:Int))=if cnt P (T++[x]) (over P n x)[j]==0 then some (.inr (tab n (c (j+1)),il (Q++R)++[((over P n x)[j]:Int)],((j+1:Nat):Int))) else some (.inr (tab n (c (j+1)),il (Q++R),((j+1:Nat):Int))):=by
    unfold zau;rw [if_pos (by rw [zgj]; simpa using hj)]
    simp only [];rw [z16f hj];simp only [bS];rw [zby hyn,hcy];simp only [bS];rw [z17 (x:=_ - 1) (by omega) (by omega), show cnt P (T++[x]) (over P n x)[j]+1 - 1=cnt P (T++[x]) (over P n x)[j] by omega];simp only [bS,Int.toNat_natCast];rw [hset,zby hyn,hcy1];simp only [bS];rw [z1l (by rw [zgj]; simp only [List.length_cons,List.length_nil]; omega),z0l (by omega)];simp only [bS]
   by_cases hz:cnt P (T++[x]) (over P n x)[j]=0
   ·rw [if_pos (by simpa using hz)] at hF;refine ⟨_,hF,R++[(over P n x)[j]],?_,?_,?_⟩
    ·rw [← List.append_assoc,z11s (Q++R)]; rfl
    ·rw [← List.append_assoc];refine ⟨?_,?_,?_⟩
     ·rw [List.nodup_append]
      exact ⟨hR.nodup, by simp, fun a ha b hb e=>by
       rw [List.mem_singleton] at hb; subst hb; exact hnot (e ▸ ha)⟩
     ·intro y hy;rcases List.mem_append.1 hy with h | h
      ·exact hR.lt y h
      ·rw [List.mem_singleton] at h; subst h; exact hyn
     ·intro y hy;rcases List.mem_append.1 hy with h | h
      ·exact hR.wf y h
      ·rw [List.mem_singleton] at h; subst h; exact hcnt2 _ hz
    ·intro i hi;rw [← List.append_assoc,List.mem_append,List.mem_singleton];by_cases hne:i=(over P n x)[j]
     ·subst hne;rw [hcy1];exact ⟨fun _=>hz, fun _=>.inr rfl⟩
     ·rw [hc1 i hne,← hm i hi];exact ⟨fun h=>h.resolve_right hne,.inl⟩
   ·rw [if_neg (by simpa using hz)] at hF;refine ⟨_,hF,R,rfl,hR,?_⟩;intro i hi;by_cases hne:i=(over P n x)[j]
    ·subst hne;rw [hcy1];exact ⟨fun h=>absurd h hnot, fun h=>absurd h hz⟩
    ·rw [hc1 i hne,← hm i hi])
  (fun st hst=>by
   obtain ⟨R,rfl,hR,hm⟩:=hst;refine ⟨_,?_,R,rfl,hR,hm⟩;unfold zau
   rw [if_neg (by rw [zgj]; simp)])
  (tab n (cnt P T),il Q,((0:Nat):Int)) 0 (Nat.zero_le _) ⟨[], by rw [List.append_nil]; rfl, by rw [List.append_nil]; exact hQ, by rw [List.append_nil]; exact hd⟩
 have hend:∀ i,i<n→c (over P n x).length i=cnt P (T++[x]) i:=fun i hi=>by
  by_cases hm:i∈over P n x
  ·exact hc_in _ _ (by rw [List.take_length]; exact hm)
  ·rw [hc_out _ _ (by rw [List.take_length]; exact hm)];exact z177 hx (E.nodup i) fun h=>hm (zw2.2 ⟨hi,h⟩)
 obtain ⟨b,h1,R,h2,h3,h4⟩:=main;refine ⟨b,h1,R,?_,h3, fun i hi=>?_⟩
 ·rw [h2,htk R]
  congr 1
  exact zjy hend
 ·rw [h4 i hi,hend i hi,htk R]
theorem z1bb (E:z16o P n) (s:List Int × List (List Int) × List Int) (hs:s.2.1=tab n fun x=>il (over P n x)):∃ b:Int,iter (zcc s) (tab n (cnt P []),il ((List.range n).filter fun k=>decide ((P k).length=0)),0)=some b∧∃ Q:List Nat,b=(Q.length:Int)∧Q.Nodup∧∀ i,i∈Q↔i<n∧Wf P i:=by
 have hn60:=E.n60;refine zfi (F:=zcc s)
  (fun st=>∃ (Q:List Nat) (pos:Nat),st=(tab n (cnt P (Q.take pos)),il Q,(pos:Int))∧pos≤Q.length∧Got P n Q∧∀ i,i<n→(i∈Q↔cnt P (Q.take pos) i=0))
  (fun st=>n - st.2.2.toNat) _ ?_ _ ⟨(List.range n).filter fun k=>decide ((P k).length=0),0, by rw [List.take_zero]; rfl,Nat.zero_le _,?_,?_⟩
 ·rintro st ⟨Q,pos,rfl,h1,h2,h3⟩
  have hlen:=h2.len;by_cases hp:pos<Q.length
  ·right
   obtain ⟨b,e1,R,rfl,e3,e4⟩:=z19a E Q pos hp h2 h3;have hx:=h2.lt _ (List.getElem_mem hp);refine ⟨_,?_,⟨Q++R,pos+1,rfl, by rw [List.length_append]; omega,e3,e4⟩,?_⟩
   ·unfold zcc;rw [if_pos (by rw [zgj]; simpa using hp)]
    simp only [];rw [z16f hp,hs];simp only [bS];rw [zby hx];simp only [bS];rw [e1,z0l (by omega)];simp only [bS]
   ·simp only [Int.toNat_natCast]; omega
  ·left
   have hpe:pos=Q.length:=by omega
   subst hpe;refine ⟨(Q.length:Int),?_,Q,rfl,h2.nodup, fun i=>⟨fun h=>⟨h2.lt i h,h2.wf i h⟩, fun h=>?_⟩⟩
   ·unfold zcc;rw [if_neg (by rw [zgj]; simp)]
   ·obtain ⟨hi,hw⟩:=h;rw [List.take_length] at h3
    revert hi
    induction hw with
    | mk i hpi ih =>
     intro hi;rw [h3 i hi,zxk];exact fun p hpp=>ih p hpp (E.lt i p hpp)
 ·refine ⟨List.Pairwise.filter _ List.nodup_range, fun x hx=>?_, fun x hx=>?_⟩
  ·simp only [List.mem_filter,List.mem_range] at hx; exact hx.1
  ·simp only [List.mem_filter,List.mem_range,decide_eq_true_eq] at hx;refine .mk x fun p hp=>?_;rw [List.length_eq_zero_iff.1 hx.2] at hp; simp at hp
 ·intro i hi;rw [List.take_zero,z11h];simp only [List.mem_filter,List.mem_range,decide_eq_true_eq];omega
end
section
open Go
variable {g:z01}
theorem zdz (h:zgz g=true) (i:Nat):∀ x∈zy8 g i,x∈g.IDs:=by
 unfold zy8;by_cases hi:i<g.Ops.length
 ·rw [List.getElem?_eq_getElem hi];unfold zgz at h;rw [List.all_eq_true] at h
  have:=h _ (List.getElem_mem hi)
  rw [List.all_eq_true] at this;exact fun x hx=>by simpa using this x hx
 ·rw [List.getElem?_eq_none (by omega)];exact fun x hx=>by simp at hx
theorem z16w (E:zbq g) (h:zgz g=true):z16o (z2n g) g.Ops.length:=by
 refine ⟨E.len, fun i=>?_, fun i=>?_, fun i p hp=>?_⟩
 ·unfold z2n;rw [List.Nodup,List.pairwise_map];exact (E.nodup i).imp_of_mem fun {a b} ha hb hne e=>hne (znx (zdz h i b hb) e)
 ·unfold z2n; rw [List.length_map]; exact E.four i
 ·unfold z2n at hp;rw [List.mem_map] at hp;obtain ⟨x,hx,rfl⟩:=hp;rw [← E.ids];exact List.idxOf_lt_length_of_mem (zdz h i x hx)
def zm7 (g:z01) (i:Nat):ID:=match g.IDs[i]? with | some x=>x | none=>z32
theorem z69 {i:Nat} (h:i<g.IDs.length):zm7 g i=g.IDs[i]:=by unfold zm7; rw [List.getElem?_eq_getElem h]
theorem zqi {x:ID} (h:x∈g.IDs):zm7 g (g.IDs.idxOf x)=x:=by
 rw [z69 (List.idxOf_lt_length_of_mem h)]; simp
theorem zr6 (E:zbq g) {i:Nat} (h:i<g.Ops.length):g.IDs.idxOf (zm7 g i)=i:=by
 have hi:i<g.IDs.length:=by rw [E.ids]; exact h
 rw [z69 hi]; exact zc7 E.ri hi
theorem zpr (E:zbq g) {Q:List Nat} (hQ:∀ x∈Q,x<g.Ops.length) {x:ID} (hx:x∈g.IDs):x∈Q.map (zm7 g)↔g.IDs.idxOf x∈Q:=by
 rw [List.mem_map]
 constructor
 ·rintro ⟨q,hq,rfl⟩; rw [zr6 E (hQ q hq)]; exact hq
 ·exact fun h=>⟨_,h,zqi hx⟩
theorem zyt (E:zbq g) (h:zgz g=true) {Q:List Nat} (hQ:∀ x∈Q,x<g.Ops.length) (i:Nat):((zy8 g i).all fun x=>decide (x∈Q.map (zm7 g)))=decide (∀ p∈z2n g i,p∈Q):=by
 rw [Bool.eq_iff_iff,List.all_eq_true,decide_eq_true_iff];unfold z2n
 constructor
 ·intro hx p hp;rw [List.mem_map] at hp;obtain ⟨x,hx',rfl⟩:=hp;exact (zpr E hQ (zdz h i x hx')).1 (by simpa using hx x hx')
 ·intro hp x hx;rw [decide_eq_true_iff];exact (zpr E hQ (zdz h i x hx)).2 (hp _ (List.mem_map.2 ⟨x,hx,rfl⟩))
def Topo (P:Nat→List Nat) (Q:List Nat):Prop:=∀ k (h:k<Q.length),∀ p∈P Q[k],p∈Q.take k
theorem Topo.snoc {P:Nat→List Nat} {Q:List Nat} {i:Nat} (h:Topo P Q) (hi:∀ p∈P i,p∈Q):Topo P (Q++[i]):=by
 intro k hk p hp;by_cases hkq:k<Q.length
 ·rw [List.getElem_append_left hkq] at hp;rw [List.take_append_of_le_length (by omega)];exact h k hkq p hp
 ·have hk':k=Q.length:=by simp at hk; omega
  subst hk';rw [List.getElem_append_right (by omega)] at hp;simp at hp;rw [List.take_left' rfl];exact hi p hp
def zmj (g:z01) (Q:List Nat) (b:Bool):(List Int) × (List ID) × (List Bool) × Bool:=(il Q,Q.map (zm7 g),tab g.Ops.length (fun i=>decide (i∈Q)),b)
theorem z19p (E:zbq g) (h:zgz g=true) (Q:List Nat) (hQ:Got (z2n g) g.Ops.length Q) (hT:Topo (z2n g) Q) :
  ∃ b:Sum (List Int) ((List Int) × (List ID) × (List Bool) × Bool),iter (z3w g (zmj g Q true)) 0=some b ∧
   ((∃ i,b=.inr (zmj g (Q++[i]) true)∧Got (z2n g) g.Ops.length (Q++[i])∧Topo (z2n g) (Q++[i])∧i<g.Ops.length∧i∉Q∧(∀ p∈z2n g i,p∈Q)∧∀ k,k<i→(∀ p∈z2n g k,p∈Q)→k∈Q)∨(b=.inr (zmj g Q false)∧∀ i,i<g.Ops.length→(∀ p∈z2n g i,p∈Q)→i∈Q)):=by
 have hlen:=E.len;have hql:=hQ.len;refine zfi (F:=z3w g (zmj g Q true)) (fun s=>∃ i:Nat,s=(i:Int)∧i≤g.Ops.length∧∀ k,k<i→(∀ p∈z2n g k,p∈Q)→k∈Q) (fun s=>g.Ops.length - s.toNat) _ ?_ _ ⟨0,rfl,Nat.zero_le _, fun k hk=>by omega⟩
 rintro s ⟨i,rfl,h1,h2⟩
 by_cases hi:i<g.Ops.length
 ·have hcond:(idx (tab g.Ops.length fun i=>decide (i∈Q)) (i:Int) >>= fun x12=>if !x12 then idx g.Ops (i:Int) >>= fun x15=>z3p (Q.map (zm7 g)) x15.Preds >>= fun r17=>some r17 else some false)=some (!decide (i∈Q)&&decide (∀ p∈z2n g i,p∈Q)):=by
   rw [zby hi];simp only [bS];by_cases hm:i∈Q
   ·rw [decide_eq_true hm]; rfl
   ·rw [decide_eq_false hm,if_pos (by simp),z0k hi];simp only [bS];have h4:=(E.op i hi).1;rw [zzo _ _ (by rw [List.length_map]; omega) (by omega)];simp only [bS];rw [← z7l hi,zyt E h hQ.lt]; rfl
  by_cases hm:i∈Q
  ·right
   refine ⟨((i+1:Nat):Int),?_,⟨i+1,rfl,hi, fun k hk hp=>?_⟩, by simp; omega⟩
   ·unfold z3w;rw [if_pos (by simpa using hi)];show ((idx (tab g.Ops.length fun i=>decide (i∈Q)) (i:Int) >>= fun x12=>if !x12 then idx g.Ops (i:Int) >>= fun x15=>z3p (Q.map (zm7 g)) x15.Preds >>= fun r17=>some r17 else some false) >>= _)=_;rw [hcond,decide_eq_true hm,z0l (by omega)];rfl
   ·by_cases hk':k=i
    ·subst hk'; exact hm
    ·exact h2 k (by omega) hp
  ·by_cases hp:∀ p∈z2n g i,p∈Q
   ·left
    refine ⟨_,?_,.inl ⟨i,rfl,?_,hT.snoc hp,hi,hm,hp,h2⟩⟩
    ·have hii:i<g.IDs.length:=by rw [E.ids]; exact hi
     unfold z3w;rw [if_pos (by simpa using hi)];show ((idx (tab g.Ops.length fun i=>decide (i∈Q)) (i:Int) >>= fun x12=>if !x12 then idx g.Ops (i:Int) >>= fun x15=>z3p (Q.map (zm7 g)) x15.Preds >>= fun r17=>some r17 else some false) >>= _)=_;rw [hcond,decide_eq_false hm,decide_eq_true hp];simp only [bS];rw [if_pos (by simp),z0k hii];simp only [bS];rw [show (zmj g Q true).1=il Q from rfl, show (zmj g Q true).2.1=Q.map (zm7 g) from rfl, show (zmj g Q true).2.2.1=tab g.Ops.length (fun i=>decide (i∈Q)) from rfl]
     rw [z1l (by rw [zgj]; simp only [List.length_cons,List.length_nil]; omega)];simp only [bS];rw [z1l (by rw [List.length_map]; simp only [List.length_cons,List.length_nil]; omega),zby hi];simp only [bS,Int.toNat_natCast];rw [zl2 (g:=fun j=>decide (j∈Q++[i])) hi (by simp) (fun j _ hj=>by simp [hj])];unfold zmj;rw [z11s,List.map_append,← z69 hii];rfl
    ·refine ⟨?_,?_,?_⟩
     ·rw [List.nodup_append]
      exact ⟨hQ.nodup, by simp, fun a ha b hb e=>by
       rw [List.mem_singleton] at hb; subst hb; exact hm (e ▸ ha)⟩
     ·intro y hy;rcases List.mem_append.1 hy with h | h
      ·exact hQ.lt y h
      ·rw [List.mem_singleton] at h; subst h; exact hi
     ·intro y hy;rcases List.mem_append.1 hy with h | h
      ·exact hQ.wf y h
      ·rw [List.mem_singleton] at h; subst h; exact .mk _ fun p hpp=>hQ.wf p (hp p hpp)
   ·right
    refine ⟨((i+1:Nat):Int),?_,⟨i+1,rfl,hi, fun k hk hpk=>?_⟩, by simp; omega⟩
    ·unfold z3w;rw [if_pos (by simpa using hi)];show ((idx (tab g.Ops.length fun i=>decide (i∈Q)) (i:Int) >>= fun x12=>if !x12 then idx g.Ops (i:Int) >>= fun x15=>z3p (Q.map (zm7 g)) x15.Preds >>= fun r17=>some r17 else some false) >>= _)=_;rw [hcond,decide_eq_false hp,z0l (by omega),Bool.and_false];rfl
    ·by_cases hk':k=i
     ·subst hk'; exact absurd hpk hp
     ·exact h2 k (by omega) hpk
 ·left
  have:i=g.Ops.length:=by omega
  subst this;refine ⟨_,?_,.inr ⟨rfl,h2⟩⟩;unfold z3w;rw [if_neg (by simp)];rfl
theorem zww (E:zbq g) (h:zgz g=true):∃ Q:List Nat,zag g=some (il Q)∧Got (z2n g) g.Ops.length Q∧Topo (z2n g) Q∧∀ i,i∈Q↔i<g.Ops.length∧Wf (z2n g) i:=by
 have hP:=z16w E h;have hlen:=E.len;have main:=zfi (F:=z89 g)
  (fun s=>∃ Q b,s=zmj g Q b∧Got (z2n g) g.Ops.length Q∧Topo (z2n g) Q∧(b=false→∀ i,i<g.Ops.length→(∀ p∈z2n g i,p∈Q)→i∈Q))
  (fun s=>(g.Ops.length - s.1.length)+(if s.2.2.2 then 1 else 0))
  (fun r=>∃ Q:List Nat,r=il Q∧Got (z2n g) g.Ops.length Q∧Topo (z2n g) Q∧∀ i,i∈Q↔i<g.Ops.length∧Wf (z2n g) i)
  (fun s hs=>by
   obtain ⟨Q,b,rfl,h1,h2,h3⟩:=hs;have hql:=h1.len
   cases b with
   | false =>
    left
    refine ⟨il Q,rfl,Q,rfl,h1,h2, fun i=>⟨fun hi=>⟨h1.lt i hi,h1.wf i hi⟩, fun hi=>?_⟩⟩;obtain ⟨hi,hw⟩:=hi
    revert hi
    induction hw with
    | mk i hpi ih=>exact fun hi=>h3 rfl i hi fun p hp=>ih p hp (hP.lt i p hp)
   | true =>
    right
    obtain ⟨r,e1,e2⟩:=z19p E h Q h1 h2;rcases e2 with ⟨i,rfl,e3,e4,_⟩ | ⟨rfl,e3⟩
    ·refine ⟨_,?_,⟨Q++[i],true,rfl,e3,e4, by simp⟩,?_⟩
     ·unfold z89;exact (if_pos rfl).trans e1
     ·have:=e3.len
      simp only [zmj,zgj,List.length_append,List.length_cons,List.length_nil] at this ⊢;omega
    ·refine ⟨_,?_,⟨Q,false,rfl,h1,h2, fun _=>e3⟩,?_⟩
     ·unfold z89;exact (if_pos rfl).trans e1
     ·simp [zmj])
  ([],[],List.replicate g.Ops.length false,true) ⟨[],true, by unfold zmj; rw [zh4]; simp [il],⟨by simp, by simp, by simp⟩, fun k hk=>by simp at hk, by simp⟩
 obtain ⟨r,e1,Q,rfl,e2,e3,e4⟩:=main;refine ⟨Q,?_,e2,e3,e4⟩;unfold zag;rw [zks (by omega) (by omega)];simp only [bS];rw [e1];simp only [bS]
theorem zxb {n:Nat} {Q:List Nat} (hn:Q.Nodup) (hl:∀ x∈Q,x<n):¬ Q.length<n↔∀ i,i<n→i∈Q:=by
 constructor
 ·intro h i hi;refine Decidable.byContradiction fun hm=>?_
  have:=zcz (i::Q) (List.range n) (List.nodup_cons.2 ⟨hm,hn⟩) fun x hx=>by
   rcases List.mem_cons.1 hx with rfl | hx
   ·simpa using hi
   ·simpa using hl x hx
  simp at this; omega
 ·intro h
  have:=zcz (List.range n) Q List.nodup_range fun x hx=>h x (by simpa using hx)
  simp at this; omega
def z1b4 (g:z01):Prop:=∀ i,i<g.Ops.length→Wf (z2n g) i
theorem zw7 (hl:g.Ops.length≤60) (hi:g.IDs.length=g.Ops.length) (ho:∀ i (h:i<g.Ops.length),(g.Ops[i]).Preds.length≤4∧z8a (g.Ops[i]).Preds=true) :
  ∃ c:Int,zgo g=some c∧zak g=some c∧(c=0↔z8a g.IDs=true∧zgz g=true∧z1b4 g):=by
 have s0:=z13h g (by omega);unfold zgo zak;rw [s0,ztt _ (by omega)];simp only [bS];by_cases hr:z8a g.IDs=true
 ·rw [if_pos hr,hr,if_neg (by simp),zks (by omega) (by omega)];simp only [bS];rw [zks (by omega) (by omega)];simp only [bS];have E:zbq g:=⟨hl,hi,hr,ho⟩
  have h2:=z15q E g.Ops [] rfl;have h3:=zqc E g.Ops [] rfl;have i1:tab g.Ops.length (zhz g 0)=List.replicate g.Ops.length 0:=by
   rw [zh4]; exact zjy fun j _=>by unfold zhz; rw [if_neg (by omega)]
  have i2:tab g.Ops.length (fun x=>il (zgw g 0 x))=List.replicate g.Ops.length []:=by
   rw [zh4]; exact zjy fun j _=>by unfold zgw; simp [il]
  have i3:il (ready g 0)=[]:=by unfold ready; simp [il]
  simp only [List.length_nil] at h2 h3;rw [i1,i2,i3] at h2;rw [show (0:Int)=((0:Nat):Int) from rfl] at *;rw [h2,h3]
  cases ha:g.Ops.all fun o=>o.Preds.all fun x=>decide (x∈g.IDs) with
  | false=>exact ⟨40,rfl,rfl, by simp [zgz,ha]⟩
  | true =>
   have ha':zgz g=true:=ha;obtain ⟨Q,q1,q2,q3,q4⟩:=zww E ha';have hP:=z16w E ha';have i4:tab g.Ops.length (zhz g g.Ops.length)=tab g.Ops.length (cnt (z2n g) []):=zjy fun j hj=>by
    unfold zhz; rw [if_pos hj,z11h]
   obtain ⟨b,k1,R,rfl,k2,k3⟩:=z1bb hP (tab g.Ops.length (zhz g g.Ops.length),tab g.Ops.length (fun x=>il (zgw g g.Ops.length x)),il (ready g g.Ops.length)) rfl;have hRQ:R.length=Q.length:=zz6 k2 q2.nodup fun x=>by rw [k3,q4]
   simp only [if_true,zq5];rw [i4] at k1;rw [i4, show il (ready g g.Ops.length)=il ((List.range g.Ops.length).filter fun k=>decide ((z2n g k).length=0)) from rfl] at *;rw [show ((0:Nat):Int)=0 from rfl] at *;rw [k1,q1];simp only [bS];rw [zgj,hRQ];have hfull:=zxb q2.nodup q2.lt;by_cases hc:Q.length<g.Ops.length
   ·rw [if_pos (by simpa using hc)];refine ⟨36,rfl,rfl, by simp, fun h=>?_⟩
    have:=hfull.2 fun i hi=>(q4 i).2 ⟨hi,h.2.2 i hi⟩
    exact absurd hc this
   ·rw [if_neg (by simpa using hc)];exact ⟨0,rfl,rfl, fun _=>⟨by first | exact hr | trivial,ha', fun i hi=>((q4 i).1 (hfull.1 hc i hi)).2⟩, fun _=>rfl⟩
 ·have hr':z8a g.IDs=false:=by simpa using hr
  rw [if_neg hr,hr'];exact ⟨32,rfl,rfl, by simp [hr']⟩
def z1bi (g:z01):Prop:=∀ i (h:i<g.Ops.length),zk9 g.Ops[i]=0∧sha (z7h g.Ops[i])=zm7 g i
structure zbi (g:z01):Prop where
 e:zbq g
 ops:z1bi g
 ins:zgz g=true
 wf:z1b4 g
theorem z7o {a:z05} (h:zk9 a=0):z1v a=0:=by
 unfold zk9 at h;by_cases hc:z1v a=0
 ·exact hc
 ·rw [if_neg hc] at h; exact h
theorem zy0 {g:z01} (h:z3o g) {o:z05} (ho:o∈g.Ops):inI o.Act.Value.Num∧o.Act.Value.Text.length≤9223372036854775807:=by
 have:=h.2.1.1 o ho
 exact ⟨this.2.2.2.1.2.2.1.2.1,this.2.2.2.1.2.2.1.2.2.2.1⟩
def zjv (g:z01) (i:Nat) (o:z05):Bool:=decide (zk9 o=0)&&decide (sha (z7h o)=zm7 g i)
theorem z15l (hw:z3o g) (hl:g.Ops.length≤60) (hi:g.IDs.length=g.Ops.length):∀ (k i:Nat),g.Ops.length - i=k→i≤g.Ops.length →
  ∃ r:Sum Int Unit,iter (zc9 g) (i:Int)=some r∧iter (z67 g) (i:Int)=some r∧((r=.inr ()∧∀ j (h:j<g.Ops.length),i≤j→zjv g j g.Ops[j]=true)∨(r=.inl 8∧∃ j,∃ h:j<g.Ops.length,zjv g j g.Ops[j]=false)):=by
 intro k
 induction k with
 | zero =>
  intro i hk hle;refine ⟨.inr (),z1r ?_,z1r ?_,.inl ⟨rfl, fun j hj hij=>by omega⟩⟩
  ·unfold zc9; rw [if_neg (by simp; omega)]
  ·unfold z67; rw [if_neg (by simp; omega)]
 | succ k ih =>
  intro i hk hle;have hlt:i<g.Ops.length:=by omega
  have hii:i<g.IDs.length:=by omega
  obtain ⟨w1,w2⟩:=zy0 hw (List.getElem_mem hlt);have e1:zc9 g (i:Int)=if zjv g i g.Ops[i] then some (.inr ((i+1:Nat):Int)) else some (.inl (.inl 8)):=by
   unfold zc9 zjv;rw [if_pos (by simpa using hlt),z0k hlt];simp only [bS];rw [zky _ w1 w2,z0l (by omega)];simp only [bS];by_cases hc:z1v g.Ops[i]=0
   ·rw [if_pos hc];simp only [];rw [if_neg (by simp),z0k hii,← z69 hii];simp only [bS];by_cases hs:sha (z7h g.Ops[i])=zm7 g i
    ·rw [decide_eq_true hs,if_neg (by simp),ziw _ w1 w2];simp only [bS];by_cases hb:zk9 g.Ops[i]=0
     ·rw [hb]; rfl
     ·rw [if_pos (by simpa using hb),decide_eq_false hb]; rfl
    ·rw [decide_eq_false hs,Bool.and_false]; rfl
   ·have hb:zk9 g.Ops[i]≠0:=fun h=>hc (z7o h);rw [if_neg hc,decide_eq_false hb];simp only [];rw [if_pos (by simpa using hc)]; rfl
  have e2:z67 g (i:Int)=if zjv g i g.Ops[i] then some (.inr ((i+1:Nat):Int)) else some (.inl (.inl 8)):=by
   unfold z67 zjv;rw [if_pos (by simpa using hlt),z0k hlt];simp only [bS];rw [ztq _ w1 w2,z0l (by omega)];simp only [bS];by_cases hb:zk9 g.Ops[i]=0
   ·rw [hb,if_neg (by simp),z0k hii,← z69 hii,zwt _ (z7o hb) w1];simp only [bS];by_cases hs:sha (z7h g.Ops[i])=zm7 g i
    ·rw [decide_eq_true hs]; rfl
    ·rw [decide_eq_false hs]; rfl
   ·rw [if_pos (by simpa using hb),decide_eq_false hb]; rfl
  cases hg:zjv g i g.Ops[i] with
  | false =>
   rw [hg] at e1 e2;exact ⟨_,z1r e1,z1r e2,.inr ⟨rfl,i,hlt,hg⟩⟩
  | true =>
   rw [hg] at e1 e2;obtain ⟨r,h1,h2,h3⟩:=ih (i+1) (by omega) (by omega);refine ⟨r, by rw [z2c e1]; exact h1, by rw [z2c e2]; exact h2,?_⟩;rcases h3 with ⟨h3,h4⟩ | h3
   ·refine .inl ⟨h3, fun j hj hij=>?_⟩;by_cases hji:j=i
    ·subst hji; exact hg
    ·exact h4 j hj (by omega)
   ·exact .inr h3
theorem zw5 (hw:z3o g):∃ c:Int,z7v g=some c∧zal g=some c∧(c=0↔zbi g):=by
 unfold z7v zal;by_cases hl:60<g.Ops.length
 ·have d:decide (60<(g.Ops.length:Int))=true:=by simp; omega
  rw [d];exact ⟨4,rfl,rfl, by simp, fun h=>by have:=h.e.len; omega⟩
 have d:decide (60<(g.Ops.length:Int))=false:=by simp; omega
 simp only [d,Bool.false_eq_true,if_false];by_cases hi:g.IDs.length=g.Ops.length
 ·have d2:((g.IDs.length:Int) != (g.Ops.length:Int))=false:=by simp; omega
  simp only [d2,Bool.false_eq_true,if_false];obtain ⟨r,h1,h2,h3⟩:=z15l hw (by omega) hi g.Ops.length 0 rfl (by omega);rw [show (0:Int)=((0:Nat):Int) from rfl,h1,h2];rcases h3 with ⟨rfl,h4⟩ | ⟨rfl,j,hj,h4⟩
  ·have hok:z1bi g:=fun i h=>by
    have:=h4 i h (by omega)
    unfold zjv at this
    simpa using this
   obtain ⟨c,s1,s2,s3⟩:=zw7 (g:=g) (by omega) hi fun i h=>⟨(z40 (z7o (hok i h).1)).1,(z40 (z7o (hok i h).1)).2.1⟩;refine ⟨c,?_,?_,s3.trans ⟨fun ⟨a,b,d⟩=>⟨⟨by omega,hi,a, fun i h=>⟨(z40 (z7o (hok i h).1)).1,(z40 (z7o (hok i h).1)).2.1⟩⟩,hok,b,d⟩, fun h=>⟨h.e.ri,h.ins,h.wf⟩⟩⟩
   ·simp only [zq5]; rw [s1]; simp only [bS]
   ·simp only [zq5]; rw [s2]; simp only [bS]
  ·refine ⟨8,rfl,rfl, by simp, fun h=>?_⟩
   have:=h.ops j hj
   unfold zjv at h4;simp [this] at h4
 ·have d2:((g.IDs.length:Int) != (g.Ops.length:Int))=true:=by simp; omega
  rw [d2];exact ⟨8,rfl,rfl, by simp, fun h=>absurd h.e.ids hi⟩
end
section
open Go
variable {g:z01}
theorem zev {κ β:Type} [DecidableEq κ] (k:κ) (v:β) (x:κ):∀ m:List (κ × β),zbr (zlg m k v) x=if x=k then some v else zbr m x
 | []=>rfl
 | p::m=>by
  have ih:=zev k v x m;unfold zlg;by_cases h:k=p.1
  ·rw [if_pos h];show (if x=p.1 then some v else zbr m x)=if x=k then some v else if x=p.1 then some p.2 else zbr m x
   rw [← h];by_cases hx:x=k
   ·rw [if_pos hx,if_pos hx]
   ·rw [if_neg hx,if_neg hx,if_neg hx]
  ·rw [if_neg h];show (if x=p.1 then some p.2 else zbr (zlg m k v) x)=if x=k then some v else if x=p.1 then some p.2 else zbr m x
   rw [ih];by_cases hx:x=p.1
   ·rw [if_pos hx,if_pos hx,if_neg (fun e=>h (by rw [← hx,e]))]
   ·rw [if_neg hx,if_neg hx]
def zo3 (g:z01) (m:List (ID × Int)):Prop:=∀ x∈g.IDs,(zbr m x).getD 0=(g.IDs.idxOf x:Int)
theorem zs2 (E:zbq g):∃ m,z4w g=some m∧zo3 g m:=by
 have hlen:=E.len;have hids:=E.ids;have main:=z7b (F:=z48 g) g.IDs.length
  (fun i s=>s.2=(i:Int)∧∀ x,x∈g.IDs→g.IDs.idxOf x<i→(zbr s.1 x).getD 0=(g.IDs.idxOf x:Int))
  (fun m=>zo3 g m)
  (fun i s hi hs=>by
   obtain ⟨m,i'⟩:=s;obtain ⟨h1,h2⟩:=hs;simp only at h1 h2;subst h1;refine ⟨(zlg m g.IDs[i] (i:Int),((i+1:Nat):Int)),?_,rfl, fun x hx hlt=>?_⟩
   ·unfold z48;rw [if_pos (by simpa using hi)];simp only [];rw [z0k hi,z0l (by omega)];simp only [bS]
   ·simp only [];rw [zev];by_cases he:x=g.IDs[i]
    ·rw [if_pos he,he,zc7 E.ri hi]; rfl
    ·rw [if_neg he];refine h2 x hx ?_;have hne:g.IDs.idxOf x≠i:=fun e=>he (by subst e; simp)
     omega)
  (fun s hs=>by
   obtain ⟨m,i'⟩:=s;obtain ⟨h1,h2⟩:=hs;simp only at h1 h2;subst h1;refine ⟨m,?_, fun x hx=>h2 x hx (List.idxOf_lt_length_of_mem hx)⟩;unfold z48
   rw [if_neg (by simp)])
  (([]:List (ID × Int)),0) 0 (Nat.zero_le _) ⟨rfl, fun x hx h=>by omega⟩
 obtain ⟨m,h1,h2⟩:=main;refine ⟨m,?_,h2⟩;unfold z4w;rw [h1];simp only [bS]
inductive Rch (P:Nat→List Nat) (S:List Nat):Nat→Prop
 | base {i:Nat}:i∈S→Rch P S i
 | step {i p:Nat}:Rch P S i→p∈P i→Rch P S p
def unm (n:Nat) (m:Nat→Bool):List Nat:=(List.range n).filter fun i=>!m i
theorem zs1 (n:Nat) (m:Nat→Bool):(unm n m).Nodup:=List.Pairwise.filter _ List.nodup_range
theorem zr0 {n:Nat} {m:Nat→Bool} {i:Nat}:i∈unm n m↔i<n∧m i=false:=by unfold unm; simp
theorem z169 {n:Nat} {m m':Nat→Bool} (h:∀ i,m i=true→m' i=true):(unm n m').length≤(unm n m).length :=
 zcz _ _ (zs1 n m') fun x hx=>by
  rw [zr0] at *;refine ⟨hx.1,?_⟩
  cases hm:m x with
  | false=>rfl
  | true=>have:=h x hm; rw [hx.2] at this; exact absurd this (by simp)
theorem z1b6 {n:Nat} {m m':Nat→Bool} (h:∀ i,m i=true→m' i=true) {y:Nat} (hy:y<n) (h1:m y=false) (h2:m' y=true):(unm n m').length<(unm n m).length:=by
 have hin:y∈unm n m:=zr0.2 ⟨hy,h1⟩
 have:=zcz (unm n m') ((unm n m).erase y) (zs1 n m') fun x hx=>by
  have hne:x≠y:=fun e=>by subst e; rw [zr0] at hx; rw [h2] at hx; exact absurd hx.2 (by simp)
  rw [List.mem_erase_of_ne hne];rw [zr0] at *;refine ⟨hx.1,?_⟩
  cases hm:m x with
  | false=>rfl
  | true=>have:=h x hm; rw [hx.2] at this; exact absurd this (by simp)
 rw [List.length_erase_of_mem hin] at this
 have:=List.length_pos_of_mem hin
 omega
structure Grow (P:Nat→List Nat) (S:List Nat) (m m':Nat→Bool):Prop where
 sub:∀ i,m i=true→m' i=true
 src:∀ i∈S,m' i=true
 new:∀ i,m' i=true→m i=true∨Rch P S i
 clo:∀ i,m' i=true→m i=true∨∀ p∈P i,m' p=true
theorem zx0 {i:Nat} {x:ID} (h:zgz g=true) (hx:x∈zy8 g i):x∈g.IDs∧g.IDs.idxOf x∈z2n g i:=⟨zdz h i x hx,List.mem_map.2 ⟨x,hx,rfl⟩⟩
theorem Rch.mono {P:Nat→List Nat} {S T:List Nat} (h:∀ x∈S,x∈T) {i:Nat} (hr:Rch P S i):Rch P T i:=by
 induction hr with
 | base h1=>exact .base (h _ h1)
 | step _ h2 ih=>exact .step ih h2
theorem Rch.thru {P:Nat→List Nat} {S T:List Nat} (h:∀ x∈S,Rch P T x) {i:Nat} (hr:Rch P S i):Rch P T i:=by
 induction hr with
 | base h1=>exact h _ h1
 | step _ h2 ih=>exact .step ih h2
theorem z15o (E:zbq g) {σ:Type} (xs:List ID) (hxs:∀ x∈xs,x∈g.IDs) (hl:xs.length≤100) (F:(List Bool × Int)→Option (Sum (List Bool) (List Bool × Int))) (V:ID→List Bool→Option (List Bool)) (m0:Nat→Bool) (N:Nat)
  (hF:∀ m (i:Nat) (h:i<xs.length),F (m,(i:Int))=(V xs[i] m >>= fun r=>some (.inr (r,((i+1:Nat):Int))))) (hF2:∀ m,F (m,(xs.length:Int))=some (.inl m))
  (hV:∀ m x,x∈xs→(∀ i,m0 i=true→m i=true)→∃ m',V x (tab g.Ops.length m)=some (tab g.Ops.length m')∧Grow (z2n g) [g.IDs.idxOf x] m m') :
  ∃ m',iter F (tab g.Ops.length m0,0)=some (tab g.Ops.length m')∧Grow (z2n g) (xs.map fun x=>g.IDs.idxOf x) m0 m':=by
 have main:=z7b (F:=F) xs.length
  (fun i s=>∃ m,s=(tab g.Ops.length m,(i:Int))∧Grow (z2n g) ((xs.take i).map fun x=>g.IDs.idxOf x) m0 m)
  (fun r=>∃ m',r=tab g.Ops.length m'∧Grow (z2n g) (xs.map fun x=>g.IDs.idxOf x) m0 m')
  (fun i s hi hs=>by
   obtain ⟨m,rfl,hm⟩:=hs;obtain ⟨m',e1,e2⟩:=hV m xs[i] (List.getElem_mem hi) hm.sub;refine ⟨_, by rw [hF _ i hi,e1,bS],m',rfl,?_⟩;have et:(xs.take (i+1)).map (fun x=>g.IDs.idxOf x)=(xs.take i).map (fun x=>g.IDs.idxOf x)++[g.IDs.idxOf xs[i]]:=by
    rw [List.take_add_one,List.getElem?_eq_getElem hi,List.map_append]; rfl
   rw [et];refine ⟨fun j hj=>e2.sub j (hm.sub j hj), fun j hj=>?_, fun j hj=>?_, fun j hj=>?_⟩
   ·rcases List.mem_append.1 hj with h | h
    ·exact e2.sub j (hm.src j h)
    ·exact e2.src j h
   ·rcases e2.new j hj with h | h
    ·rcases hm.new j h with h | h
     ·exact .inl h
     ·exact .inr (h.mono fun x hx=>List.mem_append.2 (.inl hx))
    ·exact .inr (h.mono fun x hx=>List.mem_append.2 (.inr hx))
   ·rcases e2.clo j hj with h | h
    ·rcases hm.clo j h with h | h
     ·exact .inl h
     ·exact .inr fun p hp=>e2.sub p (h p hp)
    ·exact .inr h)
  (fun s hs=>by
   obtain ⟨m,rfl,hm⟩:=hs;refine ⟨_,hF2 _,m,rfl,?_⟩
   rw [List.take_length] at hm; exact hm)
  (tab g.Ops.length m0,((0:Nat):Int)) 0 (Nat.zero_le _) ⟨m0,rfl, by simp, by simp, fun j hj=>.inl hj, fun j hj=>.inl hj⟩
 obtain ⟨r,h1,m',rfl,h2⟩:=main;exact ⟨m',h1,h2⟩
theorem zw9 (E:zbq g) (h:zgz g=true) {r:List (ID × Int)} (hr:zo3 g r):∀ (N:Nat) (m:Nat→Bool) (x:ID),x∈g.IDs→(unm g.Ops.length m).length<N→∃ m',z34 N x r (tab g.Ops.length m) g=some (tab g.Ops.length m')∧Grow (z2n g) [g.IDs.idxOf x] m m'
 | 0,_,_,_,hn=>by omega
 | N+1,m,x,hx,hn=>by
  have hlen:=E.len;have hk:g.IDs.idxOf x<g.Ops.length:=by rw [← E.ids]; exact List.idxOf_lt_length_of_mem hx
  show ∃ m',z6u (z34 N) x r (tab g.Ops.length m) g=_∧_;unfold z6u;rw [hr x hx];simp only [bS];rw [zby hk];simp only [bS]
  cases hm:m (g.IDs.idxOf x) with
  | true =>
   rw [if_pos rfl];exact ⟨m,rfl, fun i hi=>hi, fun i hi=>by rw [List.mem_singleton] at hi; subst hi; exact hm, fun i hi=>.inl hi, fun i hi=>.inl hi⟩
  | false =>
   rw [if_neg (by simp),z0k hk];simp only [bS,Int.toNat_natCast]
   let m1:=fun i=>if i=g.IDs.idxOf x then true else m i
   have hs1:∀ i,m i=true→m1 i=true:=fun i hi=>by
    show (if _ then _ else _)=true
    split
    ·rfl
    ·exact hi
   have h1x:m1 (g.IDs.idxOf x)=true:=if_pos rfl;have hset:(tab g.Ops.length m).set (g.IDs.idxOf x) true=tab g.Ops.length m1:=zl2 hk h1x fun j _ hj=>if_neg hj;rw [hset];have hu:=z1b6 hs1 hk hm h1x;have hop:zy8 g (g.IDs.idxOf x)=(g.Ops[g.IDs.idxOf x]).Preds:=z7l hk;have h4:=E.four (g.IDs.idxOf x);rw [hop] at h4;obtain ⟨m',e1,e2⟩:=z15o (σ:=Unit) E (g.Ops[g.IDs.idxOf x]).Preds (fun y hy=>(zx0 h (by rw [hop]; exact hy)).1) (by omega)
    (z8i r g (z34 N) g.Ops[g.IDs.idxOf x]) (fun y l=>z34 N y r l g) m1 N
    (fun l i hi=>by
     unfold z8i;rw [if_pos (by simpa using hi)];simp only [];rw [z0k hi,z0l (by omega)]
     simp only [bS])
    (fun l=>by
     unfold z8i
     rw [if_neg (by simp)])
    (fun l y hy hsub=>zw9 E h hr N l y (zx0 h (by rw [hop]; exact hy)).1 (by have:=z169 (n:=g.Ops.length) hsub; omega))
   refine ⟨m',e1,?_⟩;have hpe:((g.Ops[g.IDs.idxOf x]).Preds.map fun x=>g.IDs.idxOf x)=z2n g (g.IDs.idxOf x):=by unfold z2n; rw [hop]
   rw [hpe] at e2;have hxx:m' (g.IDs.idxOf x)=true:=e2.sub _ h1x;refine ⟨fun i hi=>e2.sub i (hs1 i hi), fun i hi=>by rw [List.mem_singleton] at hi; subst hi; exact hxx, fun i hi=>?_, fun i hi=>?_⟩
   ·rcases e2.new i hi with h | h
    ·by_cases hix:i=g.IDs.idxOf x
     ·exact .inr (.base (by rw [hix]; simp))
     ·have:m1 i=m i:=if_neg hix
      rw [this] at h; exact .inl h
    ·exact .inr (h.thru fun y hy=>.step (.base (by simp)) hy)
   ·rcases e2.clo i hi with h | h
    ·by_cases hix:i=g.IDs.idxOf x
     ·rw [hix]; exact .inr fun p hp=>e2.src p hp
     ·have:m1 i=m i:=if_neg hix
      rw [this] at h; exact .inl h
    ·exact .inr h
theorem z135 (E:zbq g) (h:zgz g=true) (xs:List ID) (hxs:∀ x∈xs,x∈g.IDs) (hl:xs.length≤100):∃ m,zc4 g xs=some (tab g.Ops.length m)∧∀ i,m i=true↔Rch (z2n g) (xs.map fun x=>g.IDs.idxOf x) i:=by
 have hlen:=E.len;obtain ⟨r,e1,e2⟩:=zs2 E;have hu:(unm g.Ops.length fun _=>false).length≤60:=by
  have:=List.length_filter_le (fun i=>!(false:Bool)) (List.range g.Ops.length)
  unfold unm; simp at this ⊢; omega
 obtain ⟨m',e3,e4⟩:=z15o (σ:=Unit) E xs hxs hl (z9t g xs r) (fun y l=>z34 1000 y r l g) (fun _=>false) 1000
  (fun l i hi=>by
   unfold z9t;rw [if_pos (by simpa using hi)];simp only [];rw [z0k hi,z0l (by omega)]
   simp only [bS])
  (fun l=>by
   unfold z9t
   rw [if_neg (by simp)])
  (fun l y hy hsub=>zw9 E h e2 1000 l y (hxs y hy) (by have:=z169 (n:=g.Ops.length) hsub; omega))
 refine ⟨m',?_, fun i=>⟨fun hi=>(e4.new i hi).resolve_left (by simp), fun hi=>?_⟩⟩
 ·unfold zc4;rw [e1];simp only [bS];rw [zks (by have:=E.ids; omega) (by have:=E.ids; omega),E.ids,zh4];simp only [bS];rw [e3];simp only [bS]
 ·induction hi with
  | base hs=>exact e4.src _ hs
  | step _ hp ih=>exact ((e4.clo _ ih).resolve_left (by simp)) _ hp
def zb2 (g:z01) (m:Nat→Bool):List ID:=((List.range g.Ops.length).filter m).map (zm7 g)
theorem zo2 (E:zbq g) {m:Nat→Bool} {x:ID}:x∈zb2 g m↔x∈g.IDs∧m (g.IDs.idxOf x)=true:=by
 unfold zb2;rw [List.mem_map]
 constructor
 ·rintro ⟨i,hi,rfl⟩
  rw [List.mem_filter,List.mem_range] at hi;have hii:i<g.IDs.length:=by rw [E.ids]; exact hi.1
  refine ⟨by rw [z69 hii]; exact List.getElem_mem _,?_⟩;rw [zr6 E hi.1]; exact hi.2
 ·rintro ⟨h1,h2⟩
  refine ⟨_,?_,zqi h1⟩;rw [List.mem_filter,List.mem_range,← E.ids];exact ⟨List.idxOf_lt_length_of_mem h1,h2⟩
theorem zmh (E:zbq g) (m:Nat→Bool):z8a (zb2 g m)=true:=by
 rw [zcq];unfold zb2;rw [List.pairwise_map]
 have:(List.range g.Ops.length).Pairwise fun a b=>a<g.Ops.length∧b<g.Ops.length∧a<b:=by
  rw [List.pairwise_iff_getElem];intro i j hi hj hij;simp at hi hj ⊢;omega
 refine (this.filter m).imp fun {a b} hab=>?_;have ha:a<g.IDs.length:=by rw [E.ids]; exact hab.1
 have hb:b<g.IDs.length:=by rw [E.ids]; exact hab.2.1
 rw [z69 ha,z69 hb];exact zfa E.ri ha hb hab.2.2
theorem zkp:∀ (l m:List ID),l.Pairwise (fun a b=>kd a<kd b)→m.Pairwise (fun a b=>kd a<kd b)→(∀ x,x∈l↔x∈m)→l=m
 | [],m,_,_,h=>by
  cases m with
  | nil=>rfl
  | cons b m=>have:=(h b).2 (by simp); simp at this
 | a::l,[],_,_,h=>by have:=(h a).1 (by simp); simp at this
 | a::l,b::m,h1,h2,h=>by
  obtain ⟨p1,p2⟩:=List.pairwise_cons.1 h1;obtain ⟨q1,q2⟩:=List.pairwise_cons.1 h2;have hab:a=b:=by
   have ha:=(h a).1 (by simp);have hb:=(h b).2 (by simp);rcases List.mem_cons.1 ha with e | ha'
   ·exact e
   ·rcases List.mem_cons.1 hb with e | hb'
    ·exact e.symm
    ·have:=q1 a ha'; have:=p1 b hb'; omega
  subst hab
  congr 1
  refine zkp l m p2 q2 fun x=>⟨fun hx=>?_, fun hx=>?_⟩
  ·rcases List.mem_cons.1 ((h x).1 (by simp [hx])) with e | h'
   ·subst e; have:=p1 x hx; omega
   ·exact h'
  ·rcases List.mem_cons.1 ((h x).2 (by simp [hx])) with e | h'
   ·subst e; have:=q1 x hx; omega
   ·exact h'
end
section
open Go
variable {g:z01}
theorem z1au (a s:List ID) (n:Nat) (x:ID) (hn:n<a.length) (hx:a[n]=x) (hs:s.length≤9223372036854775806) (hi:z8a s=true):∃ k:Nat,iter (z4e a (s,(n:Int))) 0=some (k:Int)∧k≤s.length∧(∀ i (h:i<s.length),i<k→kd s[i]<kd x)∧(∀ i (h:i<s.length),k≤i→kd x≤kd s[i]):=by
 have main:=zfi (F:=z4e a (s,(n:Int))) (fun st=>∃ i:Nat,st=(i:Int)∧i≤s.length∧∀ j (h:j<s.length),j<i→kd s[j]<kd x) (fun st=>s.length - st.toNat)
  (fun r=>∃ k:Nat,r=(k:Int)∧k≤s.length∧(∀ i (h:i<s.length),i<k→kd s[i]<kd x)∧(∀ i (h:i<s.length),k≤i→kd x≤kd s[i]))
  (fun st hst=>by
   obtain ⟨i,rfl,h1,h2⟩:=hst;by_cases hi':i<s.length
   ·have hF:z4e a (s,(n:Int)) (i:Int)=if decide (kd s[i]<kd x) then some (.inr ((i+1:Nat):Int)) else some (.inl (i:Int)):=by
     unfold z4e;rw [if_pos (by simpa using hi')];simp only [];rw [z0k hi',z0k hn,hx,z0l (by omega)];simp only [bS];rw [z18w];simp only [bS];rw [zu9]
    by_cases hc:kd s[i]<kd x
    ·rw [decide_eq_true hc,if_pos rfl] at hF;refine .inr ⟨_,hF,⟨i+1,rfl,hi', fun j hj hji=>?_⟩, by simp; omega⟩;by_cases hji':j=i
     ·subst hji'; exact hc
     ·exact h2 j hj (by omega)
    ·rw [decide_eq_false hc,if_neg (by simp)] at hF;refine .inl ⟨_,hF,i,rfl,h1,h2, fun j hj hij=>?_⟩;by_cases hji':j=i
     ·subst hji'; omega
     ·have:=zfa hi hi' hj (by omega); omega
   ·refine .inl ⟨(i:Int),?_,i,rfl,h1,h2, fun j hj hij=>by omega⟩;unfold z4e
    rw [if_neg (by simpa using hi')])
  0 ⟨0,rfl,Nat.zero_le _, fun j _ h=>by omega⟩
 obtain ⟨r,h1,k,rfl,h2,h3,h4⟩:=main;exact ⟨k,h1,h2,h3,h4⟩
theorem z10u {α:Type} (s:List α) (k:Nat) (x y:α):y∈s.take k++[x]++s.drop k↔y∈s∨y=x:=by
 have:y∈s↔y∈s.take k∨y∈s.drop k:=by rw [← List.mem_append,List.take_append_drop]
 rw [this];simp only [List.mem_append,List.mem_singleton]
 constructor
 ·rintro ((h | h) | h)
  ·exact .inl (.inl h)
  ·exact .inr h
  ·exact .inl (.inr h)
 ·rintro ((h | h) | h)
  ·exact .inl (.inl h)
  ·exact .inr h
  ·exact .inl (.inr h)
theorem zvg {s:List ID} (hi:z8a s=true) {k:Nat} {x:ID} (hk:k≤s.length) (h1:∀ i (h:i<s.length),i<k→kd s[i]<kd x) (h2:∀ i (h:i<s.length),k≤i→kd x<kd s[i]):z8a (s.take k++[x]++s.drop k)=true:=by
 rw [zcq] at *;have e:s=s.take k++s.drop k:=(List.take_append_drop k s).symm;rw [e,List.pairwise_append] at hi;have a1:∀ y∈s.take k,kd y<kd x:=fun y hy=>by
  obtain ⟨i,hi',rfl⟩:=List.getElem_of_mem hy;rw [List.getElem_take];rw [List.length_take] at hi';exact h1 i (by omega) (by omega)
 have a2:∀ y∈s.drop k,kd x<kd y:=fun y hy=>by
  obtain ⟨i,hi',rfl⟩:=List.getElem_of_mem hy;rw [List.getElem_drop];rw [List.length_drop] at hi';exact h2 (k+i) (by omega) (by omega)
 rw [List.pairwise_append,List.pairwise_append];refine ⟨⟨hi.1, by simp, fun y hy z hz=>?_⟩,hi.2.1, fun y hy z hz=>?_⟩
 ·rw [List.mem_singleton] at hz; subst hz; exact a1 y hy
 ·rcases List.mem_append.1 hy with h | h
  ·exact hi.2.2 y h z hz
  ·rw [List.mem_singleton] at h; subst h; exact a2 z hz
theorem zvh (a:List ID) (hl:a.length≤1000):∃ s,zc1 a=some s∧z8a s=true∧∀ x,x∈s↔x∈a:=by
 have main:=z7b (F:=z5h a) a.length
  (fun n st=>st.2=(n:Int)∧st.1.length≤n∧z8a st.1=true∧∀ x,x∈st.1↔x∈a.take n)
  (fun s=>z8a s=true∧∀ x,x∈s↔x∈a)
  (fun n st hn hst=>by
   obtain ⟨s,n'⟩:=st;obtain ⟨h1,h2,h3,h4⟩:=hst;simp only at h1 h2 h3 h4;subst h1;obtain ⟨k,k1,k2,k3,k4⟩:=z1au a s n a[n] hn rfl (by omega) h3;have hmem:∀ y,y∈a.take (n+1)↔y∈s∨y=a[n]:=fun y=>by
    rw [List.take_add_one,List.getElem?_eq_getElem hn,List.mem_append,h4 y];exact ⟨fun h=>h.imp id fun h=>List.mem_singleton.1 h, fun h=>h.imp id fun h=>List.mem_singleton.2 h⟩
   have hcond:(if ((k:Int)==(s.length:Int))=true then some true else idx s (k:Int) >>= fun x17=>idx a (n:Int) >>= fun x19=>some (!decide (x17=x19)))=some (!decide (a[n]∈s)):=by
    by_cases hk:k=s.length
    ·rw [if_pos (by rw [hk]; simp)]
     have:a[n]∉s:=fun hm=>by
      obtain ⟨i,hi,e⟩:=List.getElem_of_mem hm
      have:=k3 i hi (by omega)
      rw [e] at this; omega
     rw [decide_eq_false this]; rfl
    ·have hk':k<s.length:=by omega
     rw [if_neg (by simp; omega),z0k hk',z0k hn];simp only [bS]
     have:decide (s[k]=a[n])=decide (a[n]∈s):=by
      rw [decide_eq_decide];refine ⟨fun e=>e ▸ List.getElem_mem hk', fun hm=>?_⟩;obtain ⟨i,hi,e⟩:=List.getElem_of_mem hm;by_cases hik:i<k
      ·have:=k3 i hi hik; rw [e] at this; omega
      ·by_cases hik':i=k
       ·subst hik'; exact e
       ·have:=zfa h3 hk' hi (by omega)
        have:=k4 k hk' (Nat.le_refl _)
        rw [e] at *; omega
     rw [this]
   by_cases hm:a[n]∈s
   ·rw [decide_eq_true hm] at hcond;refine ⟨(s,((n+1:Nat):Int)),?_,rfl,?_,h3, fun x=>?_⟩
    ·unfold z5h;rw [if_pos (by simpa using hn),k1];simp only [bS];rw [hcond,z0l (by omega)];rfl
    ·simp only []; omega
    ·rw [hmem];exact ⟨.inl, fun h=>h.elim id fun e=>e ▸ hm⟩
   ·rw [decide_eq_false hm] at hcond;have hlen:(s.take k++[a[n]]++s.drop k).length=s.length+1:=by
     simp only [List.length_append,List.length_take,List.length_drop,List.length_cons,List.length_nil]; omega
    refine ⟨(s.take k++[a[n]]++s.drop k,((n+1:Nat):Int)),?_,rfl,?_,?_, fun x=>?_⟩
    ·unfold z5h;rw [if_pos (by simpa using hn),k1];simp only [bS];rw [hcond];simp only [bS];rw [if_pos (by simp), show (0:Int)=((0:Nat):Int) from rfl,zav (by omega) (by omega),z0k hn,zav (by omega) (by omega)];simp only [bS,List.drop_zero,Nat.sub_zero];have e2:(s.drop k).take (s.length - k)=s.drop k:=List.take_of_length_le (by simp);rw [e2,z1l (by simp; omega)];simp only [bS,List.nil_append];rw [z1l (by simp; omega)]
     simp only [bS];rw [z1l (by simp; omega),z0l (by omega)];simp only [bS]
    ·simp only []; rw [hlen]; omega
    ·refine zvg h3 k2 k3 fun i hi hki=>?_
     have:=k4 i hi hki
     rcases Nat.lt_or_eq_of_le this with h | h
     ·exact h
     ·exact absurd (zmd h ▸ List.getElem_mem hi) hm
    ·rw [hmem]; exact z10u _ _ _ _)
  (fun st hst=>by
   obtain ⟨s,n'⟩:=st;obtain ⟨h1,h2,h3,h4⟩:=hst;simp only at h1 h2 h3 h4;subst h1;refine ⟨s,?_,h3, fun x=>by rw [h4,List.take_length]⟩;unfold z5h
   rw [if_neg (by simp)])
  ([],0) 0 (Nat.zero_le _) ⟨rfl,Nat.zero_le _,rfl, by simp⟩
 obtain ⟨s,h1,h2,h3⟩:=main;refine ⟨s,?_,h2,h3⟩;unfold zc1;rw [h1];simp only [bS]
end
section
open Go
variable {P:Nat→List Nat} {n:Nat}
def zfd (P:Nat→List Nat) (Q:List Nat) (i:Nat):Bool:=!decide (i∈Q)&&decide (∀ p∈P i,p∈Q)
theorem zfh {Q:List Nat} {i:Nat}:zfd P Q i=true↔i∉Q∧∀ p∈P i,p∈Q:=by
 unfold zfd; rw [Bool.and_eq_true,Bool.not_eq_true',decide_eq_false_iff_not,decide_eq_true_iff]
structure zpp (P:Nat→List Nat) (n:Nat) (Q:List Nat) (i:Nat):Prop where
 lt:i<n
 can:zfd P Q i=true
 least:∀ j,j<i→zfd P Q j=false
theorem zpp.unique {Q:List Nat} {i j:Nat} (h:zpp P n Q i) (k:zpp P n Q j):i=j:=by
 rcases Nat.lt_trichotomy i j with c | c | c
 ·have:=k.least i c; rw [h.can] at this; exact absurd this (by simp)
 ·exact c
 ·have:=h.least j c; rw [k.can] at this; exact absurd this (by simp)
inductive zg3 (P:Nat→List Nat) (n:Nat):List Nat→Prop
 | nil:zg3 P n []
 | snoc {Q:List Nat} {i:Nat}:zg3 P n Q→zpp P n Q i→zg3 P n (Q++[i])
theorem zg3.got {Q:List Nat} (h:zg3 P n Q):Got P n Q∧Topo P Q:=by
 induction h with
 | nil=>exact ⟨⟨by simp, by simp, by simp⟩, fun k hk=>by simp at hk⟩
 | @snoc Q i _ hi ih =>
  obtain ⟨h1,h2⟩:=zfh.1 hi.can;refine ⟨⟨?_, fun x hx=>?_, fun x hx=>?_⟩,ih.2.snoc h2⟩
  ·rw [List.nodup_append];exact ⟨ih.1.nodup, by simp, fun a ha b hb e=>by rw [List.mem_singleton] at hb; subst hb; exact h1 (e ▸ ha)⟩
  ·rcases List.mem_append.1 hx with h | h
   ·exact ih.1.lt x h
   ·rw [List.mem_singleton] at h; subst h; exact hi.lt
  ·rcases List.mem_append.1 hx with h | h
   ·exact ih.1.wf x h
   ·rw [List.mem_singleton] at h; subst h; exact .mk _ fun p hp=>ih.1.wf p (h2 p hp)
theorem zg3.unique {Q:List Nat} (h:zg3 P n Q):∀ R,zg3 P n R→Q.length=R.length→Q=R:=by
 induction h with
 | nil =>
  intro R hR e
  cases R with
  | nil=>rfl
  | cons a R=>simp at e
 | @snoc Q i hQ hi ih =>
  intro R hR e
  cases hR with
  | nil=>simp at e
  | @snoc R j hR hj =>
   have:Q=R:=ih R hR (by simpa using e)
   subst this;rw [hi.unique hj]
theorem zw1 (f:Nat→Bool):∀ (m i:Nat),i≤m→f i=true→∃ j,j≤m∧f j=true∧∀ k,k<j→f k=false
 | 0,i,h,hf=>⟨0,Nat.le_refl _, by rw [show i=0 by omega] at hf; exact hf, fun k hk=>by omega⟩
 | m+1,i,h,hf=>by
  by_cases hm:∃ i,i≤m∧f i=true
  ·obtain ⟨i,h1,h2⟩:=hm;obtain ⟨j,j1,j2,j3⟩:=zw1 f m i h1 h2;exact ⟨j, by omega,j2,j3⟩
  ·refine ⟨i,h,hf, fun k hk=>?_⟩
   cases hfk:f k with
   | false=>rfl
   | true=>exact absurd ⟨k, by omega,hfk⟩ hm
theorem z17o (hall:∀ i,i<n→Wf P i) (hlt:∀ i,∀ p∈P i,p<n) {Q:List Nat} (hQ:Got P n Q) (hl:Q.length<n):∃ i,zpp P n Q i:=by
 have h1:¬ ∀ i,i<n→i∈Q:=fun h=>(zxb hQ.nodup hQ.lt).2 h hl;have key:∀ i,Wf P i→i<n→i∉Q→∃ j,j<n∧zfd P Q j=true:=by
  intro i hi
  induction hi with
  | mk i hp ih =>
   intro hi hn;by_cases h:∀ p∈P i,p∈Q
   ·exact ⟨i,hi,zfh.2 ⟨hn,h⟩⟩
   ·refine Classical.byContradiction fun hc=>h fun p hp=>?_;refine Decidable.byContradiction fun hpq=>hc (ih p hp (hlt i p hp) hpq)
 have h2:∃ i,i<n∧i∉Q:=Classical.byContradiction fun hc=>h1 fun i hi=>Decidable.byContradiction fun h=>hc ⟨i,hi,h⟩;obtain ⟨i,hi,hiQ⟩:=h2;obtain ⟨j,hj,hc⟩:=key i (hall i hi) hi hiQ;obtain ⟨k,k1,k2,k3⟩:=zw1 (zfd P Q) j j (Nat.le_refl _) hc;exact ⟨k, by omega,k2,k3⟩
end
section
open Go
variable {g:z01}
theorem zpy {r:List (ID × Int)} (hr:zo3 g r) (E:zbq g) (f:Nat→Bool) (ps:List ID) (hin:∀ x∈ps,x∈g.IDs) (hl:ps.length≤1000):∀ (rest pre:List ID),ps=pre++rest →
  ∃ b:Sum Int Unit,iter (z1a ps (tab g.Ops.length f) r) (pre.length:Int)=some b∧((b=.inr ()∧(rest.all fun x=>f (g.IDs.idxOf x))=true)∨∃ i:Nat,b=.inl (i:Int)∧(rest.all fun x=>f (g.IDs.idxOf x))=false)
 | [],pre,e=>by
  refine ⟨.inr (),z1r ?_,.inl ⟨rfl,rfl⟩⟩;unfold z1a;rw [if_neg (by rw [e]; simp)]
 | c::rest,pre,e=>by
  have hlen:pre.length<ps.length:=by rw [e]; simp
  have hget:ps[pre.length]'hlen=c:=by simp [e]
  have hc:c∈g.IDs:=hin c (by rw [e]; simp)
  have hk:g.IDs.idxOf c<g.Ops.length:=by rw [← E.ids]; exact List.idxOf_lt_length_of_mem hc
  have hF:z1a ps (tab g.Ops.length f) r (pre.length:Int)=if f (g.IDs.idxOf c) then some (.inr ((pre.length+1:Nat):Int)) else some (.inl (.inl (pre.length:Int))):=by
   unfold z1a zbd;rw [if_pos (by simpa using hlen),z0k hlen,hget,z0l (by omega)];simp only [bS];rw [hr c hc,zby hk];simp only [bS]
   cases f (g.IDs.idxOf c) <;> rfl
  rw [List.all_cons]
  cases hf:f (g.IDs.idxOf c) with
  | false=>rw [hf] at hF; exact ⟨_,z1r hF,.inr ⟨_,rfl,rfl⟩⟩
  | true =>
   rw [hf] at hF;rw [z2c hF];obtain ⟨b,h1,h2⟩:=zpy hr E f ps hin hl rest (pre++[c]) (by simp [e]);simp only [List.length_append,List.length_cons,List.length_nil,Nat.zero_add] at h1;exact ⟨b,h1, by rw [Bool.true_and]; exact h2⟩
theorem zvp {r:List (ID × Int)} (hr:zo3 g r) (E:zbq g) (f:Nat→Bool) (ps:List ID) (hin:∀ x∈ps,x∈g.IDs) (hl:ps.length≤1000):z1j ps (tab g.Ops.length f) r=some (!(ps.all fun x=>f (g.IDs.idxOf x))):=by
 obtain ⟨b,h1,h2⟩:=zpy hr E f ps hin hl ps [] rfl;unfold z1j z2d;rw [show (0:Int)=(([]:List ID).length:Int) from rfl,h1];rcases h2 with ⟨rfl,h2⟩ | ⟨i,rfl,h2⟩
 ·rw [h2]; rfl
 ·rw [h2];simp only [zz3,bS];rw [decide_eq_true (by simp)]; rfl
theorem zty {r:List (ID × Int)} (hr:zo3 g r) (E:zbq g) (h:zgz g=true) (Q:List Nat) {i:Nat} (hi:i<g.Ops.length):zan (i:Int) (tab g.Ops.length fun j=>decide (j∈Q)) g r=some (zfd (z2n g) Q i):=by
 have h4:=(E.op i hi).1;unfold zan;rw [zby hi,z0k hi];simp only [bS];rw [zvp hr E _ _ (by rw [← z7l hi]; exact zdz h i) (by omega)];simp only [bS,Bool.not_not]
 have:((g.Ops[i]).Preds.all fun x=>decide (g.IDs.idxOf x∈Q))=decide (∀ p∈z2n g i,p∈Q):=by
  rw [Bool.eq_iff_iff,List.all_eq_true,decide_eq_true_iff];unfold z2n;rw [z7l hi]
  constructor
  ·intro hx p hp;rw [List.mem_map] at hp;obtain ⟨x,hx',rfl⟩:=hp
   simpa using hx x hx'
  ·intro hp x hx;rw [decide_eq_true_iff];exact hp _ (List.mem_map.2 ⟨x,hx,rfl⟩)
 rw [this];unfold zfd
 cases decide (i∈Q) <;> rfl
theorem z176 {r:List (ID × Int)} (hr:zo3 g r) (E:zbq g) (h:zgz g=true) (Q:List Nat) (s:(List Bool) × (List ID) × Int) (hs:s.1=tab g.Ops.length fun j=>decide (j∈Q)) {i:Nat} (hi:zpp (z2n g) g.Ops.length Q i):iter (z80 g r s) 0=some (i:Int):=by
 have hlen:=E.len;have hlt:=hi.lt
 have:=z3d (F:=z80 g r s) (b:=(i:Int)) i (fun k=>(k:Int)) (fun k hk=>?_) ?_
 ·exact this
 ·unfold z80;rw [hs,zty hr E h Q (by omega),hi.least k hk,z0l (by omega)];rfl
 ·unfold z80;rw [hs,zty hr E h Q hi.lt,hi.can];rfl
theorem z13n (G:zbi g) (h:z7v g=some 0):∃ Q,zaa g=some (Q.map (zm7 g),0)∧zg3 (z2n g) g.Ops.length Q∧Q.length=g.Ops.length:=by
 have E:=G.e;have hlen:=E.len;have hids:=E.ids;have hP:=z16w E G.ins;obtain ⟨r,r1,hr⟩:=zs2 E;have main:=z7b (F:=z9r g r) g.Ops.length
  (fun k s=>∃ Q,s=(tab g.Ops.length (fun j=>decide (j∈Q)),Q.map (zm7 g),(k:Int))∧zg3 (z2n g) g.Ops.length Q∧Q.length=k)
  (fun b=>∃ Q,b=Q.map (zm7 g)∧zg3 (z2n g) g.Ops.length Q∧Q.length=g.Ops.length)
  (fun k s hk hs=>by
   obtain ⟨Q,rfl,h1,h2⟩:=hs;obtain ⟨i,hi⟩:=z17o G.wf hP.lt h1.got.1 (by omega);have hil:=hi.lt;have hii:i<g.IDs.length:=by omega
   refine ⟨(tab g.Ops.length (fun j=>decide (j∈Q++[i])),(Q++[i]).map (zm7 g),((k+1:Nat):Int)),?_,Q++[i],rfl,.snoc h1 hi, by simp [h2]⟩;unfold z9r;rw [if_pos (by simp; omega),z176 hr E G.ins Q _ rfl hi];simp only [bS];rw [zby hil,z0k hii];simp only [bS,Int.toNat_natCast];rw [z1l (by rw [List.length_map]; simp only [List.length_cons,List.length_nil]; omega),z0l (by omega),zl2 (g:=fun j=>decide (j∈Q++[i])) hil (by simp) (fun j _ hj=>by simp [hj]),List.map_append,← z69 hii]
   simp only [bS]
   rfl)
  (fun s hs=>by
   obtain ⟨Q,rfl,h1,h2⟩:=hs;refine ⟨_,?_,Q,rfl,h1,h2⟩;unfold z9r
   rw [if_neg (by simp; omega)])
  (List.replicate g.Ops.length false,[],((0:Nat):Int)) 0 (Nat.zero_le _) ⟨[], by rw [zh4]; simp,.nil,rfl⟩
 obtain ⟨b,b1,Q,rfl,b2,b3⟩:=main;refine ⟨Q,?_,b2,b3⟩;unfold zaa;rw [h,r1];simp only [bS];rw [if_neg (by simp),zks (by omega) (by omega),hids];simp only [bS];rw [show (0:Int)=((0:Nat):Int) from rfl,b1];rfl
end
section
open Go
variable {g:z01}
theorem z16p {o:z05} (h:z6q o=some false):o.Preds.length≤20∧o.Act.Key.length≤100∧o.Act.Value.Text.length≤100:=by
 unfold z6q at h;by_cases h1:20<o.Preds.length
 ·rw [if_pos (by simp; omega)] at h; exact absurd h (by simp)
 ·rw [if_neg (by simp; omega)] at h;by_cases h2:100<o.Act.Key.length
  ·rw [if_pos (by simp; omega)] at h; exact absurd h (by simp)
  ·rw [if_neg (by simp; omega)] at h;simp only [bS] at h;have h:=Option.some.inj h;rw [decide_eq_false_iff_not] at h;exact ⟨by omega, by omega, by omega⟩
theorem ztf (o:z05):∃ b,z6q o=some b:=by
 unfold z6q
 split
 ·exact ⟨_,rfl⟩
 ·split
  ·exact ⟨_,rfl⟩
  ·exact ⟨_,rfl⟩
structure zqj (g:z01):Prop where
 ops:g.Ops.length≤70
 ids:g.IDs.length≤70
 op:∀ i (h:i<g.Ops.length),g.Ops[i].Preds.length≤20∧g.Ops[i].Act.Key.length≤100∧g.Ops[i].Act.Value.Text.length≤100
theorem zq2 (g:z01):∀ (k i:Nat),71 - i=k→i≤71→∃ r:Sum Bool Unit,iter (z4o g) (i:Int)=some r∧(r=.inl true∨(r=.inr ()∧∀ j (h:j<g.Ops.length),i≤j→j≤70→g.Ops[j].Preds.length≤20∧g.Ops[j].Act.Key.length≤100∧g.Ops[j].Act.Value.Text.length≤100))
 | 0,i,h1,h2=>by
  refine ⟨.inr (),z1r ?_,.inr ⟨rfl, fun j hj h3 h4=>by omega⟩⟩;unfold z4o
  split
  ·rw [if_neg (by simp; omega)]
  ·rfl
 | k+1,i,h1,h2=>by
  by_cases hi:i<g.Ops.length
  ·obtain ⟨b,hb⟩:=ztf g.Ops[i];have hF:z4o g (i:Int)=if b then some (.inl (.inl true)) else some (.inr ((i+1:Nat):Int)):=by
    unfold z4o;rw [if_pos (by simpa using hi),if_pos (by simp; omega),z0k hi];simp only [bS];rw [hb,z0l (by omega)];simp only [bS]
   cases b with
   | true=>exact ⟨_,z1r hF,.inl rfl⟩
   | false =>
    rw [if_neg (by simp)] at hF;obtain ⟨r,e1,e2⟩:=zq2 g k (i+1) (by omega) (by omega);refine ⟨r, by rw [z2c hF]; exact e1,e2.imp id fun ⟨e2,e3⟩=>⟨e2, fun j hj h3 h4=>?_⟩⟩;by_cases hji:j=i
    ·subst hji; exact z16p hb
    ·exact e3 j hj (by omega) h4
  ·refine ⟨.inr (),z1r ?_,.inr ⟨rfl, fun j hj h3 h4=>by omega⟩⟩;unfold z4o;rw [if_neg (by simpa using hi)]
theorem z14r (g:z01):∃ b,zaf g=some b∧(b=false→zqj g):=by
 obtain ⟨r,e1,e2⟩:=zq2 g 71 0 rfl (by omega);unfold zaf;rw [show (0:Int)=((0:Nat):Int) from rfl,e1];rcases e2 with rfl | ⟨rfl,e3⟩
 ·exact ⟨true,rfl, fun h=>absurd h (by simp)⟩
 ·simp only [zq5,bS];have key:∀ (P:Bool),(P=false→g.Ops.length≤70∧g.IDs.length≤70)→P=false→zqj g:=fun P h hp=>⟨(h hp).1,(h hp).2, fun i hi=>e3 i hi (Nat.zero_le _) (by have:=(h hp).1; omega)⟩;by_cases hA:70<g.Ops.length
  ·have a1:decide (70<(g.Ops.length:Int))=true:=by simp; omega
   have a2:decide ((g.Ops.length:Int)≤60)=false:=by simp; omega
   rw [a1,a2];simp only [if_true,Bool.false_eq_true,if_false];exact ⟨true, by split <;> rfl, fun h=>absurd h (by simp)⟩
  ·have a1:decide (70<(g.Ops.length:Int))=false:=by simp; omega
   rw [a1];simp only [Bool.false_eq_true,if_false];have k2:=key (decide (70<(g.IDs.length:Int))) fun h=>by simp at h; omega
   split
   ·split
    ·exact ⟨true,rfl, fun h=>absurd h (by simp)⟩
    ·exact ⟨_,rfl,k2⟩
   ·exact ⟨_,rfl,k2⟩
theorem zm0 (l:List ID) (hl:l.length≤1000):z78 l l=some true:=by
 have:=z3d (F:=z6w l l) (b:=.inr ()) l.length (fun i=>(i:Int)) (fun i hi=>?_) ?_
 ·unfold z78;rw [if_neg (by simp), show (0:Int)=((0:Nat):Int) from rfl,this]; rfl
 ·unfold z6w;rw [if_pos (by simpa using hi),z0k hi,z0l (by omega)];simp only [bS];rw [if_neg (by simp)]
 ·unfold z6w;rw [if_neg (by simp)]
theorem zs5 (S:zqj g):z95 g g=some true:=by
 have h1:=S.ops;have h2:=S.ids
 have:=z3d (F:=z91 g g) (b:=.inr ()) g.Ops.length (fun i=>(i:Int)) (fun i hi=>?_) ?_
 ·unfold z95;rw [zm0 _ (by omega)];simp only [bS];rw [if_neg (by simp),if_neg (by simp), show (0:Int)=((0:Nat):Int) from rfl,this]; rfl
 ·have h4:=(S.op i hi).1;have hs:zb3 g.Ops[i] g.Ops[i]=some true:=by
   unfold zb3;rw [if_pos (by simp),zm0 _ (by omega)];simp only [bS]
   simp
  unfold z91;rw [if_pos (by simpa using hi),z0k hi];simp only [bS];rw [hs,z0l (by omega)];simp only [bS];rw [if_neg (by simp)]
 ·unfold z91;rw [if_neg (by simp)]
end
section
open Go
structure Pos (l:List ID) (x:ID) (k:Nat):Prop where
 le:k≤l.length
 lo:∀ i (h:i<l.length),i<k→kd l[i]<kd x
 hi:∀ i (h:i<l.length),k≤i→kd x≤kd l[i]
theorem Pos.uniq {l:List ID} {x:ID} {k k':Nat} (h:Pos l x k) (h':Pos l x k'):k=k':=by
 have a:=h.le; have b:=h'.le;refine Nat.le_antisymm (Nat.le_of_not_lt fun c=>?_) (Nat.le_of_not_lt fun c=>?_)
 ·have:=h.lo k' (by omega) c; have:=h'.hi k' (by omega) (Nat.le_refl _); omega
 ·have:=h'.lo k (by omega) c; have:=h.hi k (by omega) (Nat.le_refl _); omega
def ziz {α:Type} (l:List α) (k:Nat) (x:α):List α:=l.take k++[x]++l.drop k
theorem zk6 {α:Type} {l:List α} {k:Nat} {x:α} (h:k≤l.length):(ziz l k x).length=l.length+1:=by
 unfold ziz; simp; omega
theorem zuj {α:Type} {l:List α} {k i:Nat} {x:α} (h:k≤l.length) (hi:i<k):(ziz l k x)[i]? = l[i]? := by
 unfold ziz;rw [List.append_assoc,List.getElem?_append_left (by simp; omega),List.getElem?_take_of_lt hi]
theorem zvb {α:Type} {l:List α} {k:Nat} {x:α} (h:k≤l.length):(ziz l k x)[k]? = some x:=by
 unfold ziz;rw [List.append_assoc,List.getElem?_append_right (by simp; omega)];simp [Nat.min_eq_left h]
theorem zvf {α:Type} {l:List α} {k i:Nat} {x:α} (h:k≤l.length) (hi:k<i):(ziz l k x)[i]? = l[i - 1]? := by
 unfold ziz;rw [List.getElem?_append_right (by simp; omega),List.getElem?_drop]
 congr 1; simp; omega
theorem zqz {α:Type} {l:List α} {k:Nat} {x y:α}:y∈ziz l k x↔y=x∨y∈l:=by
 unfold ziz
 have:y∈l↔y∈l.take k∨y∈l.drop k:=by rw [← List.mem_append,List.take_append_drop]
 rw [this];simp only [List.mem_append,List.mem_singleton]
 constructor
 ·rintro ((h | h) | h) <;> simp [h]
 ·rintro (h | h | h) <;> simp [h]
def insG (g:z01) (k:Nat) (x:ID) (o:z05):z01:=⟨ziz g.IDs k x,ziz g.Ops k o⟩
theorem z13g (l:List ID) (hl:l.length≤4611686018427387903) (hi:z8a l=true) (x:ID) (hx:x∉l):∃ k:Nat,z0t l x=some ((k:Int),false)∧Pos l x k:=by
 obtain ⟨b,h1,k,rfl,h2,h3,h4⟩:=z12w l hl hi x;refine ⟨k,?_,h2,h3,h4⟩;unfold z0t;simp only [bS];rw [h1];simp only [bS];by_cases hk:k<l.length
 ·rw [if_pos (by simpa using hk),z0k hk];simp only [bS];rw [zxh];simp only [bS];rw [z1bh,decide_eq_false fun (e:l[k]=x)=>hx (e ▸ List.getElem_mem hk)]
 ·rw [if_neg (by simpa using hk)]
theorem zsg (g:z01) (hl:g.IDs.length≤4611686018427387903) (hi:z8a g.IDs=true) (x:ID) (hx:x∉g.IDs):∃ k:Nat,zea g x=some ((k:Int),false)∧Pos g.IDs x k:=by
 obtain ⟨k,h1,h2⟩:=z13g g.IDs hl hi x hx;refine ⟨k,?_,h2⟩;unfold zea;rw [h1];simp only [bS]
theorem z154 {l:List ID} (hi:z8a l=true) (x:ID):∃ k,Pos l x k:=by
 induction l with
 | nil=>exact ⟨0,Nat.le_refl _, fun i h=>by simp at h, fun i h=>by simp at h⟩
 | cons y l ih =>
  have h1:=(zcq _).1 hi;obtain ⟨h2,h3⟩:=List.pairwise_cons.1 h1;by_cases hy:kd y<kd x
  ·obtain ⟨k,hk⟩:=ih ((zcq _).2 h3);refine ⟨k+1, by simpa using hk.le, fun i h hik=>?_, fun i h hik=>?_⟩
   ·cases i with
    | zero=>exact hy
    | succ i=>exact hk.lo i (by simpa using h) (by omega)
   ·cases i with
    | zero=>omega
    | succ i=>exact hk.hi i (by simpa using h) (by omega)
  ·refine ⟨0,Nat.zero_le _, fun i h hik=>by omega, fun i h _=>?_⟩
   cases i with
   | zero=>simpa using Nat.le_of_not_lt hy
   | succ i =>
    have hil:i<l.length:=by simpa using h
    have:=h2 l[i] (List.getElem_mem hil)
    simp only [List.getElem_cons_succ]; omega
theorem z18y {l:List ID} {k:Nat} {x:ID} (hk:k≤l.length) (hl:l.length≤1000000):insF l (k:Int) [x]=some (ziz l k x):=by
 unfold insF;rw [z2z ⟨by omega, by simpa using hk,hl,rfl⟩];simp only [bS,Int.toNat_natCast];rfl
theorem z16g {l:List ID} (h:l.length≤1000000):z15 l=some l:=by
 unfold z15;rw [z1l (by simp; omega)];rfl
theorem zrf {o:z05} (h:o.Preds.length≤1000):zhi o=some o:=by
 unfold zhi;rw [z16g (by omega)];simp only [bS]
theorem z1a7 {α:Type} {l:List α} {i:Nat} {x:α} (h:l[i]? = some x):l.take i++[x]=l.take (i+1):=by
 rw [List.take_add_one,h]; rfl
theorem z195 {g:z01} (hl:g.IDs.length≤1000) (hi:z8a g.IDs=true) {x:ID} (hx:x∈g.IDs) (o:z05):zfr g x o=some (g,false):=by
 obtain ⟨k,k1,-,-⟩:=zjc g (by omega) hi x;unfold zfr;rw [k1,decide_eq_true hx];rfl
theorem z17b {g:z01} (hg:g.IDs.length=g.Ops.length) (hl:g.IDs.length≤1000) (hi:z8a g.IDs=true) {x:ID} (hx:x∉g.IDs) {o:z05} (ho:o.Preds.length≤1000) (hp:∀ p∈g.Ops,p.Preds.length≤1000) :
  ∃ k,zfr g x o=some (insG g k x o,true)∧Pos g.IDs x k:=by
 obtain ⟨k,k1,k2⟩:=zsg g (by omega) hi x hx;have hk:=k2.le;have hko:k≤g.Ops.length:=by omega
 refine ⟨k,?_,k2⟩;have hlen:(ziz g.Ops k o).length=g.Ops.length+1:=zk6 hko;have hleni:(ziz g.IDs k x).length=g.Ops.length+1:=by rw [zk6 hk,hg]
 have main:=z3d (F:=zhq g o ((k:Int),false) (ziz g.IDs k x)) (b:=ziz g.Ops k o) (g.Ops.length+1) (fun i=>((ziz g.Ops k o).take i,(i:Int))) (fun i hin=>?_) ?_
 ·unfold zfr;rw [k1];simp only [bS];rw [if_neg (by simp),z16g (by omega)];simp only [bS];rw [z18y hk (by omega)];simp only [bS];rw [List.take_zero] at main;rw [show (([]:List z05),(0:Int))=([],((0:Nat):Int)) from rfl,main];simp only [bS];rfl
 ·have happ:∀ z,(ziz g.Ops k o)[i]? = some z→app 112 ((ziz g.Ops k o).take i) [z]=some ((ziz g.Ops k o).take (i+1)):=fun z hz=>by
   rw [z1l (by simp; omega),z1a7 hz]
  unfold zhq;simp only [bS];rw [if_pos (by rw [hleni]; simp; omega)];by_cases h1:i<k
  ·have hio:i<g.Ops.length:=by omega
   rw [if_pos (by simpa using h1),z0k hio];simp only [bS];rw [zrf (hp _ (List.getElem_mem hio))];simp only [bS];rw [happ _ (by rw [zuj hko h1,List.getElem?_eq_getElem hio]),z0l (by omega)];simp only [bS]
  ·by_cases h2:i=k
   ·subst h2;rw [if_neg (by simp),if_pos (by simp),zrf ho];simp only [bS];rw [happ _ (zvb hko),z0l (by omega)];simp only [bS]
   ·have hio:i - 1<g.Ops.length:=by omega
    have e:w64 ((i:Int) - 1)=((i - 1:Nat):Int):=by rw [z17 (by omega) (by omega)]; omega
    rw [if_neg (by simp; omega),if_neg (by simp; omega),e,z0k hio];simp only [bS];rw [zrf (hp _ (List.getElem_mem hio))];simp only [bS];rw [happ _ (by rw [zvf hko (by omega),List.getElem?_eq_getElem hio]),z0l (by omega)];simp only [bS]
 ·unfold zhq;rw [if_neg (by rw [hleni]; simp)]
  rw [List.take_of_length_le (by rw [hlen]; exact Nat.le_refl _)]
theorem z14x {l:List ID} (hi:z8a l=true) {x:ID} (hx:x∉l) {k:Nat} (hk:Pos l x k):z8a (ziz l k x)=true:=by
 rw [zcq] at hi ⊢;have hsplit:(l.take k++l.drop k).Pairwise (fun a b=>kd a<kd b):=by rw [List.take_append_drop]; exact hi
 obtain ⟨h1,h2,h3⟩:=List.pairwise_append.1 hsplit;have hlo:∀ a∈l.take k,kd a<kd x:=fun a ha=>by
  obtain ⟨i,hi',rfl⟩:=List.getElem_of_mem ha;rw [List.length_take] at hi';rw [List.getElem_take];exact hk.lo i (by omega) (by omega)
 have hhi:∀ a∈l.drop k,kd x<kd a:=fun a ha=>by
  obtain ⟨i,hi',rfl⟩:=List.getElem_of_mem ha;rw [List.length_drop] at hi';rw [List.getElem_drop];have h:=hk.hi (k+i) (by omega) (by omega);have hne:kd x≠kd l[k+i]:=fun e=>hx (zmd e ▸ List.getElem_mem _);omega
 unfold ziz;rw [List.append_assoc,List.pairwise_append];refine ⟨h1,?_, fun a ha b hb=>?_⟩
 ·rw [List.singleton_append,List.pairwise_cons]; exact ⟨hhi,h2⟩
 ·rw [List.singleton_append] at hb;rcases List.mem_cons.1 hb with rfl | hb
  ·exact hlo a ha
  ·exact h3 a ha b hb
end
section
open Go
variable {g a b:z01}
structure Fit (g:z01) (n:Nat):Prop where
 ids:g.IDs.length=g.Ops.length
 len:g.Ops.length≤n
 ri:z8a g.IDs=true
 op:∀ o∈g.Ops,o.Preds.length≤20∧o.Act.Key.length≤100∧o.Act.Value.Text.length≤100
theorem z114 (G:zbi g) (S:zqj g):Fit g g.Ops.length:=⟨G.e.ids,Nat.le_refl _,G.e.ri, fun o ho=>by
 obtain ⟨i,hi,rfl⟩:=List.getElem_of_mem ho
 exact S.op i hi⟩
def posF (l:List ID) (x:ID):Nat:=(l.filter fun y=>decide (kd y<kd x)).length
theorem zqe {l:List ID} (hi:z8a l=true) (x:ID):Pos l x (posF l x):=by
 obtain ⟨k,hk⟩:=z154 hi x;have hkl:=hk.le
 have:posF l x=k:=by
  unfold posF;rw [← List.take_append_drop k l,List.filter_append,List.filter_eq_self.2 fun y hy=>?_,List.filter_eq_nil_iff.2 fun y hy=>?_]
  ·simp; omega
  ·obtain ⟨i,hi',rfl⟩:=List.getElem_of_mem hy;rw [List.length_drop] at hi';rw [List.getElem_drop]
   have:=hk.hi (k+i) (by omega) (by omega)
   simp; omega
  ·obtain ⟨i,hi',rfl⟩:=List.getElem_of_mem hy;rw [List.length_take] at hi';rw [List.getElem_take]
   have:=hk.lo i (by omega) (by omega)
   simpa using this
 rw [this]; exact hk
def zqx (g:z01) (p:ID × z05):z01:=if p.1∈g.IDs then g else insG g (posF g.IDs p.1) p.1 p.2
theorem zk4 {n:Nat} (h:Fit g n) {p:ID × z05} (hp:p.2.Preds.length≤20∧p.2.Act.Key.length≤100∧p.2.Act.Value.Text.length≤100):Fit (zqx g p) (n+1):=by
 unfold zqx
 split
 ·exact ⟨h.ids, by have:=h.len; omega,h.ri,h.op⟩
 ·rename_i hx;have hk:=zqe h.ri p.1;have hkl:=hk.le;have hi:=h.ids;refine ⟨?_,?_,z14x h.ri hx hk, fun o ho=>?_⟩
  ·show (ziz g.IDs _ _).length=(ziz g.Ops _ _).length;rw [zk6 hkl,zk6 (by omega),hi]
  ·show (ziz g.Ops _ _).length≤_;rw [zk6 (by omega)]; have:=h.len; omega
  ·rcases zqz.1 ho with rfl | ho
   ·exact hp
   ·exact h.op o ho
theorem z118 {n:Nat} (h:Fit g n) (hn:n≤900) (p:ID × z05) (hp:p.2.Preds.length≤20):zfr g p.1 p.2=some (zqx g p,!decide (p.1∈g.IDs)):=by
 have h1:=h.len;have h2:=h.ids;unfold zqx;by_cases hx:p.1∈g.IDs
 ·rw [z195 (by omega) h.ri hx,if_pos hx,decide_eq_true hx]; rfl
 ·obtain ⟨k,k1,k2⟩:=z17b h2 (by omega) h.ri hx (o:=p.2) (by omega) (fun q hq=>by have:=(h.op q hq).1; omega);rw [k1,if_neg hx,decide_eq_false hx,k2.uniq (zqe h.ri p.1)]; rfl
def zei (g:z01) (l:List (ID × z05)):z01:=l.foldl zqx g
theorem zyr (g:z01) (l:List (ID × z05)) (p:ID × z05):zei g (l++[p])=zqx (zei g l) p:=by unfold zei; rw [List.foldl_append]; rfl
theorem zrv {n:Nat}:∀ {l:List (ID × z05)} {g:z01},Fit g n→(∀ p∈l,p.2.Preds.length≤20∧p.2.Act.Key.length≤100∧p.2.Act.Value.Text.length≤100)→Fit (zei g l) (n+l.length):=by
 intro l
 induction l generalizing n with
 | nil=>intro g h _; exact h
 | cons p l ih =>
  intro g h hp
  have:=ih (zk4 h (hp p (by simp))) fun q hq=>hp q (by simp [hq])
  rw [List.length_cons, show n+(l.length+1)=n+1+l.length by omega];exact this
end
section
open Go
variable {g h a b:z01} {n m:Nat}
def zbo (g:z01) (x:ID):Option z05:=if x∈g.IDs then g.Ops[g.IDs.idxOf x]? else none
theorem zc6 (F:Fit g n) {x:ID} {o:z05}:zbo g x=some o↔∃ i:Nat,g.IDs[i]? = some x∧g.Ops[i]? = some o:=by
 unfold zbo
 constructor
 ·intro h
  split at h
  ·rename_i hx;exact ⟨_, by rw [List.getElem?_eq_getElem (List.idxOf_lt_length_of_mem hx)]; simp,h⟩
  ·cases h
 ·rintro ⟨i,h1,h2⟩
  obtain ⟨hi,rfl⟩:=List.getElem?_eq_some_iff.1 h1;rw [if_pos (List.getElem_mem hi),zc7 F.ri hi,h2]
theorem zc2 (F:Fit g n) {i:Nat} (hi:i<g.Ops.length):zbo g (g.IDs[i]'(by rw [F.ids]; exact hi))=some g.Ops[i] :=
 (zc6 F).2 ⟨i,List.getElem?_eq_getElem (by rw [F.ids]; exact hi),List.getElem?_eq_getElem hi⟩
theorem zjn {x:ID} {o:z05} (h:zbo g x=some o):x∈g.IDs∧o∈g.Ops:=by
 unfold zbo at h
 split at h
 ·exact ⟨by assumption,List.mem_of_getElem? h⟩
 ·cases h
theorem zgq (F:Fit g n) {x:ID} (hx:x∈g.IDs):∃ o,zbo g x=some o:=by
 have h1:g.IDs.idxOf x<g.Ops.length:=by rw [← F.ids]; exact List.idxOf_lt_length_of_mem hx
 exact ⟨g.Ops[g.IDs.idxOf x], by unfold zbo; rw [if_pos hx,List.getElem?_eq_getElem h1]⟩
theorem zkr {x:ID} (hx:x∉g.IDs):zbo g x=none:=by unfold zbo; rw [if_neg hx]
theorem znf (F:Fit g n) {x:ID}:(zbo g x).isSome=decide (x∈g.IDs):=by
 by_cases hx:x∈g.IDs
 ·obtain ⟨o,ho⟩:=zgq F hx; rw [ho,decide_eq_true hx]; rfl
 ·rw [zkr hx,decide_eq_false hx]; rfl
theorem ztv (Fg:Fit g n) (Fh:Fit h m) (e:∀ x,zbo g x=zbo h x):g=h:=by
 have hids:g.IDs=h.IDs:=zkp _ _ ((zcq _).1 Fg.ri) ((zcq _).1 Fh.ri) fun x=>by
  have h1:=znf Fg (x:=x);have h2:=znf Fh (x:=x);rw [e] at h1;rw [h1] at h2
  simpa using h2
 have hl:g.Ops.length=h.Ops.length:=by rw [← Fg.ids,← Fh.ids,hids]
 have hops:g.Ops=h.Ops:=List.ext_getElem hl fun i h1 h2=>by
  have e1:=zc2 Fg h1;have e2:=zc2 Fh h2;have e3:g.IDs[i]'(by rw [Fg.ids]; exact h1)=h.IDs[i]'(by rw [Fh.ids]; exact h2):=by simp [hids]
  rw [e3,e,e2] at e1;exact (Option.some.inj e1).symm
 cases g; cases h
 simp only at hids hops;rw [hids,hops]
theorem z18i (F:Fit g n) (p:ID × z05) {x:ID}:x∈(zqx g p).IDs↔x=p.1∨x∈g.IDs:=by
 unfold zqx
 split
 ·rename_i h; constructor
  ·exact .inr
  ·rintro (rfl | h2)
   ·exact h
   ·exact h2
 ·exact zqz
theorem zwj (F:Fit g n) {p:ID × z05} (hp:p.2.Preds.length≤20∧p.2.Act.Key.length≤100∧p.2.Act.Value.Text.length≤100) (hx:p.1∉g.IDs) (y:ID):zbo (zqx g p) y=if y=p.1 then some p.2 else zbo g y:=by
 have Fa:=zk4 F hp;have hk:=zqe F.ri p.1;have hkl:=hk.le;have hi:=F.ids;have e:zqx g p=insG g (posF g.IDs p.1) p.1 p.2:=by unfold zqx; rw [if_neg hx]
 rw [e] at Fa ⊢;generalize posF g.IDs p.1=k at hk hkl Fa;by_cases hy:y=p.1
 ·rw [if_pos hy,zc6 Fa];exact ⟨k, by show (ziz g.IDs k p.1)[k]? = _; rw [zvb hkl,hy],zvb (by omega)⟩
 ·rw [if_neg hy]
  cases ho:zbo g y with
  | some o =>
   obtain ⟨i,h1,h2⟩:=(zc6 F).1 ho;rw [zc6 Fa];by_cases hik:i<k
   ·exact ⟨i, by show (ziz g.IDs k p.1)[i]? = _; rw [zuj hkl hik,h1], by show (ziz g.Ops k p.2)[i]? = _; rw [zuj (by omega) hik,h2]⟩
   ·exact ⟨i+1, by show (ziz g.IDs k p.1)[i+1]? = _; rw [zvf hkl (by omega)]; exact h1, by show (ziz g.Ops k p.2)[i+1]? = _; rw [zvf (by omega) (by omega)]; exact h2⟩
  | none =>
   refine zkr fun hm=>?_;rcases zqz.1 hm with rfl | hm
   ·exact hy rfl
   ·obtain ⟨o,h⟩:=zgq F hm; rw [h] at ho; cases ho
def z160 (g:z01) (rk:ID→Nat):Prop:=∀ x o,zbo g x=some o→∀ p∈o.Preds,rk p<rk x
theorem zvr (G:zbi g) (F:Fit g n):∃ rk,z160 g rk:=by
 obtain ⟨Q,-,q1,q2,q3⟩:=zww G.e G.ins;refine ⟨fun x=>Q.idxOf (g.IDs.idxOf x), fun x o ho p hp=>?_⟩;obtain ⟨i,h1,h2⟩:=(zc6 F).1 ho;obtain ⟨hi,rfl⟩:=List.getElem?_eq_some_iff.1 h1;obtain ⟨hio,rfl⟩:=List.getElem?_eq_some_iff.1 h2;have hiQ:i∈Q:=(q3 i).2 ⟨hio,G.wf i hio⟩;have hk:Q.idxOf i<Q.length:=List.idxOf_lt_length_of_mem hiQ;show Q.idxOf (g.IDs.idxOf p)<Q.idxOf (g.IDs.idxOf g.IDs[i]);rw [zc7 F.ri hi]
 have hm:=q2 (Q.idxOf i) hk (g.IDs.idxOf p) (by
  have:Q[Q.idxOf i]=i:=by simp
  rw [this];unfold z2n
  exact List.mem_map.2 ⟨p, by rw [z7l hio]; exact hp,rfl⟩)
 obtain ⟨j,hj,e⟩:=List.getElem_of_mem hm;rw [List.length_take] at hj;rw [List.getElem_take] at e
 have:Q.idxOf (g.IDs.idxOf p)≤j:=by
  rw [← e];exact Nat.le_of_not_lt fun c=>by
   have:=List.not_of_lt_findIdx (p:=fun y=>y==Q[j]) (xs:=Q) (i:=j) (by simpa [List.idxOf] using c)
   simp at this
 omega
structure zzm (g:z01):Prop where
 ops:∀ x o,zbo g x=some o→zk9 o=0∧sha (z7h o)=x∧o.Preds.length≤4∧z8a o.Preds=true
 ins:∀ x o,zbo g x=some o→∀ p∈o.Preds,p∈g.IDs
 rk:∃ rk,z160 g rk
theorem zr3 (G:zbi g) (F:Fit g n):zzm g:=by
 refine ⟨fun x o ho=>?_, fun x o ho p hp=>?_,zvr G F⟩
 ·obtain ⟨i,h1,h2⟩:=(zc6 F).1 ho;obtain ⟨hi,rfl⟩:=List.getElem?_eq_some_iff.1 h1;obtain ⟨hio,rfl⟩:=List.getElem?_eq_some_iff.1 h2;obtain ⟨k1,k2⟩:=G.ops i hio;exact ⟨k1,k2.trans (z69 hi),G.e.op i hio⟩
 ·obtain ⟨i,h1,h2⟩:=(zc6 F).1 ho;obtain ⟨hio,rfl⟩:=List.getElem?_eq_some_iff.1 h2;exact zdz G.ins i p (by rw [z7l hio]; exact hp)
theorem zz8 (F:Fit g 60) (S:zzm g):zbi g:=by
 have hl:=F.len;have E:zbq g:=⟨hl,F.ids,F.ri, fun i hi=>(S.ops _ _ (zc2 F hi)).2.2⟩
 have hin:zgz g=true:=by
  unfold zgz;rw [List.all_eq_true];intro o ho;rw [List.all_eq_true];intro p hp;obtain ⟨i,hi,rfl⟩:=List.getElem_of_mem ho
  simpa using S.ins _ _ (zc2 F hi) p hp
 obtain ⟨rk,hrk⟩:=S.rk;refine ⟨E, fun i hi=>?_,hin, fun i hi=>?_⟩
 ·obtain ⟨k1,k2,-⟩:=S.ops _ _ (zc2 F hi);exact ⟨k1,k2.trans (z69 (by rw [F.ids]; exact hi)).symm⟩
 ·have key:∀ r i (hi:i<g.Ops.length),rk (g.IDs[i]'(by rw [F.ids]; exact hi))=r→Wf (z2n g) i:=by
   intro r
   induction r using Nat.strongRecOn with
   | _ r ih =>
    intro i hi hr;refine .mk i fun p hp=>?_;unfold z2n at hp;obtain ⟨x,hx,rfl⟩:=List.mem_map.1 hp;rw [z7l hi] at hx;have hlt:=hrk _ _ (zc2 F hi) x hx;have hxm:=S.ins _ _ (zc2 F hi) x hx;have hpl:g.IDs.idxOf x<g.IDs.length:=List.idxOf_lt_length_of_mem hxm;refine ih (rk x) (by omega) (g.IDs.idxOf x) (by rw [← F.ids]; exact hpl) ?_
    congr 1
    simp
  exact key _ i hi rfl
theorem zz9 {l:List (ID × z05)}:∀ {g:z01} {n:Nat},Fit g n→(∀ p∈l,p.2.Preds.length≤20∧p.2.Act.Key.length≤100∧p.2.Act.Value.Text.length≤100)→(l.map Prod.fst).Nodup→∀ y,zbo (zei g l) y=(zbo g y).or ((l.find? fun p=>decide (p.1=y)).map Prod.snd):=by
 induction l with
 | nil=>intro g n F _ _ y; simp [zei]
 | cons p l ih =>
  intro g n F hp hnd y;rw [List.map_cons,List.nodup_cons] at hnd;have hpp:=hp p (by simp);have e:zei g (p::l)=zei (zqx g p) l:=rfl;rw [e,ih (zk4 F hpp) (fun q hq=>hp q (by simp [hq])) hnd.2,List.find?_cons];have hnf:p.1=y→l.find? (fun q=>decide (q.1=y))=none:=fun e=>by
   rw [List.find?_eq_none];intro q hq hh;exact hnd.1 (List.mem_map.2 ⟨q,hq, by simpa [e] using hh⟩)
  by_cases hx:p.1∈g.IDs
  ·have ea:zqx g p=g:=by unfold zqx; rw [if_pos hx]
   rw [ea];by_cases hy:p.1=y
   ·obtain ⟨o,ho⟩:=zgq F hx;rw [← hy,ho]; rfl
   ·rw [decide_eq_false hy]
  ·rw [zwj F hpp hx];by_cases hy:p.1=y
   ·rw [if_pos hy.symm,decide_eq_true hy,zkr (by rw [← hy]; exact hx)]; rfl
   ·rw [if_neg fun e=>hy e.symm,decide_eq_false hy]
end
section
open Go
variable {g:z01}
theorem zlr {α:Type} {l:List α} {n:Nat} (h:n<l.length):l.take (n+1)=l.take n++[l[n]]:=by
  rw [List.take_add_one,List.getElem?_eq_getElem h]; rfl
theorem z15s {l:List V3} (hso:l.Pairwise fun x y=>kd x≤kd y) {n i:Nat} (hi:i<l.length) (hn:n≤i+1):∀ x∈l.take n,kd x≤kd l[i]:=by
  intro x hx;obtain ⟨j,hj,rfl⟩:=List.getElem_of_mem hx;rw [List.length_take] at hj;rw [List.getElem_take];by_cases hji:j=i
  · subst hji; exact Nat.le_refl _
  · exact List.pairwise_iff_getElem.1 hso j i (by omega) hi (by omega)
theorem zol {l:List V3} {x:V3} (h:l.Pairwise fun a b=>kd a<kd b) (hx:∀ y∈l,kd y<kd x):(l++[x]).Pairwise fun a b=>kd a<kd b:=by
  rw [List.pairwise_append];exact ⟨h, by simp, fun a ha b hb=>by rw [List.mem_singleton] at hb; subst hb; exact hx a ha⟩
theorem ztb (l : List V3) (hl : l.length ≤ 1000) (hso : l.Pairwise fun x y => kd x ≤ kd y) (s : Nat) (h1 : 1 ≤ s) (hs : s < l.length) (hst : (l.take s).Pairwise fun x y => kd x < kd y) (heq : l[s] = l[s - 1]) :
    ∃ b:List V3 × Int,iter (z1c l s) (l,(s:Int),1)=some b∧b.1.length=l.length∧∃ j:Nat,b.2=(j:Int)∧j<l.length∧(b.1.take j).Pairwise (fun x y=>kd x<kd y)∧∀ x,x∈b.1.take j↔x∈l:=by
  refine z7b (F:=z1c l s) (l.length - s)
    (fun i st=>st.1.length=l.length∧st.2.2=(i:Int)∧1≤i∧∃ j:Nat,st.2.1=(j:Int)∧j+1≤s+i∧(∀ q,s+i - 1≤q→st.1[q]? = l[q]?)∧(st.1.take j).Pairwise (fun x y=>kd x<kd y)∧∀ x,x∈st.1.take j↔x∈l.take (s+i)) _ ?_ ?_ _ 1 (by omega)
    ⟨rfl,rfl, by omega,s,rfl, by omega, fun _ _=>rfl,hst, fun x=>?_⟩
  · rintro i ⟨c,j',i'⟩ hi ⟨e1,e2,e0,j,e3,e4,e5,e6,e7⟩
    simp only at e1 e2 e3 e5 e6 e7;subst e2 e3;have g1:c[s+i]'(by omega)=l[s+i]'(by omega):=by
      have:=e5 (s+i) (by omega)
      rw [List.getElem?_eq_getElem (by omega),List.getElem?_eq_getElem (by omega)] at this;exact Option.some.inj this
    have g2:c[s+(i - 1)]'(by omega)=l[s+(i - 1)]'(by omega):=by
      have:=e5 (s+(i - 1)) (by omega)
      rw [List.getElem?_eq_getElem (by omega),List.getElem?_eq_getElem (by omega)] at this;exact Option.some.inj this
    have hs1:l.take (s+(i+1))=l.take (s+i)++[l[s+i]'(by omega)]:=zlr (n:=s+i) (by omega);unfold z1c;rw [if_pos (by simp; omega)];simp only [Int.toNat_natCast];rw [zqp (by omega),z17 (x:=(i:Int) - 1) (by omega) (by omega), show ((i:Int) - 1)=((i - 1:Nat):Int) by omega,zqp (by omega)];simp only [bS];rw [z0k (by omega),z0k (by omega)];simp only [bS];by_cases hc:c[s+i]'(by omega)=c[s+(i - 1)]'(by omega)
    · rw [decide_eq_true hc,if_neg (by simp)]
      refine ⟨_,rfl,e1,z0l (by omega), by omega,j,rfl, by omega, fun q hq=>e5 q (by omega),e6, fun x=>?_⟩;rw [e7,hs1,List.mem_append];refine ⟨.inl, fun h=>h.elim id fun h=>?_⟩;have hx:x=l[s+i]'(by omega):=List.mem_singleton.1 h;rw [hx,← g1,hc,g2,List.mem_take_iff_getElem];exact ⟨s+(i - 1), by omega,rfl⟩
    · rw [decide_eq_false hc,if_pos (by simp),z0k (by omega)]
      simp only [bS];have hset:(c.set j (l[s+i]'(by omega))).take (j+1)=c.take j++[l[s+i]'(by omega)]:=by
        rw [zlr (by rw [List.length_set]; omega),List.take_set_of_le (Nat.le_refl _),List.getElem_set_self]
      refine ⟨_,rfl, by simpa using e1,z0l (by omega), by omega,j+1,z0l (by omega), by omega, fun q hq=>?_,?_, fun x=>?_⟩
      · show (c.set j _)[q]? = _
        rw [List.getElem?_set_ne (by omega)]; exact e5 q (by omega)
      · show ((c.set j (c[s+i]'(by omega))).take (j+1)).Pairwise _
        rw [g1,hset];refine zol e6 fun y hy=>?_;have h1:=z15s hso (n:=s+i) (i:=s+(i - 1)) (by omega) (by omega) y ((e7 y).1 hy);have h2:kd (l[s+(i - 1)]'(by omega))≤kd (l[s+i]'(by omega)):=List.pairwise_iff_getElem.1 hso _ _ (by omega) (by omega) (by omega);have h3:kd (l[s+(i - 1)]'(by omega))≠kd (l[s+i]'(by omega)):=fun e=>hc (by rw [g1,g2]; exact (zmd e).symm);omega
      · show x∈(c.set j (c[s+i]'(by omega))).take (j+1)↔_
        rw [g1,hset,hs1,List.mem_append,List.mem_append,e7]
  · rintro ⟨c,j',i'⟩ ⟨e1,e2,e0,j,e3,e4,e5,e6,e7⟩
    simp only at e1 e2 e3 e5 e6 e7;subst e2 e3;unfold z1c;rw [if_neg (by simp <;> omega)]
    refine ⟨_,rfl,e1,j,rfl, by omega,e6, fun x=>?_⟩;rw [e7,List.take_of_length_le (by omega)]
  · show x∈l.take s↔x∈l.take (s+1)
    rw [zlr hs,List.mem_append];refine ⟨.inl, fun h=>h.elim id fun h=>?_⟩;have hx:x=l[s]:=List.mem_singleton.1 h;rw [hx,heq,List.mem_take_iff_getElem];exact ⟨s - 1, by omega,rfl⟩
theorem zij (l:List V3) (hl:l.length≤1000) (hso:l.Pairwise fun x y=>kd x≤kd y):∃ c,z1g l=some c∧z8a c=true∧∀ x,x∈c↔x∈l:=by
  have key:∀ k n,l.length - n=k→1≤n→n≤l.length→(l.take n).Pairwise (fun x y=>kd x<kd y)→∃ r:Sum (List V3) Unit,iter (z0m l) (n:Int)=some r∧((r=.inr ()∧l.Pairwise fun x y=>kd x<kd y)∨(∃ c,r=.inl c∧(c.Pairwise fun x y=>kd x<kd y)∧∀ x,x∈c↔x∈l)):=by
    intro k
    induction k with
    | zero =>
      intro n hk h1 hn hst;refine ⟨_,z1r ?_,.inl ⟨rfl,?_⟩⟩
      · unfold z0m
        rw [if_neg (by simp; omega)]
      · rw [List.take_of_length_le (by omega)] at hst; exact hst
    | succ k ih =>
      intro n hk h1 hn hst;have hlt:n<l.length:=by omega
      by_cases hc:l[n]=l[n - 1]
      · obtain ⟨⟨c,j'⟩,e1,e2,j,e3,e4,e5,e6⟩:=ztb l hl hso n h1 hlt hst hc
        simp only at e2 e3 e5 e6;subst e3;have hF:z0m l (n:Int)=some (.inl (.inl (c.take j))):=by
          unfold z0m;rw [if_pos (by simp; omega),z0k hlt,z17 (by omega) (by omega), show ((n:Int) - 1)=((n - 1:Nat):Int) by omega,z0k (by omega)];simp only [bS];rw [decide_eq_true hc,if_pos rfl,z2z (by omega)];simp only [bS];rw [e1];simp only [bS];rw [z2z (by omega),z2z (by simp; omega)];simp only [bS,Int.toNat_natCast];rw [show (0:Int)=((0:Nat):Int) from rfl,zav (by omega) (by rw [zv5 _ _ _ _ (by omega)]; omega)]
          simp only [bS,List.drop_zero,Nat.sub_zero]
          have:(clr c j (c.length - j) (Vector.replicate 32 0)).take j=c.take j:=by
            unfold clr
            first
              | rw [List.append_assoc,List.take_append_of_le_length (by rw [List.length_take]; omega),List.take_take,Nat.min_self]
              | rw [List.take_append_of_le_length (by rw [List.length_take]; omega),List.take_take,Nat.min_self]
          rw [this]
        exact ⟨_,z1r hF,.inr ⟨_,rfl,e5,e6⟩⟩
      · have hF : z0m l (n : Int) = some (.inr ((n + 1 : Nat) : Int)) := by
          unfold z0m;rw [if_pos (by simp; omega),z0k hlt,z17 (x:=(n:Int) - 1) (by omega) (by omega), show ((n:Int) - 1)=((n - 1:Nat):Int) by omega,z0k (by omega)];simp only [bS];rw [decide_eq_false hc,if_neg (by simp),z0l (by omega)]
        obtain ⟨r,h2,h3⟩:=ih (n+1) (by omega) (by omega) (by omega) (by
          rw [zlr hlt];refine zol hst fun y hy=>?_;have h1':=z15s hso (n:=n) (i:=n - 1) (by omega) (by omega) y hy;have h2':kd (l[n - 1]'(by omega))≤kd l[n]:=List.pairwise_iff_getElem.1 hso _ _ (by omega) hlt (by omega);have h3':kd (l[n - 1]'(by omega))≠kd l[n]:=fun e=>hc (zmd e).symm
          omega)
        exact ⟨r, by rw [z2c hF]; exact h2,h3⟩
  unfold z1g;by_cases h2:l.length<2
  · rw [if_pos (by simp; omega)]
    refine ⟨l,rfl,?_, fun x=>Iff.rfl⟩
    match l,h2 with
    | [],_=>rfl
    | [_],_=>rfl
  · rw [if_neg (by simp; omega)]
    obtain ⟨r,e1,e2⟩:=key (l.length - 1) 1 rfl (by omega) (by omega) (by rw [zlr (by omega)]; simp)
    rw [show (1:Int)=((1:Nat):Int) from rfl,e1];rcases e2 with ⟨rfl,h3⟩ | ⟨c,rfl,h3,h4⟩
    · exact ⟨l,rfl,(zcq l).2 h3, fun x=>Iff.rfl⟩
    · exact ⟨c,rfl,(zcq c).2 h3,h4⟩
def zy9 (cl:ID→Option Bool) (a0:List ID) (s2:Int):Option (Sum (Sum Int Unit) Int) :=
  if decide (s2<(a0.length:Int)) then
    idx a0 s2 >>= fun x4 =>
    cl x4 >>= fun r6 =>
    if r6 then
      some (.inl (.inl s2))
    else
      some (.inr (w64 (s2+1)))
  else
    some (.inl (.inr ()))
def zz1 (cl:ID→Option Bool) (s5:(List ID) × Int × Int):Option (Sum ((List ID) × Int) ((List ID) × Int × Int)) :=
  if decide (s5.2.2<(s5.1.length:Int)) then
    idx s5.1 s5.2.2 >>= fun x7 =>
    cl x7 >>= fun r10 =>
    if !r10 then
      idx s5.1 s5.2.1 >>= fun x13 =>
      some (w64 (s5.2.1+1)) >>= fun y15 =>
      some (w64 (s5.2.2+1)) >>= fun y16 =>
      some (.inr (s5.1.set (s5.2.1:Int).toNat x7,y15,y16))
    else
      some (w64 (s5.2.2+1)) >>= fun y17 =>
      some (.inr (s5.1,s5.2.1,y17))
  else
    some (.inl (s5.1,s5.2.1))
def z19y (cl:ID→Option Bool) (c0:List ID):Option (List ID) :=
  (z4y (iter (zy9 cl c0) 0) fun s1=>some (-1)) >>= fun r1 =>
  if r1==(-1) then
    some c0
  else
    (iter (zz1 cl) (c0,r1,w64 (r1+1))) >>= fun s4 =>
    chk (0≤s4.2∧s4.2≤(s4.1.length:Int)∧(s4.1.length:Int)≤(s4.1.length:Int)) >>= fun u18 =>
    chk ((s4.2:Int).toNat+(((s4.1.length:Int):Int).toNat - (s4.2:Int).toNat)≤s4.1.length) >>= fun u20 =>
    cut (clr s4.1 ((s4.2:Int).toNat) (((s4.1.length:Int):Int).toNat - (s4.2:Int).toNat) (Vector.replicate 32 0)) 0 s4.2 >>= fun x22 =>
    some x22
theorem z134 (cl:ID→Option Bool) (p:ID→Bool) (hp:∀ x,cl x=some (p x)) (l:List ID) (hl:l.length≤1000):∃ b:Sum Int Unit,iter (zy9 cl l) 0=some b∧((b=.inr ()∧∀ x∈l,p x=false)∨∃ i:Nat,b=.inl (i:Int)∧(∃ h:i<l.length,p l[i]=true)∧∀ k (h:k<l.length),k<i→p l[k]=false):=by
  refine zfi (F:=zy9 cl l) (fun s=>∃ i:Nat,s=(i:Int)∧i≤l.length∧∀ k (h:k<l.length),k<i→p l[k]=false) (fun s=>l.length - s.toNat) _ ?_ 0 ⟨0,rfl,Nat.zero_le _, fun k _ h=>by omega⟩
  rintro s ⟨i,rfl,h1,h2⟩
  by_cases hi:i<l.length
  · have hF : zy9 cl l (i : Int) = if p l[i] then some (.inl (.inl (i : Int))) else some (.inr ((i + 1 : Nat) : Int)) := by
      unfold zy9;rw [if_pos (by simpa using hi),z0k hi,z0l (by omega)];simp only [bS];rw [hp];simp only [bS]
    cases hc:p l[i] with
    | true=>rw [hc] at hF; exact .inl ⟨_,hF,.inr ⟨i,rfl,⟨hi,hc⟩,h2⟩⟩
    | false =>
      rw [hc] at hF;refine .inr ⟨_,hF,⟨i+1,rfl,hi, fun k hk hki=>?_⟩, by simp; omega⟩;by_cases hk':k=i
      · subst hk'; exact hc
      · exact h2 k hk (by omega)
  · refine .inl ⟨.inr (),?_,.inl ⟨rfl, fun x hx=>?_⟩⟩
    · unfold zy9
      rw [if_neg (by simpa using hi)]
    · obtain ⟨k,hk,rfl⟩:=List.getElem_of_mem hx
      exact h2 k hk (by omega)
theorem z18c (cl:ID→Option Bool) (p:ID→Bool) (hp:∀ x,cl x=some (p x)) (l:List ID) (hl:l.length≤1000):z19y cl l=some (l.filter fun x=>!p x):=by
  obtain ⟨b,b1,b2⟩:=z134 cl p hp l hl;unfold z19y;rw [b1];rcases b2 with ⟨rfl,b3⟩ | ⟨i,rfl,⟨b3,b5⟩,b4⟩
  · simp only [zq5,bS]
    rw [if_pos (by rfl),List.filter_eq_self.2 (fun x hx=>by rw [b3 x hx]; first | done | rfl)]
  · simp only [zz3,bS]
    rw [if_neg (by simp <;> omega),z0l (by omega)]
    have h0:(l.take (i+1)).filter (fun x=>!p x)=l.take i:=by
      rw [zlr b3,List.filter_append,List.filter_cons_of_neg (by rw [b5]; simp),List.filter_nil,List.append_nil]
      refine List.filter_eq_self.2 fun x hx=>?_;obtain ⟨k,hk,rfl⟩:=List.getElem_of_mem hx;rw [List.length_take] at hk;rw [List.getElem_take,b4 k (by omega) (by omega)]; rfl
    have main:=z7b (F:=zz1 cl) l.length
      (fun j st=>st.1.length=l.length∧st.2.2=(j:Int)∧∃ i:Nat,st.2.1=(i:Int)∧i<j∧(∀ q,j≤q→st.1[q]? = l[q]?)∧st.1.take i=(l.take j).filter fun x=>!p x)
      (fun b=>b.1.length=l.length∧∃ i:Nat,b.2=(i:Int)∧i≤l.length∧b.1.take i=l.filter fun x=>!p x)
      (fun j st hj hst=>by
        obtain ⟨c,i',j'⟩:=st;obtain ⟨e1,e2,i,e3,e4,e5,e6⟩:=hst;simp only at e1 e2 e3 e5 e6;subst e2 e3;have g1:c[j]'(by omega)=l[j]:=by
          have:=e5 j (Nat.le_refl _)
          rw [List.getElem?_eq_getElem (by omega),List.getElem?_eq_getElem (by omega)] at this;exact Option.some.inj this
        have hF:zz1 cl (c,(i:Int),(j:Int))=if !p l[j] then some (.inr (c.set i l[j],((i+1:Nat):Int),((j+1:Nat):Int))) else some (.inr (c,(i:Int),((j+1:Nat):Int))):=by
          unfold zz1;rw [if_pos (by simp; omega)];simp only [];rw [z0k (by omega),g1];simp only [bS];rw [hp];simp only [bS];rw [z0k (by omega),z0l (by omega),z0l (by omega)];simp only [bS,Int.toNat_natCast]
        cases hc:p l[j] with
        | true =>
          rw [hc,if_neg (by simp)] at hF;refine ⟨_,hF,e1,rfl,i,rfl, by omega, fun q hq=>e5 q (by omega),?_⟩;rw [zlr hj,List.filter_append,List.filter_cons_of_neg (by rw [hc]; simp),List.filter_nil,List.append_nil]
          exact e6
        | false =>
          rw [hc,if_pos (by simp)] at hF;refine ⟨_,hF, by simpa using e1,rfl,i+1,rfl, by omega, fun q hq=>?_,?_⟩
          · show (c.set i _)[q]? = _
            rw [List.getElem?_set_ne (by omega)]; exact e5 q (by omega)
          · show (c.set i l[j]).take (i+1)=_
            rw [zlr (by rw [List.length_set]; omega),List.take_set_of_le (Nat.le_refl _),List.getElem_set_self,e6,zlr hj,List.filter_append,List.filter_cons_of_pos (by rw [hc]; simp),List.filter_nil])
      (fun st hst=>by
        obtain ⟨c,i',j'⟩:=st;obtain ⟨e1,e2,i,e3,e4,e5,e6⟩:=hst;simp only at e1 e2 e3 e5 e6;subst e2 e3;refine ⟨(c,(i:Int)),?_,e1,i,rfl, by omega,?_⟩
        · unfold zz1
          rw [if_neg (by simp; omega)]
        · rw [List.take_length] at e6; exact e6)
      (l,(i:Int),((i+1:Nat):Int)) (i+1) b3 ⟨rfl,rfl,i,rfl, by omega, fun _ _=>rfl,h0.symm⟩
    obtain ⟨⟨c,k'⟩,m1,m2,k,m3,m4,m5⟩:=main;simp only at m2 m3 m5;subst m3;rw [m1];simp only [bS];rw [z2z (by omega),z2z (by simp; omega)];simp only [bS,Int.toNat_natCast];rw [show (0:Int)=((0:Nat):Int) from rfl,zav (by omega) (by rw [zv5 _ _ _ _ (by omega)]; omega)];simp only [bS,List.drop_zero,Nat.sub_zero]
    have:(clr c k (c.length - k) (Vector.replicate 32 0)).take k=c.take k:=by
      unfold clr
      first
              | rw [List.append_assoc,List.take_append_of_le_length (by rw [List.length_take]; omega),List.take_take,Nat.min_self]
              | rw [List.take_append_of_le_length (by rw [List.length_take]; omega),List.take_take,Nat.min_self]
    rw [this,m5]
theorem z19l (m:List (ID × Int)) (p:ID→Bool) (hp:∀ x,(zbr m x).isSome=p x) (l:List ID) (hl:l.length≤1000):z1o l m=some (l.filter fun x=>!p x):=by
  have:=z18c (fun x=>z74 x m) p (fun x=>by unfold z74; simp only [bS]; rw [hp]) l hl;exact this
theorem zuq (E:zbq g):∃ m,z4w g=some m∧∀ x,(zbr m x).isSome=decide (x∈g.IDs):=by
  have hlen:=E.len;have hids:=E.ids;have main:=z7b (F:=z48 g) g.IDs.length
    (fun i s=>s.2=(i:Int)∧∀ x,(zbr s.1 x).isSome=decide (x∈g.IDs.take i))
    (fun m=>∀ x,(zbr m x).isSome=decide (x∈g.IDs))
    (fun i s hi hs=>by
      obtain ⟨m,i'⟩:=s;obtain ⟨h1,h2⟩:=hs;simp only at h1 h2;subst h1;refine ⟨(zlg m g.IDs[i] (i:Int),((i+1:Nat):Int)),?_,rfl, fun x=>?_⟩
      · unfold z48
        rw [if_pos (by simpa using hi)];simp only [];rw [z0k hi,z0l (by omega)];simp only [bS]
      · simp only []
        rw [zev,zlr hi];by_cases he:x=g.IDs[i]
        · rw [if_pos he,decide_eq_true (List.mem_append.2 (.inr (List.mem_singleton.2 he)))]; rfl
        · rw [if_neg he,h2,decide_eq_decide,List.mem_append]
          exact ⟨.inl, fun h=>h.resolve_right fun h=>he (List.mem_singleton.1 h)⟩)
    (fun s hs=>by
      obtain ⟨m,i'⟩:=s;obtain ⟨h1,h2⟩:=hs;simp only at h1 h2;subst h1;rw [List.take_length] at h2;refine ⟨m,?_,h2⟩;unfold z48
      rw [if_neg (by simp)])
    (([]:List (ID × Int)),0) 0 (Nat.zero_le _) ⟨rfl, fun x=>by simp [zbr]⟩
  obtain ⟨m,h1,h2⟩:=main;refine ⟨m,?_,h2⟩;unfold z4w;rw [h1];simp only [bS]
end
section
open Go
variable {g:z01}
def zou (g:z01) (m:Nat→Bool):Nat→List ID
 | 0=>[]
 | i+1=>if m i then zou g m i++[zm7 g i] else zou g m i
def zkv (g:z01) (m:Nat→Bool):Nat→List z05
 | 0=>[]
 | i+1=>if m i then zkv g m i++g.Ops[i]?.toList else zkv g m i
theorem ztl {g:z01} {m:Nat→Bool} {i:Nat} (h:m i=true):zou g m (i+1)=zou g m i++[zm7 g i]:=if_pos h
theorem zta {g:z01} {m:Nat→Bool} {i:Nat} (h:m i=true):zkv g m (i+1)=zkv g m i++g.Ops[i]?.toList:=if_pos h
theorem zsn {g:z01} {m:Nat→Bool} {i:Nat} (h:m i=false):zou g m (i+1)=zou g m i:=if_neg (by rw [h]; simp)
theorem ztm {g:z01} {m:Nat→Bool} {i:Nat} (h:m i=false):zkv g m (i+1)=zkv g m i:=if_neg (by rw [h]; simp)
def subG (g:z01) (m:Nat→Bool):z01:=⟨zou g m g.Ops.length,zkv g m g.Ops.length⟩
theorem zwd (g:z01) (m:Nat→Bool):∀ i,(zou g m i).length≤i
 | 0=>Nat.le_refl _
 | i+1=>by
  have:=zwd g m i
  unfold zou
  split
  ·rw [List.length_append,List.length_singleton]; omega
  ·omega
theorem zho (g:z01) (m:Nat→Bool):∀ i,(zkv g m i).length≤i
 | 0=>Nat.le_refl _
 | i+1=>by
  have:=zho g m i
  unfold zkv
  split
  ·rw [List.length_append]
   have:g.Ops[i]?.toList.length≤1:=by cases g.Ops[i]? <;> simp
   omega
  ·omega
theorem zms (g:z01) (m:Nat→Bool):∀ i,∀ o∈zkv g m i,o∈g.Ops
 | 0,o,h=>by simp [zkv] at h
 | i+1,o,h=>by
  unfold zkv at h
  split at h
  ·rcases List.mem_append.1 h with h | h
   ·exact zms g m i o h
   ·cases ho:g.Ops[i]? with
    | none=>rw [ho] at h; simp at h
    | some q =>
     rw [ho] at h
     have:o=q:=by simpa using h
     subst this;exact List.mem_of_getElem? ho
  ·exact zms g m i o h
theorem z137 (E:zbq g) (m:Nat→Bool):iter (z82 g (tab g.Ops.length m)) ([],[],0)=some (zou g m g.Ops.length,zkv g m g.Ops.length):=by
 have hlen:=E.len;have hids:=E.ids;have main:=z3d (F:=z82 g (tab g.Ops.length m)) (b:=(zou g m g.Ops.length,zkv g m g.Ops.length)) g.Ops.length (fun i=>(zou g m i,zkv g m i,(i:Int))) (fun i hi=>?_) ?_
 ·exact main
 ·have hii:i<g.IDs.length:=by omega
  have l1:=zwd g m i;have l2:=zho g m i;have h4:=(E.op i hi).1;unfold z82;rw [if_pos (by rw [znv]; simpa using hi)]
  simp only [];rw [zby hi,z0l (by omega)];simp only [bS]
  cases hm:m i with
  | false =>
   rw [if_neg (by simp),zsn hm,ztm hm]
  | true =>
   rw [if_pos rfl,z0k hi];simp only [bS];rw [zjo _ (by omega),z0k hii];simp only [bS];rw [z1l (by simp only [List.length_cons,List.length_nil]; omega)];simp only [bS];rw [z1l (by simp only [List.length_cons,List.length_nil]; omega)];simp only [bS];rw [ztl hm,zta hm,z69 hii,List.getElem?_eq_getElem hi];rfl
 ·unfold z82;rw [if_neg (by rw [znv]; simp)]
end
section
open Go
variable {g:z01}
theorem z12y (g:z01) (m:Nat→Bool):∀ i,zou g m i=((List.range i).filter m).map (zm7 g)
 | 0=>rfl
 | i+1=>by
  have ih:=z12y g m i;rw [List.range_succ,List.filter_append,List.map_append,← ih]
  cases hm:m i with
  | true=>rw [ztl hm,List.filter_cons_of_pos (by exact hm)]; rfl
  | false=>rw [zsn hm,List.filter_cons_of_neg (by rw [hm]; simp)]; simp
theorem zht (g:z01) (m:Nat→Bool):zou g m g.Ops.length=zb2 g m:=z12y g m _
theorem zu2 (G:zbi g) (h1:z7v g=some 0) (l:List ID) (hl:l.length≤60):∃ r,zai g l=some (r,0)∧∀ x,x∈r↔x∈l∧x∉g.IDs:=by
 unfold zai;rw [h1];simp only [bS];rw [if_neg (by simp),if_neg (by simp; omega)];obtain ⟨m,m1,m2⟩:=zuq G.e;obtain ⟨F,f1,f2,f3⟩:∃ F,z1o l m=some F∧F.length≤l.length∧∀ x,x∈F↔x∈l∧x∉g.IDs :=
  ⟨_,z19l m _ m2 l (by omega),List.length_filter_le _ _, fun x=>by rw [List.mem_filter]; simp⟩
 obtain ⟨d,d1,d2,d3⟩:=zij (zvn F) (by rw [zo9]; omega) (zly _);rw [m1];simp only [bS];rw [zjo l (by omega)];simp only [bS];rw [f1];simp only [bS];unfold z10e;rw [z2z (by omega)];simp only [bS];rw [d1];simp only [bS];exact ⟨d,rfl, fun x=>by rw [d3,ztz,f3]⟩
theorem zyf (G:zbi g) (h1:z7v g=some 0) (l:List ID) (hb:l.length≤60) (hin:∀ x∈l,x∈g.IDs):∃ m,zc3 g l=some (subG g m,0)∧∀ i,m i=true↔Rch (z2n g) (l.map fun x=>g.IDs.idxOf x) i:=by
 obtain ⟨r,r1,r2⟩:=zu2 G h1 l hb;have he:r=[]:=by
  cases r with
  | nil=>rfl
  | cons a b =>
   have:=(r2 a).1 (by simp)
   exact absurd (hin a this.1) this.2
 subst he;obtain ⟨m,m1,m2⟩:=z135 G.e G.ins l hin (by omega);refine ⟨m,?_,m2⟩;unfold zc3;rw [r1];simp only [bS];rw [if_neg (by simp),if_neg (by simp),m1];simp only [bS];rw [z137 G.e m];simp only [bS];rfl
end
section
open Go Go.Sort
theorem zxf {κ β:Type} [DecidableEq κ] (x:κ):∀ m:List (κ × β),zbr m x=none↔x∉m.map Prod.fst
 | []=>by simp [zbr]
 | p::m=>by
  unfold zbr;by_cases h:x=p.1
  ·rw [if_pos h]; simp [h]
  ·rw [if_neg h,zxf x m]; simp [h]
theorem z10m {κ β:Type} [DecidableEq κ] (k:κ) (v:β):∀ m:List (κ × β),(m.map Prod.fst).Nodup→((zlg m k v).map Prod.fst).Nodup∧∀ x,x∈(zlg m k v).map Prod.fst→x=k∨x∈m.map Prod.fst
 | [],_=>by simp [zlg]
 | p::m,h=>by
  simp only [List.map_cons,List.nodup_cons] at h;obtain ⟨h1,h2⟩:=z10m k v m h.2;unfold zlg;by_cases hk:k=p.1
  ·rw [if_pos hk];refine ⟨by simp only [List.map_cons,List.nodup_cons]; exact h, fun x hx=>.inr ?_⟩
   simpa using hx
  ·rw [if_neg hk];refine ⟨?_, fun x hx=>?_⟩
   ·simp only [List.map_cons,List.nodup_cons];refine ⟨fun hx=>?_,h1⟩;rcases h2 _ hx with e | e
    ·exact hk e.symm
    ·exact h.1 e
   ·simp only [List.map_cons,List.mem_cons] at hx ⊢;rcases hx with e | e
    ·exact .inr (.inl e)
    ·rcases h2 _ e with e | e
     ·exact .inl e
     ·exact .inr (.inr e)
theorem zs9 {κ β:Type} [DecidableEq κ] (k x:κ):∀ m:List (κ × β),(m.map Prod.fst).Nodup→zbr (zro m k) x=if x=k then none else zbr m x
 | [],_=>by simp [zro,zbr]
 | p::m,h=>by
  simp only [List.map_cons,List.nodup_cons] at h;unfold zro;by_cases hk:k=p.1
  ·rw [if_pos hk];by_cases hx:x=k
   ·rw [if_pos hx,zxf,hx,hk]; exact h.1
   ·rw [if_neg hx];show _=if x=p.1 then some p.2 else zbr m x
    rw [if_neg (fun e=>hx (e.trans hk.symm))]
  ·rw [if_neg hk];show (if x=p.1 then some p.2 else zbr (zro m k) x)=if x=k then none else if x=p.1 then some p.2 else zbr m x
   rw [zs9 k x m h.2];by_cases hx:x=p.1
   ·rw [if_pos hx,if_pos hx,if_neg (fun e=>hk (e.symm.trans hx))]
   ·rw [if_neg hx,if_neg hx]
theorem z10o {κ β:Type} [DecidableEq κ] (k:κ):∀ m:List (κ × β),(m.map Prod.fst).Nodup→((zro m k).map Prod.fst).Nodup∧∀ x,x∈(zro m k).map Prod.fst→x∈m.map Prod.fst
 | [],_=>by simp [zro]
 | p::m,h=>by
  simp only [List.map_cons,List.nodup_cons] at h;obtain ⟨h1,h2⟩:=z10o k m h.2;unfold zro;by_cases hk:k=p.1
  ·rw [if_pos hk]; exact ⟨h.2, fun x hx=>by simp only [List.map_cons,List.mem_cons]; exact .inr hx⟩
  ·rw [if_neg hk];refine ⟨?_, fun x hx=>?_⟩
   ·simp only [List.map_cons,List.nodup_cons];exact ⟨fun hx=>h.1 (h2 _ hx),h1⟩
   ·simp only [List.map_cons,List.mem_cons] at hx ⊢;exact hx.imp id (h2 _)
def zuu {α:Type} (cl:α→Option Bool) (a0:List α) (s2:Int):Option (Sum (Sum Int Unit) Int) :=
 if decide (s2<(a0.length:Int)) then
  idx a0 s2 >>= fun x4 =>
  cl x4 >>= fun r6 =>
  if r6 then
   some (.inl (.inl s2))
  else
   some (.inr (w64 (s2+1)))
 else
  some (.inl (.inr ()))
theorem zpv {α:Type} (cl:α→Option Bool) (p:α→Bool) (l:List α) (hp:∀ x∈l,cl x=some (p x)) (hl:l.length≤9223372036854775806):∀ rest pre:List α,l=pre++rest →
  iter (zuu cl l) (pre.length:Int)=some (match rest.findIdx? p with | some i=>.inl ((pre.length+i:Nat):Int) | none=>.inr ())
 | [],pre,e=>by
  subst e;refine z1r ?_;unfold zuu;rw [if_neg (by simp)]; rfl
 | c::rest,pre,e=>by
  have hlen:pre.length<l.length:=by rw [e]; simp
  have hget:l[pre.length]'hlen=c:=by subst e; simp
  have hF:zuu cl l (pre.length:Int)=if p c then some (.inl (.inl (pre.length:Int))) else some (.inr ((pre.length+1:Nat):Int)):=by
   unfold zuu;rw [if_pos (by simpa using hlen),z0k hlen,hget];simp only [bS];rw [hp c (by rw [e]; simp),z0l (by omega)]
   simp only [bS]
  rw [List.findIdx?_cons]
  cases hc:p c with
  | true =>
   rw [hc,if_pos rfl] at hF;rw [z1r hF]; simp
  | false =>
   rw [hc,if_neg (by simp)] at hF;have ih:=zpv cl p l hp hl rest (pre++[c]) (by simp [e]);simp only [List.length_append,List.length_cons,List.length_nil,Nat.zero_add] at ih;rw [z2c hF,ih]
   cases rest.findIdx? p with
   | none=>simp
   | some i=>simp; omega
theorem zw8 {α:Type} (cl:α→Option Bool) (p:α→Bool) (l:List α) (hp:∀ x∈l,cl x=some (p x)) (hl:l.length≤9223372036854775806):iter (zuu cl l) 0=some (match l.findIdx? p with | some i=>.inl (i:Int) | none=>.inr ()):=by
 have:=zpv cl p l hp hl l [] rfl
 simpa using this
theorem z14m {α:Type} (p:α→Bool) (l:List α):(l.findIdx? p).isSome=l.any p:=by
 induction l with
 | nil=>rfl
 | cons a l ih =>
  rw [List.findIdx?_cons,List.any_cons]
  cases h:p a with
  | true=>rfl
  | false=>simp
def wfO (l:List z05):Prop:=∀ o∈l,inI o.Act.Value.Num∧o.Act.Value.Text.length≤9223372036854775807
def oid (o:z05):ID:=sha (z7h o)
def nmd (o:z05):z0d:=⟨o,oid o⟩
def zxl:List z05→Int
 | []=>0
 | o::l=>if z1v o=0 then zxl l else z1v o
theorem zdg:∀ l:List z05,zxl l=0↔∀ o∈l,z1v o=0
 | []=>by simp [zxl]
 | o::l=>by
  unfold zxl;by_cases h:z1v o=0
  ·rw [if_pos h,zdg l]; simp [h]
  ·rw [if_neg h]; simp [h]
theorem z167 (l:List z05) (hw:wfO l) (hl:l.length≤60):∀ rest pre:List z05,l=pre++rest→iter (z8m l) (pre.map nmd,(pre.length:Int))=some (if zxl rest=0 then .inr (l.map nmd) else .inl ([],zxl rest))
 | [],pre,e=>by
  subst e;refine z1r ?_;unfold z8m;rw [if_neg (by simp)];simp [zxl]
 | o::rest,pre,e=>by
  have hlen:pre.length<l.length:=by rw [e]; simp
  have hget:l[pre.length]'hlen=o:=by subst e; simp
  obtain ⟨w1,w2⟩:=hw o (by rw [e]; simp)
  have hfb:zxl (o::rest)=if z1v o=0 then zxl rest else z1v o:=rfl
  have hF:z8m l (pre.map nmd,(pre.length:Int))=if z1v o=0 then some (.inr ((pre++[o]).map nmd,((pre.length+1:Nat):Int))) else some (.inl (.inl ([],z1v o))):=by
   unfold z8m;rw [if_pos (by simpa using hlen)];simp only [];rw [z0k hlen,hget];simp only [bS];rw [zky o w1 w2];simp only [bS];by_cases h:z1v o=0
   ·rw [if_pos h,if_pos h,if_neg (by simp)];rw [zjo _ (by have:=(z40 h).1; omega)];simp only [bS];rw [z1l (by simp only [List.length_map,List.length_cons,List.length_nil]; omega)];simp only [bS];rw [z0l (by omega),List.map_append];rfl
   ·rw [if_neg h,if_neg h,if_pos (by simpa using h)]
  by_cases h:z1v o=0
  ·rw [if_pos h] at hF;have ih:=z167 l hw hl rest (pre++[o]) (by simp [e]);simp only [List.length_append,List.length_cons,List.length_nil,Nat.zero_add] at ih;rw [z2c hF,ih,hfb,if_pos h]
  ·rw [if_neg h] at hF;rw [z1r hF,hfb,if_neg h,if_neg h]
def z85 (l:List z0d):List ID:=l.map (·.id)
theorem z15u (S:List z0d) (hS:S.length≤60):∀ (rest pre:List z0d) (m:List (ID × Bool)),S=pre++rest→(m.map Prod.fst).Nodup→(z85 pre).Nodup→(∀ x,(zbr m x).getD false=decide (x∈z85 pre)) →
  ∃ r,iter (z8p S) (m,(pre.length:Int))=some r∧((r=.inl ([],14)∧¬ (z85 S).Nodup)∨∃ m',r=.inr m'∧(z85 S).Nodup∧(m'.map Prod.fst).Nodup∧∀ x,(zbr m' x).getD false=decide (x∈z85 S))
 | [],pre,m,e,hm,hn,hx=>by
  rw [List.append_nil] at e;subst e;refine ⟨.inr m,z1r ?_,.inr ⟨m,rfl,hn,hm,hx⟩⟩;unfold z8p;rw [if_neg (by simp)]
 | c::rest,pre,m,e,hm,hn,hx=>by
  have hlen:pre.length<S.length:=by rw [e]; simp
  have hget:S[pre.length]'hlen=c:=by subst e; simp
  have hF:z8p S (m,(pre.length:Int))=if decide (c.id∈z85 pre) then some (.inl (.inl ([],14))) else some (.inr (zlg m c.id true,((pre.length+1:Nat):Int))):=by
   unfold z8p;rw [if_pos (by simpa using hlen)];simp only [];rw [z0k hlen,hget];simp only [bS];rw [hx,z0l (by omega)]
  by_cases hc:c.id∈z85 pre
  ·rw [decide_eq_true hc,if_pos rfl] at hF;refine ⟨_,z1r hF,.inl ⟨rfl, fun hS=>?_⟩⟩;rw [e] at hS;unfold z85 at hS hc;rw [List.map_append,List.map_cons,List.nodup_append] at hS;exact hS.2.2 _ hc _ (by simp) rfl
  ·rw [decide_eq_false hc,if_neg (by simp)] at hF;have hids:z85 (pre++[c])=z85 pre++[c.id]:=by simp [z85]
   obtain ⟨r,h1,h2⟩:=z15u S hS rest (pre++[c]) (zlg m c.id true) (by simp [e]) (z10m _ _ m hm).1 (by
    rw [hids,List.nodup_append];refine ⟨hn, by simp, fun a ha b hb=>?_⟩;simp only [List.mem_singleton] at hb;subst hb
    exact fun e=>hc (e ▸ ha)) (fun x=>by
    rw [zev,hids];by_cases hxc:x=c.id
    ·rw [if_pos hxc]; simp [hxc]
    ·rw [if_neg hxc,hx]; simp [hxc])
   simp only [List.length_append,List.length_cons,List.length_nil,Nat.zero_add] at h1;exact ⟨r, by rw [z2c hF]; exact h1,h2⟩
def free (W:List ID) (x:z0d):Bool:=x.o.Preds.all fun p=>!decide (p∈W)
def za4:Nat→List z0d→List z0d
 | 0,_=>[]
 | n+1,left=>match left.findIdx? (free (z85 left)) with
  | none=>[]
  | some i=>match left[i]? with
   | none=>[]
   | some x=>x::za4 n (left.eraseIdx i)
theorem z11c (x:z0d) (hx:x.o.Preds.length≤4) (m:List (ID × Bool)) (W:List ID) (hm:∀ x,(zbr m x).getD false=decide (x∈W)):z7p x m=some (free W x):=by
 have h:=zw8 (fun y=>z7w y m) (fun y=>decide (y∈W)) x.o.Preds (fun y _=>by unfold z7w; simp only [bS]; rw [hm]) (by omega);unfold z7p z2a z2i;have hE:z3j x.o.Preds m=zuu (fun y=>z7w y m) x.o.Preds:=rfl;rw [hE,h];have ha:=z14m (fun y=>decide (y∈W)) x.o.Preds;have hfr:free W x=!(x.o.Preds.any fun y=>decide (y∈W)):=by unfold free; rw [List.all_eq_not_any_not]; simp
 rw [hfr,← ha]
 cases x.o.Preds.findIdx? fun y=>decide (y∈W) with
 | none=>rfl
 | some i=>simp only [zz3,bS]; simp
theorem zxy (left:List z0d) (hl:left.length≤60) (hp:∀ x∈left,x.o.Preds.length≤4) (m:List (ID × Bool)) (W:List ID) (hm:∀ x,(zbr m x).getD false=decide (x∈W)) :
  z1d left m=some (match left.findIdx? (free W) with | some i=>(i:Int) | none=>-1):=by
 have h:=zw8 (fun y=>z7p y m) (free W) left (fun y hy=>z11c y (hp y hy) m W hm) (by omega);unfold z1d;have hE:z2o left m=zuu (fun y=>z7p y m) left:=rfl;rw [hE,h]
 cases left.findIdx? (free W) with
 | none=>rfl
 | some i=>rfl
theorem zep (l:List z0d) (i:Nat):z85 (l.eraseIdx i)=(z85 l).eraseIdx i:=by
 unfold z85;rw [List.eraseIdx_eq_take_drop_succ,List.eraseIdx_eq_take_drop_succ,List.map_append,List.map_take,List.map_drop]
theorem zoi {l:List ID} (hn:l.Nodup) {i:Nat} (hi:i<l.length) (x:ID):x∈l.eraseIdx i↔x∈l∧x≠l[i]:=by
 rw [List.mem_eraseIdx_iff_getElem]
 constructor
 ·rintro ⟨j,hj,h1,h2⟩
  subst h2;exact ⟨List.getElem_mem hj, fun e=>h1 (zkc hn hj hi e)⟩
 ·rintro ⟨h1,h2⟩
  obtain ⟨j,hj,rfl⟩:=List.getElem_of_mem h1;exact ⟨j,hj, fun e=>h2 (by subst e; rfl),rfl⟩
theorem z16d:∀ (n:Nat) (left:List z0d) (m:List (ID × Bool)) (out:List z0d),left.length=n→out.length+n≤60→(∀ x∈left,x.o.Preds.length≤4)→(z85 left).Nodup→(m.map Prod.fst).Nodup→(∀ x,(zbr m x).getD false=decide (x∈z85 left)) →
  iter z6r (left,m,out)=some (if (za4 n left).length=n then .inr (out++za4 n left) else .inl ([],36))
 | 0,left,m,out,hl,ho,hp,hn,hk,hm=>by
  refine z1r ?_;unfold z6r;rw [if_neg (by simp [hl])];simp [za4]
 | n+1,left,m,out,hl,ho,hp,hn,hk,hm=>by
  have hf:=zxy left (by omega) hp m _ hm
  cases hi:left.findIdx? (free (z85 left)) with
  | none =>
   rw [hi] at hf;have hc:za4 (n+1) left=[]:=by unfold za4; rw [hi]
   rw [hc,if_neg (by simp)];refine z1r ?_;unfold z6r;rw [if_pos (by simp; omega)];simp only [];rw [hf];rfl
  | some i =>
   rw [hi] at hf;have hil:i<left.length:=by
    have:=List.findIdx?_eq_some_iff_findIdx_eq.1 hi
    exact this.1
   have hc:za4 (n+1) left=left[i]::za4 n (left.eraseIdx i):=by
    conv=>lhs; unfold za4
    rw [hi];simp only [];rw [List.getElem?_eq_getElem hil]
   have hidl:i<(z85 left).length:=by simpa [z85] using hil
   have hF:z6r (left,m,out)=some (.inr (left.eraseIdx i,zro m left[i].id,out++[left[i]])):=by
    unfold z6r;rw [if_pos (by simp; omega)];simp only [];rw [hf];simp only [bS];rw [if_neg (by simp),z0k hil];simp only [bS];rw [z1l (by simp only [List.length_cons,List.length_nil]; omega)];simp only [bS];rw [z0l (by omega)];unfold delL;rw [z2z ⟨⟨by omega, by omega⟩, by simp; omega, by omega⟩];simp only [bS,Int.toNat_natCast];rw [List.eraseIdx_eq_take_drop_succ]
   have hlen:(left.eraseIdx i).length=n:=by rw [List.length_eraseIdx_of_lt hil]; omega
   rw [z2c hF,z16d n (left.eraseIdx i) _ _ hlen (by simp; omega) (fun x hx=>hp x (List.mem_of_mem_eraseIdx hx)) (by rw [zep]; exact hn.sublist (List.eraseIdx_sublist _ _)) (z10o _ m hk).1 (fun x=>by
    rw [zs9 _ _ m hk,zep];have e:(z85 left)[i]=left[i].id:=by simp [z85]
    by_cases hx:x=left[i].id
    ·rw [if_pos hx]
     symm
     simp only [Option.getD_none,decide_eq_false_iff_not];rw [zoi hn hidl,e];exact fun h=>h.2 hx
    ·rw [if_neg hx,hm]
     congr 1
     rw [zoi hn hidl,e]
     simp [hx]),hc]
   by_cases hq:(za4 n (left.eraseIdx i)).length=n
   ·rw [if_pos hq,if_pos (by simp [hq]),List.append_assoc]; rfl
   ·rw [if_neg hq,if_neg (by simp [hq])]
def zir (l:List z05):List z0d:=srtG z10p cfN (l.map nmd)
theorem z9b (l:List z05):(zir l).Perm (l.map nmd):=zs8 z10p cfN swoN _
theorem zjf (l:List z05):(zir l).Pairwise fun x y=>kd x.id≤kd y.id:=(zuz z10p cfN swoN (l.map nmd)).imp fun {a b} h=>by
 have:=ltN b a
 unfold ltOf at this;rw [decide_eq_false h] at this
 have:=(decide_eq_false_iff_not.1 this.symm)
 omega
theorem zmx (l:List z05):(zir l).length=l.length:=by rw [(z9b l).length_eq,List.length_map]
def zjk (l:List z05):List z0d × Int :=
 if 60<l.length then ([],4) else if zxl l≠0 then ([],zxl l) else if ¬ (z85 (zir l)).Nodup then ([],14) else if (za4 l.length (zir l)).length=l.length then (za4 l.length (zir l),0) else ([],36)
theorem zjj (l:List z05) (hw:wfO l):z9q l=some (zjk l):=by
 unfold z9q zjk;by_cases h60:60<l.length
 ·rw [if_pos (by simp; omega),if_pos h60]
 ·rw [if_neg (by simp; omega),if_neg h60];have h0:=z167 l hw (by omega) l [] rfl;simp only [List.map_nil,List.length_nil] at h0;rw [show ((0:Nat):Int)=0 from rfl] at h0;rw [h0];by_cases hb:zxl l=0
  ·rw [if_pos hb,if_neg (by simp [hb])];simp only [zq5];have hs:z13l (l.map nmd)=some (zir l):=by
    unfold z13l;rw [z2z (by simp; omega)];rfl
   rw [hs];simp only [bS];have hlen:=zmx l;obtain ⟨r,h1,h2⟩:=z15u (zir l) (by omega) (zir l) [] [] rfl (by simp) (by simp [z85]) (fun x=>by simp [zbr,z85]);simp only [List.length_nil] at h1;rw [show ((0:Nat):Int)=0 from rfl] at h1;rw [h1];rcases h2 with ⟨rfl,h2⟩ | ⟨m,rfl,h2,h3,h4⟩
   ·rw [if_pos h2]; rfl
   ·rw [if_neg (fun h=>h h2)];simp only [zq5];have hp:∀ x∈zir l,x.o.Preds.length≤4:=fun x hx=>by
     obtain ⟨o,ho,rfl⟩:=List.mem_map.1 ((z9b l).mem_iff.1 hx);exact (z40 ((zdg l).1 hb o ho)).1
    rw [z16d l.length (zir l) m [] hlen (by simp; omega) hp h2 h3 h4];by_cases hq:(za4 l.length (zir l)).length=l.length
    ·rw [if_pos hq,if_pos hq]; rfl
    ·rw [if_neg hq,if_neg hq]; rfl
  ·rw [if_neg hb,if_pos hb]; rfl
end
section
open Go
theorem zwv (l:List ID) (x:ID) (hl:l.length≤9223372036854775806):∀ (rest pre:List ID),l=pre++rest→iter (z3s l x) (pre.length:Int)=some (if x∈rest then .inl ((pre.length+rest.idxOf x:Nat):Int) else .inr ())
 | [],pre,e=>by
  refine z1r ?_;subst e;unfold z3s;rw [if_neg (by simp)]
  simp
 | c::rest,pre,e=>by
  have hlen:pre.length<l.length:=by rw [e]; simp
  have hget:l[pre.length]'hlen=c:=by subst e; simp
  have hF:z3s l x (pre.length:Int)=if decide (c=x) then some (.inl (.inl (pre.length:Int))) else some (.inr ((pre.length+1:Nat):Int)):=by
   unfold z3s;rw [if_pos (by simpa using hlen),z0k hlen,hget,z0l (by omega)];simp only [bS]
  by_cases hc:c=x
  ·rw [decide_eq_true hc,if_pos rfl] at hF;rw [z1r hF,if_pos (by simp [hc])];simp [hc]
  ·rw [decide_eq_false hc,if_neg (by simp)] at hF;have ih:=zwv l x hl rest (pre++[c]) (by simp [e]);simp only [List.length_append,List.length_cons,List.length_nil,Nat.zero_add] at ih;rw [z2c hF,ih];by_cases hx:x∈rest
   ·have hi:(c::rest).idxOf x=rest.idxOf x+1:=by
     rw [List.idxOf_cons, show (c==x)=false by simpa using hc]; rfl
    rw [if_pos hx,if_pos (by simp [hx]),hi]
    congr 3; omega
   ·rw [if_neg hx,if_neg (by simp [hx]; exact fun e=>hc e.symm)]
theorem z1ah (l:List ID) (x:ID) (hl:l.length≤9223372036854775806):z5p l x=some (if x∈l then (l.idxOf x:Int) else -1):=by
 have h:=zwv l x hl l [] rfl;unfold z5p;rw [show (0:Int)=(([]:List ID).length:Int) from rfl,h];by_cases hx:x∈l
 ·rw [if_pos hx,if_pos hx]; simp [zz3]
 ·rw [if_neg hx,if_neg hx]; rfl
theorem zwr {F:Int→Option (Sum (Sum Bool Unit) Int)} (n:Nat) (q:Nat→Bool) (h1:∀ i,i<n→F (i:Int)=if q i then some (.inr ((i+1:Nat):Int)) else some (.inl (.inl false))) (h2:F (n:Int)=some (.inl (.inr ()))):iter F 0=some (if (List.range n).all q then .inr () else .inl false):=by
 have key:∀ k i,n - i=k→i≤n→iter F (i:Int)=some (if (List.range' i k).all q then .inr () else .inl false):=by
  intro k
  induction k with
  | zero =>
   intro i hk hi
   have:i=n:=by omega
   subst this;rw [z1r h2]; rfl
  | succ k ih =>
   intro i hk hi;have hF:=h1 i (by omega);rw [List.range'_succ,List.all_cons]
   cases hq:q i with
   | true =>
    rw [hq,if_pos rfl] at hF;rw [z2c hF,ih (i+1) (by omega) (by omega),Bool.true_and]
   | false =>
    rw [hq,if_neg (by simp)] at hF;rw [z1r hF]; simp
 have:=key n 0 (by omega) (by omega)
 rw [List.range_eq_range']; exact this
theorem zkf {α β:Type} {F:List β × Int→Option (Sum (List β) (List β × Int))} (l:List α) (g:α→List β) (s0:List β) (h1:∀ i (h:i<l.length),F (s0++(l.take i).flatMap g,(i:Int))=some (.inr (s0++(l.take i).flatMap g++g l[i],((i+1:Nat):Int)))) (h2:F (s0++l.flatMap g,(l.length:Int))=some (.inl (s0++l.flatMap g))):iter F (s0,0)=some (s0++l.flatMap g):=by
 have main:=z3d (F:=F) (b:=s0++l.flatMap g) l.length (fun i=>(s0++(l.take i).flatMap g,(i:Int))) (fun i hi=>by
  rw [h1 i hi]
  simp only [zlr hi,List.flatMap_append,List.flatMap_cons,List.flatMap_nil,List.append_nil,List.append_assoc]) (by simpa using h2)
 simpa using main
theorem zog {α β:Type} (f:α→β) (l:List α):(l.flatMap fun x=>[f x])=l.map f:=by
 induction l with
 | nil=>rfl
 | cons a l ih=>rw [List.flatMap_cons,ih]; rfl
def zO:z05:=⟨0,[],0,⟨0,[],⟨0,0,0,[]⟩⟩,⟨0,0⟩⟩
def opJ (l:List z05) (j:Nat):z05:=l.getD j zO
theorem zrk {l:List z05} {j:Nat} (h:j<l.length):opJ l j=l[j]:=by unfold opJ; rw [List.getD_eq_getElem?_getD,List.getElem?_eq_getElem h]; rfl
theorem z1bl {l:List z0d} (hs:l.Pairwise fun x y=>kd x.id≤kd y.id) {p q:Nat} (hp:p<l.length) (hq:q<l.length) (h:p≤q):kd l[p].id≤kd l[q].id:=by
 by_cases e:p=q
 ·subst e; exact Nat.le_refl _
 ·exact List.pairwise_iff_getElem.1 hs p q hp hq (by omega)
theorem zyx {α:Type} (l:List α) (i:Nat) (hi:i<l.length):(l[i]::l.eraseIdx i).Perm l:=by
 rw [List.eraseIdx_eq_take_drop_succ];refine List.perm_middle.symm.trans (List.Perm.of_eq ?_);rw [← List.drop_eq_getElem_cons hi,List.take_append_drop]
theorem ze5 (l:List z05):(z85 (zir l)).Perm (l.map oid):=by
 have:=(z9b l).map (fun x:z0d=>x.id)
 rw [List.map_map] at this;exact this
end
section
open Go
theorem z16s {α:Type} [DecidableEq α] (a b:List α) (hl:a.length=b.length):(List.range a.length).all (fun i=>decide (a[i]? = b[i]?))=decide (a=b):=by
 rw [Bool.eq_iff_iff,List.all_eq_true,decide_eq_true_iff]
 constructor
 ·intro h
  apply List.ext_getElem?
  intro i;by_cases hi:i<a.length
  ·simpa using h i (by simpa using hi)
  ·rw [List.getElem?_eq_none (by omega),List.getElem?_eq_none (by omega)]
 ·rintro rfl i _
  simp
theorem z18o (b:Bool):z4y (some (if b then Sum.inr () else Sum.inl false)) (fun _=>some true)=some b:=by cases b <;> rfl
theorem z13u (a b:List UInt8) (hb:a.length≤9223372036854775806):z7m a b=some (decide (a=b)):=by
 unfold z7m;by_cases hl:a.length=b.length
 ·rw [if_neg (by simp [hl]),zwr a.length (fun i=>decide (a[i]? = b[i]?)) (fun i hi=>by
   unfold z8e;rw [if_pos (by simpa using hi),z0k hi,z0k (by omega),List.getElem?_eq_getElem hi,List.getElem?_eq_getElem (by omega),z0l (by omega)];simp only [bS]
   by_cases h:a[i]=b[i] <;> simp [h]) (by unfold z8e; rw [if_neg (by simp)]),z16s a b hl]
  exact z18o _
 ·rw [if_pos (by simp; omega),decide_eq_false (fun e=>hl (by rw [e]))]
theorem zqv (m:List z0d) (hl:m.length≤1000):zbf m=some (m.map (·.o)):=by
 unfold zbf
 have:=zkf (F:=z8x m) m (fun x=>[x.o]) [] (fun i hi=>by
  unfold z8x;rw [if_pos (by simpa using hi)];simp only [];rw [z0k hi];simp only [bS];rw [z1l (by simp only [List.nil_append,zog,List.length_map,List.length_take,List.length_cons,List.length_nil]; omega)];simp only [bS]
  rw [z0l (by omega)]) (by
  unfold z8x
  rw [if_neg (by simp)])
 rw [this,zog]; rfl
def z6g (l:List z05):List z0d:=za4 l.length (zir l)
theorem zko:∀ (n:Nat) (left:List z0d),∀ x∈za4 n left,x∈left
 | 0,left,x,hx=>by simp [za4] at hx
 | n+1,left,x,hx=>by
  unfold za4 at hx
  split at hx
  ·simp at hx
  ·rename_i i hi
   split at hx
   ·simp at hx
   ·rename_i y hy;rcases List.mem_cons.1 hx with e | e
    ·rw [e]; exact List.mem_of_getElem? hy
    ·exact List.mem_of_mem_eraseIdx (zko n _ x e)
theorem zmu (l:List z05):∀ x∈z6g l,∃ o∈l,x=nmd o:=fun x hx=>by
 obtain ⟨o,h1,h2⟩:=List.mem_map.1 ((z9b l).mem_iff.1 (zko _ _ x hx));exact ⟨o,h1,h2.symm⟩
theorem ztp:∀ (n:Nat) (left:List z0d) (k:Nat) (h:k<(za4 n left).length),∀ p∈((za4 n left)[k]).o.Preds,p∉z85 ((za4 n left).drop k)
 | 0,left,k,h=>by simp [za4] at h
 | n+1,left,k,h=>by
  cases hi:left.findIdx? (free (z85 left)) with
  | none =>
   have hc:za4 (n+1) left=[]:=by unfold za4; rw [hi]
   rw [hc] at h; simp at h
  | some i =>
   obtain ⟨hil,hfr,-⟩:=List.findIdx?_eq_some_iff_getElem.1 hi;have hc:za4 (n+1) left=left[i]'hil::za4 n (left.eraseIdx i):=by
    conv=>lhs; unfold za4
    rw [hi];simp only [];rw [List.getElem?_eq_getElem hil]
   simp only [hc] at h ⊢
   cases k with
   | zero =>
    intro p hp hin;simp only [List.getElem_cons_zero,List.drop_zero] at hp hin;unfold free at hfr;rw [List.all_eq_true] at hfr;have h1:=hfr p hp
    have:p∈z85 left:=by
     unfold z85 at hin ⊢;obtain ⟨x,hx,e⟩:=List.mem_map.1 hin;refine List.mem_map.2 ⟨x,?_,e⟩;rcases List.mem_cons.1 hx with e | e
     ·rw [e]; exact List.getElem_mem hil
     ·exact List.mem_of_mem_eraseIdx (zko n _ x e)
    rw [decide_eq_true this] at h1; cases h1
   | succ k =>
    simp only [List.getElem_cons_succ,List.drop_succ_cons];exact ztp n _ k (by simpa using h)
theorem zpn:∀ (n:Nat) (left:List z0d),(z85 left).Nodup→(z85 (za4 n left)).Nodup
 | 0,left,h=>by simp [za4,z85]
 | n+1,left,h=>by
  cases hi:left.findIdx? (free (z85 left)) with
  | none =>
   have hc:za4 (n+1) left=[]:=by unfold za4; rw [hi]
   rw [hc]; simp [z85]
  | some i =>
   obtain ⟨hil,hfr,-⟩:=List.findIdx?_eq_some_iff_getElem.1 hi;have hc:za4 (n+1) left=left[i]'hil::za4 n (left.eraseIdx i):=by
    conv=>lhs; unfold za4
    rw [hi];simp only [];rw [List.getElem?_eq_getElem hil]
   rw [hc];have hidl:i<(z85 left).length:=by simpa [z85] using hil
   have he:(z85 (left.eraseIdx i)).Nodup:=by rw [zep]; exact h.sublist (List.eraseIdx_sublist _ _)
   show ((left[i]'hil).id::z85 (za4 n (left.eraseIdx i))).Nodup;rw [List.nodup_cons];refine ⟨fun hin=>?_,zpn n _ he⟩;obtain ⟨x,hx,e⟩:=List.mem_map.1 hin;have hx2:x.id∈z85 (left.eraseIdx i):=List.mem_map.2 ⟨x,zko n _ x hx,rfl⟩;rw [zep,zoi h hidl] at hx2;exact hx2.2 (by rw [e]; simp [z85])
def zsz (m:List z05):Prop:=∀ k (h:k<m.length),∀ p∈m[k].Preds,p∉(m.map oid).drop k
theorem zod (l:List z05):zsz ((z6g l).map (·.o)):=fun k hk p hp=>by
 have hk':k<(z6g l).length:=by simpa using hk
 have h:=ztp l.length (zir l) k hk' p (by simp only [List.getElem_map] at hp; exact hp);have e:(((z6g l).map (·.o)).map oid)=z85 (z6g l):=by
  unfold z85;rw [List.map_map]
  apply List.map_congr_left
  intro x hx;obtain ⟨o,-,rfl⟩:=zmu l x hx;rfl
 rw [e];unfold z85 at h ⊢;rw [← List.map_drop]; exact h
theorem zhb {m:List z05} (hT:zsz m) {k:Nat} (hk:k<m.length) {p:ID} (hp:p∈m[k].Preds):p∈m.map oid↔p∈(m.map oid).take k:=by
 constructor
 ·intro h;rw [← List.take_append_drop k (m.map oid)] at h;rcases List.mem_append.1 h with h | h
  ·exact h
  ·exact absurd h (hT k hk p hp)
 ·exact fun h=>List.mem_of_mem_take h
theorem zpx {l:List ID} {k:Nat} {p:ID} (h:p∈l.take k):l.idxOf p=(l.take k).idxOf p∧(l.take k).idxOf p<k:=by
 have h1:=List.idxOf_lt_length_of_mem h;have h2:(l.take k).length≤k:=by rw [List.length_take]; omega
 refine ⟨?_, by omega⟩
 conv=>lhs; rw [← List.take_append_drop k l]
 rw [List.idxOf_append,if_pos h]
def nop (o:z05):z05:=⟨o.Author,[],o.Stamp,o.Act,o.Sig⟩
theorem zju {o:z05} (h:z1v o=0):z1v (nop o)=0:=by
 obtain ⟨-,-,h3⟩:=z40 h;unfold z1v;rw [if_neg (by simp [nop]),if_neg (by simp [nop,z8a]), show zcd (nop o)=zcd o from rfl,if_pos h3]
def zbg (names:List ID) (i:Nat) (p:ID):List UInt8:=if p∈names then z0i (i - names.idxOf p) else 0::p.toList
def opB (names:List ID) (i:Nat) (o:z05):List UInt8:=(z0i (z7h (nop o)).length++z7h (nop o))++z0i o.Preds.length++o.Preds.flatMap (zbg names i)
def zu8 (m:List z05) (i:Nat):List UInt8:=112::z0i m.length++(List.range i).flatMap fun k=>opB (m.map oid) k (opJ m k)
def zf7 (m:List z05):List UInt8:=zu8 m m.length
theorem zh3 (names:List ID) (i:Nat) (p:ID) (hi:i≤1000):(zbg names i p).length≤33:=by
 unfold zbg
 split
 ·have:=z0o (i - names.idxOf p) (by omega); omega
 ·simp
theorem zcg {α:Type} (f:α→List UInt8) (c:Nat):∀ l:List α,(∀ x∈l,(f x).length≤c)→(l.flatMap f).length≤c * l.length
 | [],_=>by simp
 | x::l,h=>by
  rw [List.flatMap_cons,List.length_append,List.length_cons,Nat.mul_add];have h1:=h x (by simp);have h2:=zcg f c l (fun y hy=>h y (by simp [hy]));omega
theorem zzz {o:z05} (h:z1v o=0) (hI:inI o.Act.Value.Num) (names:List ID) (i:Nat) (hi:i≤1000):(opB names i o).length≤600:=by
 have h1:=zo0 (zju h) hI;have h2:=z0o (z7h (nop o)).length (by omega);have h3:=(z40 h).1;have h4:=z0o o.Preds.length (by omega);have h5:=zcg (zbg names i) 33 o.Preds (fun x _=>zh3 names i x hi);unfold opB;simp only [List.length_append];omega
theorem z157 {m:List z05} (hw:wfO m) (hl:m.length≤60) (hc:∀ o∈m,z1v o=0) {i:Nat} (hi:i≤m.length):(zu8 m i).length≤10+600 * i:=by
 have h1:=z0o m.length (by omega)
 have h2:=zcg (fun k=>opB (m.map oid) k (opJ m k)) 600 (List.range i) (fun k hk=>by
  have hk:k<i:=by simpa using hk
  rw [zrk (by omega)];have hm:=List.getElem_mem (show k<m.length by omega)
  exact zzz (hc _ hm) (hw _ hm).1 _ _ (by omega))
 rw [List.length_range] at h2;unfold zu8;simp only [List.length_append,List.length_cons];omega
theorem z115 (m:List z05) {i:Nat} (hi:i<m.length):zu8 m (i+1)=zu8 m i++opB (m.map oid) i m[i]:=by
 unfold zu8;rw [List.range_succ,List.flatMap_append,List.flatMap_cons,List.flatMap_nil,List.append_nil,zrk hi,List.append_assoc]
theorem z187 {i j:Nat} (h:j≤i) (hi:i≤1000):(UInt64.ofInt (w64 ((i:Int) - (j:Int)))).toNat=i - j:=by
 rw [z17 (by omega) (by omega), show (i:Int) - (j:Int)=((i - j:Nat):Int) by omega,zdr (by omega)]
theorem z14n (m:List (ID × Int)) (W:List ID) (h:∀ x,zbr m x=if x∈W then some (W.idxOf x:Int) else none) (y:ID) (hy:y∉W):∀ x,zbr (zlg m y (W.length:Int)) x=if x∈W++[y] then some ((W++[y]).idxOf x:Int) else none:=fun x=>by
 rw [zev];by_cases hx:x=y
 ·rw [if_pos hx,if_pos (by simp [hx]),hx,List.idxOf_append,if_neg hy]; simp
 ·rw [if_neg hx,h,List.idxOf_append];by_cases hxW:x∈W
  ·rw [if_pos hxW,if_pos (by simp [hxW]),if_pos hxW]
  ·rw [if_neg hxW,if_neg (by simp [hxW,hx])]
theorem zkq (l:List z05) (hw:wfO l):z5w l=some (if (zjk l).2=0 then zf7 ((zjk l).1.map (·.o)) else [],(zjk l).2):=by
 unfold z5w;rw [zjj l hw];simp only [bS];by_cases h0:(zjk l).2=0
 ·have hA:zjk l=(z6g l,0)∧l.length≤60∧(∀ o∈l,z1v o=0)∧(l.map oid).Nodup∧(z6g l).length=l.length:=by
   unfold zjk at h0 ⊢
   split at h0
   ·cases h0
   ·rename_i h1
    split at h0
    ·rename_i h2; exact absurd h0 h2
    ·rename_i h2
     split at h0
     ·cases h0
     ·rename_i h3
      split at h0
      ·rename_i h4;refine ⟨?_, by omega,(zdg l).1 (by simpa using h2),?_,h4⟩
       ·rw [if_neg h1,if_neg h2,if_neg h3,if_pos h4]; rfl
       ·exact (ze5 l).nodup_iff.1 (Classical.not_not.1 h3)
      ·cases h0
  obtain ⟨e,hl,hc,hn,hcl⟩:=hA;rw [e];simp only [if_true];rw [if_neg (by simp),z4r,zdr (by omega)];simp only [bS];have hm:∀ x∈z6g l,z1v x.o=0∧(inI x.o.Act.Value.Num∧x.o.Act.Value.Text.length≤9223372036854775807)∧x.id=oid x.o:=fun x hx=>by
   obtain ⟨o,ho,rfl⟩:=zmu l x hx;exact ⟨hc o ho,hw o ho,rfl⟩
  generalize hM:(z6g l).map (·.o)=M;have hMl:M.length=(z6g l).length:=by rw [← hM,List.length_map]
  have hMi:M.map oid=z85 (z6g l):=by
   rw [← hM,List.map_map];unfold z85;exact List.map_congr_left fun x hx=>((hm x hx).2.2).symm
  have hMg:∀ i (h:i<(z6g l).length),M[i]'(by omega)=(z6g l)[i].o:=fun i h=>by simp [← hM]
  have hMc:∀ o∈M,z1v o=0:=fun o ho=>by
   rw [← hM] at ho;obtain ⟨x,hx,rfl⟩:=List.mem_map.1 ho;exact (hm x hx).1
  have hMw:wfO M:=fun o ho=>by
   rw [← hM] at ho;obtain ⟨x,hx,rfl⟩:=List.mem_map.1 ho;exact (hm x hx).2.1
  have hMn:(M.map oid).Nodup:=by
   rw [hMi];have h1:∀ x∈z6g l,x∈zir l:=zko _ _;exact zpn l.length (zir l) ((ze5 l).nodup_iff.2 hn)
  have hT:zsz M:=by rw [← hM]; exact zod l
  have hnm:=z0o M.length (by omega);rw [← hMl,z1l (by simp only [List.length_cons,List.length_nil]; omega)];simp only [bS]
  have main:=z7b (F:=zd2 (z6g l,0)) M.length (fun i s=>s.1=zu8 M i∧s.2.2=(i:Int)∧∀ x,zbr s.2.1 x=if x∈(M.map oid).take i then some (((M.map oid).take i).idxOf x:Int) else none) (fun b=>b=.inr (zf7 M)) (fun i s hi hs=>by
   obtain ⟨s1,s2,s3⟩:=s;obtain ⟨h1,h2,h3⟩:=hs;simp only at h1 h2 h3;subst h1 h2;have hic:i<(z6g l).length:=by omega
   have hx:=hMg i hic;have hmm:=List.getElem_mem hi;have hci:=hMc _ hmm;have hwi:=hMw _ hmm;have hpl:=z157 hMw (by omega) hMc (Nat.le_of_lt hi);have hel:=zo0 (zju hci) hwi.1;have h4:=(z40 hci).1;have hnl:=z0o (z7h (nop M[i])).length (by omega);have hnp:=z0o M[i].Preds.length (by omega);have hidx:(z6g l)[i].id=(M.map oid)[i]'(by simpa using hi):=by
    rw [List.getElem_map,hx]; exact (hm _ (List.getElem_mem hic)).2.2
   have inner:=zkf (F:=zd5 (zu8 M i,s2,(i:Int)) (z6g l)[i]) M[i].Preds (zbg (M.map oid) i) (zu8 M i++(z0i (z7h (nop M[i])).length++z7h (nop M[i]))++z0i M[i].Preds.length) (fun j hj=>by
    have hfl:=zcg (zbg (M.map oid) i) 33 (M[i].Preds.take j) (fun x _=>zh3 _ _ _ (by omega));have htl:(M[i].Preds.take j).length≤4:=by rw [List.length_take]; omega
    unfold zd5;simp only [];rw [← hx,if_pos (by simpa using hj),z0k hj];simp only [bS];rw [h3];by_cases hin:M[i].Preds[j]∈M.map oid
    ·have ht:=(zhb hT hi (List.getElem_mem hj)).1 hin;obtain ⟨e1,e2⟩:=zpx ht;rw [if_pos ht,if_pos (by simp)];simp only [Option.getD_some];rw [z4r,z187 (by omega) (by omega)];simp only [bS];have hnl2:=z0o (i - ((M.map oid).take i).idxOf M[i].Preds[j]) (by omega);rw [z1l (by simp only [List.length_append]; omega)];simp only [bS];rw [z0l (by omega), show zbg (M.map oid) i M[i].Preds[j]=z0i (i - ((M.map oid).take i).idxOf M[i].Preds[j]) by unfold zbg; rw [if_pos hin,e1]]
    ·rw [if_neg (fun h=>hin ((zhb hT hi (List.getElem_mem hj)).2 h)),if_neg (by simp)];rw [z1l (by simp only [List.length_append,List.length_cons,List.length_nil]; omega)];simp only [bS];rw [z1l (by simp only [List.length_append,List.length_cons,List.length_nil,Vector.length_toList]; omega)];simp only [bS];rw [z0l (by omega), show zbg (M.map oid) i M[i].Preds[j]=0::M[i].Preds[j].toList by unfold zbg; rw [if_neg hin]]
     simp) (by
    unfold zd5;simp only []
    rw [← hx,if_neg (by simp)])
   refine ⟨(zu8 M (i+1),zlg s2 (z6g l)[i].id (i:Int),((i+1:Nat):Int)),?_,rfl,rfl, fun x=>?_⟩
   ·unfold zd2;rw [if_pos (by simp; omega)];simp only [];rw [z0k hic];simp only [bS];rw [← hx, show (⟨M[i].Author,[],M[i].Stamp,M[i].Act,M[i].Sig⟩:z05)=nop M[i] from rfl,zu3 _ (zju hci) hwi.1 hwi.2];simp only [bS];rw [if_neg (by simp),znq _ (by omega)];simp only [bS];rw [if_neg (by simp),z1l (by simp only [List.length_append]; omega)];simp only [bS];rw [z4r,zdr (by omega)];simp only [bS];rw [z1l (by simp only [List.length_append]; omega)]
    simp only [bS];rw [inner];simp only [bS];rw [z0l (by omega),z115 M hi];unfold opB;simp only [List.append_assoc]
   ·have hni:(M.map oid)[i]'(by simpa using hi)∉(M.map oid).take i:=fun h=>by
     obtain ⟨q,hq,e⟩:=List.getElem_of_mem h;rw [List.length_take] at hq;rw [List.getElem_take] at e
     have:=zkc hMn (by omega) (by simpa using hi) e
     omega
    have hlen:((M.map oid).take i).length=i:=by rw [List.length_take,List.length_map]; omega
    have:=z14n s2 _ h3 _ hni x
    rw [hlen] at this
    rw [hidx,this,zlr (by simpa using hi)]) (fun s hs=>by
   obtain ⟨s1,s2,s3⟩:=s;obtain ⟨h1,h2,h3⟩:=hs;simp only at h1 h2 h3;subst h1 h2;refine ⟨_,?_,rfl⟩;unfold zd2;rw [if_neg (by simp; omega)]
   rfl) ([112]++z0i M.length,[],0) 0 (Nat.zero_le _) ⟨by unfold zu8; simp,rfl, fun x=>by simp [zbr]⟩
  obtain ⟨b,hb,rfl⟩:=main;rw [hb];rfl
 ·rw [if_neg h0,if_pos (by simpa using h0)]
end
section
open Go
theorem zef {l:List z05} (h0:(zjk l).2=0):zjk l=(z6g l,0)∧l.length≤60∧(∀ o∈l,z1v o=0)∧(l.map oid).Nodup∧(z6g l).length=l.length:=by
 unfold zjk at h0 ⊢
 split at h0
 ·cases h0
 ·rename_i h1
  split at h0
  ·rename_i h2; exact absurd h0 h2
  ·rename_i h2
   split at h0
   ·cases h0
   ·rename_i h3
    split at h0
    ·rename_i h4;refine ⟨?_, by omega,(zdg l).1 (by simpa using h2),?_,h4⟩
     ·rw [if_neg h1,if_neg h2,if_neg h3,if_pos h4]; rfl
     ·exact (ze5 l).nodup_iff.1 (Classical.not_not.1 h3)
    ·cases h0
theorem z16m (l:List z05) (hw:wfO l):zf4 l=some (if (zjk l).2=0 then (z6g l).map (·.o) else [],(zjk l).2):=by
 unfold zf4;rw [zjj l hw];simp only [bS];by_cases h0:(zjk l).2=0
 ·obtain ⟨e,hl,hc,hn,hcl⟩:=zef h0;rw [e];simp only [if_true];rw [if_neg (by simp),zqv _ (by omega)];rfl
 ·rw [if_neg h0,if_pos (by simpa using h0)]
structure CanM (l M:List z05):Prop where
 perm:M.Perm l
 topo:zsz M
theorem znb:∀ (n:Nat) (left:List z0d),left.length=n→(za4 n left).length=n→(za4 n left).Perm left
 | 0,left,h,_=>by rw [List.eq_nil_of_length_eq_zero h]; exact List.Perm.refl _
 | n+1,left,h,hc=>by
  cases hi:left.findIdx? (free (z85 left)) with
  | none =>
   have e:za4 (n+1) left=[]:=by unfold za4; rw [hi]
   rw [e] at hc; simp at hc
  | some i =>
   obtain ⟨hil,hfr,-⟩:=List.findIdx?_eq_some_iff_getElem.1 hi;have e:za4 (n+1) left=left[i]'hil::za4 n (left.eraseIdx i):=by
    conv=>lhs; unfold za4
    rw [hi];simp only [];rw [List.getElem?_eq_getElem hil]
   rw [e] at hc ⊢
   have:=znb n (left.eraseIdx i) (by rw [List.length_eraseIdx_of_lt hil]; omega) (by simpa using hc);exact (this.cons _).trans (zyx left i hil)
theorem zt9 {l:List z05} (hcl:(z6g l).length=l.length):(z6g l).Perm (zir l):=znb l.length (zir l) (zmx l) hcl
theorem z12u {l:List z05} (hcl:(z6g l).length=l.length):CanM l ((z6g l).map (·.o)):=by
 refine ⟨?_,zod l⟩;have h:=((zt9 hcl).trans (z9b l)).map (fun x:z0d=>x.o);rw [List.map_map] at h
 simpa [Function.comp_def,nmd] using h
theorem z14z {l M:List z05} (h:M.Perm l) (hw:wfO l):wfO M:=fun o ho=>hw o (h.mem_iff.1 ho)
theorem zts (l:List z05) (hw:wfO l):z5w l=some (if (zjk l).2=0 then zf7 ((z6g l).map (·.o)) else [],(zjk l).2):=by
 rw [zkq l hw];by_cases h0:(zjk l).2=0
 ·obtain ⟨e,-⟩:=zef h0;rw [e]
 ·rw [if_neg h0,if_neg h0]
theorem zvx (ids:List ID):∀ q:List ID,(q.flatMap fun x=>if x∈ids then [] else [x]).length≤q.length
 | []=>by simp
 | a::q=>by
  have h1:=zvx ids q;have h2:(if a∈ids then ([]:List ID) else [a]).length≤1:=by split <;> simp
  rw [List.flatMap_cons,List.length_append,List.length_cons];omega
theorem z193 (ids l:List ID) (hi:ids.length≤1000) (hl:l.length≤1000):∃ s,zew ids l=some s∧z8a s=true∧∀ x,x∈s↔x∈l∧x∉ids:=by
 have main:=zkf (F:=z7n ids l) l (fun x=>if x∈ids then [] else [x]) [] (fun i hi2=>by
  have hfl:((l.take i).flatMap fun x=>if x∈ids then [] else [x]).length≤1000:=by
   have:=zvx ids (l.take i)
   rw [List.length_take] at this; omega
  unfold z7n;rw [if_pos (by simpa using hi2)];simp only [];rw [z0k hi2];simp only [bS];rw [z1ah _ _ (by omega)];simp only [bS];by_cases hx:l[i]∈ids
  ·rw [if_pos hx,if_neg (by simp),if_pos hx,z0l (by omega),List.append_nil]
  ·rw [if_neg hx,if_pos (by simp),if_neg hx,z1l (by simp only [List.nil_append,List.length_cons,List.length_nil]; omega)];simp only [bS]
   rw [z0l (by omega)]) (by
  unfold z7n
  rw [if_neg (by simp)])
 rw [List.nil_append] at main;have hfl:=zvx ids l;obtain ⟨s,s1,s2,s3⟩:=zvh (l.flatMap fun x=>if x∈ids then [] else [x]) (by omega);refine ⟨s,?_,s2, fun x=>?_⟩
 ·unfold zew;rw [main];simp only [bS];rw [s1];simp only [bS]
 ·rw [s3,List.mem_flatMap]
  constructor
  ·rintro ⟨y,hy,hx⟩
   split at hx
   ·simp at hx
   ·rename_i h;simp only [List.mem_singleton] at hx;subst hx;exact ⟨hy,h⟩
  ·rintro ⟨h1,h2⟩
   exact ⟨x,h1, by rw [if_neg h2]; simp⟩
def outS (l:List z05) (x:ID):Prop:=(∃ o∈l,x∈o.Preds)∧x∉l.map oid
theorem zya {l:List z05} (hw:wfO l) (h0:(zjk l).2=0):∃ s,zck l=some (s,0)∧z8a s=true∧∀ x,x∈s↔outS l x:=by
 obtain ⟨e,hl,hc,hn,hcl⟩:=zef h0;have hcp:=zt9 hcl;have hmem:∀ x,x∈z6g l↔∃ o∈l,x=nmd o:=fun x=>by
  rw [hcp.mem_iff,(z9b l).mem_iff,List.mem_map];exact ⟨fun ⟨o,h1,h2⟩=>⟨o,h1,h2.symm⟩, fun ⟨o,h1,h2⟩=>⟨o,h1,h2.symm⟩⟩
 have hids:∀ x,x∈z85 (z6g l)↔x∈l.map oid:=fun x=>by
  unfold z85;rw [List.mem_map,List.mem_map]
  constructor
  ·rintro ⟨y,hy,rfl⟩
   obtain ⟨o,ho,rfl⟩:=(hmem y).1 hy;exact ⟨o,ho,rfl⟩
  ·rintro ⟨o,ho,rfl⟩
   exact ⟨nmd o,(hmem _).2 ⟨o,ho,rfl⟩,rfl⟩
 have hp:∀ x∈z6g l,x.o.Preds.length≤4:=fun x hx=>by
  obtain ⟨o,ho,rfl⟩:=(hmem x).1 hx;exact (z40 (hc o ho)).1
 have h1:=z7b (F:=zb7 (z6g l,0)) (z6g l).length (fun i s=>s.2=(i:Int)∧∀ x,(zbr s.1 x).getD false=decide (x∈z85 ((z6g l).take i))) (fun b=>∀ x,(zbr b x).getD false=decide (x∈z85 (z6g l))) (fun i s hi hs=>by
  obtain ⟨m,i'⟩:=s;obtain ⟨g1,g2⟩:=hs;simp only at g1 g2;subst g1;refine ⟨(zlg m (z6g l)[i].id true,((i+1:Nat):Int)),?_,rfl, fun x=>?_⟩
  ·unfold zb7;rw [if_pos (by simpa using hi)];simp only [];rw [z0k hi,z0l (by omega)];simp only [bS]
  ·rw [zev,zlr hi];have e2:z85 ((z6g l).take i++[(z6g l)[i]])=z85 ((z6g l).take i)++[(z6g l)[i].id]:=by unfold z85; rw [List.map_append]; rfl
   rw [e2];by_cases hx:x=(z6g l)[i].id
   ·rw [if_pos hx]; simp [hx]
   ·rw [if_neg hx,g2]; simp [hx]) (fun s hs=>by
  obtain ⟨m,i'⟩:=s;obtain ⟨g1,g2⟩:=hs;simp only at g1 g2;subst g1;refine ⟨m,?_, fun x=>by rw [g2,List.take_length]⟩;unfold zb7
  rw [if_neg (by simp)]) ([],0) 0 (Nat.zero_le _) ⟨rfl, fun x=>by simp [zbr,z85]⟩
 obtain ⟨m,h2,h3⟩:=h1
 let gp:ID→List ID:=fun x=>if x∈z85 (z6g l) then [] else [x]
 have hgl:∀ q:List ID,(q.flatMap gp).length≤q.length:=fun q=>by
  induction q with
  | nil=>simp
  | cons a q ih =>
   rw [List.flatMap_cons,List.length_append,List.length_cons]
   have:(gp a).length≤1:=by show (if a∈z85 (z6g l) then ([]:List ID) else [a]).length≤1; split <;> simp
   omega
 let go:z0d→List ID:=fun x=>x.o.Preds.flatMap gp
 have hol:∀ q:List z0d,(∀ x∈q,x∈z6g l)→(q.flatMap go).length≤4 * q.length:=fun q=>by
  induction q with
  | nil=>simp
  | cons a q ih =>
   intro h;rw [List.flatMap_cons,List.length_append,List.length_cons];have g1:=hp a (h a (by simp));have g2:(go a).length≤a.o.Preds.length:=hgl _
   have:=ih (fun o ho=>h o (by simp [ho]))
   omega
 have inner:∀ i (hi:i<(z6g l).length) (s0:List ID),s0.length≤240→iter (z9g m (z6g l)[i]) (s0,0)=some (s0++go (z6g l)[i]):=fun i hi s0 hs0=>by
  have hpi:=hp _ (List.getElem_mem hi);refine zkf (F:=z9g m (z6g l)[i]) (z6g l)[i].o.Preds gp s0 (fun j hj=>?_) ?_
  ·have g1:=hgl ((z6g l)[i].o.Preds.take j);rw [List.length_take] at g1;unfold z9g;rw [if_pos (by simpa using hj)];simp only [];rw [z0k hj];simp only [bS];rw [h3];by_cases hx:(z6g l)[i].o.Preds[j]∈z85 (z6g l)
   ·rw [decide_eq_true hx,if_neg (by simp),z0l (by omega), show gp (z6g l)[i].o.Preds[j]=[] from if_pos hx,List.append_nil]
   ·rw [decide_eq_false hx,if_pos (by simp),z1l (by simp only [List.length_append,List.length_cons,List.length_nil]; omega), show gp (z6g l)[i].o.Preds[j]=[(z6g l)[i].o.Preds[j]] from if_neg hx];simp only [bS];rw [z0l (by omega)]
  ·unfold z9g;rw [if_neg (by simp)]
 have outer:=zkf (F:=zbh (z6g l,0) m) (z6g l) go [] (fun i hi=>by
  have g1:=hol ((z6g l).take i) (fun x hx=>List.mem_of_mem_take hx);rw [List.length_take] at g1;unfold zbh;rw [if_pos (by simpa using hi)];simp only [];rw [z0k hi];simp only [bS];rw [inner i hi _ (by simp only [List.nil_append]; omega)];simp only [bS]
  rw [z0l (by omega)]) (by
  unfold zbh
  rw [if_neg (by simp)])
 have g2:=hol (z6g l) (fun x hx=>hx);obtain ⟨c,c1,c2,c3⟩:=zij (zvn ((z6g l).flatMap go)) (by rw [zo9]; omega) (zly _);refine ⟨c,?_,c2, fun x=>?_⟩
 ·unfold zck;rw [zjj l hw,e];simp only [bS];rw [if_neg (by simp),h2];simp only [bS];rw [outer];simp only [bS,List.nil_append];unfold z10e;rw [z2z (by omega)];simp only [bS];rw [c1];simp only [bS]
 ·rw [c3,ztz,List.mem_flatMap]
  constructor
  ·rintro ⟨y,hy,hx⟩
   obtain ⟨o,ho,rfl⟩:=(hmem y).1 hy;obtain ⟨p,hp1,hp2⟩:=List.mem_flatMap.1 hx;have hp2:x∈if p∈z85 (z6g l) then ([]:List ID) else [p]:=hp2
   split at hp2
   ·simp at hp2
   ·rename_i h;simp only [List.mem_singleton] at hp2;subst hp2;exact ⟨⟨o,ho,hp1⟩, fun h'=>h ((hids _).2 h')⟩
  ·rintro ⟨⟨o,ho,h4⟩,h5⟩
   refine ⟨nmd o,(hmem _).2 ⟨o,ho,rfl⟩,List.mem_flatMap.2 ⟨x,h4,?_⟩⟩;show x∈if x∈z85 (z6g l) then ([]:List ID) else [x]
   rw [if_neg (fun h=>h5 ((hids _).1 h))]; simp
end
end Go.Proofs.YtojceajkeefnpaaGreatDoor
