import Derived.Test.YthgpinfkodaefaaGreatDoorYc
set_option linter.unusedSimpArgs false
set_option linter.unusedVariables false
namespace Go.Proofs.YthgpinfkodaefaaGreatDoor
section
open Go Go.RowKit
set_option maxRecDepth 100000
def z7f (a0:z00) (s4:(List (V3 × Int)) × Int):Option (Sum ((List (V3 × Int))) ((List (V3 × Int)) × Int)) :=
 if decide (s4.2<(a0.IDs.length:Int)) then
  idx a0.IDs s4.2 >>= fun x6 =>
  some (.inr (zl0 s4.1 x6 s4.2,w64 (s4.2+1)))
 else
  some (.inl s4.1)
def z7n (a0:z00):Option ((List (V3 × Int))) :=
 (iter (z7f a0) (([]:List (V3 × Int)),0)) >>= fun s3 =>
 some s3
theorem zca (a0:z00):z1v Tryz.prog 74 [.rd z01 a0] [] (z7n a0) (fun r nv=>⟨[.val (nv 0)],[(100,some (nv 0,.map aZ z0c r))]⟩):=by
 refine z2o 23 Tryz.func74 Z Z Z fun H w=>?_
 refine gSR<|Eb Z (bx 1 Z) fun v1=>Zb Z<|gSR<|Zq (faB 1 Z Z Tryz.underlying27 Z (by exact zb8))<|Zq (ld 1 Z Z (fP (z0m _)) zbg Z)<|Zq (z42 Z .rd Z tu24)<|Ef Z (mkm aZ z0c 2 (Or.inr ⟨_,_,Z,rfl⟩) Tryz.underlying123) fun v2=>Zb Z<|z7l (fun (s3:(List (V3 × Int))) aa ww=>Sta (ctx 23 H [] w) [(3,.val v2)] [(2,some (v2,.map aZ z0c s3))] aa ww) ?_ (fun s3=>?_)
 ·
  refine gSR<|Zq (faB 1 Z Z Tryz.underlying27 Z (by exact zb8))<|Zq (ld 1 Z Z (fP (z0m _)) zbg Z)<|Zq (z42 Z .rd Z tu24)<|Zm Z<|Zn<|z2c (fun (s4:(List (V3 × Int)) × Int) aa ww=>Sta (ctx 23 H [] w) [(3,.val v2),(11,.rd (z03 aZ) a0.IDs),(12,.rd z0c (a0.IDs.length:Int)),(13,.rd z0c s4.2)] [(2,some (v2,.map aZ z0c s4.1))] aa ww) (fun aa ww h=>Zu h [2]) (fun s4=>?_)
  refine gSR<|Zq (I.lss Z Z)<|Zn<|z0s<|gIf Z Z (fun h5=>?_) (fun h5=>?_)
  ·
   refine Zt<|z0s<|z58<|gSR<|Zm Z<|z0p fun x6 h7=>Zq (ixR Z Z h7 tu24 z3k Z)<|Zq (ldR Z z6o)<|Eb Z (z6n 3 z3k (.zr (R:=aZ) (x:=(Vector.replicate 32 0)) zed)) fun v8=>Za Z<|Es (sto 3 Z Z fH Z z3k)<|Zn<|z2b<|Zm Z<|Zq (ld 3 Z Z fH z6o Z)<|Zm Z<|Es (mup 2 Z Z Z Z ky78 Tryz.underlying123)<|z1o<|z30<|z0j<|z2b<|Zq (I.add Z Z)<|Zm Z<|z1o<|z1n (fun aa ww h=>Zu h [2])
  ·
   refine z1z<|z11<|z13<|z3c (fun aa ww h=>Zu h [2])
 ·
  refine gSR<|Zm Z<|Zb Z<|z0l<|Ze [v2] [2] Z
def z5l (a0:z00) (a1:List Bool) (s3:(List V3) × Int):Option (Sum ((List V3)) ((List V3) × Int)) :=
 if decide (s3.2<(a1.length:Int)) then
  idx a1 s3.2 >>= fun x6 =>
  if x6 then
   idx a0.IDs s3.2 >>= fun x9 =>
   app 32 s3.1 [x9] >>= fun x12 =>
   some (.inr (x12,w64 (s3.2+1)))
  else
   some (.inr (s3.1,w64 (s3.2+1)))
 else
  some (.inl s3.1)
def z6g (a0:z00) (a1:List Bool):Option ((List V3)) :=
 (iter (z5l a0 a1) ([],0)) >>= fun s2 =>
 some s2
theorem zcc (a0:z00) (a1:List Bool):z1v Tryz.prog 75 [.rd z01 a0,.rd (z03 z0b) a1] [] (z6g a0 a1) (fun r nv=>⟨[.val (nv 0)],[(100,some (nv 0,.list aZ 78 r))]⟩):=by
 refine z2o 26 Tryz.func75 Z Z Z fun H w=>?_
 refine gSR<|Eb Z (bx 1 Z) fun v1=>Zb Z<|gSR<|Zb Z<|z7l (fun (s2:(List V3)) aa ww=>∃ nv:Nat→Value,Sta (ctx 26 H [] w) [(5,.val (nv 0))] [(3,some ((nv 0),.list aZ 78 s2))] aa ww) ?_ (fun s2=>?_)
 ·
  refine gSR<|Zm Z<|Zq (z42 Z .rd Z Tryz.underlying125)<|Zm Z<|Zn<|zzi aZ 78 6<|z2c (fun (s3:(List V3) × Int) aa ww=>∃ nv:Nat→Value,Sta (ctx 26 H [] w) [(1,.rd (z03 z0b) a1),(2,.val (z05 v1 0)),(5,.val (nv 0)),(8,.rd z0c (a1.length:Int)),(9,.rd z0c s3.2)] [(1,some (v1,.box 27 [.rd z01 a0])),(5,some ((nv 0),.list aZ 78 s3.1))] aa ww) (fun aa ww h=>⟨nvl [(.slice none 0 0)],Zu h [1,6]⟩) (fun s3=>?_)
  refine gEx fun n4=>gSR<|Zq (I.lss Z Z)<|Zn<|z0s<|gIf Z Z (fun h5=>?_) (fun h5=>?_)
  ·
   refine Zt<|z0s<|z58<|gSR<|Zm Z<|Zb Z<|gSR<|Zm Z<|Zm Z<|z0p fun x6 h7=>Zq (ixR Z Z h7 Tryz.underlying125 ti4 Z)<|Zq (ldR Z ty4)<|Zj Z (fun h8=>?_) (fun h8=>?_)
   ·
    refine z2b<|Zm Z<|Zq (faB 1 Z Z Tryz.underlying27 Z (by exact zb8))<|Zq (ld 1 Z Z (fP (z0m _)) zbg Z)<|Zm Z<|z0p fun x9 h10=>Zq (ixR Z Z h10 tu24 z3k Z)<|Zq (ldR Z z6o)<|Ef Z (lit (R:=aZ) ([x9]:List V3) 7 (pP Z Z<|pN) Z tu24 z3k Z Z) fun v11=>ziw 7 [22] Z (fS Z<|fN)<|z0p fun x12 h13=>Ef Z (apn 5 Z Z Z .rd h13 tu24 z3k Z Z Z) fun v14=>Za Z<|z1o<|z30<|z0j<|z2b<|Zq (I.add Z Z)<|Zm Z<|z1o<|z1n (fun aa ww h=>⟨nvl [v14],Zu h [1,5]⟩)
   ·
    refine z2t<|z30<|z0j<|z2b<|Zq (I.add Z Z)<|Zm Z<|z1o<|z1n (fun aa ww h=>⟨nvl [(n4 0)],Zu h [1,5]⟩)
  ·
   refine z1z<|z11<|z13<|z3c (fun aa ww h=>⟨nvl [(n4 0)],Zu h [5]⟩)
 ·
  refine gEx fun n15=>gSR<|Zm Z<|Zb Z<|z0l<|Ze [(n15 0)] [3] Z
def z69 (x7:List Bool) (s11:(List Bool) × Int):Option (Sum ((List Bool)) ((List Bool) × Int)) :=
 if decide (s11.2<(x7.length:Int)) then
  idx s11.1 s11.2 >>= fun x13 =>
  some (.inr (s11.1.set (s11.2:Int).toNat true,w64 (s11.2+1)))
 else
  some (.inl s11.1)
def z6k (r5:(List (V3 × Int))) (x19:z06) (s22:(List Bool) × Int):Option (Sum ((List Bool)) ((List Bool) × Int)) :=
 if decide (s22.2<(x19.Preds.length:Int)) then
  idx x19.Preds s22.2 >>= fun x24 =>
  idx s22.1 ((zdh r5 x24).getD 0) >>= fun x27 =>
  some (.inr (s22.1.set ((zdh r5 x24).getD 0:Int).toNat false,w64 (s22.2+1)))
 else
  some (.inl s22.1)
def z6h (a0:z00) (r5:(List (V3 × Int))) (s16:(List Bool) × Int):Option (Sum ((List Bool)) ((List Bool) × Int)) :=
 if decide (s16.2<(a0.Ops.length:Int)) then
  (idx a0.Ops s16.2 >>= fun x19 =>
  iter (z6k r5 x19) (s16.1,0)) >>= fun s18 =>
  some (.inr (s18,w64 (s16.2+1)))
 else
  some (.inl s16.1)
def za9 (a0:z00):Option ((List V3) × Int) :=
 z48 a0 >>= fun r2 =>
 if r2 != 0 then
  some ([],r2)
 else
  z7n a0 >>= fun r5 =>
  mkn 1 false (a0.IDs.length:Int) >>= fun x7 =>
  (iter (z69 x7) (x7,0)) >>= fun s10 =>
  (iter (z6h a0 r5) (s10,0)) >>= fun s15 =>
  z6g a0 s15 >>= fun r29 =>
  some (r29,0)
theorem zi3 (a0:z00):z1v Tryz.prog 33 [.rd z01 a0] [zG1] (za9 a0) (fun r nv=>⟨[.val (nv 0),.rd z0c r.2],[(1001,some (.bool true,.glob 1 (z2z 64 z0k) z56)),(100,some (nv 0,.list aZ 78 r.1))]⟩):=by
 refine z2o 56 Tryz.func33 Z Z Z fun H w=>?_
 refine gSR<|Eb Z (bx 1 Z) fun v1=>Za Z<|Zb Z<|z0s<|gSR<|Zq (ld 1 Z Z fH z9y Z)<|Zc [1001] [] Tryz.func60 Z (zab _) fun r2 n3=>Zb Z<|gSR<|Zm Z<|Zq (I.neq Z Z)<|Zj Z (fun h4=>?_) (fun h4=>?_)
 ·
  refine gSR<|Zm Z<|Za Z<|Zb Z<|z0l<|z0v<|znu aZ 78 2<|Ze [(.slice none 0 0)] [1001,2] Z
 ·
  refine Zt<|gSR<|Zq (ld 1 Z Z fH z9y Z)<|Zc [] [(100,3)] Tryz.func74 Z (zca _) fun r5 n6=>Zb Z<|gSR<|Zq (faB 1 Z Z Tryz.underlying27 Z (by exact zb8))<|Zq (ld 1 Z Z (fP (z0m _)) zbg Z)<|Zq (z42 Z .rd Z tu24)<|z0p fun x7 h8=>Ef Z (mks (R:=z0b) 4 Z Z h8 Tryz.underlying125 ti4 Zr.bool Z) fun v9=>Zb Z<|z7l (fun (s10:(List Bool)) aa ww=>Sta (ctx 56 H [zG1] w) [(1,.val (z05 v1 0)),(5,.val (n6 0)),(6,.val v9)] [(1,some (v1,.box 27 [.rd z01 a0])),(3,some ((n6 0),.map aZ z0c r5)),(4,some (v9,.list z0b 4 s10)),zG1] aa ww) ?_ (fun s10=>?_)
  ·
   refine gSR<|Zm Z<|Zq (z42 Z (.own 4 Z) Z Tryz.underlying125)<|Zm Z<|Zn<|z2c (fun (s11:(List Bool) × Int) aa ww=>Sta (ctx 56 H [zG1] w) [(1,.val (z05 v1 0)),(5,.val (n6 0)),(6,.val v9),(24,.rd z0c (x7.length:Int)),(25,.rd z0c s11.2)] [(1,some (v1,.box 27 [.rd z01 a0])),(3,some ((n6 0),.map aZ z0c r5)),(4,some (v9,.list z0b 4 s11.1)),zG1] aa ww) (fun aa ww h=>Zu h [1,3,4,1001]) (fun s11=>?_)
   refine gSR<|Zq (I.lss Z Z)<|Zn<|z0s<|gIf Z Z (fun h12=>?_) (fun h12=>?_)
   ·
    refine Zt<|z0s<|z58<|gSR<|Zm Z<|Zb Z<|z2b<|Zm Z<|Zm Z<|z0p fun x13 h14=>Zq (ixO 4 Z Z Z h14 Tryz.underlying125 ti4)<|Es (sto 4 Z Z (Foc.el h14) Z ti4)<|z1o<|z30<|z0j<|z2b<|Zq (I.add Z Z)<|Zm Z<|z1o<|z1n (fun aa ww h=>Zu h [1,3,4,1001])
   ·
    refine z1z<|z11<|z13<|z3c (fun aa ww h=>Zu h [1,3,4,1001])
  ·
   refine z7l (fun (s15:(List Bool)) aa ww=>Sta (ctx 56 H [zG1] w) [(1,.val (z05 v1 0)),(6,.val v9)] [(1,some (v1,.box 27 [.rd z01 a0])),(4,some (v9,.list z0b 4 s15)),zG1] aa ww) ?_ (fun s15=>?_)
   ·
    refine gSR<|Zq (faB 1 Z Z Tryz.underlying27 Z (by exact zc8))<|Zq (ld 1 Z Z (fP (z09 _)) zer Z)<|Zq (z42 Z .rd Z tu25)<|Zm Z<|Zn<|z2c (fun (s16:(List Bool) × Int) aa ww=>Sta (ctx 56 H [zG1] w) [(1,.val (z05 v1 0)),(5,.val (n6 0)),(6,.val v9),(33,.rd (z03 z04) a0.Ops),(34,.rd z0c (a0.Ops.length:Int)),(35,.rd z0c s16.2)] [(1,some (v1,.box 27 [.rd z01 a0])),(3,some ((n6 0),.map aZ z0c r5)),(4,some (v9,.list z0b 4 s16.1)),zG1] aa ww) (fun aa ww h=>Zu h [1,3,4,1001]) (fun s16=>?_)
    refine gSR<|Zq (I.lss Z Z)<|Zn<|z0s<|gIf Z Z (fun h17=>?_) (fun h17=>?_)
    ·
     refine Zt<|z7l (fun (s18:(List Bool)) aa ww=>Sta (ctx 56 H [zG1] w) [(1,.val (z05 v1 0)),(5,.val (n6 0)),(6,.val v9),(33,.rd (z03 z04) a0.Ops),(34,.rd z0c (a0.Ops.length:Int)),(35,.rd z0c s16.2)] [(1,some (v1,.box 27 [.rd z01 a0])),(3,some ((n6 0),.map aZ z0c r5)),(4,some (v9,.list z0b 4 s18)),zG1] aa ww) ?_ (fun s18=>?_)
     ·
      refine z58<|gSR<|z0p fun x19 h20=>Zq (ixR Z Z h20 tu25 zam Z)<|Zq (ldR Z ze3)<|Eb Z (z6n 1100 zam (ZrE.rd (R:=z0k) (x:=0) (Zr.num Z) (ZrE.nilS (ZrE.rd (R:=z2n) (x:=0) (Zr.num Z) (ZrE.rd (R:=z0g) (x:=(⟨0,[],(⟨0,0,0,[]⟩:z02)⟩:z08)) zms (ZrE.rd (R:=z0x) (x:=(⟨0,0⟩:z0a)) zpb ZrE.nil Z) Z) Z)) Z)) fun v21=>zgr aZ [.rd z0k 0,.rd (z03 aZ) [],.rd z2n 0,.rd z0g (⟨0,[],(⟨0,0,0,[]⟩:z02)⟩:z08),.rd z0x (⟨0,0⟩:z0a)] 1100 [.rd z0k 0] [.rd z2n 0,.rd z0g (⟨0,[],(⟨0,0,0,[]⟩:z02)⟩:z08),.rd z0x (⟨0,0⟩:z0a)] Z Z Z<|zio (R:=z04) (⟨0,[],0,(⟨0,[],(⟨0,0,0,[]⟩:z02)⟩:z08),(⟨0,0⟩:z0a)⟩:z06) 1100 Z (Sp.via (Sp.prod (Sp.prod (Sp.prod (Sp.prod (Sp.prod Sp.unit))))))<|Es (sto 1100 Z Z fH Z zam)<|Zn<|gSR<|Zq (faB 1100 Z Z Tryz.underlying72 Z (by exact zb8))<|Zq (ld 1100 Z Z (fP (z0z _)) zbg Z)<|Zq (z42 Z .rd Z tu24)<|Zm Z<|Zn<|z2c (fun (s22:(List Bool) × Int) aa ww=>Sta (ctx 56 H [zG1] w) [(1,.val (z05 v1 0)),(5,.val (n6 0)),(6,.val v9),(33,.rd (z03 z04) a0.Ops),(34,.rd z0c (a0.Ops.length:Int)),(35,.rd z0c s16.2),(40,.rd (z03 aZ) x19.Preds),(41,.rd z0c (x19.Preds.length:Int)),(42,.rd z0c s22.2)] [(1,some (v1,.box 27 [.rd z01 a0])),(3,some ((n6 0),.map aZ z0c r5)),(4,some (v9,.list z0b 4 s22.1)),zG1] aa ww) (fun aa ww h=>Zu h [1,3,4,1001]) (fun s22=>?_)
      refine gSR<|Zq (I.lss Z Z)<|Zn<|z0s<|gIf Z Z (fun h23=>?_) (fun h23=>?_)
      ·
       refine Zt<|z0s<|z58<|gSR<|z0p fun x24 h25=>Zq (ixR Z Z h25 tu24 z3k Z)<|Zq (ldR Z z6o)<|Eb Z (z6n 1101 z3k (.zr (R:=aZ) (x:=(Vector.replicate 32 0)) zed)) fun v26=>Es (sto 1101 Z Z fH Z z3k)<|Zn<|z2b<|Zm Z<|Zm Z<|Zq (ld 1101 Z Z fH z6o Z)<|Zq (mlk Z (.own 3 Z Z) Z ky78 Tryz.underlying123 ti3 (Zr.num Z) Z)<|z0p fun x27 h28=>Zq (ixO 4 Z Z Z h28 Tryz.underlying125 ti4)<|Es (sto 4 Z Z (Foc.el h28) Z ti4)<|z1o<|z30<|z0j<|z2b<|Zq (I.add Z Z)<|Zm Z<|z1o<|z1n (fun aa ww h=>Zu h [1,3,4,1001])
      ·
       refine z1z<|z11<|z13<|z30<|z3c (fun aa ww h=>Zu h [1,3,4,1001])
     ·
      refine z2b<|Zq (I.add Z Z)<|Zm Z<|z1o<|z1n (fun aa ww h=>Zu h [1,3,4,1001])
    ·
     refine z1z<|z11<|z13<|z3c (fun aa ww h=>Zu h [1,4,1001])
   ·
    refine gSR<|Zq (ld 1 Z Z fH z9y Z)<|Zm Z<|ziw 4 [6,54] Z (fS Z<|fS Z<|fN)<|Zc [] [(100,1102)] Tryz.func75 Z (zcc _ _) fun r29 n30=>Za Z<|Zb Z<|z0l<|Ze [(n30 0)] [1001,1102] Z
def zay (a0:z00) (a1:V3):Option (Int × Int) :=
 z48 a0 >>= fun r3 =>
 if r3 != 0 then
  some (0,r3)
 else
  z0d a0.IDs a1 >>= fun r6 =>
  if !r6.2 then
   some (0,6)
  else
   some (r6.1,0)
theorem ziy (a0:z00) (a1:V3):z1v Tryz.prog 139 [.rd z01 a0,.rd aZ a1] [zG1] (zay a0 a1) (fun r nv=>⟨[.rd z0c r.1,.rd z0c r.2],[(1001,some (.bool true,.glob 1 (z2z 64 z0k) z56))]⟩):=by
 refine z2o 24 Tryz.func139 Z Z Z fun H w=>?_
 refine gSR<|Eb Z (bx 1 Z) fun v1=>Eb Z (bx 2 Z) fun v2=>Za Z<|Zb Z<|z0s<|gSR<|Zq (ld 1 Z Z fH z9y Z)<|Zc [1001] [] Tryz.func60 Z (zab _) fun r3 n4=>Zb Z<|gSR<|Zm Z<|Zq (I.neq Z Z)<|Zj Z (fun h5=>?_) (fun h5=>?_)
 ·
  refine gSR<|Zm Z<|Za Z<|Zb Z<|z0l<|z0v<|Ze [] [1001] Z
 ·
  refine Zt<|gSR<|Zq (faB 1 Z Z Tryz.underlying27 Z (by exact zb8))<|Zq (ld 1 Z Z (fP (z0m _)) zbg Z)<|Zq (ld 2 Z Z fH z6o Z)<|Zc [] [] Tryz.func122 Z (z29 _ _) fun r6 n7=>Zm Z<|Zq (ext Z Z)<|Zq (ext Z Z)<|Za Z<|Zb Z<|z0s<|gSR<|Zm Z<|Zq (zfq Z)<|Zj Z (fun h8=>?_) (fun h8=>?_)
  ·
   refine gSR<|Za Z<|Zb Z<|z0l<|z0v<|Ze [] [1001] Z
  ·
   refine Zt<|gSR<|Zm Z<|Za Z<|Zb Z<|z0l<|Ze [] [1001] Z
def z6z (c1_0:List (V3 × Int)) (c3_0:z00) (rec:V3→(List (V3 × Int))→(List Bool)→z00→Option ((List Bool))) (x8:z06) (s10:(List Bool) × Int):Option (Sum ((List Bool)) ((List Bool) × Int)) :=
 if decide (s10.2<(x8.Preds.length:Int)) then
  idx x8.Preds s10.2 >>= fun x12 =>
  rec x12 c1_0 s10.1 c3_0 >>= fun r15 =>
  some (.inr (r15,w64 (s10.2+1)))
 else
  some (.inl s10.1)
def z5n (rec:V3→(List (V3 × Int))→(List Bool)→z00→Option ((List Bool))) (a0:V3) (c1_0:List (V3 × Int)) (c2_0:List Bool) (c3_0:z00):Option ((List Bool)) :=
 some ((zdh c1_0 a0).getD 0) >>= fun y2 =>
 idx c2_0 y2 >>= fun x3 =>
 if x3 then
  some c2_0
 else
  idx c2_0 y2 >>= fun x6 =>
  idx c3_0.Ops y2 >>= fun x8 =>
  iter (z6z c1_0 c3_0 rec x8) (c2_0.set (y2:Int).toNat true,0)
def z2i:Nat→V3→(List (V3 × Int))→(List Bool)→z00→Option ((List Bool))
 | 0,_,_,_,_=>none
 | N+1,a0,c1_0,c2_0,c3_0=>z5n (z2i N) a0 c1_0 c2_0 c3_0
theorem zg0 (rec:V3→(List (V3 × Int))→(List Bool)→z00→Option ((List Bool))) (ih:∀ (a0:V3) (p1_0:Value) (q1_0:Value) (c1_0:List (V3 × Int)) (p2_0:Value) (q2_0:Value) (c2_0:List Bool) (p3_0:Value) (c3_0:z00) (p4_0:Value),z1v Tryz.prog 125 [.rd aZ a0,.val (z05 p1_0 0),.val (z05 p2_0 0),.val (z05 p3_0 0),.val (z05 p4_0 0)] [(1,some (p1_0,.box 123 [.val q1_0])),(2,some (q1_0,.map aZ z0c c1_0)),(3,some (p2_0,.box 125 [.val q2_0])),(4,some (q2_0,.list z0b 4 c2_0)),(5,some (p3_0,.box 27 [.rd z01 c3_0])),(6,some (p4_0,.box 173 [.val (.func (.func 125) #[] #[z05 p1_0 0,z05 p2_0 0,z05 p3_0 0,z05 p4_0 0])]))] (rec a0 c1_0 c2_0 c3_0) (fun r nv=>⟨[],[(1,some (p1_0,.box 123 [.val q1_0])),(2,some (q1_0,.map aZ z0c c1_0)),(3,some (p2_0,.box 125 [.val q2_0])),(4,some (q2_0,.list z0b 4 r)),(5,some (p3_0,.box 27 [.rd z01 c3_0])),(6,some (p4_0,.box 173 [.val (.func (.func 125) #[] #[z05 p1_0 0,z05 p2_0 0,z05 p3_0 0,z05 p4_0 0])]))]⟩)) (a0:V3) (p1_0:Value) (q1_0:Value) (c1_0:List (V3 × Int)) (p2_0:Value) (q2_0:Value) (c2_0:List Bool) (p3_0:Value) (c3_0:z00) (p4_0:Value):z1v Tryz.prog 125 [.rd aZ a0,.val (z05 p1_0 0),.val (z05 p2_0 0),.val (z05 p3_0 0),.val (z05 p4_0 0)] [(1,some (p1_0,.box 123 [.val q1_0])),(2,some (q1_0,.map aZ z0c c1_0)),(3,some (p2_0,.box 125 [.val q2_0])),(4,some (q2_0,.list z0b 4 c2_0)),(5,some (p3_0,.box 27 [.rd z01 c3_0])),(6,some (p4_0,.box 173 [.val (.func (.func 125) #[] #[z05 p1_0 0,z05 p2_0 0,z05 p3_0 0,z05 p4_0 0])]))] (z5n rec a0 c1_0 c2_0 c3_0) (fun r nv=>⟨[],[(1,some (p1_0,.box 123 [.val q1_0])),(2,some (q1_0,.map aZ z0c c1_0)),(3,some (p2_0,.box 125 [.val q2_0])),(4,some (q2_0,.list z0b 4 r)),(5,some (p3_0,.box 27 [.rd z01 c3_0])),(6,some (p4_0,.box 173 [.val (.func (.func 125) #[] #[z05 p1_0 0,z05 p2_0 0,z05 p3_0 0,z05 p4_0 0])]))]⟩):=by
 refine z2o 34 Tryz.func125 Z Z Z fun H w=>?_
 refine gSR<|Eb Z (bx 7 Z) fun v1=>Zn<|gSR<|Zq (ldV 1 Z Z .here z15g Z)<|Zq (ld 7 Z Z fH z6o Z)<|Zq (mlk Z (.own 2 Z Z) Z ky78 Tryz.underlying123 ti3 (Zr.num Z) Z)<|Za Z<|z1t 6 Z fun y2=>Zn<|z0s<|gSR<|Zq (ldV 3 Z Z .here z11w Z)<|Zm Z<|z0p fun x3 h4=>Zq (ixO 4 Z Z Z h4 Tryz.underlying125 ti4)<|Zq (ld 4 Z Z (Foc.el h4) ty4 Z)<|Zj Z (fun h5=>?_) (fun h5=>?_)
 ·
  refine z0l<|z0v<|Ze [] [1,2,3,4,5,6] Z
 ·
  refine Zt<|gSR<|Zq (ldV 3 Z Z .here z11w Z)<|Zm Z<|z0p fun x6 h7=>Zq (ixO 4 Z Z Z h7 Tryz.underlying125 ti4)<|Es (sto 4 Z Z (Foc.el h7) Z ti4)<|Zn<|gSR<|Zq (faB 5 Z Z Tryz.underlying27 Z (by exact zc8))<|Zq (ld 5 Z Z (fP (z09 _)) zer Z)<|Zm Z<|z0p fun x8 h9=>Zq (ixR Z Z h9 tu25 zam Z)<|Zq (faR Z (z0z _) Tryz.underlying72 Z Z (by exact zb8))<|Zq (ldR Z zbg)<|Zq (z42 Z .rd Z tu24)<|Zm Z<|Zn<|z2c (fun (s10:(List Bool) × Int) aa ww=>Sta (ctx 34 H [(1,some (p1_0,.box 123 [.val q1_0])),(2,some (q1_0,.map aZ z0c c1_0)),(3,some (p2_0,.box 125 [.val q2_0])),(4,some (q2_0,.list z0b 4 c2_0)),(5,some (p3_0,.box 27 [.rd z01 c3_0])),(6,some (p4_0,.box 173 [.val (.func (.func 125) #[] #[z05 p1_0 0,z05 p2_0 0,z05 p3_0 0,z05 p4_0 0])]))] w) [(4,.val (z05 p4_0 0)),(24,.rd (z03 aZ) x8.Preds),(25,.rd z0c (x8.Preds.length:Int)),(26,.rd z0c s10.2)] [(6,some (p4_0,.box 173 [.val (.func (.func 125) #[] #[z05 p1_0 0,z05 p2_0 0,z05 p3_0 0,z05 p4_0 0])])),(2,some (q1_0,.map aZ z0c c1_0)),(1,some (p1_0,.box 123 [.val q1_0])),(4,some (q2_0,.list z0b 4 s10.1)),(3,some (p2_0,.box 125 [.val q2_0])),(5,some (p3_0,.box 27 [.rd z01 c3_0]))] aa ww) (fun aa ww h=>Zu h [6,2,1,4,3,5]) (fun s10=>?_)
  refine gSR<|Zq (I.lss Z Z)<|Zn<|z0s<|gIf Z Z (fun h11=>?_) (fun h11=>?_)
  ·
   refine Zt<|z0s<|z58<|gSR<|z0p fun x12 h13=>Zq (ixR Z Z h13 tu24 z3k Z)<|Zq (ldR Z z6o)<|Eb Z (z6n 8 z3k (.zr (R:=aZ) (x:=(Vector.replicate 32 0)) zed)) fun v14=>Es (sto 8 Z Z fH Z z3k)<|Zn<|z2b<|Zq (ldV 6 Z Z .here z13p Z)<|Zq (ld 8 Z Z fH z6o Z)<|zo4 [1,2,3,4,5,6] [(1,1),(2,2),(3,3),(4,4),(5,5),(6,6)] (gd0 Z) Z Z Tryz.func125 Z Z (ih _ _ _ _ _ _ _ _ _ _) (Y1 Z) (cQ 1 Z<|cQ 3 Z<|cQ 5 Z<|cQ 6 Z<|cN) (Zi Z<|Zi Z<|Zi Z<|Zi Z<|Zi Z<|Zi Z<|rN) fun r15 n16=>z1o<|z30<|z0j<|z2b<|Zq (I.add Z Z)<|Zm Z<|z1o<|z1n (fun aa ww h=>Zu h [6,2,1,4,3,5])
  ·
   refine z1z<|z11<|z13<|Ze [] [1,2,3,4,5,6] Z
theorem zau:∀ (N:Nat) (a0:V3) (p1_0:Value) (q1_0:Value) (c1_0:List (V3 × Int)) (p2_0:Value) (q2_0:Value) (c2_0:List Bool) (p3_0:Value) (c3_0:z00) (p4_0:Value),z1v Tryz.prog 125 [.rd aZ a0,.val (z05 p1_0 0),.val (z05 p2_0 0),.val (z05 p3_0 0),.val (z05 p4_0 0)] [(1,some (p1_0,.box 123 [.val q1_0])),(2,some (q1_0,.map aZ z0c c1_0)),(3,some (p2_0,.box 125 [.val q2_0])),(4,some (q2_0,.list z0b 4 c2_0)),(5,some (p3_0,.box 27 [.rd z01 c3_0])),(6,some (p4_0,.box 173 [.val (.func (.func 125) #[] #[z05 p1_0 0,z05 p2_0 0,z05 p3_0 0,z05 p4_0 0])]))] (z2i N a0 c1_0 c2_0 c3_0) (fun r nv=>⟨[],[(1,some (p1_0,.box 123 [.val q1_0])),(2,some (q1_0,.map aZ z0c c1_0)),(3,some (p2_0,.box 125 [.val q2_0])),(4,some (q2_0,.list z0b 4 r)),(5,some (p3_0,.box 27 [.rd z01 c3_0])),(6,some (p4_0,.box 173 [.val (.func (.func 125) #[] #[z05 p1_0 0,z05 p2_0 0,z05 p3_0 0,z05 p4_0 0])]))]⟩)
 | 0,a0,p1_0,q1_0,c1_0,p2_0,q2_0,c2_0,p3_0,c3_0,p4_0=>fun r hr=>absurd hr (by simp [z2i])
 | N+1,a0,p1_0,q1_0,c1_0,p2_0,q2_0,c2_0,p3_0,c3_0,p4_0=>zg0 (z2i N) (zau N) a0 p1_0 q1_0 c1_0 p2_0 q2_0 c2_0 p3_0 c3_0 p4_0
theorem zg4 (a0:V3) (p1_0:Value) (q1_0:Value) (c1_0:List (V3 × Int)) (p2_0:Value) (q2_0:Value) (c2_0:List Bool) (p3_0:Value) (c3_0:z00) (p4_0:Value):z1v Tryz.prog 125 [.rd aZ a0,.val (z05 p1_0 0),.val (z05 p2_0 0),.val (z05 p3_0 0),.val (z05 p4_0 0)] [(1,some (p1_0,.box 123 [.val q1_0])),(2,some (q1_0,.map aZ z0c c1_0)),(3,some (p2_0,.box 125 [.val q2_0])),(4,some (q2_0,.list z0b 4 c2_0)),(5,some (p3_0,.box 27 [.rd z01 c3_0])),(6,some (p4_0,.box 173 [.val (.func (.func 125) #[] #[z05 p1_0 0,z05 p2_0 0,z05 p3_0 0,z05 p4_0 0])]))] (z2i 1000 a0 c1_0 c2_0 c3_0) (fun r nv=>⟨[],[(1,some (p1_0,.box 123 [.val q1_0])),(2,some (q1_0,.map aZ z0c c1_0)),(3,some (p2_0,.box 125 [.val q2_0])),(4,some (q2_0,.list z0b 4 r)),(5,some (p3_0,.box 27 [.rd z01 c3_0])),(6,some (p4_0,.box 173 [.val (.func (.func 125) #[] #[z05 p1_0 0,z05 p2_0 0,z05 p3_0 0,z05 p4_0 0])]))]⟩):=zau 1000 a0 p1_0 q1_0 c1_0 p2_0 q2_0 c2_0 p3_0 c3_0 p4_0
def z82 (a0:z00) (a1:List V3) (r2:(List (V3 × Int))) (s11:(List Bool) × Int):Option (Sum ((List Bool)) ((List Bool) × Int)) :=
 if decide (s11.2<(a1.length:Int)) then
  idx a1 s11.2 >>= fun x13 =>
  (z2i 1000) x13 r2 s11.1 a0 >>= fun r16 =>
  some (.inr (r16,w64 (s11.2+1)))
 else
  some (.inl s11.1)
def z8n (a0:z00) (a1:List V3):Option ((List Bool)) :=
 z7n a0 >>= fun r2 =>
 mkn 1 false (a0.IDs.length:Int) >>= fun x5 =>
 (iter (z82 a0 a1 r2) (x5,0)) >>= fun s10 =>
 some s10
theorem zhy (a0:z00) (a1:List V3):z1v Tryz.prog 87 [.rd z01 a0,.rd (z03 aZ) a1] [] (z8n a0 a1) (fun r nv=>⟨[.val (nv 0)],[(100,some (nv 0,.list z0b 4 r))]⟩):=by
 refine z2o 28 Tryz.func87 Z Z Z fun H w=>?_
 refine gSR<|Eb Z (bx 1 Z) fun v1=>Zb Z<|gSR<|Zq (ld 1 Z Z fH z9y Z)<|Zc [] [(100,2)] Tryz.func74 Z (zca _) fun r2 n3=>Eb Z (z6n 3 z136 (.val Z)) fun v4=>Es (zxc 3 Z Z (.here z0o) Z z3o z0o z136)<|Zn<|gSR<|Zq (faB 1 Z Z Tryz.underlying27 Z (by exact zb8))<|Zq (ld 1 Z Z (fP (z0m _)) zbg Z)<|Zq (z42 Z .rd Z tu24)<|z0p fun x5 h6=>Ef Z (mks (R:=z0b) 4 Z Z h6 Tryz.underlying125 ti4 Zr.bool Z) fun v7=>Eb Z (z6n 5 z14s (.val Z)) fun v8=>Es (zxc 5 Z Z (.here z0o) Z z3o z0o z14s)<|Zn<|gSR<|Eb Z (z6n 6 z146 (.val Z)) fun v9=>Zn<|gSR<|Zq (mkf mp0 (mp4 Z Z Z Z))<|Es (zxc 6 Z Z (.here z0o) Z z3o z0o z146)<|Zn<|z7l (fun (s10:(List Bool)) aa ww=>Sta (ctx 28 H [] w) [(6,.val (z05 v8 0))] [(4,some (v7,.list z0b 4 s10)),(5,some (v8,.box 125 [.val v7]))] aa ww) ?_ (fun s10=>?_)
 ·
  refine gSR<|Zm Z<|Zq (z42 Z .rd Z tu24)<|Zm Z<|Zn<|z2c (fun (s11:(List Bool) × Int) aa ww=>Sta (ctx 28 H [] w) [(6,.val (z05 v8 0)),(7,.val (z05 v9 0)),(17,.rd (z03 aZ) a1),(18,.rd z0c (a1.length:Int)),(19,.rd z0c s11.2)] [(4,some (v7,.list z0b 4 s11.1)),(5,some (v8,.box 125 [.val v7])),(6,some (v9,.box 173 [.val (.func (.func 125) #[] #[z05 v4 0,z05 v8 0,z05 v1 0,z05 v9 0])])),(2,some ((n3 0),.map aZ z0c r2)),(3,some (v4,.box 123 [.val (n3 0)])),(1,some (v1,.box 27 [.rd z01 a0]))] aa ww) (fun aa ww h=>Zu h [4,5,6,2,3,1]) (fun s11=>?_)
  refine gSR<|Zq (I.lss Z Z)<|Zn<|z0s<|gIf Z Z (fun h12=>?_) (fun h12=>?_)
  ·
   refine Zt<|z0s<|z58<|gSR<|z0p fun x13 h14=>Zq (ixR Z Z h14 tu24 z3k Z)<|Zq (ldR Z z6o)<|Eb Z (z6n 7 z3k (.zr (R:=aZ) (x:=(Vector.replicate 32 0)) zed)) fun v15=>Es (sto 7 Z Z fH Z z3k)<|Zn<|z2b<|Zq (ldV 6 Z Z .here z13p Z)<|Zq (ld 7 Z Z fH z6o Z)<|zo4 [3,2,5,4,1,6] [(1,3),(2,2),(3,5),(4,4),(5,1),(6,6)] (gd0 Z) Z Z Tryz.func125 Z Z (zg4 _ _ _ _ _ _ _ _ _ _) (Y1 Z) (cQ 3 Z<|cQ 5 Z<|cQ 1 Z<|cQ 6 Z<|cN) (Zi Z<|Zi Z<|Zi Z<|Zi Z<|Zi Z<|Zi Z<|rN) fun r16 n17=>z1o<|z30<|z0j<|z2b<|Zq (I.add Z Z)<|Zm Z<|z1o<|z1n (fun aa ww h=>Zu h [4,5,6,2,3,1])
  ·
   refine z1z<|z11<|z13<|z3c (fun aa ww h=>Zu h [4,5])
 ·
  refine gSR<|Zq (ldV 5 Z Z .here z11w Z)<|Zb Z<|z0l<|Ze [v7] [4] Z
def z7i (a0:z00) (a1:V3):Option ((List V3) × Int) :=
 zay a0 a1 >>= fun r3 =>
 if r3.2 != 0 then
  some ([],r3.2)
 else
  idx a0.Ops r3.1 >>= fun x6 =>
  z8n a0 x6.Preds >>= fun r8 =>
  z6g a0 r8 >>= fun r10 =>
  some (r10,0)
theorem zei (a0:z00) (a1:V3):z1v Tryz.prog 97 [.rd z01 a0,.rd aZ a1] [zG1] (z7i a0 a1) (fun r nv=>⟨[.val (nv 0),.rd z0c r.2],[(1001,some (.bool true,.glob 1 (z2z 64 z0k) z56)),(100,some (nv 0,.list aZ 78 r.1))]⟩):=by
 refine z2o 27 Tryz.func97 Z Z Z fun H w=>?_
 refine gSR<|Eb Z (bx 1 Z) fun v1=>Eb Z (bx 2 Z) fun v2=>Za Z<|Zb Z<|gSR<|Zq (ld 1 Z Z fH z9y Z)<|Zq (ld 2 Z Z fH z6o Z)<|Zc [1001] [] Tryz.func139 Z (ziy _ _) fun r3 n4=>Zm Z<|Zq (ext Z Z)<|Zq (ext Z Z)<|Za Z<|Zb Z<|z0s<|gSR<|Zm Z<|Zq (I.neq Z Z)<|Zj Z (fun h5=>?_) (fun h5=>?_)
 ·
  refine gSR<|Zm Z<|Za Z<|Zb Z<|z0l<|z0v<|znu aZ 78 3<|Ze [(.slice none 0 0)] [1001,3] Z
 ·
  refine Zt<|z0s<|z8j [28,31] mixed Z Z<|hTk 0 Z Z (ld 1 Z Z fH z9y Z)<|hTk 1 Z Z (ld 1 Z Z fH z9y Z)<|hTk 2 Z Z (faB 1 Z Z Tryz.underlying27 Z (by exact zc8))<|hTk 3 Z Z (ld 1 Z Z (fP (z09 _)) zer Z)<|hTk 4 Z Z (mv Z)<|z65 fun x6 h7=>hTk 5 Z Z (ixR Z Z h7 tu25 zam Z)<|hTk 6 Z Z (faR Z (z0z _) Tryz.underlying72 Z Z (by exact zb8))<|hTk 7 Z Z (ldR Z zbg)<|z3n 8 [] [(100,28)] Z (by kernel_rfl) Z (gd0 Z) Z Tryz.func87 Z Z (zhy _ _) (Y2 Z Z) rN Z (fun _ _=>z35) fun r8 n9=>zzw 28 [25] Z (fS Z<|fN)<|z3n 9 [] [(100,31)] Z (by kernel_rfl) Z (gd0 Z) Z Tryz.func75 Z Z (zcc _ _) (Y2 Z Z) rN Z (fun _ _=>z35) fun r10 n11=>Zf 10 Z Z z35 (asg Z)<|hTk 11 Z Z (asg Z)<|z3u (by kernel_rfl)<|z0j<|z0l<|Ze [(n11 0)] [1001,31] Z
def zex (a0:z06):Option (z06) :=
 z12 a0.Preds >>= fun r3 =>
 some (⟨a0.Author,r3,a0.Stamp,a0.Act,a0.Sig⟩:z06)
theorem zg7 (a0:z06):z1v Tryz.prog 121 [.rd z04 a0] [] (zex a0) (fun r nv=>⟨[.rd z04 r],[]⟩):=by
 refine z2o 8 Tryz.func121 Z Z Z fun H w=>?_
 refine gSR<|Eb Z (bx 1 Z) fun v1=>Eb Z (z6n 2 zam (ZrE.rd (R:=z0k) (x:=0) (Zr.num Z) (ZrE.nilS (ZrE.rd (R:=z2n) (x:=0) (Zr.num Z) (ZrE.rd (R:=z0g) (x:=(⟨0,[],(⟨0,0,0,[]⟩:z02)⟩:z08)) zms (ZrE.rd (R:=z0x) (x:=(⟨0,0⟩:z0a)) zpb ZrE.nil Z) Z) Z)) Z)) fun v2=>Zn<|gSR<|Zq (faB 1 Z Z Tryz.underlying72 Z (by exact zb8))<|Zq (ld 1 Z Z (fP (z0z _)) zbg Z)<|Zc [] [(100,3)] Tryz.func55 Z (z36 _) fun r3 n4=>Zq (faB 1 Z Z Tryz.underlying72 Z (by exact zb8))<|lSpl (R:=z04) 1 Z (Sp.via (Sp.prod (Sp.prod (Sp.prod (Sp.prod (Sp.prod Sp.unit))))))<|Es (zxc 1 Z Z (zcm.cast (zcm.next z2j (zcm.here z2j)) Z) Z z3o z0o zb8)<|Zn<|gSR<|lPow [.rd z0k a0.Author,.rd (z03 aZ) r3,.rd z2n a0.Stamp,.rd z0g a0.Act,.rd z0x a0.Sig] 1 3 [.rd z0k a0.Author] [.rd z2n a0.Stamp,.rd z0g a0.Act,.rd z0x a0.Sig] Z Z Z Z Z<|zio (R:=z04) (⟨a0.Author,r3,a0.Stamp,a0.Act,a0.Sig⟩:z06) 1 Z (Sp.via (Sp.prod (Sp.prod (Sp.prod (Sp.prod (Sp.prod Sp.unit))))))<|Zq (ld 1 Z Z fH ze3 Z)<|zgr aZ [.rd z0k 0,.rd (z03 aZ) [],.rd z2n 0,.rd z0g (⟨0,[],(⟨0,0,0,[]⟩:z02)⟩:z08),.rd z0x (⟨0,0⟩:z0a)] 2 [.rd z0k 0] [.rd z2n 0,.rd z0g (⟨0,[],(⟨0,0,0,[]⟩:z02)⟩:z08),.rd z0x (⟨0,0⟩:z0a)] Z Z Z<|zio (R:=z04) (⟨0,[],0,(⟨0,[],(⟨0,0,0,[]⟩:z02)⟩:z08),(⟨0,0⟩:z0a)⟩:z06) 2 Z (Sp.via (Sp.prod (Sp.prod (Sp.prod (Sp.prod (Sp.prod Sp.unit))))))<|Es (sto 2 Z Z fH Z zam)<|Zn<|z0l<|zbw [] [] Z (eC 2 Z Z ze3<|eN) (rN)
def zew (a0:z00) (a2:z06) (r5:Int × Bool) (r11:List V3) (s16:(List z06) × Int):Option (Sum ((List z06)) ((List z06) × Int)) :=
 if decide (s16.2<(r11.length:Int)) then
  some (decide (s16.2<r5.1)) >>= fun y19 =>
  if y19 then
   idx a0.Ops s16.2 >>= fun x21 =>
   zex x21 >>= fun r23 =>
   app 112 s16.1 [r23] >>= fun x26 =>
   some (.inr (x26,w64 (s16.2+1)))
  else
   some (s16.2==r5.1) >>= fun y29 =>
   if y29 then
    zex a2 >>= fun r31 =>
    app 112 s16.1 [r31] >>= fun x34 =>
    some (.inr (x34,w64 (s16.2+1)))
   else
    idx a0.Ops (w64 (s16.2 - 1)) >>= fun x37 =>
    zex x37 >>= fun r39 =>
    app 112 s16.1 [r39] >>= fun x42 =>
    some (.inr (x42,w64 (s16.2+1)))
 else
  some (.inl s16.1)
def zdg (a0:z00) (a1:V3) (a2:z06):Option (z00 × Bool) :=
 zck a0 a1 >>= fun r5 =>
 if r5.2 then
  some (a0,false)
 else
  z12 a0.IDs >>= fun r8 =>
  insF r8 r5.1 [a1] >>= fun r11 =>
  (iter (zew a0 a2 r5 r11) ([],0)) >>= fun s15 =>
  some ((⟨r11,s15⟩:z00),true)
set_option maxHeartbeats 4000000 in
theorem zsd (a0:z00) (a1:V3) (a2:z06):z1v Tryz.prog 81 [.rd z01 a0,.rd aZ a1,.rd z04 a2] [] (zdg a0 a1 a2) (fun r nv=>⟨[.rd z01 r.1,.rd z0b r.2],[]⟩):=by
 refine z2o 74 Tryz.func81 Z Z Z fun H w=>?_
 refine gSR<|Eb Z (bx 1 Z) fun v1=>Eb Z (bx 2 Z) fun v2=>Eb Z (bx 3 Z) fun v3=>Eb Z (z6n 4 zd9 (ZrE.nilS (ZrE.nilS ZrE.nil))) fun v4=>Zb Z<|gSR<|Zq (ld 1 Z Z fH z9y Z)<|Zq (ld 2 Z Z fH z6o Z)<|Zc [] [] Tryz.func84 Z (zge _ _) fun r5 n6=>Zm Z<|Zq (ext Z Z)<|Zq (ext Z Z)<|Za Z<|Zb Z<|z0s<|gSR<|Zm Z<|Zj Z (fun h7=>?_) (fun h7=>?_)
 ·
  refine gKn 17 Z h7<|gKn 9 Z h7<|gSR<|Zq (ld 1 Z Z fH z9y Z)<|zgr aZ [.rd (z03 aZ) [],.val (.slice none 0 0)] 4 [] [.val (.slice none 0 0)] Z Z Z<|zgr z04 [.rd (z03 aZ) [],.rd (z03 z04) []] 4 [.rd (z03 aZ) []] [] Z Z Z<|zio (R:=z01) (⟨[],[]⟩:z00) 4 Z (Sp.via (Sp.prod (Sp.prod Sp.unit)))<|Es (sto 4 Z Z fH Z zd9)<|Zb Z<|z0l<|z0v<|zbw [] [] Z (eC 4 Z Z z9y<|eE Z<|eN) (rN)
 ·
  refine gKn 17 Z h7<|gKn 9 Z h7<|Zt<|z0s<|zx6 [(3,.val (z05 v1 0)),(4,.val (z05 v2 0)),(5,.val (z05 v3 0)),(6,.val (z05 v4 0)),(8,.rd z0c r5.1)] [(1,some (v1,.box 27 [.rd z01 a0])),(2,some (v2,.box 78 [.rd aZ a1])),(3,some (v3,.box 72 [.rd z04 a2])),(4,some (v4,.box 27 [.val (.slice none 0 0),.val (.slice none 0 0)]))] [1,2,3,4] (Zs Z Z Z Z<|sS Z<|sN) (Zi Z<|Zi Z<|Zi Z<|Zi Z<|rN)<|z98 fun r8 h10=>z98 fun r11 h13=>gOr [] [⟨1,some ([], fun nv=>(v1,.box 27 [.rd z01 a0])),[]⟩,⟨5,none,[(2,some ([1], fun nv=>((nv 1),.list aZ 78 r8))),(6,none)]⟩,⟨2,some ([], fun nv=>(v2,.box 78 [.rd aZ a1])),[]⟩,⟨6,none,[(5,some ([2], fun nv=>((nv 2),.list aZ 78 [a1]))),(6,none)]⟩,⟨7,none,[(6,some ([3], fun nv=>((nv 3),.list aZ 78 r11)))]⟩,⟨8,none,[(8,some ([4], fun nv=>((nv 4),.box 27 [.val (.slice none 0 0),.val (.slice none 0 0)]))),(9,some ([3,4], fun nv=>((nv 4),.box 27 [.val (nv 3),.val (.slice none 0 0)])))]⟩] [pk 20 (.val (z05 v1 (0+0))) [(0,0,false)],pk 21 (.rd (z03 aZ) a0.IDs) [(0,0,false)],⟨some (22,[1], fun nv=>.val (nv 1)),[(1,0,true)],[1],[]⟩,pd 23 (.rd z0c r5.1),pk 24 (.rd aZ a1) [(2,0,false)],⟨some (25,[2], fun nv=>.val (nv 2)),[(3,0,true)],[2],[]⟩,⟨some (26,[3], fun nv=>.val (nv 3)),[(3,1,true),(1,1,true),(4,0,true)],[3],[]⟩,⟨some (27,[3], fun nv=>.agg [.val (nv 3),.val (.slice none 0 0)]),[],[],[]⟩,⟨some (10,[4], fun nv=>.val (z05 (nv 4) 0)),[(5,0,true)],[4],[]⟩,⟨none,[(5,1,true)],[],[]⟩] mixed (oC (oRn (fun nv E=>faB 1 Z Z Tryz.underlying27 Z (by exact zb8)))<|oC (oRn (fun nv E=>ld 1 Z Z (fP (z0m _)) zbg Z))<|oC (oCl [1] [] [(100,5)] h10 Tryz.func55 Z (fun nv=>(z36 _)) (fun nv=>(Y1 Z)) (fun nv E=>rN))<|oC (oRn (fun nv E=>mv Z))<|oC (oRn (fun nv E=>ld 2 Z Z fH z6o Z))<|oC (oEf 6 2 (fun nv E=>lit (R:=aZ) ([a1]:List V3) 6 (pP Z Z<|pN) Z tu24 z3k Z Z))<|oC (oCl [3] [5,6] [(100,7)] h13 Tryz.func120 Z (fun nv=>(z12a _ _ _ _ _)) (fun nv=>(aQ Z<|aQ Z<|aQ Z<|aN)) (fun nv E=>(Zi Z<|Zi Z<|rN)))<|oC (oRn (fun nv E=>bldE [(0,1),(1,1)] Tryz.underlying27 zd9 (ZrE.nilS (ZrE.nilS ZrE.nil)) Z (zlu.cons Z Z z0o (zcm.cast (zcm.here z0o) Z)<|zlu.done Z)))<|oC (oEb 8 4 (fun nv E=>z6n 8 zd9 (ZrE.nilS (ZrE.nilS ZrE.nil))))<|oC (oEs 8 (fun nv E=>stoG 8 Z Z (z0y.cast (z0y.cons z0o (z0y.cons z0o z0y.nil)) Z) Z (z7e.cons z3o (z7e.cons z3o z7e.nil)) (z0y.cast (z0y.cons z0o (z0y.cons z0o z0y.nil)) Z) zd9))<|oN) fun n14=>z0j<|z7l (fun (s15:(List z06)) aa ww=>∃ nv:Nat→Value,Sta (ctx 74 H [] w) [(6,.val (z05 v4 0)),(10,.val (z05 (nv 0) 0))] [(4,some (v4,.box 27 [.val (.slice none 0 0),.val (.slice none 0 0)])),(7,some ((nv 1),.list aZ 78 r11)),(9,some ((nv 2),.list z04 72 s15)),(8,some ((nv 0),.box 27 [.val (nv 1),.val (nv 2)]))] aa ww) ?_ (fun s15=>?_)
  ·
   refine gSR<|Zq (faB 8 Z Z Tryz.underlying27 Z (by exact zb8))<|Zq (ldV 8 Z Z (At.cast At.here Z) sc24 Z)<|Zq (z42 Z (.own 7 Z) Z tu24)<|Zm Z<|Zn<|zzi z04 72 11<|z2c (fun (s16:(List z06) × Int) aa ww=>∃ nv:Nat→Value,Sta (ctx 74 H [] w) [(3,.val (z05 v1 0)),(5,.val (z05 v3 0)),(6,.val (z05 v4 0)),(8,.rd z0c r5.1),(10,.val (z05 (nv 0) 0)),(30,.rd z0c (r11.length:Int)),(31,.rd z0c s16.2)] [(1,some (v1,.box 27 [.rd z01 a0])),(3,some (v3,.box 72 [.rd z04 a2])),(4,some (v4,.box 27 [.val (.slice none 0 0),.val (.slice none 0 0)])),(7,some ((nv 1),.list aZ 78 r11)),(10,some ((nv 2),.list z04 72 s16.1)),(8,some ((nv 0),.box 27 [.val (nv 1),.val (nv 2)]))] aa ww) (fun aa ww h=>⟨nvl [(n14 4),(n14 3),(.slice none 0 0)],Zu h [1,3,4,7,11,8]⟩) (fun s16=>?_)
   refine gEx fun n17=>gSR<|Zq (I.lss Z Z)<|Zn<|z0s<|gIf Z Z (fun h18=>?_) (fun h18=>?_)
   ·
    refine Zt<|z0s<|z58<|gSR<|Zm Z<|Zb Z<|z58<|gSR<|Zm Z<|Zm Z<|Zq (I.lss Z Z)<|Za Z<|z1t 46 Z fun y19=>Zj Z (fun h20=>?_) (fun h20=>?_)
    ·
     refine zx6 [(3,.val (z05 v1 0)),(5,.val (z05 v3 0)),(6,.val (z05 v4 0)),(8,.rd z0c r5.1),(10,.val (z05 (n17 0) 0)),(30,.rd z0c (r11.length:Int)),(31,.rd z0c s16.2),(11,.rd z0c s16.2)] [(1,some (v1,.box 27 [.rd z01 a0])),(3,some (v3,.box 72 [.rd z04 a2])),(4,some (v4,.box 27 [.val (.slice none 0 0),.val (.slice none 0 0)])),(7,some ((n17 1),.list aZ 78 r11)),(10,some ((n17 2),.list z04 72 s16.1)),(8,some ((n17 0),.box 27 [.val (n17 1),.val (n17 2)]))] [1,3,4,7,10,8] (Zs Z Z Z Z<|Zs Z Z Z Z<|sN) (Zi Z<|Zi Z<|Zi Z<|Zi Z<|Zi Z<|Zi Z<|rN)<|z98 fun x21 h22=>z98 fun r23 h25=>z98 fun x26 h27=>gOr [] [⟨8,some ([], fun nv=>((n17 0),.box 27 [.val (n17 1),.val (n17 2)])),[(11,some ([2], fun nv=>((n17 0),.box 27 [.val (n17 1),.val (nv 2)])))]⟩,⟨1,some ([], fun nv=>(v1,.box 27 [.rd z01 a0])),[]⟩,⟨12,none,[(8,none)]⟩,⟨10,some ([], fun nv=>((n17 2),.list z04 72 s16.1)),[(9,some ([2], fun nv=>((nv 2),.list z04 72 x26)))]⟩] [pk 50 (.val (z05 (n17 0) (0+1))) [(0,0,false)],pk 51 (.val (n17 2)) [(0,0,false)],pk 52 (.val (z05 v1 (0+1))) [(1,0,false)],pk 53 (.rd (z03 z04) a0.Ops) [(1,0,false)],pd 54 (.rd z0c s16.2),pd 55 (.rp z04 x21),pd 56 (.rd z04 x21),pd 57 (.rd z04 r23),⟨some (58,[], fun nv=>.rd (z03 z04) [r23]),[(2,0,true)],[1],[]⟩,⟨some (59,[2], fun nv=>.val (nv 2)),[(3,0,true)],[2],[]⟩,pk 60 (.val (z05 (n17 0) (0+1))) [(0,0,false)],⟨none,[(3,1,false),(0,0,true)],[],[]⟩] mixed (oC (oRn (fun nv E=>faB 8 Z Z Tryz.underlying27 Z (by exact zc8)))<|oC (oRn (fun nv E=>ldV 8 Z Z (At.cast (At.next z0o At.here) Z) sc25 Z))<|oC (oRn (fun nv E=>faB 1 Z Z Tryz.underlying27 Z (by exact zc8)))<|oC (oRn (fun nv E=>ld 1 Z Z (fP (z09 _)) zer Z))<|oC (oRn (fun nv E=>mv Z))<|oC (oRn (fun nv E=>ixR Z Z h22 tu25 zam Z))<|oC (oRn (fun nv E=>ldR Z ze3))<|oC (oCl [] [] [] h25 Tryz.func121 Z (fun nv=>(zg7 _)) (fun nv=>(Y1 Z)) (fun nv E=>rN))<|oC (oFz (A1:=fun nv=>[(12,some ((nv 1),.list z04 72 [r23]))]) 12 1 (oEf 12 1 (fun nv E=>lit (R:=z04) ([r23]:List z06) 12 (pP Z Z<|pN) Z tu25 zam Z Z)))<|oC (oEf 10 2 (fun nv E=>apn 10 Z Z Z .rd h27 tu25 zam Z Z Z))<|oC (oRn (fun nv E=>faB 8 Z Z Tryz.underlying27 Z (by exact zc8)))<|oC (oEs 8 (fun nv E=>zxc 8 Z Z (zcm.cast (zcm.next z0o (zcm.here z0o)) Z) Z z3o z0o zc8))<|oN) fun n28=>z30<|z30<|z0j<|z2b<|Zq (I.add Z Z)<|Zm Z<|z1o<|z1n (fun aa ww h=>⟨nvl [(n17 0),(n17 1),(n28 2)],Zu h [1,3,4,7,10,8]⟩)
    ·
     refine gSR<|Zm Z<|Zm Z<|Zq (I.eql Z Z)<|Za Z<|z1t 61 Z fun y29=>Zj Z (fun h30=>?_) (fun h30=>?_)
     ·
      refine zx6 [(3,.val (z05 v1 0)),(5,.val (z05 v3 0)),(6,.val (z05 v4 0)),(8,.rd z0c r5.1),(10,.val (z05 (n17 0) 0)),(30,.rd z0c (r11.length:Int)),(31,.rd z0c s16.2)] [(1,some (v1,.box 27 [.rd z01 a0])),(3,some (v3,.box 72 [.rd z04 a2])),(4,some (v4,.box 27 [.val (.slice none 0 0),.val (.slice none 0 0)])),(7,some ((n17 1),.list aZ 78 r11)),(10,some ((n17 2),.list z04 72 s16.1)),(8,some ((n17 0),.box 27 [.val (n17 1),.val (n17 2)]))] [1,3,4,7,10,8] (Zs Z Z Z Z<|sS Z<|sS Z<|sS Z<|sN) (Zi Z<|Zi Z<|Zi Z<|Zi Z<|Zi Z<|Zi Z<|rN)<|z98 fun r31 h33=>z98 fun x34 h35=>gOr [] [⟨8,some ([], fun nv=>((n17 0),.box 27 [.val (n17 1),.val (n17 2)])),[(7,some ([2], fun nv=>((n17 0),.box 27 [.val (n17 1),.val (nv 2)])))]⟩,⟨3,some ([], fun nv=>(v3,.box 72 [.rd z04 a2])),[]⟩,⟨13,none,[(4,none)]⟩,⟨10,some ([], fun nv=>((n17 2),.list z04 72 s16.1)),[(5,some ([2], fun nv=>((nv 2),.list z04 72 x34)))]⟩] [pk 65 (.val (z05 (n17 0) (0+1))) [(0,0,false)],pk 66 (.val (n17 2)) [(0,0,false)],pk 67 (.rd z04 a2) [(1,0,false)],pd 68 (.rd z04 r31),⟨some (69,[], fun nv=>.rd (z03 z04) [r31]),[(2,0,true)],[1],[]⟩,⟨some (70,[2], fun nv=>.val (nv 2)),[(3,0,true)],[2],[]⟩,pk 71 (.val (z05 (n17 0) (0+1))) [(0,0,false)],⟨none,[(3,1,false),(0,0,true)],[],[]⟩] mixed (oC (oRn (fun nv E=>faB 8 Z Z Tryz.underlying27 Z (by exact zc8)))<|oC (oRn (fun nv E=>ldV 8 Z Z (At.cast (At.next z0o At.here) Z) sc25 Z))<|oC (oRn (fun nv E=>ld 3 Z Z fH ze3 Z))<|oC (oCl [] [] [] h33 Tryz.func121 Z (fun nv=>(zg7 _)) (fun nv=>(Y1 Z)) (fun nv E=>rN))<|oC (oFz (A1:=fun nv=>[(13,some ((nv 1),.list z04 72 [r31]))]) 13 1 (oEf 13 1 (fun nv E=>lit (R:=z04) ([r31]:List z06) 13 (pP Z Z<|pN) Z tu25 zam Z Z)))<|oC (oEf 10 2 (fun nv E=>apn 10 Z Z Z .rd h35 tu25 zam Z Z Z))<|oC (oRn (fun nv E=>faB 8 Z Z Tryz.underlying27 Z (by exact zc8)))<|oC (oEs 8 (fun nv E=>zxc 8 Z Z (zcm.cast (zcm.next z0o (zcm.here z0o)) Z) Z z3o z0o zc8))<|oN) fun n36=>z30<|z30<|z0j<|z2b<|Zq (I.add Z Z)<|Zm Z<|z1o<|z1n (fun aa ww h=>⟨nvl [(n17 0),(n17 1),(n36 2)],Zu h [1,3,4,7,10,8]⟩)
     ·
      refine zx6 [(3,.val (z05 v1 0)),(5,.val (z05 v3 0)),(6,.val (z05 v4 0)),(8,.rd z0c r5.1),(10,.val (z05 (n17 0) 0)),(30,.rd z0c (r11.length:Int)),(31,.rd z0c s16.2),(11,.rd z0c s16.2)] [(1,some (v1,.box 27 [.rd z01 a0])),(3,some (v3,.box 72 [.rd z04 a2])),(4,some (v4,.box 27 [.val (.slice none 0 0),.val (.slice none 0 0)])),(7,some ((n17 1),.list aZ 78 r11)),(10,some ((n17 2),.list z04 72 s16.1)),(8,some ((n17 0),.box 27 [.val (n17 1),.val (n17 2)]))] [1,3,4,7,10,8] (Zs Z Z Z Z<|Zs Z Z Z Z<|sN) (Zi Z<|Zi Z<|Zi Z<|Zi Z<|Zi Z<|Zi Z<|rN)<|z98 fun x37 h38=>z98 fun r39 h41=>z98 fun x42 h43=>gOr [] [⟨8,some ([], fun nv=>((n17 0),.box 27 [.val (n17 1),.val (n17 2)])),[(12,some ([2], fun nv=>((n17 0),.box 27 [.val (n17 1),.val (nv 2)])))]⟩,⟨1,some ([], fun nv=>(v1,.box 27 [.rd z01 a0])),[]⟩,⟨14,none,[(9,none)]⟩,⟨10,some ([], fun nv=>((n17 2),.list z04 72 s16.1)),[(10,some ([2], fun nv=>((nv 2),.list z04 72 x42)))]⟩] [pk 34 (.val (z05 (n17 0) (0+1))) [(0,0,false)],pk 35 (.val (n17 2)) [(0,0,false)],pk 36 (.val (z05 v1 (0+1))) [(1,0,false)],pk 37 (.rd (z03 z04) a0.Ops) [(1,0,false)],pd 38 (.rd z0c s16.2),pd 39 (.rd z0c (w64 (s16.2 - 1))),pd 40 (.rp z04 x37),pd 41 (.rd z04 x37),pd 42 (.rd z04 r39),⟨some (43,[], fun nv=>.rd (z03 z04) [r39]),[(2,0,true)],[1],[]⟩,⟨some (44,[2], fun nv=>.val (nv 2)),[(3,0,true)],[2],[]⟩,pk 45 (.val (z05 (n17 0) (0+1))) [(0,0,false)],⟨none,[(3,1,false),(0,0,true)],[],[]⟩] mixed (oC (oRn (fun nv E=>faB 8 Z Z Tryz.underlying27 Z (by exact zc8)))<|oC (oRn (fun nv E=>ldV 8 Z Z (At.cast (At.next z0o At.here) Z) sc25 Z))<|oC (oRn (fun nv E=>faB 1 Z Z Tryz.underlying27 Z (by exact zc8)))<|oC (oRn (fun nv E=>ld 1 Z Z (fP (z09 _)) zer Z))<|oC (oRn (fun nv E=>mv Z))<|oC (oRn (fun nv E=>I.sub Z Z))<|oC (oRn (fun nv E=>ixR Z Z h38 tu25 zam Z))<|oC (oRn (fun nv E=>ldR Z ze3))<|oC (oCl [] [] [] h41 Tryz.func121 Z (fun nv=>(zg7 _)) (fun nv=>(Y1 Z)) (fun nv E=>rN))<|oC (oFz (A1:=fun nv=>[(14,some ((nv 1),.list z04 72 [r39]))]) 14 1 (oEf 14 1 (fun nv E=>lit (R:=z04) ([r39]:List z06) 14 (pP Z Z<|pN) Z tu25 zam Z Z)))<|oC (oEf 10 2 (fun nv E=>apn 10 Z Z Z .rd h43 tu25 zam Z Z Z))<|oC (oRn (fun nv E=>faB 8 Z Z Tryz.underlying27 Z (by exact zc8)))<|oC (oEs 8 (fun nv E=>zxc 8 Z Z (zcm.cast (zcm.next z0o (zcm.here z0o)) Z) Z z3o z0o zc8))<|oN) fun n44=>z30<|z30<|z0j<|z2b<|Zq (I.add Z Z)<|Zm Z<|z1o<|z1n (fun aa ww h=>⟨nvl [(n17 0),(n17 1),(n44 2)],Zu h [1,3,4,7,10,8]⟩)
   ·
    refine z1z<|z11<|z13<|z3c (fun aa ww h=>⟨nvl [(n17 0),(n17 1),(n17 2)],Zu h [4,7,10,8]⟩)
  ·
   refine gEx fun n45=>gSR<|lPow [.rd (z03 aZ) r11,.val (n45 2)] 8 7 [] [.val (n45 2)] Z Z Z Z Z<|lPow [.rd (z03 aZ) r11,.rd (z03 z04) s15] 8 9 [.rd (z03 aZ) r11] [] Z Z Z Z Z<|zio (R:=z01) (⟨r11,s15⟩:z00) 8 Z (Sp.via (Sp.prod (Sp.prod Sp.unit)))<|Zq (ld 8 Z Z fH z9y Z)<|zgr aZ [.rd (z03 aZ) [],.val (.slice none 0 0)] 4 [] [.val (.slice none 0 0)] Z Z Z<|zgr z04 [.rd (z03 aZ) [],.rd (z03 z04) []] 4 [.rd (z03 aZ) []] [] Z Z Z<|zio (R:=z01) (⟨[],[]⟩:z00) 4 Z (Sp.via (Sp.prod (Sp.prod Sp.unit)))<|Es (sto 4 Z Z fH Z zd9)<|Zb Z<|z0l<|zbw [] [] Z (eC 4 Z Z z9y<|eE Z<|eN) (rN)
def zht (a0:V3) (c1_0:z00):Option (Bool) :=
 zck c1_0 a0 >>= fun r2 =>
 some (!r2.2)
theorem zp0 (a0:V3) (p1_0:Value) (c1_0:z00):z1v Tryz.prog 83 [.rd aZ a0,.val (z05 p1_0 0)] [(1,some (p1_0,.box 27 [.rd z01 c1_0]))] (zht a0 c1_0) (fun r nv=>⟨[.rd z0b r],[(1,some (p1_0,.box 27 [.rd z01 c1_0]))]⟩):=by
 refine z2o 14 Tryz.func83 Z Z Z fun H w=>?_
 refine gSR<|Eb Z (bx 2 Z) fun v1=>Zb Z<|gSR<|Zq (ld 1 Z Z fH z9y Z)<|Zq (ld 2 Z Z fH z6o Z)<|Zc [] [] Tryz.func84 Z (zge _ _) fun r2 n3=>Zm Z<|Zq (ext Z Z)<|Zq (ext Z Z)<|Za Z<|Zb Z<|gSR<|Zm Z<|Zq (zfq Z)<|Zb Z<|z0l<|Ze [] [1] Z
def z19 (a0:List V3) (c1_0:z00) (s2:Int):Option (Sum (Sum Int Unit) Int) :=
 if decide (s2<(a0.length:Int)) then
  idx a0 s2 >>= fun x4 =>
  zht x4 c1_0 >>= fun r6 =>
  if r6 then
   some (.inl (.inl s2))
  else
   some (.inr (w64 (s2+1)))
 else
  some (.inl (.inr ()))
def z2q (a0:List V3) (c1_0:z00):Option (Int) :=
 z73 (iter (z19 a0 c1_0) 0) fun s1 =>
 some (-1)
theorem z6r (a0:List V3) (p1_0:Value) (c1_0:z00):z1v Tryz.prog 91 [.rd (z03 aZ) a0,.val (.func (.func 83) #[] #[z05 p1_0 0])] [(1,some (p1_0,.box 27 [.rd z01 c1_0]))] (z2q a0 c1_0) (fun r nv=>⟨[.rd z0c r],[(1,some (p1_0,.box 27 [.rd z01 c1_0]))]⟩):=by
 refine z2o 19 Tryz.func91 Z Z Z fun H w=>?_
 refine gSR<|Zb Z<|z9a (fun (s1:Unit) aa ww=>Sta (ctx 19 H [(1,some (p1_0,.box 27 [.rd z01 c1_0]))] w) [] [(1,some (p1_0,.box 27 [.rd z01 c1_0]))] aa ww) ?_ (fun s1=>?_)
 ·
  refine gSR<|Zm Z<|Zq (z42 Z .rd Z tu24)<|Zm Z<|Zn<|z2c (fun (s2:Int) aa ww=>Sta (ctx 19 H [(1,some (p1_0,.box 27 [.rd z01 c1_0]))] w) [(0,.rd (z03 aZ) a0),(1,.val (.func (.func 83) #[] #[z05 p1_0 0])),(7,.rd z0c (a0.length:Int)),(8,.rd z0c s2)] [(1,some (p1_0,.box 27 [.rd z01 c1_0]))] aa ww) (fun aa ww h=>Zu h [1]) (fun s2=>?_)
  refine gSR<|Zq (I.lss Z Z)<|Zn<|z0s<|gIf Z Z (fun h3=>?_) (fun h3=>?_)
  ·
   refine Zt<|z0s<|z58<|gSR<|Zm Z<|Zb Z<|gSR<|Zm Z<|Zm Z<|Zm Z<|z0p fun x4 h5=>Zq (ixR Z Z h5 tu24 z3k Z)<|Zq (ldR Z z6o)<|zo4 [1] [(1,1)] (gd0 Z) Z Z Tryz.func83 Z Z (zp0 _ _ _) (Y1 Z) (cQ 1 Z<|cN) (y1 Z) fun r6 n7=>Zj Z (fun h8=>?_) (fun h8=>?_)
   ·
    refine gSR<|Zm Z<|Zb Z<|z0l<|z43<|z0v<|z8g<|z6y<|Ze [] [1] Z
   ·
    refine z2t<|z30<|z0j<|z2b<|Zq (I.add Z Z)<|Zm Z<|z1o<|z1n (fun aa ww h=>Zu h [1])
  ·
   refine z1z<|z11<|z13<|z7d (fun aa ww h=>Zu h [1])
 ·
  refine gSR<|Zb Z<|z0l<|Ze [] [1] Z
def z1k (a0:List V3) (c1_0:z00):Option (Bool) :=
 z2q a0 c1_0 >>= fun r1 =>
 some (decide (0≤r1)) >>= fun y3 =>
 some y3
theorem z62 (a0:List V3) (p1_0:Value) (c1_0:z00):z1v Tryz.prog 82 [.rd (z03 aZ) a0,.val (.func (.func 83) #[] #[z05 p1_0 0])] [(1,some (p1_0,.box 27 [.rd z01 c1_0]))] (z1k a0 c1_0) (fun r nv=>⟨[.rd z0b r],[(1,some (p1_0,.box 27 [.rd z01 c1_0]))]⟩):=by
 refine z2o 9 Tryz.func82 Z Z Z fun H w=>?_
 refine gSR<|Zb Z<|gSR<|Zm Z<|Zm Z<|Zc [1] [(1,1)] Tryz.func91 Z (z6r _ _ _) fun r1 n2=>Zq (I.geq Z Z)<|Za Z<|z1t 4 Z fun y3=>Zn<|z0l<|Ze [] [1] Z
def zct (a0:z00) (a1:z06):Option (z00 × V3 × Int) :=
 z48 a0 >>= fun r5 =>
 (if r5==0 then
  zel a1 >>= fun r9 =>
  some r9
 else
  some r5) >>= fun s7 =>
 if s7 != 0 then
  some ((⟨[],[]⟩:z00),(Vector.replicate 32 0),s7)
 else
  ztn a1 >>= fun r12 =>
  zdg a0 r12.1 a1 >>= fun r15 =>
  if !r15.2 then
   some ((⟨[],[]⟩:z00),(Vector.replicate 32 0),14)
  else
   z1k a1.Preds a0 >>= fun r19 =>
   if r19 then
    some ((⟨[],[]⟩:z00),(Vector.replicate 32 0),40)
   else
    some ((a0.Ops.length:Int)==60) >>= fun y22 =>
    if y22 then
     some ((⟨[],[]⟩:z00),(Vector.replicate 32 0),18)
    else
     some (r15.1,r12.1,0)
theorem zlw (a0:z00) (a1:z06):z1v Tryz.prog 35 [.rd z01 a0,.rd z04 a1] [zG1] (zct a0 a1) (fun r nv=>⟨[.rd z01 r.1,.rd aZ r.2.1,.rd z0c r.2.2],[(1001,some (.bool true,.glob 1 (z2z 64 z0k) z56))]⟩):=by
 refine z2o 56 Tryz.func35 Z Z Z fun H w=>?_
 refine gSR<|Eb Z (bx 1 Z) fun v1=>Eb Z (bx 2 Z) fun v2=>Eb Z (z6n 3 zd9 (ZrE.nilS (ZrE.nilS ZrE.nil))) fun v3=>Eb Z (z6n 4 z3k (.zr (R:=aZ) (x:=(Vector.replicate 32 0)) zed)) fun v4=>Zb Z<|gSR<|Zq (ld 1 Z Z fH z9y Z)<|Zc [1001] [] Tryz.func60 Z (zab _) fun r5 n6=>Zb Z<|z7l (fun (s7:Int) aa ww=>Sta (ctx 56 H [zG1] w) [(2,.val (z05 v1 0)),(3,.val (z05 v2 0)),(4,.val (z05 v3 0)),(5,.val (z05 v4 0)),(7,.rd z0c s7)] [(1,some (v1,.box 27 [.rd z01 a0])),(2,some (v2,.box 72 [.rd z04 a1])),(3,some (v3,.box 27 [.val (.slice none 0 0),.val (.slice none 0 0)])),(4,some (v4,.box 78 [.rd aZ (Vector.replicate 32 0)])),zG1] aa ww) ?_ (fun s7=>?_)
 ·
  refine gSR<|Zm Z<|Zq (I.eql Z Z)<|Zj Z (fun h8=>?_) (fun h8=>?_)
  ·
   refine z2b<|Zq (ld 2 Z Z fH ze3 Z)<|Zc [1001] [] Tryz.func79 Z (ziq _) fun r9 n10=>Za Z<|z1o<|z3c (fun aa ww h=>Zu h [1,2,3,4,1001])
  ·
   refine z2t<|z3c (fun aa ww h=>Zu h [1,2,3,4,1001])
 ·
  refine z0s<|gSR<|Zm Z<|Zq (I.neq Z Z)<|Zj Z (fun h11=>?_) (fun h11=>?_)
  ·
   refine gSR<|Zq (bldE [(0,1),(1,1)] Tryz.underlying27 zd9 (ZrE.nilS (ZrE.nilS ZrE.nil)) Z (zlu.done Z))<|Zq (bldG (x':=((Vector.replicate 32 0):V3)) tu78 z3k zed ti5 (Bld.done Z))<|Zm Z<|Es (stoG 3 Z Z (z0y.cast (z0y.cons z0o (z0y.cons z0o z0y.nil)) Z) Z (z7e.cons z3o (z7e.cons z3o z7e.nil)) (z0y.cast (z0y.cons z0o (z0y.cons z0o z0y.nil)) Z) zd9)<|Es (sto 4 Z Z fH Z z3k)<|Zb Z<|z0l<|z0v<|zu9 aZ [.rd (z03 aZ) [],.val (.slice none 0 0)] 3 [] [.val (.slice none 0 0)] Z Z Z<|zu9 z04 [.rd (z03 aZ) [],.rd (z03 z04) []] 3 [.rd (z03 aZ) []] [] Z Z Z<|eJoi (R:=z01) (⟨[],[]⟩:z00) 3 Z (Sp.via (Sp.prod (Sp.prod Sp.unit)))<|zbw [] [1001] Z (eC 3 Z Z z9y<|eC 4 Z Z z6o<|eE Z<|eN) (y1 Z)
  ·
   refine Zt<|gSR<|Zq (ld 2 Z Z fH ze3 Z)<|Zc [1001] [] Tryz.func80 Z (zqw _) fun r12 n13=>Zm Z<|Zq (ext Z Z)<|Zq (ext Z Z)<|Eb Z (z6n 1100 z3k (.zr (R:=aZ) (x:=(Vector.replicate 32 0)) zed)) fun v14=>Es (sto 1100 Z Z fH Z z3k)<|Zb Z<|gSR<|Zq (ld 1 Z Z fH z9y Z)<|Zq (ld 1100 Z Z fH z6o Z)<|Zq (ld 2 Z Z fH ze3 Z)<|Zc [] [] Tryz.func81 Z (zsd _ _ _) fun r15 n16=>Zm Z<|Zq (ext Z Z)<|Zq (ext Z Z)<|Eb Z (z6n 1101 zd9 (ZrE.nilS (ZrE.nilS ZrE.nil))) fun v17=>zgr aZ [.rd (z03 aZ) [],.val (.slice none 0 0)] 1101 [] [.val (.slice none 0 0)] Z Z Z<|zgr z04 [.rd (z03 aZ) [],.rd (z03 z04) []] 1101 [.rd (z03 aZ) []] [] Z Z Z<|zio (R:=z01) (⟨[],[]⟩:z00) 1101 Z (Sp.via (Sp.prod (Sp.prod Sp.unit)))<|Es (sto 1101 Z Z fH Z zd9)<|Zb Z<|z0s<|z58<|gSR<|Zm Z<|Zq (zfq Z)<|Zb Z<|gIf Z Z (fun h18=>?_) (fun h18=>?_)
   ·
    refine gKn 37 Z h18<|gSR<|Zq (bldE [(0,1),(1,1)] Tryz.underlying27 zd9 (ZrE.nilS (ZrE.nilS ZrE.nil)) Z (zlu.done Z))<|Zq (bldG (x':=((Vector.replicate 32 0):V3)) tu78 z3k zed ti5 (Bld.done Z))<|Es (stoG 3 Z Z (z0y.cast (z0y.cons z0o (z0y.cons z0o z0y.nil)) Z) Z (z7e.cons z3o (z7e.cons z3o z7e.nil)) (z0y.cast (z0y.cons z0o (z0y.cons z0o z0y.nil)) Z) zd9)<|Es (sto 4 Z Z fH Z z3k)<|Zb Z<|z0l<|z43<|z0v<|zu9 aZ [.rd (z03 aZ) [],.val (.slice none 0 0)] 3 [] [.val (.slice none 0 0)] Z Z Z<|zu9 z04 [.rd (z03 aZ) [],.rd (z03 z04) []] 3 [.rd (z03 aZ) []] [] Z Z Z<|eJoi (R:=z01) (⟨[],[]⟩:z00) 3 Z (Sp.via (Sp.prod (Sp.prod Sp.unit)))<|zbw [] [1001] Z (eC 3 Z Z z9y<|eC 4 Z Z z6o<|eE Z<|eN) (y1 Z)
   ·
    refine gKn 37 Z h18<|gSR<|Zq (faB 2 Z Z Tryz.underlying72 Z (by exact zb8))<|Zq (ld 2 Z Z (fP (z0z _)) zbg Z)<|Zq (mkf mp0 (mp1 Z))<|Zc [1] [(1,1)] Tryz.func82 Z (z62 _ _ _) fun r19 n20=>Zb Z<|gIf Z Z (fun h21=>?_) (fun h21=>?_)
    ·
     refine gKn 44 Z h21<|gSR<|Zq (bldE [(0,1),(1,1)] Tryz.underlying27 zd9 (ZrE.nilS (ZrE.nilS ZrE.nil)) Z (zlu.done Z))<|Zq (bldG (x':=((Vector.replicate 32 0):V3)) tu78 z3k zed ti5 (Bld.done Z))<|Es (stoG 3 Z Z (z0y.cast (z0y.cons z0o (z0y.cons z0o z0y.nil)) Z) Z (z7e.cons z3o (z7e.cons z3o z7e.nil)) (z0y.cast (z0y.cons z0o (z0y.cons z0o z0y.nil)) Z) zd9)<|Es (sto 4 Z Z fH Z z3k)<|Zb Z<|z0l<|z43<|z0v<|zu9 aZ [.rd (z03 aZ) [],.val (.slice none 0 0)] 3 [] [.val (.slice none 0 0)] Z Z Z<|zu9 z04 [.rd (z03 aZ) [],.rd (z03 z04) []] 3 [.rd (z03 aZ) []] [] Z Z Z<|eJoi (R:=z01) (⟨[],[]⟩:z00) 3 Z (Sp.via (Sp.prod (Sp.prod Sp.unit)))<|zbw [] [1001] Z (eC 3 Z Z z9y<|eC 4 Z Z z6o<|eE Z<|eN) (y1 Z)
    ·
     refine gKn 44 Z h21<|gSR<|Zq (faB 1 Z Z Tryz.underlying27 Z (by exact zc8))<|Zq (ld 1 Z Z (fP (z09 _)) zer Z)<|Zq (z42 Z .rd Z tu25)<|Zq (I.eql Z Z)<|Za Z<|z1t 47 Z fun y22=>Zj Z (fun h23=>?_) (fun h23=>?_)
     ·
      refine gSR<|Zq (bldE [(0,1),(1,1)] Tryz.underlying27 zd9 (ZrE.nilS (ZrE.nilS ZrE.nil)) Z (zlu.done Z))<|Zq (bldG (x':=((Vector.replicate 32 0):V3)) tu78 z3k zed ti5 (Bld.done Z))<|Es (stoG 3 Z Z (z0y.cast (z0y.cons z0o (z0y.cons z0o z0y.nil)) Z) Z (z7e.cons z3o (z7e.cons z3o z7e.nil)) (z0y.cast (z0y.cons z0o (z0y.cons z0o z0y.nil)) Z) zd9)<|Es (sto 4 Z Z fH Z z3k)<|Zb Z<|z0l<|z43<|z0v<|zu9 aZ [.rd (z03 aZ) [],.val (.slice none 0 0)] 3 [] [.val (.slice none 0 0)] Z Z Z<|zu9 z04 [.rd (z03 aZ) [],.rd (z03 z04) []] 3 [.rd (z03 aZ) []] [] Z Z Z<|eJoi (R:=z01) (⟨[],[]⟩:z00) 3 Z (Sp.via (Sp.prod (Sp.prod Sp.unit)))<|zbw [] [1001] Z (eC 3 Z Z z9y<|eC 4 Z Z z6o<|eE Z<|eN) (y1 Z)
     ·
      refine z2t<|z30<|z0j<|z0s<|z8j [3,4] mixed Z Z<|hTk 0 Z Z (ld 1101 Z Z fH z9y Z)<|hTk 1 Z Z (ld 1100 Z Z fH z6o Z)<|hPnl aZ [.rd (z03 aZ) [],.val (.slice none 0 0)] 3 [] [.val (.slice none 0 0)] Z Z Z<|hPnl z04 [.rd (z03 aZ) [],.rd (z03 z04) []] 3 [.rd (z03 aZ) []] [] Z Z Z<|hJoi (R:=z01) (⟨[],[]⟩:z00) 3 Z (Sp.via (Sp.prod (Sp.prod Sp.unit)))<|Zp 2 Z Z Z Z Z (sto 3 Z Z fH Z zd9)<|Zp 3 Z Z Z Z Z (sto 4 Z Z fH Z z3k)<|hTk 4 Z Z (asg Z)<|z3u (by kernel_rfl)<|z0j<|z0l<|zbw [] [1001] Z (eC 3 Z Z z9y<|eC 4 Z Z z6o<|eE Z<|eN) (y1 Z)
def z4e (a0:z06):Option (Bool) :=
 if decide (20<(a0.Preds.length:Int)) then
  some true
 else
  if decide (100<(a0.Act.Key.length:Int)) then
   some true
  else
   some (decide (100<(a0.Act.Value.Text.length:Int))) >>= fun y4 =>
   some y4
theorem zbc (a0:z06):z1v Tryz.prog 32 [.rd z04 a0] [] (z4e a0) (fun r nv=>⟨[.rd z0b r],[]⟩):=by
 refine z2o 22 Tryz.func32 Z Z Z fun H w=>?_
 refine gSR<|Eb Z (bx 1 Z) fun v1=>Zb Z<|gSR<|Zq (faB 1 Z Z Tryz.underlying72 Z (by exact zb8))<|Zq (ld 1 Z Z (fP (z0z _)) zbg Z)<|Zq (z42 Z .rd Z tu24)<|Zq (I.gtr Z Z)<|Zm Z<|z1q 7 Z (fun h2=>?_) (fun h2=>?_)
 ·
  refine lKn 6 Z h2<|Zk Z<|Zk Z<|Zk Z<|Zk Z<|Zk Z<|Zq (pkT Z Z)<|Zm Z<|Zk Z<|Zk Z<|Zk Z<|Zk Z<|Zk Z<|Zk Z<|Zq (pkT Z Z)<|Zb Z<|z0l<|Ze [] [] Z
 ·
  refine lKn 6 Z h2<|z1h Zx Z Z (faB 1 Z Z Tryz.underlying72 Z (by exact zfv))<|z1h Zx Z Z (faB 1 Z Z Tryz.underlying64 Z (by exact ti9))<|z1h Zx Z Z (ld 1 Z Z ((fP (z10 _)).part (z1g _)) ty9 Z)<|z1h Zx Z Z (zx9 Z Z tu9)<|z1h Zx Z Z (I.gtr Z Z)<|Zq (pkF Z Z)<|Zm Z<|z1q 14 Z (fun h3=>?_) (fun h3=>?_)
  ·
   refine lKn 12 Z h3<|lKn 13 Z h3<|Zk Z<|Zk Z<|Zk Z<|Zk Z<|Zk Z<|Zk Z<|Zq (pkT Z Z)<|Zb Z<|z0l<|Ze [] [] Z
  ·
   refine lKn 12 Z h3<|lKn 13 Z h3<|z1h Zx Z Z (faB 1 Z Z Tryz.underlying72 Z (by exact zfv))<|z1h Zx Z Z (faB 1 Z Z Tryz.underlying64 Z (by exact zb9))<|z1h Zx Z Z (faB 1 Z Z Tryz.underlying54 Z (by exact ti9))<|z1h Zx Z Z (ld 1 Z Z (((fP (z10 _)).part (z2h _)).part (z2v _)) ty9 Z)<|z1h Zx Z Z (zx9 Z Z tu9)<|z1h Zx Z Z (I.gtr Z Z)<|Zq (pkF Z Z)<|Za Z<|z1t 2 Z fun y4=>Zn<|z0l<|Ze [] [] Z
def z40 (a0:z00) (s3:Int):Option (Sum (Sum Bool Unit) Int) :=
 if decide (s3<(a0.Ops.length:Int)) then
  if decide (s3≤70) then
   idx a0.Ops s3 >>= fun x6 =>
   z4e x6 >>= fun r8 =>
   if r8 then
    some (.inl (.inl true))
   else
    some (.inr (w64 (s3+1)))
  else
   some (.inl (.inr ()))
 else
  some (.inl (.inr ()))
def z8y (a0:z00):Option (Bool) :=
 z73 (iter (z40 a0) 0) fun s2 =>
 if decide (16<(a0.Ops.length:Int)) then
  if decide ((a0.Ops.length:Int)≤60) then
   some true
  else
   if decide (70<(a0.Ops.length:Int)) then
    some true
   else
    some (decide (70<(a0.IDs.length:Int))) >>= fun y14 =>
    some y14
 else
  if decide (70<(a0.Ops.length:Int)) then
   some true
  else
   some (decide (70<(a0.IDs.length:Int))) >>= fun y16 =>
   some y16
theorem zg1 (a0:z00):z1v Tryz.prog 45 [.rd z01 a0] [] (z8y a0) (fun r nv=>⟨[.rd z0b r],[]⟩):=by
 refine z2o 43 Tryz.func45 Z Z Z fun H w=>?_
 refine gSR<|Eb Z (bx 1 Z) fun v1=>Zb Z<|z9a (fun (s2:Unit) aa ww=>Sta (ctx 43 H [] w) [(1,.val (z05 v1 0))] [(1,some (v1,.box 27 [.rd z01 a0]))] aa ww) ?_ (fun s2=>?_)
 ·
  refine gSR<|Zb Z<|z2c (fun (s3:Int) aa ww=>Sta (ctx 43 H [] w) [(1,.val (z05 v1 0)),(3,.rd z0c s3)] [(1,some (v1,.box 27 [.rd z01 a0]))] aa ww) (fun aa ww h=>Zu h [1]) (fun s3=>?_)
  refine z0s<|gSR<|Zm Z<|Zq (faB 1 Z Z Tryz.underlying27 Z (by exact zc8))<|Zq (ld 1 Z Z (fP (z09 _)) zer Z)<|Zq (z42 Z .rd Z tu25)<|Zq (I.lss Z Z)<|Zm Z<|z1q 9 Z (fun h4=>?_) (fun h4=>?_)
  ·
   refine lKn 8 Z h4<|z1h Zx Z Z (mv Z)<|z1h Zx Z Z (I.leq Z Z)<|Zq (pkT Z Z)<|Zj Z (fun h5=>?_) (fun h5=>?_)
   ·
    refine gKn 11 Z h5<|Zt<|z0s<|z58<|gSR<|Zq (faB 1 Z Z Tryz.underlying27 Z (by exact zc8))<|Zq (ld 1 Z Z (fP (z09 _)) zer Z)<|Zm Z<|z0p fun x6 h7=>Zq (ixR Z Z h7 tu25 zam Z)<|Zq (ldR Z ze3)<|Zc [] [] Tryz.func32 Z (zbc _) fun r8 n9=>Zj Z (fun h10=>?_) (fun h10=>?_)
    ·
     refine gSR<|Zb Z<|z0l<|z43<|z0v<|z8g<|z6y<|Ze [] [] Z
    ·
     refine z2t<|z30<|z0j<|z2b<|Zm Z<|Zq (I.add Z Z)<|Za Z<|z1o<|z1n (fun aa ww h=>Zu h [1])
   ·
    refine gKn 11 Z h5<|z1z<|z11<|z13<|z7d (fun aa ww h=>Zu h [1])
  ·
   refine lKn 8 Z h4<|Zk Z<|Zk Z<|Zq (pkF Z Z)<|Zn<|zd4 Z<|z1z<|z11<|z13<|z7d (fun aa ww h=>Zu h [1])
 ·
  refine gSR<|Zq (faB 1 Z Z Tryz.underlying27 Z (by exact zc8))<|Zq (ld 1 Z Z (fP (z09 _)) zer Z)<|Zq (z42 Z .rd Z tu25)<|Zq (I.gtr Z Z)<|Zm Z<|z1q 25 Z (fun h11=>?_) (fun h11=>?_)
  ·
   refine lKn 24 Z h11<|z1h Zx Z Z (faB 1 Z Z Tryz.underlying27 Z (by exact zc8))<|z1h Zx Z Z (ld 1 Z Z (fP (z09 _)) zer Z)<|z1h Zx Z Z (z42 Z .rd Z tu25)<|z1h Zx Z Z (I.leq Z Z)<|Zq (pkT Z Z)<|Zm Z<|z1q 31 Z (fun h12=>?_) (fun h12=>?_)
   ·
    refine lKn 29 Z h12<|lKn 30 Z h12<|Zk Z<|Zk Z<|Zk Z<|Zk Z<|Zq (pkT Z Z)<|Zm Z<|Zk Z<|Zk Z<|Zk Z<|Zk Z<|Zq (pkT Z Z)<|Zb Z<|z0l<|Ze [] [] Z
   ·
    refine lKn 29 Z h12<|lKn 30 Z h12<|z1h Zx Z Z (faB 1 Z Z Tryz.underlying27 Z (by exact zc8))<|z1h Zx Z Z (ld 1 Z Z (fP (z09 _)) zer Z)<|z1h Zx Z Z (z42 Z .rd Z tu25)<|z1h Zx Z Z (I.gtr Z Z)<|Zq (pkF Z Z)<|Zm Z<|z1q 37 Z (fun h13=>?_) (fun h13=>?_)
    ·
     refine lKn 35 Z h13<|lKn 36 Z h13<|Zk Z<|Zk Z<|Zk Z<|Zk Z<|Zq (pkT Z Z)<|Zb Z<|z0l<|Ze [] [] Z
    ·
     refine lKn 35 Z h13<|lKn 36 Z h13<|z1h Zx Z Z (faB 1 Z Z Tryz.underlying27 Z (by exact zb8))<|z1h Zx Z Z (ld 1 Z Z (fP (z0m _)) zbg Z)<|z1h Zx Z Z (z42 Z .rd Z tu24)<|z1h Zx Z Z (I.gtr Z Z)<|Zq (pkF Z Z)<|Za Z<|z1t 2 Z fun y14=>Zn<|z0l<|Ze [] [] Z
  ·
   refine lKn 24 Z h11<|Zk Z<|Zk Z<|Zk Z<|Zk Z<|Zq (pkF Z Z)<|Zm Z<|z1h Zx Z Z (faB 1 Z Z Tryz.underlying27 Z (by exact zc8))<|z1h Zx Z Z (ld 1 Z Z (fP (z09 _)) zer Z)<|z1h Zx Z Z (z42 Z .rd Z tu25)<|z1h Zx Z Z (I.gtr Z Z)<|Zq (pkF Z Z)<|Zm Z<|z1q 37 Z (fun h15=>?_) (fun h15=>?_)
   ·
    refine lKn 35 Z h15<|lKn 36 Z h15<|Zk Z<|Zk Z<|Zk Z<|Zk Z<|Zq (pkT Z Z)<|Zb Z<|z0l<|Ze [] [] Z
   ·
    refine lKn 35 Z h15<|lKn 36 Z h15<|z1h Zx Z Z (faB 1 Z Z Tryz.underlying27 Z (by exact zb8))<|z1h Zx Z Z (ld 1 Z Z (fP (z0m _)) zbg Z)<|z1h Zx Z Z (z42 Z .rd Z tu24)<|z1h Zx Z Z (I.gtr Z Z)<|Zq (pkF Z Z)<|Za Z<|z1t 2 Z fun y16=>Zn<|z0l<|Ze [] [] Z
def z3r (a0:List V3) (s2:(List V3) × Int) (s6:Int):Option (Sum Int Int) :=
 if decide (s6<(s2.1.length:Int)) then
  idx s2.1 s6 >>= fun x8 =>
  idx a0 s2.2 >>= fun x10 =>
  z5w x8 x10 >>= fun r12 =>
  if decide (r12<0) then
   some (.inr (w64 (s6+1)))
  else
   some (.inl s6)
 else
  some (.inl s6)
def z4o (a0:List V3) (s2:(List V3) × Int):Option (Sum ((List V3)) ((List V3) × Int)) :=
 if decide (s2.2<(a0.length:Int)) then
  (iter (z3r a0 s2) 0) >>= fun s5 =>
  (if s5==(s2.1.length:Int) then
   some true
  else
   idx s2.1 s5 >>= fun x17 =>
   idx a0 s2.2 >>= fun x19 =>
   some (!decide (x17=x19))) >>= fun s15 =>
  if s15 then
   cut s2.1 0 s5 >>= fun x22 =>
   idx a0 s2.2 >>= fun x24 =>
   cut s2.1 s5 (s2.1.length:Int) >>= fun x26 =>
   app 32 ([]:List V3) x22 >>= fun x29 =>
   app 32 x29 [x24] >>= fun x33 =>
   app 32 x33 x26 >>= fun x36 =>
   some (w64 (s2.2+1)) >>= fun y39 =>
   some (.inr (x36,y39))
  else
   some (w64 (s2.2+1)) >>= fun y63 =>
   some (.inr (s2.1,y63))
 else
  some (.inl s2.1)
def za8 (a0:List V3):Option ((List V3)) :=
 (iter (z4o a0) ([],0)) >>= fun s1 =>
 some s1
def z8v (a0:z00) (a1:V3):Option ((List V3)) :=
 z5k a0.IDs a1 >>= fun r3 =>
 idx a0.Ops r3 >>= fun x5 =>
 some x5.Preds
def z4h (a0:z00) (s10:(List V3) × (List V3)):Option (Sum ((List V3)) ((List V3) × (List V3))) :=
 if decide (0<(s10.2.length:Int)) then
  idx s10.2 0 >>= fun x13 =>
  cut s10.2 1 (s10.2.length:Int) >>= fun x16 =>
  z5k s10.1 x13 >>= fun r19 =>
  if decide (r19<0) then
   app 32 s10.1 [x13] >>= fun x23 =>
   z8v a0 x13 >>= fun r26 =>
   app 32 x16 r26 >>= fun x28 =>
   some (.inr (x23,x28))
  else
   some (.inr (s10.1,x16))
 else
  some (.inl s10.1)
def z41 (a0:z00) (a1:V3):Option ((List V3)) :=
 z8v a0 a1 >>= fun r4 =>
 app 32 ([]:List V3) r4 >>= fun x6 =>
 (iter (z4h a0) ([],x6)) >>= fun s9 =>
 za8 s9 >>= fun r32 =>
 some r32
end
section
open Go Go.RowKit
set_option maxRecDepth 100000
def za4 (a0:UInt32):Option (Int) :=
 if decide (500000002≤(a0 - 1)) then
  some 2
 else
  some 0
theorem zhk (a0:UInt32):z1v Tryz.prog 105 [.rd z0k a0] [] (za4 a0) (fun r nv=>⟨[.rd z0c r],[]⟩):=by
 refine z2o 6 Tryz.func105 Z Z Z fun H w=>?_
 refine gSR<|Zb Z<|z0s<|gSR<|Zm Z<|Zq (W.sub Z Z)<|Zq (W.geq Z Z)<|Zj Z (fun h1=>?_) (fun h1=>?_)
 ·
  refine gSR<|Zb Z<|z0l<|z0v<|Ze [] [] Z
 ·
  refine Zt<|gSR<|Zb Z<|z0l<|Ze [] [] Z
def z95 (a0:UInt32):Option (UInt32 × Int) :=
 za4 a0 >>= fun r1 =>
 if r1 != 0 then
  some (0,r1)
 else
  za2 a0.toUInt64 >>= fun r4 =>
  some (r4,0)
theorem zft (a0:UInt32):z1v Tryz.prog 76 [.rd z0k a0] [] (z95 a0) (fun r nv=>⟨[.rd z0k r.1,.rd z0c r.2],[]⟩):=by
 refine z2o 13 Tryz.func76 Z Z Z fun H w=>?_
 refine gSR<|Za Z<|Zb Z<|z0s<|gSR<|Zm Z<|Zc [] [] Tryz.func105 Z (zhk _) fun r1 n2=>Zb Z<|gSR<|Zm Z<|Zq (I.neq Z Z)<|Zj Z (fun h3=>?_) (fun h3=>?_)
 ·
  refine gSR<|Zm Z<|Za Z<|Zb Z<|z0l<|z0v<|Ze [] [] Z
 ·
  refine Zt<|gSR<|Zm Z<|Zq (W.toU Z tu65 tu52)<|Zc [] [] Tryz.func106 Z (zdr _) fun r4 n5=>Za Z<|Zb Z<|z0l<|Ze [] [] Z
def zf5 (a0:UInt32) (a1:List UInt8):Option (UInt32 × Int) :=
 za4 a0 >>= fun r1 =>
 if r1 != 0 then
  some (0,r1)
 else
  zbi 110 a1 [a0] >>= fun r5 =>
  if r5.2 != 0 then
   some (0,r5.2)
  else
   some (((r5.1 % 500000002).toUInt32)+1) >>= fun y8 =>
   some (y8,0)
theorem zn5 (a0:UInt32) (a1:List UInt8):z1v Tryz.prog 113 [.rd z0k a0,.rd (z03 u8R) a1] [zG1] (zf5 a0 a1) (fun r nv=>⟨[.rd z0k r.1,.rd z0c r.2],[(1001,some (.bool true,.glob 1 (z2z 64 z0k) z56))]⟩):=by
 refine z2o 28 Tryz.func113 Z Z Z fun H w=>?_
 refine gSR<|Za Z<|Zb Z<|z0s<|gSR<|Zm Z<|Zc [] [] Tryz.func105 Z (zhk _) fun r1 n2=>Zb Z<|gSR<|Zm Z<|Zq (I.neq Z Z)<|Zj Z (fun h3=>?_) (fun h3=>?_)
 ·
  refine gSR<|Zm Z<|Za Z<|Zb Z<|z0l<|z0v<|Ze [] [1001] Z
 ·
  refine Zt<|gSR<|Zm Z<|Zm Z<|Ef Z (lit (R:=z0k) ([a0]:List UInt32) 1 (pP Z Z<|pN) Z tu236 z55 Z Z) fun v4=>ziw 1 [17] Z (fS Z<|fN)<|Zc [1001] [] Tryz.func159 Z (zij _ _ _) fun r5 n6=>Zm Z<|Zq (ext Z Z)<|Zq (ext Z Z)<|Za Z<|Zb Z<|z0s<|gSR<|Zm Z<|Zq (I.neq Z Z)<|Zj Z (fun h7=>?_) (fun h7=>?_)
  ·
   refine gSR<|Zm Z<|Za Z<|Zb Z<|z0l<|z0v<|Ze [] [1001] Z
  ·
   refine Zt<|gSR<|Zm Z<|Zq (U.rem Z Z (by decide))<|Zq (U.toW Z tu52 tu65)<|Zq (W.add Z Z)<|Za Z<|z1t 4 Z fun y8=>Zb Z<|z0l<|Ze [] [1001] Z
def zdc (a0:UInt32) (a1:UInt32):Option (UInt32 × Int) :=
 if decide (500000003≤(max a0 a1)) then
  some (0,2)
 else
  z9o 500000003 [a0,a1] >>= fun r3 =>
  some (r3,0)
theorem zld (a0:UInt32) (a1:UInt32):z1v Tryz.prog 115 [.rd z0k a0,.rd z0k a1] [] (zdc a0 a1) (fun r nv=>⟨[.rd z0k r.1,.rd z0c r.2],[]⟩):=by
 refine z2o 14 Tryz.func115 Z Z Z fun H w=>?_
 refine gSR<|Za Z<|Zb Z<|z0s<|gSR<|Zm Z<|Zm Z<|Zq (W.max Z Z)<|Zq (W.geq Z Z)<|Zj Z (fun h1=>?_) (fun h1=>?_)
 ·
  refine gSR<|Za Z<|Zb Z<|z0l<|z0v<|Ze [] [] Z
 ·
  refine Zt<|gSR<|Zm Z<|Zm Z<|Ef Z (lit (R:=z0k) ([a0,a1]:List UInt32) 1 (pP Z Z<|pP Z Z<|pN) Z tu236 z55 Z Z) fun v2=>ziw 1 [12] Z (fS Z<|fN)<|Zc [] [] Tryz.func160 Z (zc6 _ _) fun r3 n4=>Za Z<|Zb Z<|z0l<|Ze [] [] Z
def zey (a0:UInt32) (a1:UInt32):Option (UInt32 × Int) :=
 if decide (500000003≤(max a0 a1)) then
  some (0,2)
 else
  some ((a0+a1) % 500000003) >>= fun y2 =>
  some (y2,0)
theorem zn6 (a0:UInt32) (a1:UInt32):z1v Tryz.prog 116 [.rd z0k a0,.rd z0k a1] [] (zey a0 a1) (fun r nv=>⟨[.rd z0k r.1,.rd z0c r.2],[]⟩):=by
 refine z2o 14 Tryz.func116 Z Z Z fun H w=>?_
 refine gSR<|Za Z<|Zb Z<|z0s<|gSR<|Zm Z<|Zm Z<|Zq (W.max Z Z)<|Zq (W.geq Z Z)<|Zj Z (fun h1=>?_) (fun h1=>?_)
 ·
  refine gSR<|Za Z<|Zb Z<|z0l<|z0v<|Ze [] [] Z
 ·
  refine Zt<|gSR<|Zm Z<|Zm Z<|Zq (W.add Z Z)<|Zq (W.rem Z Z (by decide))<|Za Z<|z1t 4 Z fun y2=>Zb Z<|z0l<|Ze [] [] Z
def zh0 (a0:UInt32) (a1:List UInt8):Option (z0a × Int) :=
 zf5 a0 a1 >>= fun r2 =>
 if r2.2 != 0 then
  some ((⟨0,0⟩:z0a),r2.2)
 else
  z95 a0 >>= fun r5 =>
  za2 r2.1.toUInt64 >>= fun r7 =>
  z8m r7 r5.1 a1 >>= fun r9 =>
  zdc r9.1 a0 >>= fun r11 =>
  zey r2.1 r11.1 >>= fun r13 =>
  some ((⟨r9.1,r13.1⟩:z0a),0)
theorem zoy (a0:UInt32) (a1:List UInt8):z1v Tryz.prog 78 [.rd z0k a0,.rd (z03 u8R) a1] [zG1] (zh0 a0 a1) (fun r nv=>⟨[.rd z0x r.1,.rd z0c r.2],[(1001,some (.bool true,.glob 1 (z2z 64 z0k) z56))]⟩):=by
 refine z2o 55 Tryz.func78 Z Z Z fun H w=>?_
 refine gSR<|Eb Z (z6n 1 zl1 (.zr (R:=z0x) (x:=(⟨0,0⟩:z0a)) zpb)) fun v1=>Zb Z<|gSR<|Zm Z<|Zm Z<|Zc [1001] [] Tryz.func113 Z (zn5 _ _) fun r2 n3=>Zm Z<|Zq (ext Z Z)<|Zq (ext Z Z)<|Za Z<|Zb Z<|z0s<|gSR<|Zm Z<|Zq (I.neq Z Z)<|Zj Z (fun h4=>?_) (fun h4=>?_)
 ·
  refine gSR<|Zq (bld (x':=(⟨0,0⟩:z0a)) [(0,1),(1,1)] Tryz.underlying70 zl1 Z zpb Z (Bld.done Z))<|Zm Z<|Es (sto 1 Z Z fH Z zl1)<|Zb Z<|z0l<|z0v<|zbw [] [1001] Z (eC 1 Z Z ty70<|eE Z<|eN) (y1 Z)
 ·
  refine Zt<|gSR<|Zm Z<|Zc [] [] Tryz.func76 Z (zft _) fun r5 n6=>Zm Z<|Zq (ext Z Z)<|Zq (ext Z Z)<|Za Z<|Zb Z<|gSR<|Zm Z<|Zq (W.toU Z tu65 tu52)<|Zc [] [] Tryz.func106 Z (zdr _) fun r7 n8=>Zm Z<|Zm Z<|Zc [1001] [] Tryz.func114 Z (zd0 _ _ _) fun r9 n10=>Zm Z<|Zq (ext Z Z)<|Zq (ext Z Z)<|Za Z<|Zb Z<|gSR<|Zm Z<|Zm Z<|Zc [] [] Tryz.func115 Z (zld _ _) fun r11 n12=>Zm Z<|Zq (ext Z Z)<|Zq (ext Z Z)<|Za Z<|Zb Z<|gSR<|Zm Z<|Zm Z<|Zc [] [] Tryz.func116 Z (zn6 _ _) fun r13 n14=>Zm Z<|Zq (ext Z Z)<|Zq (ext Z Z)<|Za Z<|Zb Z<|gSR<|Zm Z<|Zm Z<|Zq (bld (x':=(⟨r9.1,r13.1⟩:z0a)) [(0,1),(1,1)] Tryz.underlying70 zl1 Z zpb Z (Bld.cons (z49 _) Z Z<|Bld.cons (z5p _) Z Z<|Bld.done Z))<|Es (sto 1 Z Z fH Z zl1)<|Zb Z<|z0l<|zbw [] [1001] Z (eC 1 Z Z ty70<|eE Z<|eN) (y1 Z)
def zcr (a0:UInt32) (a1:z06):Option (z06 × Int) :=
 z95 a0 >>= fun r3 =>
 if r3.2 != 0 then
  some ((⟨0,[],0,(⟨0,[],(⟨0,0,0,[]⟩:z02)⟩:z08),(⟨0,0⟩:z0a)⟩:z06),r3.2)
 else
  z12 a1.Preds >>= fun r6 =>
  z8d (⟨({ a1 with Author:=r3.1 }).Author,r6,({ a1 with Author:=r3.1 }).Stamp,({ a1 with Author:=r3.1 }).Act,({ a1 with Author:=r3.1 }).Sig⟩:z06) >>= fun r8 =>
  if r8.2 != 0 then
   some ((⟨0,[],0,(⟨0,[],(⟨0,0,0,[]⟩:z02)⟩:z08),(⟨0,0⟩:z0a)⟩:z06),r8.2)
  else
   zh0 a0 r8.1 >>= fun r11 =>
   some ({ (⟨({ a1 with Author:=r3.1 }).Author,r6,({ a1 with Author:=r3.1 }).Stamp,({ a1 with Author:=r3.1 }).Act,({ a1 with Author:=r3.1 }).Sig⟩:z06) with Sig:=r11.1 },0)
theorem zlp (a0:UInt32) (a1:z06):z1v Tryz.prog 34 [.rd z0k a0,.rd z04 a1] [zG1] (zcr a0 a1) (fun r nv=>⟨[.rd z04 r.1,.rd z0c r.2],[(1001,some (.bool true,.glob 1 (z2z 64 z0k) z56))]⟩):=by
 refine z2o 41 Tryz.func34 Z Z Z fun H w=>?_
 refine gSR<|Eb Z (bx 1 Z) fun v1=>Eb Z (z6n 2 zam (ZrE.rd (R:=z0k) (x:=0) (Zr.num Z) (ZrE.nilS (ZrE.rd (R:=z2n) (x:=0) (Zr.num Z) (ZrE.rd (R:=z0g) (x:=(⟨0,[],(⟨0,0,0,[]⟩:z02)⟩:z08)) zms (ZrE.rd (R:=z0x) (x:=(⟨0,0⟩:z0a)) zpb ZrE.nil Z) Z) Z)) Z)) fun v2=>Zb Z<|gSR<|Zm Z<|Zc [] [] Tryz.func76 Z (zft _) fun r3 n4=>Zm Z<|Zq (ext Z Z)<|Zq (ext Z Z)<|Za Z<|Zb Z<|z0s<|gSR<|Zm Z<|Zq (I.neq Z Z)<|Zj Z (fun h5=>?_) (fun h5=>?_)
 ·
  refine gSR<|Zq (bldE [(0,1),(1,1),(2,1),(3,6),(9,2)] Tryz.underlying72 zam (ZrE.rd (R:=z0k) (x:=0) (Zr.num Z) (ZrE.nilS (ZrE.rd (R:=z2n) (x:=0) (Zr.num Z) (ZrE.rd (R:=z0g) (x:=(⟨0,[],(⟨0,0,0,[]⟩:z02)⟩:z08)) zms (ZrE.rd (R:=z0x) (x:=(⟨0,0⟩:z0a)) zpb ZrE.nil Z) Z) Z)) Z) Z (zlu.done Z))<|Zm Z<|Es (stoG 2 Z Z (z0y.cast (z0y.cons z2j (z0y.cons z0o (z0y.cons z2j (z0y.cons z2j (z0y.cons z2j z0y.nil))))) Z) Z (z7e.cons zcp (z7e.cons z3o (z7e.cons zcp (z7e.cons zcp (z7e.cons zcp z7e.nil))))) (z0y.cast (z0y.cons z2j (z0y.cons z0o (z0y.cons z2j (z0y.cons z2j (z0y.cons z2j z0y.nil))))) Z) zam)<|Zb Z<|z0l<|z0v<|zu9 aZ [.rd z0k 0,.rd (z03 aZ) [],.rd z2n 0,.rd z0g (⟨0,[],(⟨0,0,0,[]⟩:z02)⟩:z08),.rd z0x (⟨0,0⟩:z0a)] 2 [.rd z0k 0] [.rd z2n 0,.rd z0g (⟨0,[],(⟨0,0,0,[]⟩:z02)⟩:z08),.rd z0x (⟨0,0⟩:z0a)] Z Z Z<|eJoi (R:=z04) (⟨0,[],0,(⟨0,[],(⟨0,0,0,[]⟩:z02)⟩:z08),(⟨0,0⟩:z0a)⟩:z06) 2 Z (Sp.via (Sp.prod (Sp.prod (Sp.prod (Sp.prod (Sp.prod Sp.unit))))))<|zbw [] [1001] Z (eC 2 Z Z ze3<|eE Z<|eN) (y1 Z)
 ·
  refine Zt<|gSR<|Zm Z<|Zq (faB 1 Z Z Tryz.underlying72 Z (by exact zb8))<|Zq (ld 1 Z Z (fP (z0z _)) zbg Z)<|Zc [] [(100,3)] Tryz.func55 Z (z36 _) fun r6 n7=>Zq (faB 1 Z Z Tryz.underlying72 Z (by exact z55))<|Es (sto 1 Z Z (fP (z4g _)) Z z55)<|Zq (faB 1 Z Z Tryz.underlying72 Z (by exact zb8))<|lSpl (R:=z04) 1 Z (Sp.via (Sp.prod (Sp.prod (Sp.prod (Sp.prod (Sp.prod Sp.unit))))))<|Es (zxc 1 Z Z (zcm.cast (zcm.next z2j (zcm.here z2j)) Z) Z z3o z0o zb8)<|Zn<|gSR<|lPow [.rd z0k (({ a1 with Author:=r3.1 }).Author),.rd (z03 aZ) r6,.rd z2n (({ a1 with Author:=r3.1 }).Stamp),.rd z0g (({ a1 with Author:=r3.1 }).Act),.rd z0x (({ a1 with Author:=r3.1 }).Sig)] 1 3 [.rd z0k (({ a1 with Author:=r3.1 }).Author)] [.rd z2n (({ a1 with Author:=r3.1 }).Stamp),.rd z0g (({ a1 with Author:=r3.1 }).Act),.rd z0x (({ a1 with Author:=r3.1 }).Sig)] Z Z Z Z Z<|zio (R:=z04) (⟨({ a1 with Author:=r3.1 }).Author,r6,({ a1 with Author:=r3.1 }).Stamp,({ a1 with Author:=r3.1 }).Act,({ a1 with Author:=r3.1 }).Sig⟩:z06) 1 Z (Sp.via (Sp.prod (Sp.prod (Sp.prod (Sp.prod (Sp.prod Sp.unit))))))<|Zq (ld 1 Z Z fH ze3 Z)<|Zc [] [(100,4)] Tryz.func77 Z (zdb _) fun r8 n9=>Zm Z<|Zq (ext Z Z)<|Zq (ext Z Z)<|Za Z<|Zb Z<|z0s<|gSR<|Zm Z<|Zq (I.neq Z Z)<|Zj Z (fun h10=>?_) (fun h10=>?_)
  ·
   refine gSR<|Zq (bldE [(0,1),(1,1),(2,1),(3,6),(9,2)] Tryz.underlying72 zam (ZrE.rd (R:=z0k) (x:=0) (Zr.num Z) (ZrE.nilS (ZrE.rd (R:=z2n) (x:=0) (Zr.num Z) (ZrE.rd (R:=z0g) (x:=(⟨0,[],(⟨0,0,0,[]⟩:z02)⟩:z08)) zms (ZrE.rd (R:=z0x) (x:=(⟨0,0⟩:z0a)) zpb ZrE.nil Z) Z) Z)) Z) Z (zlu.done Z))<|Zm Z<|Es (stoG 2 Z Z (z0y.cast (z0y.cons z2j (z0y.cons z0o (z0y.cons z2j (z0y.cons z2j (z0y.cons z2j z0y.nil))))) Z) Z (z7e.cons zcp (z7e.cons z3o (z7e.cons zcp (z7e.cons zcp (z7e.cons zcp z7e.nil))))) (z0y.cast (z0y.cons z2j (z0y.cons z0o (z0y.cons z2j (z0y.cons z2j (z0y.cons z2j z0y.nil))))) Z) zam)<|Zb Z<|z0l<|z0v<|zu9 aZ [.rd z0k 0,.rd (z03 aZ) [],.rd z2n 0,.rd z0g (⟨0,[],(⟨0,0,0,[]⟩:z02)⟩:z08),.rd z0x (⟨0,0⟩:z0a)] 2 [.rd z0k 0] [.rd z2n 0,.rd z0g (⟨0,[],(⟨0,0,0,[]⟩:z02)⟩:z08),.rd z0x (⟨0,0⟩:z0a)] Z Z Z<|eJoi (R:=z04) (⟨0,[],0,(⟨0,[],(⟨0,0,0,[]⟩:z02)⟩:z08),(⟨0,0⟩:z0a)⟩:z06) 2 Z (Sp.via (Sp.prod (Sp.prod (Sp.prod (Sp.prod (Sp.prod Sp.unit))))))<|zbw [] [1001] Z (eC 2 Z Z ze3<|eE Z<|eN) (y1 Z)
  ·
   refine Zt<|gSR<|Zm Z<|Zm Z<|ziw 4 [27,8,35] Z (fS Z<|fS Z<|fS Z<|fN)<|Zc [1001] [] Tryz.func78 Z (zoy _ _) fun r11 n12=>Zm Z<|Zq (ext Z Z)<|Zq (ext Z Z)<|Zq (faB 1 Z Z Tryz.underlying72 Z (by exact zl1))<|Es (sto 1 Z Z (fP (z38 _)) Z zl1)<|Zn<|gSR<|Zq (ld 1 Z Z fH ze3 Z)<|zgr aZ [.rd z0k 0,.rd (z03 aZ) [],.rd z2n 0,.rd z0g (⟨0,[],(⟨0,0,0,[]⟩:z02)⟩:z08),.rd z0x (⟨0,0⟩:z0a)] 2 [.rd z0k 0] [.rd z2n 0,.rd z0g (⟨0,[],(⟨0,0,0,[]⟩:z02)⟩:z08),.rd z0x (⟨0,0⟩:z0a)] Z Z Z<|zio (R:=z04) (⟨0,[],0,(⟨0,[],(⟨0,0,0,[]⟩:z02)⟩:z08),(⟨0,0⟩:z0a)⟩:z06) 2 Z (Sp.via (Sp.prod (Sp.prod (Sp.prod (Sp.prod (Sp.prod Sp.unit))))))<|Es (sto 2 Z Z fH Z zam)<|Zb Z<|z0l<|zbw [] [1001] Z (eC 2 Z Z ze3<|eE Z<|eN) (y1 Z)
end
section
open Go Go.RowKit
def zhx {α σ:Type} (F:α→σ→Option σ):List α→σ→Option σ
 | [],s=>some s
 | e::L,s=>F e s >>= zhx F L
def z13n {α σ:Type} (F:α→σ→Option σ) (E:σ→σ→Prop):Prop:=∀ (L L':List α) (s r:σ),L.Perm L'→zhx F L s=some r→∃ r',zhx F L' s=some r'∧E r r'
def zr5 {κ:Type} (by_:Nat) (acc:List κ) (l:List κ):Option (List κ):=if l=[] then some acc else app by_ acc l
theorem zs8 {κ:Type} {by_:Nat} {acc l r:List κ}:zr5 by_ acc l=some r↔r=acc++l∧(l=[]∨(acc.length+l.length) * by_≤140737488355328):=by
 unfold zr5 app
 by_cases h:l=[]
 ·
  rw [if_pos h,h,List.append_nil]
  exact ⟨fun e=>⟨(Option.some.inj e).symm,.inl rfl⟩, fun e=>by rw [e.1]⟩
 ·
  rw [if_neg h]
  by_cases h2:(acc.length+l.length) * by_≤140737488355328
  ·
   rw [if_pos h2]
   exact ⟨fun e=>⟨(Option.some.inj e).symm,.inr h2⟩, fun e=>by rw [e.1]⟩
  ·
   rw [if_neg h2]
   exact ⟨fun e=>(by cases e), fun e=>(e.2.elim h h2).elim⟩
def AppF {α κ:Type} (by_:Nat) (F:α→List κ→Option (List κ)):Prop:=∀ e,∃ o:Option (List κ),∀ acc,F e acc=o >>= fun l=>zr5 by_ acc l
theorem AppF.fold {α κ:Type} {by_:Nat} {F:α→List κ→Option (List κ)} {sel:α→Option (List κ)} (h:∀ e acc,F e acc=sel e >>= fun l=>zr5 by_ acc l):∀ (L:List α) (s r:List κ),zhx F L s=some r↔(∀ e∈L,(sel e).isSome)∧r=s++(L.flatMap fun e=>(sel e).getD [])∧(L.flatMap (fun e=>(sel e).getD [])=[]∨r.length * by_≤140737488355328)
 | [],s,r=>by
  simp only [zhx,List.flatMap_nil,List.append_nil]
  exact ⟨fun e=>⟨fun _ h=>absurd h (by simp),(Option.some.inj e).symm,.inl trivial⟩, fun e=>by rw [e.2.1]⟩
 | e::L,s,r=>by
  unfold zhx
  rw [h]
  cases hs:sel e with
  | none=>simp [hs]
  | some l =>
   simp only [Option.bind_eq_bind,Option.bind_some]
   cases ha:zr5 by_ s l with
   | none =>
    simp only [Option.bind_none]
    constructor
    ·
     intro h; cases h
    ·
     rintro ⟨-,h2,h3⟩
     exfalso
     simp only [List.flatMap_cons,hs,Option.getD_some] at h2 h3
     have:zr5 by_ s l=some (s++l):=by
      rw [zs8]
      refine ⟨rfl,?_⟩
      rcases h3 with h3 | h3
      ·
       exact .inl (by simpa using (List.append_eq_nil_iff.1 h3).1)
      ·
       refine .inr (Nat.le_trans (Nat.mul_le_mul_right _ ?_) h3)
       rw [h2]; simp
     rw [this] at ha; cases ha
   | some t =>
    obtain ⟨rfl,hb⟩:=zs8.1 ha
    simp only [Option.bind_some]
    rw [AppF.fold h L (s++l) r]
    simp only [List.flatMap_cons,hs,Option.getD_some,List.mem_cons,forall_eq_or_imp,Option.isSome_some,true_and,List.append_assoc]
    constructor
    ·
     rintro ⟨h1,h2,h3⟩
     refine ⟨h1,h2,?_⟩
     rcases h3 with h3 | h3
     ·
      rcases hb with hb | hb
      ·
       exact .inl (by rw [hb,h3]; rfl)
      ·
       refine .inr ?_
       rw [h2,h3]; simpa using hb
     ·
      exact .inr h3
    ·
     rintro ⟨h1,h2,h3⟩
     refine ⟨h1,h2,?_⟩
     rcases h3 with h3 | h3
     ·
      exact .inl (List.append_eq_nil_iff.1 h3).2
     ·
      exact .inr h3
theorem AppF.comm {α κ:Type} {by_:Nat} {F:α→List κ→Option (List κ)} (hF:AppF by_ F):z13n F List.Perm:=by
 have hF':∃ sel:α→Option (List κ),∀ e acc,F e acc=sel e >>= fun l=>zr5 by_ acc l:=⟨fun e=>Classical.choose (hF e), fun e=>Classical.choose_spec (hF e)⟩
 obtain ⟨sel,h⟩:=hF'
 intro L L' s r hp hr
 obtain ⟨h1,h2,h3⟩:=(AppF.fold h L s r).1 hr
 have hq:(L.flatMap fun e=>(sel e).getD []).Perm (L'.flatMap fun e=>(sel e).getD []):=hp.flatMap_right _
 refine ⟨s++L'.flatMap fun e=>(sel e).getD [],(AppF.fold h L' s _).2 ⟨fun e he=>h1 e (hp.mem_iff.2 he),rfl,?_⟩, by rw [h2]; exact hq.append_left s⟩
 rcases h3 with h3 | h3
 ·
  rw [h3] at hq; exact .inl hq.symm.eq_nil
 ·
  refine .inr ?_
  rw [h2,List.length_append,hq.length_eq] at h3
  rwa [List.length_append]
theorem z12c {κ:Type} {by_:Nat} (x:κ):∃ o:Option (List κ),∀ acc:List κ,(app by_ acc [x] >>= fun z=>some z)=o >>= fun l=>zr5 by_ acc l:=⟨some [x], fun acc=>by
 simp only [Option.bind_eq_bind,Option.bind_some,zr5]
 rw [if_neg (by simp)]
 cases app by_ acc [x] <;> rfl⟩
theorem zxy {κ τ:Type} {by_:Nat} {m:Option τ} {f:τ→List κ→Option (List κ)} (h:∀ r,∃ o:Option (List κ),∀ acc,f r acc=o >>= fun l=>zr5 by_ acc l):∃ o:Option (List κ),∀ acc,(m >>= fun r=>f r acc)=o >>= fun l=>zr5 by_ acc l:=by
 cases m with
 | none=>exact ⟨none, fun _=>rfl⟩
 | some r=>obtain ⟨o,ho⟩:=h r; exact ⟨o, fun acc=>ho acc⟩
theorem z11t {κ:Type} {by_:Nat} {c:Prop} [Decidable c] {f g:List κ→Option (List κ)} (hf:∃ o:Option (List κ),∀ acc,f acc=o >>= fun l=>zr5 by_ acc l) (hg:∃ o:Option (List κ),∀ acc,g acc=o >>= fun l=>zr5 by_ acc l):∃ o:Option (List κ),∀ acc,(if c then f acc else g acc)=o >>= fun l=>zr5 by_ acc l:=by
 by_cases h:c
 ·
  obtain ⟨o,ho⟩:=hf; exact ⟨o, fun acc=>by rw [if_pos h]; exact ho acc⟩
 ·
  obtain ⟨o,ho⟩:=hg; exact ⟨o, fun acc=>by rw [if_neg h]; exact ho acc⟩
theorem gExM {ρ σ τ:Type} {ro:Option Nat} {P:Program} {A:σ→τ→Asn} {E:σ→Prop} {c:Code} {Q:ρ→Exit→Act→World→Prop} {m:Option ρ} (h:∀ s nv,E s→G ro P (A s nv) c Q m):G ro P (fun a w=>∃ s nv,E s∧A s nv a w) c Q m:=fun a w ⟨s,nv,h1,h2⟩=>h s nv h1 a w h2
theorem eExM {ρ σ τ:Type} {A:σ→τ→Asn} {E:σ→Prop} {e:Exit} {Q:ρ→Exit→Act→World→Prop} {m:Option ρ} (h:∀ s nv,E s→GE (A s nv) e Q m):GE (fun a w=>∃ s nv,E s∧A s nv a w) e Q m:=fun a w ⟨s,nv,h1,h2⟩=>h s nv h1 a w h2
theorem z1v.congr {ρ:Type} {P:Program} {f:FuncId} {pin:List Ent} {rin:Res} {m m':Option ρ} {q:ρ→(Nat→Value)→zkr} (e:m=m') (h:z1v P f pin rin m q):z1v P f pin rin m' q:=e ▸ h
section
variable {κ β:Type}
def z3y.mapX (RK:Rep κ) (RV:Rep β) (es:Array MapEntry) (clock:Nat) (m:List (κ × β)):z3y where
 nil _ _ _:=False
 nilm _ h:=h
 nilb h:=h.elim
 rel S w v o:=∃ b,v=.map (some b)∧o=.map es clock∧zhs RK RV S w es.toList m∧ztg es.toList clock
 mono k h:=by obtain ⟨b,h1,h2,h3,h4⟩:=h; exact ⟨b,h1,h2,h3.mono k,h4⟩
def z3y.mit (vm:Value) (since:Nat) (seen:Array Nat) (c0:Nat):z3y where
 nil _ _ _:=False
 nilm _ h:=h
 nilb h:=h.elim
 rel S w v o:=∃ g bm,v=.pointer (some ⟨g,0,none⟩)∧vm=.map (some bm)∧o=.mapIter (some bm) since seen c0
 mono k h:=h
theorem zh7 {RK:Rep κ} {RV:Rep β} {es clock m S w v} (h:(z3y.mapX RK RV es clock m).holds S w v):∃ b,v=.map (some b)∧w.heap[b]? = some (.map es clock)∧zhs RK RV S w es.toList m∧ztg es.toList clock:=by
 rcases h with h | ⟨b,o,h1,h2,b',rfl,rfl,h3,h4⟩
 ·
  exact h.elim
 ·
  simp only [z4m,Option.some.injEq] at h1
  subst h1
  exact ⟨_,rfl,h2,h3,h4⟩
theorem zqq {vm v:Value} {since c0:Nat} {seen:Array Nat} {S:Blk} {w:World} (h:(z3y.mit vm since seen c0).holds S w v):∃ g bm,v=.pointer (some ⟨g,0,none⟩)∧vm=.map (some bm)∧w.heap[g]? = some (.mapIter (some bm) since seen c0):=by
 rcases h with h | ⟨b,o,h1,h2,g,bm,rfl,rfl,rfl⟩
 ·
  exact h.elim
 ·
  simp only [z4m,Option.some.injEq] at h1
  subst h1
  exact ⟨_,_,rfl,rfl,h2⟩
def z7p (es:List MapEntry) (m:List (κ × β)) (seen:Array Nat):List (κ × β):=((es.zip m).filter fun p=>!seen.contains p.1.born).map (·.2)
theorem zsa {RK:Rep κ} {RV:Rep β} {S:Blk} {w:World} {es:List MapEntry} {m:List (κ × β)} (h:zhs RK RV S w es m):z7p es m #[]=m:=by
 have hl:=h.size
 unfold z7p
 rw [List.filter_eq_self.2 (fun p _=>by simp)]
 exact List.map_snd_zip (by omega)
theorem zwg {es:List MapEntry} {m:List (κ × β)} {seen:Array Nat} {b:Nat} (h:∀ e∈es,e.born≠b):z7p es m (seen.push b)=z7p es m seen:=by
 unfold z7p
 congr 1
 apply List.filter_congr
 intro p hp
 have:=h p.1 (List.of_mem_zip hp).1
 simp [this]
theorem zp8 {RK:Rep κ} {RV:Rep β} {S:Blk} {w:World} {seen:Array Nat} {e:MapEntry}:∀ {es:List MapEntry} {m:List (κ × β)},zhs RK RV S w es m→(es.map (·.born)).Nodup→e∈es→seen.contains e.born=false→∃ (i:Nat) (k:κ) (x:β),es[i]? = some e∧m[i]? = some (k,x)∧(z7p es m seen).Perm ((k,x)::z7p es m (seen.push e.born))
 | e0::es,p::m,h,hn,he,hs=>by
  simp only [List.map_cons,List.nodup_cons] at hn
  rcases List.mem_cons.1 he with rfl | he
  ·
   refine ⟨0,p.1,p.2,rfl,rfl,?_⟩
   have hfar:∀ e'∈es,e'.born≠e.born:=fun e' h' h2=>hn.1 (List.mem_map.2 ⟨e',h',h2⟩)
   have hs':e.born∉seen:=by simpa using hs
   have h1:z7p (e::es) (p::m) seen=p::z7p es m seen:=by simp [z7p,hs']
   have h2:z7p (e::es) (p::m) (seen.push e.born)=z7p es m (seen.push e.born):=by simp [z7p]
   rw [h1,h2,zwg hfar]
  ·
   obtain ⟨i,k,x,h1,h2,h3⟩:=zp8 h.2 hn.2 he hs
   refine ⟨i+1,k,x, by simpa using h1, by simpa using h2,?_⟩
   have hne:e0.born≠e.born:=fun hh=>hn.1 (List.mem_map.2 ⟨e,he,hh.symm⟩)
   by_cases h0:seen.contains e0.born=true
   ·
    have g1:z7p (e0::es) (p::m) seen=z7p es m seen:=by simp [z7p] at h0 ⊢; simp [h0]
    have g2:z7p (e0::es) (p::m) (seen.push e.born)=z7p es m (seen.push e.born):=by simp [z7p] at h0 ⊢; simp [h0]
    rw [g1,g2]; exact h3
   ·
    have g1:z7p (e0::es) (p::m) seen=p::z7p es m seen:=by simp [z7p] at h0 ⊢; simp [h0]
    have g2:z7p (e0::es) (p::m) (seen.push e.born)=p::z7p es m (seen.push e.born):=by simp [z7p] at h0 ⊢; simp [h0,hne]
    rw [g1,g2]
    exact (h3.cons p).trans (List.Perm.swap _ _ _)
theorem zs1 {RK:Rep κ} {RV:Rep β} {S:Blk} {w:World} {seen:Array Nat}:∀ {es:List MapEntry} {m:List (κ × β)},zhs RK RV S w es m→(es.filter fun e=>!seen.contains e.born)=[]→z7p es m seen=[]
 | [],[],_,_=>rfl
 | e::es,p::m,h,h0=>by
  rw [List.filter_cons] at h0
  split at h0
  ·
   cases h0
  ·
   rename_i hs
   have:=zs1 h.2 h0
   simp [z7p] at hs this ⊢
   simp [hs]
   exact this
 | [],_::_,h,_=>h.elim
 | _::_,[],h,_=>h.elim
theorem zr4 {RK:Rep κ} {RV:Rep β} {S:Blk} {w:World}:∀ {es:List MapEntry} {m:List (κ × β)} {i:Nat} {e:MapEntry} {k:κ} {x:β},zhs RK RV S w es m→es[i]? = some e→m[i]? = some (k,x)→RK.vrel S w e.key k∧RV.vrel S w e.val x
 | e0::es,p::m,0,e,k,x,h,h1,h2=>by
  simp only [List.getElem?_cons_zero,Option.some.injEq] at h1 h2
  subst h1; subst h2; exact h.1
 | e0::es,p::m,i+1,e,k,x,h,h1,h2=>zr4 h.2 (by simpa using h1) (by simpa using h2)
 | [],_,_,_,_,_,_,h1,_=>by simp at h1
def ItAt (P:Program) (Ci Cm:z3y) (u v:Value) (RK:Rep κ) (RV:Rep β) (k:κ) (x:β):Prop :=
 ∀ S w,Ci.holds S w u→Cm.holds S w v→∃ key val,(∀ w',(∀ b,z4m u=some b→w'.heap[b]? = w.heap[b]?)→(∀ b,z4m v=some b→w'.heap[b]? = w.heap[b]?)→(Instr.entry u).run P w'=.ok (.tuple #[key,val]) w')∧RK.vrel S w key k∧RV.vrel S w val x
theorem itAt {P:Program} {u v:Value} {RK:Rep κ} {RV:Rep β} {es:Array MapEntry} {clock:Nat} {seen:Array Nat} {m:List (κ × β)} {i:Nat} {e:MapEntry} {k:κ} {x:β} (h1:es.toList[i]? = some e) (h2:m[i]? = some (k,x)) :
  ItAt P (.mit v clock (seen.push e.born) clock) (.mapX RK RV es clock m) u v RK RV k x:=fun S w hi hm=>by
 obtain ⟨g,bm,rfl,rfl,g1⟩:=zqq hi
 obtain ⟨b,hb,m1,m2,m3⟩:=zh7 hm
 cases hb
 obtain ⟨k1,k2⟩:=zr4 m2 h1 h2
 refine ⟨e.key,e.val, fun w' q1 q2=>?_,k1,k2⟩
 have g1':w'.heap[g]? = some (.mapIter (some bm) clock (seen.push e.born) clock):=(q1 g rfl).trans g1
 have m1':w'.heap[bm]? = some (.map es clock):=(q2 bm rfl).trans m1
 obtain ⟨hi,he⟩:=List.getElem?_eq_some_iff.1 h1
 have hmem:e∈es.toList:=by rw [← he]; exact List.getElem_mem _
 have hf:es.find? (·.born==e.born)=some e:=by rw [← Array.find?_toList]; exact find_born e es.toList m3.1 hmem
 simp only [Instr.entry,getObj,Sem.run_bind,Sem.run,g1',m1',Result.andThen,Array.back?_push,bne_self_eq_false,Bool.false_eq_true,if_false,hf]
 rfl
end
section
variable {ρ:Type} {P:Program} {Γ:Ctx} {l:z1d} {res:Res} {m:Option ρ} {os rest:List Oper} {N:ρ→Exit→Act→World→Prop}
 {d:Tmp} {ty:TypeId} {pos:String} {after:Array Edge} {g:Option (Nat × Bool)} {ro:Option Nat} {κ β:Type} {RK:Rep κ} {RV:Rep β} {mm:List (κ × β)}
theorem Sta.less {res':Res} {a:Act} {w:World} (ha:Sta Γ l res a w) (h:∀ r y,lr res' r=some y→lr res r=some y):Sta Γ l res' a w:=by
 have hst:z94 (Shr Γ.H res w) (Shr Γ.H res' w) w w:=fun b hb=>⟨⟨hb.1, fun r v c h1=>hb.2.1 r v c (h _ _ h1),hb.2.2⟩,rfl⟩
 exact ⟨ha.size,ha.defers, fun t e ht=>by obtain ⟨u,h1,h2⟩:=ha.slots t e ht; exact ⟨u,h1,e.mono hst h2⟩, fun r v c hr=>(ha.conts r v c (h _ _ hr)).mono hst (fun _ _=>rfl),
  fun r1 v1 c1 r2 v2 c2 h1 h2=>ha.excl r1 v1 c1 r2 v2 c2 (h _ _ h1) (h _ _ h2), fun r v c hr=>ha.own r v c (h _ _ hr),ha.keep,ha.old,ha.hid⟩
theorem z156 {x:Operand} {v:Value} {T K V:TypeId} (ri rm:Nat) (hn:Nat.blt d Γ.n=true) (hx:opE l x=some (.val v)) (hr:lr res rm=some (v,.map RK RV mm)) (hT:P.underlying T=some (.map K V))
  (k:∀ u es clock,GL P os (Sta Γ ((d,.val u)::l) ((ri,some (u,.mit v clock #[] clock))::(rm,some (v,.mapX RK RV es clock mm))::res)) rest N m) :
  GL P os (Sta Γ l res) (⟨some d,.range T x,ty,pos,after,none⟩::rest) N m:=fun a w ha ρ hm=>by
 have h1:=(ha.vl hx).1
 obtain ⟨b,es,clock,rfl,h2,h3,h4⟩:=zmq (ha.conts rm v _ hr)
 have ha2:=ha.recont (c':=.mapX RK RV es clock mm) rm hr (fun _=>.inr ⟨b,_,rfl,h2,b,rfl,rfl,h3,h4⟩)
 have hrun:(execOp a.eval ⟨some d,.range T x,ty,pos,after,none⟩).run P w=.ok (.value (.pointer (some ⟨w.heap.size,0,none⟩))) (w.alloc (.mapIter (some b) clock #[] clock)):=by
  simp [execOp,h1,run_range_map w T K V b es clock hT h2]
 obtain ⟨h5,h6⟩:=ha2.upd ri (c:=.mit (.map (some b)) clock #[] clock) (v:=.pointer (some ⟨w.heap.size,0,none⟩)) (zeb w (.mapIter (some b) clock #[] clock)) (by simp) (fun b hb=>.inr (by simp [z4m] at hb; omega)) (fun S' k'=>.inr ⟨w.heap.size,_,rfl,heap_alloc_new _ _,_,_,rfl,rfl,rfl⟩)
 exact st (zbu rfl) hrun (k _ es clock _ _ (h5.put hn ⟨rfl,rfl⟩) ρ hm)
theorem entM {k:κ} {x0:β} {u v:Value} {Ci Cm:z3y} {x:Operand} (ri rm:Nat) (hx:opE l x=some (.val u)) (h1:lr res ri=some (u,Ci)) (h2:lr res rm=some (v,Cm)) (hI:ItAt P Ci Cm u v RK RV k x0) :
  Run Eq P Γ l res ⟨some d,.entry x,ty,pos,after,g⟩ (.tup [.rd RK k,.rd RV x0]):=fun a w ha=>by
 obtain ⟨key,val,q1,q2,q3⟩:=hI _ _ (ha.conts ri u _ h1) (ha.conts rm v _ h2)
 refine ⟨.tuple #[key,val], fun w' hw=>?_,[key,val],⟨q2,q3,trivial⟩,rfl⟩
 subst hw
 simp [execOp,(ha.vl hx).1,q1 w (fun _ _=>rfl) (fun _ _=>rfl)]
theorem z13m {u v:Value} {x:Operand} {es:Array MapEntry} {clock c0:Nat} {seen:Array Nat} (ri rm:Nat) (hn:Nat.blt d Γ.n=true) (hx:opE l x=some (.val u)) (h1:lr res ri=some (u,.mit v clock seen c0)) (h2:lr res rm=some (v,.mapX RK RV es clock mm)) (hc:clock≤c0)
  (k0:z7p es.toList mm seen=[]→GL P os (Sta Γ ((d,.tup [.rd z0b false])::l) res) rest N m)
  (k1:∀ (i:Nat) (e:MapEntry) (k:κ) (x:β),es.toList[i]? = some e→mm[i]? = some (k,x)→(z7p es.toList mm seen).Perm ((k,x)::z7p es.toList mm (seen.push e.born))→GL P os (Sta Γ ((d,.tup [.rd z0b true,.junk,.junk])::l) ((ri,some (u,.mit v clock (seen.push e.born) clock))::res)) rest N m) :
  GL P os (Sta Γ l res) (⟨some d,.next x false,ty,pos,after,none⟩::rest) N m:=fun a w ha ρ hm=>by
 have hu:=(ha.vl hx).1
 obtain ⟨gb,bm,rfl,rfl,g1⟩:=zqq (ha.conts ri u _ h1)
 obtain ⟨b,hb,m1,m2,m3⟩:=zh7 (ha.conts rm _ _ h2)
 cases hb
 rcases run_next_at (P:=P) w ty gb bm clock c0 seen es clock g1 m1 (fun x hx=>m3.2 x hx) hc with ⟨hz,hrun⟩ | ⟨e,he,w1,hw1,hrun⟩
 ·
  have hnil:(es.toList.filter fun e=>!seen.contains e.born)=[]:=by
   have:(leftOf es seen).toList=[]:=by
    rw [Array.toList_eq_nil_iff]; exact Array.eq_empty_of_size_eq_zero hz
   unfold leftOf at this
   rwa [Array.toList_filter] at this
  have hrun':(execOp a.eval ⟨some d,.next x false,ty,pos,after,none⟩).run P w=.ok (.value (.tuple #[.bool false])) w:=by
   simp [execOp,hu,hrun]
  exact st (zbu rfl) hrun' (k0 (zs1 m2 hnil) _ _ (ha.put hn ⟨[_],⟨⟨_,rfl,rfl⟩,trivial⟩,rfl⟩) ρ hm)
 ·
  have hmem:e∈es.toList∧seen.contains e.born=false:=by
   unfold leftOf at he
   rw [Array.toList_filter,List.mem_filter] at he
   exact ⟨he.1, by simpa using he.2⟩
  obtain ⟨i,k,x0,e1,e2,e3⟩:=zp8 m2 m3.1 hmem.1 hmem.2
  have hlt:gb<w.heap.size:=(Array.getElem?_eq_some_iff.1 g1).1
  have hheap:w1.heap=w.heap:=by rcases hw1 with rfl | rfl <;> rfl
  have hgr:w.grownBy (ChangeMaps.setBlock w1 gb (.mapIter (some bm) clock (seen.push e.born) clock)) (some gb):=by
   refine ⟨?_,?_,?_,?_, fun q hq hne=>?_⟩
   ·
    rcases hw1 with rfl | rfl <;> rfl
   ·
    rcases hw1 with rfl | rfl <;> rfl
   ·
    rcases hw1 with rfl | rfl <;> rfl
   ·
    show w.heap.size≤(w1.heap.setIfInBounds gb _).size
    rw [hheap]; simp
   ·
    have hne:q≠gb:=fun e=>hne (by rw [e])
    show (w1.heap.setIfInBounds gb _)[q]? = w.heap[q]?
    rw [hheap,Array.getElem?_setIfInBounds_ne (fun e=>hne e.symm)]
  obtain ⟨h5,h6⟩:=ha.upd ri (v:=.pointer (some ⟨gb,0,none⟩)) (c:=.mit (.map (some bm)) clock (seen.push e.born) clock) hgr (fun b hb=>⟨_,_,h1, by cases hb; rfl⟩) (fun b hb=>.inl ⟨_,_,h1,hb⟩)
   (fun S' k'=>.inr ⟨gb,.mapIter (some bm) clock (seen.push e.born) clock,rfl, by show (w1.heap.setIfInBounds gb _)[gb]? = _; rw [hheap]; simp [hlt],gb,bm,rfl,rfl,rfl⟩)
  have hrun':(execOp a.eval ⟨some d,.next x false,ty,pos,after,none⟩).run P w=.ok (.value (.tuple #[.bool true,e.key,e.val])) (ChangeMaps.setBlock w1 gb (.mapIter (some bm) clock (seen.push e.born) clock)):=by
   simp [execOp,hu,hrun]
  exact st (zbu rfl) hrun' (k1 i e k x0 e1 e2 e3 _ _ (h5.put hn ⟨[_,_,_],⟨⟨_,rfl,rfl⟩,trivial,trivial,trivial⟩,rfl⟩) ρ hm)
def mcnt:Nat→Option (Sum Unit Nat)
 | 0=>some (.inl ())
 | k+1=>some (.inr k)
theorem zp4:∀ n,iter mcnt n=some ()
 | 0=>by rw [iter]; rfl
 | n+1=>by rw [iter]; exact zp4 n
def z13d {σ:Type} (Γ:Ctx) (L:(Nat→Value)→z1d) (ri rm:Nat) (u v:Value) (RK:Rep κ) (RV:Rep β) (es:Array MapEntry) (clock:Nat) (mm:List (κ × β)) (Rs:σ→(Nat→Value)→Res) (F:κ × β→σ→Option σ) (E:σ→σ→Prop) (r:σ) (k:Nat):Asn:=fun a w =>
 ∃ s seen c0 nv,Sta Γ (L nv) ((ri,some (u,.mit v clock seen c0))::(rm,some (v,.mapX RK RV es clock mm))::Rs s nv) a w∧clock≤c0∧(z7p es.toList mm seen).length=k∧∃ r',zhx F (z7p es.toList mm seen) s=some r'∧E r r'
theorem z13f {σ:Type} {A:Asn} {ib nb id1:Nat} {t tn tm:Tmp} {ty1 ty2:TypeId} {p1 p2:String} {a1 a2:Array Edge} {body:Code} {u v:Value} {es:Array MapEntry} {clock:Nat} {L:(Nat→Value)→z1d} {s0:σ} {nv0:Nat→Value} {F:κ × β→σ→Option σ}
  (ri rm:Nat) (E:σ→σ→Prop) (hEt:∀ a b c,E a b→E b c→E a c) (hE0:∀ a,E a a) (hC:z13n F E) (Rs:σ→(Nat→Value)→Res) (h0:∀ a w,A a w→Sta Γ (L nv0) ((ri,some (u,.mit v clock #[] clock))::(rm,some (v,.mapX RK RV es clock mm))::Rs s0 nv0) a w)
  (ht:∀ nv,lk (L nv) t=some (.val u)) (hn1:Nat.blt tn Γ.n=true) (hn2:Nat.blt tm Γ.n=true) (hL:∀ nv e1 e2,zqp ((tm,e1)::(tn,e2)::L nv) (L nv)) (hri:∀ s nv,lr (Rs s nv) ri=none) (hne:Nat.beq ri rm=false)
  (hbody:∀ (Ci Cm:z3y) (k:κ) (x:β) (s:σ) (nv:Nat→Value),ItAt P Ci Cm u v RK RV k x→G ro P (Sta Γ (L nv) ((ri,some (u,Ci))::(rm,some (v,Cm))::Rs s nv)) (.block nb body) (zzr fun s1 aa ww=>∃ nv',Sta Γ (L nv') ((ri,some (u,Ci))::(rm,some (v,Cm))::Rs s1 nv') aa ww) (F (k,x) s)) :
  G ro P A (.block ib (.loop (.seq (.region id1 #[⟨some tn,.next (.tmp t) false,ty1,p1,a1,none⟩,⟨some tm,.extract (.tmp tn) 0,ty2,p2,a2,none⟩] false) (.seq (.cond (.tmp tm) .skip (.exit ib)) (.block nb body)))))
   (zzr fun r aa ww=>∃ s nv,E r s∧Sta Γ (L nv) ((rm,some (v,.map RK RV mm))::Rs s nv) aa ww) (zhx F mm s0):=fun a w ha r hr=>by
 have hsta:=h0 a w ha
 obtain ⟨bm,hbm,m1,m2,m3⟩:=zh7 (hsta.conts rm v (.mapX RK RV es clock mm) (by
  rw [z18,if_neg (Nat.ne_of_beq_eq_false hne),z18,if_pos rfl]))
 have hleft:z7p es.toList mm #[]=mm:=zsa m2
 have main:G ro P (fun aa ww=>aa=a∧ww=w) (.block ib (.loop (.seq (.region id1 #[⟨some tn,.next (.tmp t) false,ty1,p1,a1,none⟩,⟨some tm,.extract (.tmp tn) 0,ty2,p2,a2,none⟩] false) (.seq (.cond (.tmp tm) .skip (.exit ib)) (.block nb body)))))
   (zzr fun (_:Unit) aa ww=>∃ s nv,E r s∧Sta Γ (L nv) ((rm,some (v,.map RK RV mm))::Rs s nv) aa ww) (iter mcnt mm.length):=by
  refine z2c (z13d Γ L ri rm u v RK RV es clock mm Rs F E r) ?_ fun k=>?_
  ·
   rintro aa ww ⟨rfl,rfl⟩
   exact ⟨s0,#[],clock,nv0,hsta,Nat.le_refl _, by rw [hleft],r, by rw [hleft]; exact hr,hE0 r⟩
  ·
   rintro aa ww ⟨s,seen,c0,nv,hs,hc,hk,r',hf,hE⟩
   have hlr1:∀ (x:Option (Value × z3y)),lr ((ri,x)::(rm,some (v,z3y.mapX RK RV es clock mm))::Rs s nv) rm=some (v,.mapX RK RV es clock mm):=fun x=>by
    rw [z18,if_neg (Nat.ne_of_beq_eq_false hne),z18,if_pos rfl]
   have goal:G ro P (Sta Γ (L nv) ((ri,some (u,.mit v clock seen c0))::(rm,some (v,.mapX RK RV es clock mm))::Rs s nv)) (.seq (.region id1 #[⟨some tn,.next (.tmp t) false,ty1,p1,a1,none⟩,⟨some tm,.extract (.tmp tn) 0,ty2,p2,a2,none⟩] false) (.seq (.cond (.tmp tm) .skip (.exit ib)) (.block nb body)))
     (zm3 ib (z13d Γ L ri rm u v RK RV es clock mm Rs F E r) (zzr fun (_:Unit) aa ww=>∃ s nv,E r s∧Sta Γ (L nv) ((rm,some (v,.map RK RV mm))::Rs s nv) aa ww)) (mcnt k):=by
    refine z0s<|z2b (os:=[⟨some tn,.next (.tmp t) false,ty1,p1,a1,none⟩,⟨some tm,.extract (.tmp tn) 0,ty2,p2,a2,none⟩])<|z13m ri rm hn1 (ht nv) (by rw [z18,if_pos rfl]) (hlr1 _) hc (fun hnil=>?_) (fun i e kk x e1 e2 e3=>?_)
    ·
     rw [hnil] at hk hf
     have hk:k=0:=hk.symm
     subst hk
     have hf:s=r':=Option.some.inj hf
     subst hf
     refine R hn2 (ext (es:=[.rd z0b false]) (by show lk _ _=_; rw [z20,if_pos rfl]) rfl)<|z1o<|z0j<|z0s<|zd4 (by show lk _ _=_; rw [z20,if_pos rfl])<|z1z<|z11<|z13<|z3c fun aa ww h=>⟨s,nv,hE,?_⟩
     have h':Sta Γ (L nv) ((ri,some (u,.mit v clock seen c0))::(rm,some (v,.mapX RK RV es clock mm))::Rs s nv) aa ww:=⟨h.size,h.defers, fun t' e' ht'=>h.slots t' e' ((hL _ _ _).get ht'),h.conts,h.excl,h.own,h.keep,h.old,h.hid⟩
     refine (h'.recont (c':=.map RK RV mm) rm (hlr1 _) (fun hh=>?_)).less fun q y hq=>?_
     ·
      obtain ⟨b,rfl,q1,q2,q3⟩:=zh7 hh
      exact zjh q1 q2 q3
     ·
      rw [z18] at hq ⊢
      by_cases e:rm=q
      ·
       rw [if_pos e] at hq ⊢; exact hq
      ·
       rw [if_neg e] at hq ⊢
       rw [z18]
       by_cases e2:ri=q
       ·
        subst e2; rw [hri] at hq; cases hq
       ·
        rw [if_neg e2,z18,if_neg e]; exact hq
    ·
     obtain ⟨r2,hr2,hE2⟩:=hC _ _ s r' e3 hf
     have hlen:=e3.length_eq
     rw [List.length_cons,hk] at hlen
     subst hlen
     unfold zhx at hr2
     cases hF:F (kk,x) s with
     | none=>rw [hF] at hr2; cases hr2
     | some s1 =>
      rw [hF] at hr2
      have hr2:zhx F (z7p es.toList mm (seen.push e.born)) s1=some r2:=hr2
      refine R hn2 (ext (es:=[.rd z0b true,.junk,.junk]) (by show lk _ _=_; rw [z20,if_pos rfl]) rfl)<|z1o<|z0j<|z0s<|zd5 (by show lk _ _=_; rw [z20,if_pos rfl])<|z2t<|z0j ?_
      intro aa ww h ρ hρ
      have h':Sta Γ (L nv) ((ri,some (u,.mit v clock (seen.push e.born) clock))::(rm,some (v,.mapX RK RV es clock mm))::Rs s nv) aa ww:=by
       refine Sta.less (res:=(ri,some (u,.mit v clock (seen.push e.born) clock))::(ri,some (u,.mit v clock seen c0))::(rm,some (v,.mapX RK RV es clock mm))::Rs s nv) ⟨h.size,h.defers, fun t' e' ht'=>h.slots t' e' ((hL _ _ _).get ht'),h.conts,h.excl,h.own,h.keep,h.old,h.hid⟩ fun q y hq=>?_
       rw [z18] at hq ⊢
       by_cases e:ri=q
       ·
        rw [if_pos e] at hq ⊢; exact hq
       ·
        rw [if_neg e] at hq ⊢
        rw [z18,if_neg e]; exact hq
      have hb:=hbody (.mit v clock (seen.push e.born) clock) (.mapX RK RV es clock mm) kk x s nv (itAt e1 e2) aa ww h' s1 hF
      have hρ:Sum.inr (z7p es.toList mm (seen.push e.born)).length=ρ:=Option.some.inj hρ
      subst hρ
      refine zjj (fun ex a3 w3 hq=>?_) hb
      obtain ⟨rfl,nv',hq⟩:=hq
      exact ⟨rfl,s1,seen.push e.born,clock,nv',hq,Nat.le_refl _,rfl,r2,hr2,hEt _ _ _ hE hE2⟩
   exact goal aa ww hs
 exact main a w ⟨rfl,rfl⟩ () (zp4 _)
end
end
section
open Go Go.Shelf
def zt9:Go.Shelf.Ren:=⟨fun | 190=>63 | 125=>96 | 258=>95 | 128=>137 | 129=>138 | 302=>128 | 303=>129 | 304=>130 | 305=>131 | 306=>132 | 307=>133 | 308=>134 | 309=>135 | 310=>136 | 333=>175 | 329=>176 | 330=>177 | 334=>178 | 335=>179 | 336=>180 | 344=>210 | n=>n, fun | 31=>47 | 9=>9 | 3=>3 | 46=>149 | 0=>0 | 51=>65 | 53=>52 | 4=>4 | 183=>179 | 182=>178 | 131=>139 | 5=>5 | 218=>216 | 222=>220 | 228=>247 | 229=>248 | n=>n, fun | n=>n⟩
theorem zzx:Go.Proofs.Lays.n190 Tryz.prog zt9:={
 mixed:=by kernel_rfl
 f125:=Tryz.func96.trans (congrArg some (by kernel_rfl))
 f128:=Tryz.func137.trans (congrArg some (by kernel_rfl))
 f129:=Tryz.func138.trans (congrArg some (by kernel_rfl))
 f190:=Tryz.func63.trans (congrArg some (by kernel_rfl))
 f258:=Tryz.func95.trans (congrArg some (by kernel_rfl))
 f302:=Tryz.func128.trans (congrArg some (by kernel_rfl))
 f303:=Tryz.func129.trans (congrArg some (by kernel_rfl))
 f304:=Tryz.func130.trans (congrArg some (by kernel_rfl))
 f305:=Tryz.func131.trans (congrArg some (by kernel_rfl))
 f306:=Tryz.func132.trans (congrArg some (by kernel_rfl))
 f307:=Tryz.func133.trans (congrArg some (by kernel_rfl))
 f308:=Tryz.func134.trans (congrArg some (by kernel_rfl))
 f309:=Tryz.func135.trans (congrArg some (by kernel_rfl))
 f310:=Tryz.func136.trans (congrArg some (by kernel_rfl))
 f329:=Tryz.func176.trans (congrArg some (by kernel_rfl))
 f330:=Tryz.func177.trans (congrArg some (by kernel_rfl))
 f333:=Tryz.func175.trans (congrArg some (by kernel_rfl))
 f334:=Tryz.func178.trans (congrArg some (by kernel_rfl))
 f335:=Tryz.func179.trans (congrArg some (by kernel_rfl))
 f336:=Tryz.func180.trans (congrArg some (by kernel_rfl))
 f344:=Tryz.func210.trans (congrArg some (by kernel_rfl))
 t0:=Tryz.underlying0
 a0:=Tryz.isAgg0
 z0:=Tryz.sizeOf0
 v0:=Tryz.zeroValue0
 t3:=Tryz.underlying3
 a3:=Tryz.isAgg3
 z3:=Tryz.sizeOf3
 v3:=Tryz.zeroValue3
 t4:=Tryz.underlying4
 a4:=Tryz.isAgg4
 z4:=Tryz.sizeOf4
 v4:=Tryz.zeroValue4
 t5:=Tryz.underlying5
 a5:=Tryz.isAgg5
 z5:=Tryz.sizeOf5
 v5:=Tryz.zeroValue5
 t9:=Tryz.underlying9
 a9:=Tryz.isAgg9
 z9:=Tryz.sizeOf9
 v9:=Tryz.zeroValue9
 t31:=Tryz.underlying47
 a31:=Tryz.isAgg47
 z31:=Tryz.sizeOf47
 v31:=Tryz.zeroValue47
 t46:=Tryz.underlying149
 a46:=Tryz.isAgg149
 z46:=Tryz.sizeOf149
 v46:=Tryz.zeroValue149
 t51:=Tryz.underlying65
 a51:=Tryz.isAgg65
 z51:=Tryz.sizeOf65
 v51:=Tryz.zeroValue65
 t53:=Tryz.underlying52
 a53:=Tryz.isAgg52
 z53:=Tryz.sizeOf52
 v53:=Tryz.zeroValue52
 t131:=Tryz.underlying139
 a131:=Tryz.isAgg139
 z131:=Tryz.sizeOf139
 v131:=Tryz.zeroValue139
 t182:=Tryz.underlying178
 a182:=Tryz.isAgg178
 z182:=Tryz.sizeOf178
 v182:=Tryz.zeroValue178
 t183:=Tryz.underlying179
 a183:=Tryz.isAgg179
 z183:=Tryz.sizeOf179
 v183:=Tryz.zeroValue179
 t218:=Tryz.underlying216
 a218:=Tryz.isAgg216
 z218:=Tryz.sizeOf216
 v218:=Tryz.zeroValue216
 t222:=Tryz.underlying220
 a222:=Tryz.isAgg220
 z222:=Tryz.sizeOf220
 v222:=Tryz.zeroValue220
 t228:=Tryz.underlying247
 a228:=Tryz.isAgg247
 z228:=Tryz.sizeOf247
 v228:=Tryz.zeroValue247
 t229:=Tryz.underlying248
 a229:=Tryz.isAgg248
 z229:=Tryz.sizeOf248
 v229:=Tryz.zeroValue248 }
end
section
open Go Go.RowKit Go.Sort
theorem zo7 {S:Blk} {w:World}:∀ {l:List (List UInt8)} {cs:List Value},z5d z4s S w cs l→cs=l.map encStr
 | [],cs,h=>h
 | x::l,cs,h=>by
  obtain ⟨c,d,rfl,⟨s,rfl,rfl⟩,h2⟩:=h
  rw [List.map_cons,zo7 h2]; rfl
theorem zoa {S:Blk} {w:World}:∀ (l:List (List UInt8)),z5d z4s S w (l.map encStr) l
 | []=>rfl
 | x::l=>⟨[encStr x],l.map encStr,rfl,⟨⟨x.toArray⟩,rfl,rfl⟩,zoa l⟩
theorem zt5 {w:World} {b:Nat} {C:Array Value} {T:TypeId} (l:List (List UInt8)) (hb:w.heap[b]? = some (.cells C T (0,0))) (hc:C.toList.take l.length=l.map encStr):Holds encStr w b 0 l.toArray:=by
 intro j hj
 have hj':j<l.length:=by simpa using hj
 constructor
 ·
  refine z10z hb ?_
  have e:(C.toList.take l.length)[j]? = (l.map encStr)[j]? := by rw [hc]
  rw [List.getElem?_take_of_lt hj',List.getElem?_map,List.getElem?_eq_getElem hj'] at e
  rw [← Array.getElem?_toList,e,getElem!_pos _ j hj]
  simp
 ·
  simp [World.frozen?,hb]
theorem zxv (l:List (List UInt8)) (C:Array Value) (hC:l.length≤C.size):(putCells encStr 0 l.toArray C).toList.take l.length=l.map encStr:=by
 apply List.ext_getElem?
 intro t
 by_cases ht:t<l.length
 ·
  rw [List.getElem?_take_of_lt ht,Array.getElem?_toList,List.getElem?_map,List.getElem?_eq_getElem ht]
  simp only [putCells,Array.getElem?_mapIdx,Nat.sub_zero,Nat.zero_add,List.size_toArray,Nat.zero_le,true_and]
  rw [Array.getElem?_eq_getElem (by omega),Option.map_some,if_pos ht,getElem!_pos _ t (by simpa using ht)]
  simp
 ·
  rw [List.getElem?_eq_none (by simp; omega),List.getElem?_eq_none (by simpa using ht)]
def zpa (l:List (List UInt8)):List (List UInt8):=l.mergeSort fun x y=>decide (x≤y)
theorem zhn (l:List (List UInt8)):(zpa l).length=l.length:=List.length_mergeSort l
theorem zmb (l:List (List UInt8)) (x:List UInt8):x∈zpa l↔x∈l:=List.mem_mergeSort
theorem zk0 (l:List (List UInt8)):(zpa l).Perm l:=List.mergeSort_perm l _
theorem zdn (l:List (List UInt8)):(zpa l).Pairwise (· ≤ ·):=by
 have h:=List.pairwise_mergeSort (le:=fun x y:List UInt8=>decide (x≤y)) (fun a b c h1 h2=>by
  simp only [decide_eq_true_eq] at *; exact List.le_trans h1 h2) (fun a b=>by simp only [Bool.or_eq_true,decide_eq_true_eq]; exact List.le_total a b) l
 exact h.imp fun {a b} hab=>by simpa using hab
theorem zsu {l l':List (List UInt8)} (h:l.Perm l'):zpa l=zpa l' :=
 (((zk0 l).trans h).trans (zk0 l').symm).eq_of_pairwise (le:=(· ≤ ·)) (fun a b _ _ h1 h2=>List.le_antisymm h1 h2) (zdn l) (zdn l')
def zlc (l:List (List UInt8)):Option (List (List UInt8)):=chk (l.length≤1000000) >>= fun _=>some (zpa l)
theorem zsi {l l':List (List UInt8)} (h:l.Perm l'):zlc l=zlc l':=by unfold zlc; rw [h.length_eq,zsu h]
set_option maxHeartbeats 1000000 in
theorem ztx {P:Program} {f T:Nat}
  (hnone:∀ (cap:Nat) (w:World),Calls P f #[.slice none 0 cap] w fun e w'=>e=.returned (.tuple #[])∧w'=w)
  (hsome:∀ (blk cap:Nat) (d:List (List UInt8)) (w:World),Holds encStr w blk 0 d.toArray→blk<w.heap.size→d.length<4611686018427387904 →
   Calls P f #[.slice (some ⟨blk,0,none⟩) d.length cap] w fun e w'=>e=.returned (.tuple #[])∧∃ n os,w'=grow (putRow encStr (Sort.ahead w n) blk 0 (zpa d).toArray) os)
  (p0:Value) (c0:List (List UInt8)):z1v P f [.val p0] [(1,some (p0,.list z4s T c0))] (zlc c0) (fun r nv=>⟨[],[(1,some (p0,.list z4s T r))]⟩):=by
 intro r hr H vs w hvs hres
 have hb:c0.length≤1000000∧r=zpa c0:=by
  unfold zlc chk at hr
  split at hr
  ·
   rename_i h; simp at hr; exact ⟨h,hr.symm⟩
  ·
   simp at hr
 obtain ⟨hlen0,rfl⟩:=hb
 match vs,hvs with
 | [v0],hvs =>
 obtain ⟨h0,_⟩:=hvs
 have e0:v0=p0:=h0.1
 subst e0
 have hc:=hres.conts 1 v0 _ rfl
 have only:∀ r v c (q:z3y),lr [(1,some (v0,q))] r=some (v,c)→r=1∧v=v0∧c=q:=fun r v c q h=>by
  rw [z18] at h
  split at h
  ·
   rename_i e; cases h; exact ⟨e.symm,rfl,rfl⟩
  ·
   simp [lr,lk] at h
 rcases hc with ⟨rfl,rfl⟩ | ⟨b,o,k1,k2,b',cap,C,k3,rfl,k4,k5,k6,k7⟩
 ·
  refine (hnone 0 w).mono fun e w' ⟨he,hw⟩=>?_
  subst hw
  refine ⟨fun _=>undef,[],he,trivial, fun r v c h=>?_, fun r v c r' v' c' h h' hne=>?_, fun r v c h b hb=>?_,zja.rfl'⟩
  ·
   obtain ⟨rfl,rfl,rfl⟩:=only _ _ _ _ h
   exact .inl ⟨rfl,List.eq_nil_of_length_eq_zero (by rw [zhn]; rfl)⟩
  ·
   exact absurd ((only _ _ _ _ h).1.trans (only _ _ _ _ h').1.symm) hne
  ·
   obtain ⟨rfl,rfl,rfl⟩:=only _ _ _ _ h; cases hb
 ·
  subst k3
  simp only [z4m,Option.some.injEq] at k1
  subst k1
  have hlt:b'<w.heap.size:=(Array.getElem?_eq_some_iff.1 k2).1
  have hrow:=zo7 k7
  have hsz:z4s.sz=1:=rfl
  rw [hsz,Nat.mul_one] at k6 hrow
  refine (hsome b' cap c0 w (zt5 c0 k2 hrow) hlt (by omega)).mono fun e w' ⟨he,n,os,hw⟩=>?_
  subst hw
  refine ⟨fun _=>undef,[],he,trivial, fun r v c h=>?_, fun r v c r' v' c' h h' hne=>?_, fun r v c h b hb=>?_,rfl,rfl,rfl,?_, fun i hi=>?_⟩
  ·
   obtain ⟨rfl,rfl,rfl⟩:=only _ _ _ _ h
   refine .inr ⟨b',.cells (putCells encStr 0 (zpa c0).toArray C) T (0,0),rfl,?_,b',cap,_, by rw [zhn],rfl, by rw [zhn]; exact k4,k5,?_,?_⟩
   ·
    show (w.heap.modify b' _++os)[b']? = _
    rw [Array.getElem?_append_left (by simpa using hlt),Array.getElem?_modify,if_pos rfl,k2]
    rfl
   ·
    rw [hsz,Nat.mul_one,← k6]; simp [putCells]
   ·
    rw [hsz,Nat.mul_one,zxv (zpa c0) C (by rw [zhn]; omega)]
    exact zoa _
  ·
   exact absurd ((only _ _ _ _ h).1.trans (only _ _ _ _ h').1.symm) hne
  ·
   obtain ⟨rfl,rfl,rfl⟩:=only _ _ _ _ h
   exact .inr ⟨1,_,_,rfl,hb⟩
  ·
   show w.heap.size≤(w.heap.modify b' _++os).size
   simp
  ·
   show (w.heap.modify b' _++os)[i]? = _
   rw [Array.getElem?_append_left (by simpa using hi.1),Array.getElem?_modify,if_neg (fun e=>hi.2 ⟨1,_,_,rfl, by rw [← e]; rfl⟩)]
theorem zrm (p0:Value) (c0:List (List UInt8)):z1v Tryz.prog 63 [.val p0] [(1,some (p0,.list z4s 9 c0))] (zlc c0) (fun r nv=>⟨[],[(1,some (p0,.list z4s 9 r))]⟩) :=
 ztx (fun cap w=>Any.slices_Sort_string_none zzx none cap w) (fun blk cap d w hH hb hs=>Any.slices_Sort_string zzx blk 0 cap d w hH hb hs) p0 c0
end
section
open Go Go.RowKit
set_option maxRecDepth 100000
def z3z (a0:List z00) (s2:Int):Option (Sum (Sum Bool Unit) Int) :=
 if decide (s2<(a0.length:Int)) then
  if decide (s2≤10) then
   idx a0 s2 >>= fun x5 =>
   z8y x5 >>= fun r7 =>
   if r7 then
    some (.inl (.inl true))
   else
    some (.inr (w64 (s2+1)))
  else
   some (.inl (.inr ()))
 else
  some (.inl (.inr ()))
def z8x (a0:List z00):Option (Bool) :=
 z73 (iter (z3z a0) 0) fun s1 =>
 some (decide (10<(a0.length:Int))) >>= fun y10 =>
 some y10
theorem zgh (a0:List z00):z1v Tryz.prog 9 [.rd (z03 z01) a0] [] (z8x a0) (fun r nv=>⟨[.rd z0b r],[]⟩):=by
 refine z2o 22 Tryz.func9 Z Z Z fun H w=>?_
 refine gSR<|Zb Z<|z9a (fun (s1:Unit) aa ww=>Sta (ctx 22 H [] w) [(0,.rd (z03 z01) a0)] [] aa ww) ?_ (fun s1=>?_)
 ·
  refine gSR<|Zb Z<|z2c (fun (s2:Int) aa ww=>Sta (ctx 22 H [] w) [(0,.rd (z03 z01) a0),(3,.rd z0c s2)] [] aa ww) (fun aa ww h=>Zu h []) (fun s2=>?_)
  refine z0s<|gSR<|Zm Z<|Zm Z<|Zq (z42 Z .rd Z tu22)<|Zq (I.lss Z Z)<|Zm Z<|z1q 8 Z (fun h3=>?_) (fun h3=>?_)
  ·
   refine lKn 7 Z h3<|z1h Zx Z Z (mv Z)<|z1h Zx Z Z (I.leq Z Z)<|Zq (pkT Z Z)<|Zj Z (fun h4=>?_) (fun h4=>?_)
   ·
    refine gKn 10 Z h4<|Zt<|z0s<|z58<|gSR<|Zm Z<|Zm Z<|z0p fun x5 h6=>Zq (ixR Z Z h6 tu22 zd9 Z)<|Zq (ldR Z z9y)<|Zc [] [] Tryz.func45 Z (zg1 _) fun r7 n8=>Zj Z (fun h9=>?_) (fun h9=>?_)
    ·
     refine gSR<|Zb Z<|z0l<|z43<|z0v<|z8g<|z6y<|Ze [] [] Z
    ·
     refine z2t<|z30<|z0j<|z2b<|Zm Z<|Zq (I.add Z Z)<|Za Z<|z1o<|z1n (fun aa ww h=>Zu h [])
   ·
    refine gKn 10 Z h4<|z1z<|z11<|z13<|z7d (fun aa ww h=>Zu h [])
  ·
   refine lKn 7 Z h3<|Zk Z<|Zk Z<|Zq (pkF Z Z)<|Zn<|zd4 Z<|z1z<|z11<|z13<|z7d (fun aa ww h=>Zu h [])
 ·
  refine gSR<|Zm Z<|Zq (z42 Z .rd Z tu22)<|Zq (I.gtr Z Z)<|Za Z<|z1t 2 Z fun y10=>Zn<|z0l<|Ze [] [] Z
def z76 (a0:z00) (s7:(List ((List UInt8) × Bool)) × Int):Option (Sum ((List ((List UInt8) × Bool))) ((List ((List UInt8) × Bool)) × Int)) :=
 if decide (s7.2<(a0.Ops.length:Int)) then
  idx a0.Ops s7.2 >>= fun x9 =>
  if x9.Act.Kind != 1 then
   some (.inr (zl0 s7.1 x9.Act.Key true,w64 (s7.2+1)))
  else
   some (.inr (s7.1,w64 (s7.2+1)))
 else
  some (.inl s7.1)
def z72 (k18:List UInt8) (x19:Bool) (s16:(List (List UInt8))):Option ((List (List UInt8))) :=
 app 16 s16 [k18] >>= fun x28 =>
 some x28
def z6s (a0:z00):Option ((List (List UInt8)) × Int) :=
 z48 a0 >>= fun r2 =>
 if r2 != 0 then
  some ([],r2)
 else
  (iter (z76 a0) (([]:List ((List UInt8) × Bool)),0)) >>= fun s6 =>
  (zhx (fun e s=>z72 e.1 e.2 s) s6 []) >>= fun r23 =>
  zlc r23 >>= fun r31 =>
  some (r31,0)
theorem zak (a0:z00):z1v Tryz.prog 23 [.rd z01 a0] [zG1] (z6s a0) (fun r nv=>⟨[.val (nv 0),.rd z0c r.2],[(1001,some (.bool true,.glob 1 (z2z 64 z0k) z56)),(100,some (nv 0,.list z4s 9 r.1))]⟩):=by
 refine z2o 45 Tryz.func23 Z Z Z fun H w=>?_
 refine gSR<|Eb Z (bx 1 Z) fun v1=>Za Z<|Zb Z<|z0s<|gSR<|Zq (ld 1 Z Z fH z9y Z)<|Zc [1001] [] Tryz.func60 Z (zab _) fun r2 n3=>Zb Z<|gSR<|Zm Z<|Zq (I.neq Z Z)<|Zj Z (fun h4=>?_) (fun h4=>?_)
 ·
  refine gSR<|Zm Z<|Za Z<|Zb Z<|z0l<|z0v<|znu z4s 9 2<|Ze [(.slice none 0 0)] [1001,2] Z
 ·
  refine Zt<|gSR<|Ef Z (mkm z4s z0b 3 (Or.inl Z) Tryz.underlying108) fun v5=>Zb Z<|z7l (fun (s6:(List ((List UInt8) × Bool))) aa ww=>Sta (ctx 45 H [zG1] w) [(5,.val v5)] [(3,some (v5,.map z4s z0b s6)),zG1] aa ww) ?_ (fun s6=>?_)
  ·
   refine gSR<|Zq (faB 1 Z Z Tryz.underlying27 Z (by exact zc8))<|Zq (ld 1 Z Z (fP (z09 _)) zer Z)<|Zq (z42 Z .rd Z tu25)<|Zm Z<|Zn<|z2c (fun (s7:(List ((List UInt8) × Bool)) × Int) aa ww=>Sta (ctx 45 H [zG1] w) [(5,.val v5),(17,.rd (z03 z04) a0.Ops),(18,.rd z0c (a0.Ops.length:Int)),(19,.rd z0c s7.2)] [(3,some (v5,.map z4s z0b s7.1)),zG1] aa ww) (fun aa ww h=>Zu h [3,1001]) (fun s7=>?_)
   refine gSR<|Zq (I.lss Z Z)<|Zn<|z0s<|gIf Z Z (fun h8=>?_) (fun h8=>?_)
   ·
    refine Zt<|z0s<|z58<|gSR<|z0p fun x9 h10=>Zq (ixR Z Z h10 tu25 zam Z)<|Zq (ldR Z ze3)<|Eb Z (z6n 1100 zam (ZrE.rd (R:=z0k) (x:=0) (Zr.num Z) (ZrE.nilS (ZrE.rd (R:=z2n) (x:=0) (Zr.num Z) (ZrE.rd (R:=z0g) (x:=(⟨0,[],(⟨0,0,0,[]⟩:z02)⟩:z08)) zms (ZrE.rd (R:=z0x) (x:=(⟨0,0⟩:z0a)) zpb ZrE.nil Z) Z) Z)) Z)) fun v11=>zgr aZ [.rd z0k 0,.rd (z03 aZ) [],.rd z2n 0,.rd z0g (⟨0,[],(⟨0,0,0,[]⟩:z02)⟩:z08),.rd z0x (⟨0,0⟩:z0a)] 1100 [.rd z0k 0] [.rd z2n 0,.rd z0g (⟨0,[],(⟨0,0,0,[]⟩:z02)⟩:z08),.rd z0x (⟨0,0⟩:z0a)] Z Z Z<|zio (R:=z04) (⟨0,[],0,(⟨0,[],(⟨0,0,0,[]⟩:z02)⟩:z08),(⟨0,0⟩:z0a)⟩:z06) 1100 Z (Sp.via (Sp.prod (Sp.prod (Sp.prod (Sp.prod (Sp.prod Sp.unit))))))<|Es (sto 1100 Z Z fH Z zam)<|Zn<|gSR<|Zq (faB 1100 Z Z Tryz.underlying72 Z (by exact zfv))<|Zq (faB 1100 Z Z Tryz.underlying64 Z (by exact ti5))<|Zq (ld 1100 Z Z ((fP (z10 _)).part (z17 _)) ty5 Z)<|Zq (B.neq Z Z)<|Zj Z (fun h12=>?_) (fun h12=>?_)
    ·
     refine z2b<|Zm Z<|Zq (faB 1100 Z Z Tryz.underlying72 Z (by exact zfv))<|Zq (faB 1100 Z Z Tryz.underlying64 Z (by exact ti9))<|Zq (ld 1100 Z Z ((fP (z10 _)).part (z1g _)) ty9 Z)<|Es (mup 3 Z Z Z Z (zlb.str tu9) Tryz.underlying108)<|z1o<|z30<|z0j<|z2b<|Zq (I.add Z Z)<|Zm Z<|z1o<|z1n (fun aa ww h=>Zu h [3,1001])
    ·
     refine z2t<|z30<|z0j<|z2b<|Zq (I.add Z Z)<|Zm Z<|z1o<|z1n (fun aa ww h=>Zu h [3,1001])
   ·
    refine z1z<|z11<|z13<|z3c (fun aa ww h=>Zu h [3,1001])
  ·
   refine gSR<|Zb Z<|z0s<|gSR<|Zm Z<|z156 1101 3 Z Z Z Tryz.underlying108 fun u13 es14 ck15=>Zn<|zzi z4s 9 1104<|z15e (z13f (L:=fun (n17:Nat→Value)=>[(8,.val (n17 0)),(33,.val u13)]) (nv0:=nvl [(.slice none 0 0)]) 1101 3 List.Perm (fun _ _ _ h k=>h.trans k) (fun _=>.refl _) (AppF.comm (by_:=16) ?_) (fun (s16:(List (List UInt8))) (n17:Nat→Value)=>[(1103,some ((n17 0),.list z4s 9 s16)),zG1]) (fun aa ww h=>Zu h [1101,3,1104,1001]) (fun _=>rfl) Z Z (fun _ _ _=>(sS Z<|sS Z<|sN)) (fun _ _=>rfl) Z (fun Ci21 Cm22 k18 x19 s16 n17 hI20=>?_)) (fun r23=>eExM fun xp24 n26 hp25=>?_)
   ·
    intro e; unfold z72; repeat first | exact ⟨some [], fun _=>rfl⟩ | exact z12c _ | refine zxy fun _=>?_ | refine z11t ?_ ?_
   ·
    refine z58<|gSR<|Zq (entM 1101 3 Z Z Z hI20)<|Zq (ext Z Z)<|Zb Z<|z2b<|Zm Z<|Zm Z<|Ef Z (lit (R:=z4s) ([k18]:List (List UInt8)) 1105 (pP Z Z<|pN) Z tu47 ti9 Z Z) fun v27=>z0p fun x28 h29=>Ef Z (apn 1103 Z Z Z (.own 1105 Z) h29 tu47 ti9 Z Z Z) fun v30=>Za Z<|z1o<|z30<|z3c (fun aa ww h=>⟨nvl [v30],Zu h [1101,3,1103,1001]⟩)
   ·
    refine z0j<|gSR<|Zm Z<|call [1103] [(1,1103)] Z Tryz.func63 Z Z (z1v.congr (zsi (hp25).symm) (zrm _ _)) (Y1 Z) (y1 Z) fun r31 n32=>Zn<|gSR<|Zm Z<|Za Z<|Zb Z<|z0l<|Ze [(n26 0)] [1001,1103] Z
def z6e (a0:List (List UInt8)) (a1:List UInt8) (s2:Int):Option (Sum Int Int) :=
 if decide (s2<(a0.length:Int)) then
  idx a0 s2 >>= fun x4 =>
  if z12t x4 a1 then
   some (.inr (w64 (s2+1)))
  else
   some (.inl s2)
 else
  some (.inl s2)
def zcl (a0:List (List UInt8)) (a1:List UInt8):Option ((List (List UInt8))) :=
 (iter (z6e a0 a1) 0) >>= fun s1 =>
 z73 (if decide (s1<(a0.length:Int)) then
  idx a0 s1 >>= fun x9 =>
  if x9==a1 then
   some (.inl a0)
  else
   some (.inr ())
 else
  some (.inr ())) fun s7 =>
 cut a0 0 s1 >>= fun x12 =>
 app 16 ([]:List (List UInt8)) x12 >>= fun x14 =>
 app 16 x14 [a1] >>= fun x16 =>
 cut a0 s1 (a0.length:Int) >>= fun x18 =>
 app 16 x16 x18 >>= fun x20 =>
 some x20
def z5o (a0:z00) (s3:(List (List UInt8)) × Int):Option (Sum ((List (List UInt8))) ((List (List UInt8)) × Int)) :=
 if decide (s3.2<(a0.Ops.length:Int)) then
  idx a0.Ops s3.2 >>= fun x5 =>
  if x5.Act.Kind != 1 then
   idx a0.Ops s3.2 >>= fun x8 =>
   zcl s3.1 x8.Act.Key >>= fun r10 =>
   some (w64 (s3.2+1)) >>= fun y12 =>
   some (.inr (r10,y12))
  else
   some (w64 (s3.2+1)) >>= fun y13 =>
   some (.inr (s3.1,y13))
 else
  some (.inl s3.1)
def zbv (a0:z00):Option ((List (List UInt8))) :=
 (iter (z5o a0) ([],0)) >>= fun s2 =>
 some s2
def z6b (r16:(List V3) × Int) (s19:(List (V3 × Bool)) × Int):Option (Sum (Sum (Sum (Sum (z07 × Int) ((List (V3 × Bool)))) ((List (V3 × Bool)) × Int)) ((List (V3 × Bool)))) ((List (V3 × Bool)) × Int)) :=
 if decide (s19.2<(r16.1.length:Int)) then
  idx r16.1 s19.2 >>= fun x21 =>
  some (.inr (zl0 s19.1 x21 true,w64 (s19.2+1)))
 else
  some (.inl (.inr s19.1))
def z6c (a0:z00) (a1:List UInt8) (s6:(List (V3 × Bool)) × Int):Option (Sum (Sum (z07 × Int) ((List (V3 × Bool)))) ((List (V3 × Bool)) × Int)) :=
 if decide (s6.2<(a0.Ops.length:Int)) then
  z73 (idx a0.Ops s6.2 >>= fun x9 =>
  if x9.Act.Key != a1 then
   some (.inr s6.1)
  else
   if x9.Act.Kind != 3 then
    some (.inr s6.1)
   else
    idx a0.IDs s6.2 >>= fun x14 =>
    z7i a0 x14 >>= fun r16 =>
    if r16.2 != 0 then
     some (.inl (.inl (.inl ((⟨false,(⟨0,0,0,[]⟩:z02)⟩:z07),r16.2))))
    else
     iter (z6b r16) (s6.1,0)) fun s8 =>
  some (.inr (s8,w64 (s6.2+1)))
 else
  some (.inl (.inr s6.1))
def z87 (a0:z00) (a1:List UInt8) (s5:(List (V3 × Bool))) (s25:z07 × Int × Int):Option (Sum z07 (z07 × Int × Int)) :=
 if decide (s25.2.2<(a0.Ops.length:Int)) then
  idx a0.Ops s25.2.2 >>= fun x27 =>
  some (x27.Act.Key != a1) >>= fun y30 =>
  if y30 then
   some (.inr (s25.1,s25.2.1,w64 (s25.2.2+1)))
  else
   (if x27.Act.Kind==2 then
    idx a0.IDs s25.2.2 >>= fun x34 =>
    some (!((zdh s5 x34).getD false)) >>= fun y36 =>
    some y36
   else
    some false) >>= fun s32 =>
   if s32 then
    some (.inr ({ s25.1 with in_:=true },s25.2.1,w64 (s25.2.2+1)))
   else
    (if x27.Act.Kind==4 then
     if decide (s25.2.1<0) then
      some true
     else
      idx a0.Ops s25.2.1 >>= fun x41 =>
      if decide (x41.Stamp<x27.Stamp) then
       some true
      else
       idx a0.Ops s25.2.1 >>= fun x44 =>
       if x27.Stamp==x44.Stamp then
        idx a0.IDs s25.2.2 >>= fun x47 =>
        idx a0.IDs s25.2.1 >>= fun x49 =>
        z7b x47 x49 >>= fun r51 =>
        some (decide (0<r51)) >>= fun y53 =>
        some y53
       else
        some false
    else
     some false) >>= fun s38 =>
    if s38 then
     some (.inr ({ s25.1 with v:=x27.Act.Value },s25.2.2,w64 (s25.2.2+1)))
    else
     some (.inr (s25.1,s25.2.1,w64 (s25.2.2+1)))
 else
  some (.inl s25.1)
def z2l (a0:z00) (a1:List UInt8):Option (z07 × Int) :=
 z73 (iter (z6c a0 a1) (([]:List (V3 × Bool)),0)) fun s5 =>
 (iter (z87 a0 a1 s5) ((⟨false,(⟨0,0,0,[]⟩:z02)⟩:z07),(-1),0)) >>= fun s24 =>
 some (s24,0)
theorem z9z (a0:z00) (a1:List UInt8):z1v Tryz.prog 65 [.rd z01 a0,.rd z4s a1] [zG1] (z2l a0 a1) (fun r nv=>⟨[.rd z0f r.1,.rd z0c r.2],[(1001,some (.bool true,.glob 1 (z2z 64 z0k) z56))]⟩):=by
 refine z2o 143 Tryz.func65 Z Z Z fun H w=>?_
 refine gSR<|Eb Z (bx 1 Z) fun v1=>Eb Z (z6n 2 zj3 (.zr (R:=z0f) (x:=(⟨false,(⟨0,0,0,[]⟩:z02)⟩:z07)) zt4)) fun v2=>Zb Z<|gSR<|Eb Z (z6n 3 zj3 (.zr (R:=z0f) (x:=(⟨false,(⟨0,0,0,[]⟩:z02)⟩:z07)) zt4)) fun v3=>Zn<|gSR<|Ef Z (mkm aZ z0b 4 (Or.inl Z) Tryz.underlying150) fun v4=>Zb Z<|z9a (fun (s5:(List (V3 × Bool))) aa ww=>Sta (ctx 143 H [zG1] w) [(1,.rd z4s a1),(2,.val (z05 v1 0)),(4,.val (z05 v2 0)),(6,.val (z05 v3 0)),(7,.val v4)] [(1,some (v1,.box 27 [.rd z01 a0])),(2,some (v2,.box 112 [.rd z0f (⟨false,(⟨0,0,0,[]⟩:z02)⟩:z07)])),(3,some (v3,.box 112 [.rd z0f (⟨false,(⟨0,0,0,[]⟩:z02)⟩:z07)])),(4,some (v4,.map aZ z0b s5)),zG1] aa ww) ?_ (fun s5=>?_)
 ·
  refine gSR<|Zq (faB 1 Z Z Tryz.underlying27 Z (by exact zc8))<|Zq (ld 1 Z Z (fP (z09 _)) zer Z)<|Zq (z42 Z .rd Z tu25)<|Zm Z<|Zn<|z2c (fun (s6:(List (V3 × Bool)) × Int) aa ww=>Sta (ctx 143 H [zG1] w) [(1,.rd z4s a1),(2,.val (z05 v1 0)),(4,.val (z05 v2 0)),(6,.val (z05 v3 0)),(7,.val v4),(19,.rd (z03 z04) a0.Ops),(20,.rd z0c (a0.Ops.length:Int)),(21,.rd z0c s6.2)] [(1,some (v1,.box 27 [.rd z01 a0])),(2,some (v2,.box 112 [.rd z0f (⟨false,(⟨0,0,0,[]⟩:z02)⟩:z07)])),(3,some (v3,.box 112 [.rd z0f (⟨false,(⟨0,0,0,[]⟩:z02)⟩:z07)])),(4,some (v4,.map aZ z0b s6.1)),zG1] aa ww) (fun aa ww h=>Zu h [1,2,3,4,1001]) (fun s6=>?_)
  refine gSR<|Zq (I.lss Z Z)<|Zn<|z0s<|gIf Z Z (fun h7=>?_) (fun h7=>?_)
  ·
   refine Zt<|z9a (fun (s8:(List (V3 × Bool))) aa ww=>Sta (ctx 143 H [zG1] w) [(1,.rd z4s a1),(2,.val (z05 v1 0)),(4,.val (z05 v2 0)),(6,.val (z05 v3 0)),(7,.val v4),(19,.rd (z03 z04) a0.Ops),(20,.rd z0c (a0.Ops.length:Int)),(21,.rd z0c s6.2)] [(1,some (v1,.box 27 [.rd z01 a0])),(2,some (v2,.box 112 [.rd z0f (⟨false,(⟨0,0,0,[]⟩:z02)⟩:z07)])),(3,some (v3,.box 112 [.rd z0f (⟨false,(⟨0,0,0,[]⟩:z02)⟩:z07)])),(4,some (v4,.map aZ z0b s8)),zG1] aa ww) ?_ (fun s8=>?_)
   ·
    refine z58<|gSR<|Zm Z<|z0p fun x9 h10=>Zq (ixR Z Z h10 tu25 zam Z)<|Zq (ldR Z ze3)<|Eb Z (z6n 1100 zam (ZrE.rd (R:=z0k) (x:=0) (Zr.num Z) (ZrE.nilS (ZrE.rd (R:=z2n) (x:=0) (Zr.num Z) (ZrE.rd (R:=z0g) (x:=(⟨0,[],(⟨0,0,0,[]⟩:z02)⟩:z08)) zms (ZrE.rd (R:=z0x) (x:=(⟨0,0⟩:z0a)) zpb ZrE.nil Z) Z) Z)) Z)) fun v11=>Za Z<|zgr aZ [.rd z0k 0,.rd (z03 aZ) [],.rd z2n 0,.rd z0g (⟨0,[],(⟨0,0,0,[]⟩:z02)⟩:z08),.rd z0x (⟨0,0⟩:z0a)] 1100 [.rd z0k 0] [.rd z2n 0,.rd z0g (⟨0,[],(⟨0,0,0,[]⟩:z02)⟩:z08),.rd z0x (⟨0,0⟩:z0a)] Z Z Z<|zio (R:=z04) (⟨0,[],0,(⟨0,[],(⟨0,0,0,[]⟩:z02)⟩:z08),(⟨0,0⟩:z0a)⟩:z06) 1100 Z (Sp.via (Sp.prod (Sp.prod (Sp.prod (Sp.prod (Sp.prod Sp.unit))))))<|Es (sto 1100 Z Z fH Z zam)<|Zn<|z0s<|gSR<|Zq (faB 1100 Z Z Tryz.underlying72 Z (by exact zfv))<|Zq (faB 1100 Z Z Tryz.underlying64 Z (by exact ti9))<|Zq (ld 1100 Z Z ((fP (z10 _)).part (z1g _)) ty9 Z)<|Zm Z<|Zq (neS Z Z)<|Zm Z<|z1q 31 Z (fun h12=>?_) (fun h12=>?_)
    ·
     refine lKn 30 Z h12<|Zk Z<|Zk Z<|Zk Z<|Zk Z<|Zq (pkT Z Z)<|Zn<|zd5 Z<|z1z<|z11<|z108<|z7d (fun aa ww h=>Zu h [1,2,3,4,1001])
    ·
     refine lKn 30 Z h12<|z1h Zx Z Z (faB 1100 Z Z Tryz.underlying72 Z (by exact zfv))<|z1h Zx Z Z (faB 1100 Z Z Tryz.underlying64 Z (by exact ti5))<|z1h Zx Z Z (ld 1100 Z Z ((fP (z10 _)).part (z17 _)) ty5 Z)<|z1h Zx Z Z (B.neq Z Z)<|Zq (pkF Z Z)<|Zj Z (fun h13=>?_) (fun h13=>?_)
     ·
      refine gKn 35 Z h13<|z1z<|z11<|z108<|z7d (fun aa ww h=>Zu h [1,2,3,4,1001])
     ·
      refine gKn 35 Z h13<|Zt<|z0s<|z8j [1001,1119] mixed Z Z<|hTk 0 Z Z (ld 1 Z Z fH z9y Z)<|hTk 1 Z Z (faB 1 Z Z Tryz.underlying27 Z (by exact zb8))<|hTk 2 Z Z (ld 1 Z Z (fP (z0m _)) zbg Z)<|hTk 3 Z Z (mv Z)<|z65 fun x14 h15=>hTk 4 Z Z (ixR Z Z h15 tu24 z3k Z)<|hTk 5 Z Z (ldR Z z6o)<|z3n 6 [1001] [(100,1119)] Z (by kernel_rfl) Z (gd0 Z) Z Tryz.func97 Z Z (zei _ _) (Y2 Z Z) (y1 Z) Z (fun _ _=>(zz7 (flC z35 (flC z34 fl0)))) fun r16 n17=>hTk 7 Z Z (mv Z)<|hTk 8 Z Z (ext Z Z)<|hTk 9 Z Z (ext Z Z)<|Zf 10 Z Z z35 (asg Z)<|hTk 11 Z Z (asg Z)<|z3u (by kernel_rfl)<|z0j<|z0s<|gSR<|Zm Z<|Zq (I.neq Z Z)<|Zj Z (fun h18=>?_) (fun h18=>?_)
      ·
       refine gSR<|Zq (bld (x':=(⟨false,(⟨0,0,0,[]⟩:z02)⟩:z07)) [(0,1),(1,4)] Tryz.underlying112 zj3 Z zt4 Z (Bld.done Z))<|Zm Z<|Es (sto 2 Z Z fH Z zj3)<|Zb Z<|z0l<|z0v<|z43<|z6y<|z8g<|z6y<|zbw [] [1001] Z (eC 2 Z Z zwc<|eE Z<|eN) (y1 Z)
      ·
       refine Zt<|gSR<|Zm Z<|Zq (z42 Z (.own 1119 Z) Z tu24)<|Zm Z<|Zn<|z2c (fun (s19:(List (V3 × Bool)) × Int) aa ww=>Sta (ctx 143 H [zG1] w) [(1,.rd z4s a1),(2,.val (z05 v1 0)),(4,.val (z05 v2 0)),(6,.val (z05 v3 0)),(7,.val v4),(19,.rd (z03 z04) a0.Ops),(20,.rd z0c (a0.Ops.length:Int)),(21,.rd z0c s6.2),(51,.val (n17 0)),(52,.rd z0c (r16.1.length:Int)),(53,.rd z0c s19.2)] [(1,some (v1,.box 27 [.rd z01 a0])),(2,some (v2,.box 112 [.rd z0f (⟨false,(⟨0,0,0,[]⟩:z02)⟩:z07)])),(3,some (v3,.box 112 [.rd z0f (⟨false,(⟨0,0,0,[]⟩:z02)⟩:z07)])),(4,some (v4,.map aZ z0b s19.1)),(1119,some ((n17 0),.list aZ 78 r16.1)),zG1] aa ww) (fun aa ww h=>Zu h [1,2,3,4,1119,1001]) (fun s19=>?_)
       refine gSR<|Zq (I.lss Z Z)<|Zn<|z0s<|gIf Z Z (fun h20=>?_) (fun h20=>?_)
       ·
        refine Zt<|z0s<|z58<|gSR<|z0p fun x21 h22=>Zq (ixO 1119 Z Z Z h22 tu24 z3k)<|Zq (ld 1119 Z Z (Foc.el h22) z6o Z)<|Eb Z (z6n 1140 z3k (.zr (R:=aZ) (x:=(Vector.replicate 32 0)) zed)) fun v23=>Es (sto 1140 Z Z fH Z z3k)<|Zn<|z2b<|Zm Z<|Zq (ld 1140 Z Z fH z6o Z)<|Es (mup 4 Z Z Z Z ky78 Tryz.underlying150)<|z1o<|z30<|z0j<|z2b<|Zq (I.add Z Z)<|Zm Z<|z1o<|z1n (fun aa ww h=>Zu h [1,2,3,4,1119,1001])
       ·
        refine z1z<|z11<|z13<|z30<|z7d (fun aa ww h=>Zu h [1,2,3,4,1001])
   ·
    refine z2b<|Zq (I.add Z Z)<|Zm Z<|z1o<|z1n (fun aa ww h=>Zu h [1,2,3,4,1001])
  ·
   refine z1z<|z11<|z13<|z7d (fun aa ww h=>Zu h [1,2,3,4,1001])
 ·
  refine gSR<|Zb Z<|z7l (fun (s24:z07) aa ww=>Sta (ctx 143 H [zG1] w) [(4,.val (z05 v2 0)),(6,.val (z05 v3 0))] [(2,some (v2,.box 112 [.rd z0f (⟨false,(⟨0,0,0,[]⟩:z02)⟩:z07)])),(3,some (v3,.box 112 [.rd z0f s24])),zG1] aa ww) ?_ (fun s24=>?_)
  ·
   refine gSR<|Zq (faB 1 Z Z Tryz.underlying27 Z (by exact zc8))<|Zq (ld 1 Z Z (fP (z09 _)) zer Z)<|Zq (z42 Z .rd Z tu25)<|Zm Z<|Zn<|z2c (fun (s25:z07 × Int × Int) aa ww=>Sta (ctx 143 H [zG1] w) [(1,.rd z4s a1),(2,.val (z05 v1 0)),(4,.val (z05 v2 0)),(6,.val (z05 v3 0)),(7,.val v4),(14,.rd z0c s25.2.1),(62,.rd (z03 z04) a0.Ops),(63,.rd z0c (a0.Ops.length:Int)),(64,.rd z0c s25.2.2)] [(1,some (v1,.box 27 [.rd z01 a0])),(2,some (v2,.box 112 [.rd z0f (⟨false,(⟨0,0,0,[]⟩:z02)⟩:z07)])),(3,some (v3,.box 112 [.rd z0f s25.1])),(4,some (v4,.map aZ z0b s5)),zG1] aa ww) (fun aa ww h=>Zu h [1,2,3,4,1001]) (fun s25=>?_)
   refine gSR<|Zq (I.lss Z Z)<|Zn<|z0s<|gIf Z Z (fun h26=>?_) (fun h26=>?_)
   ·
    refine Zt<|z0s<|z58<|gSR<|Zm Z<|z0p fun x27 h28=>Zq (ixR Z Z h28 tu25 zam Z)<|Zq (ldR Z ze3)<|Eb Z (z6n 1141 zam (ZrE.rd (R:=z0k) (x:=0) (Zr.num Z) (ZrE.nilS (ZrE.rd (R:=z2n) (x:=0) (Zr.num Z) (ZrE.rd (R:=z0g) (x:=(⟨0,[],(⟨0,0,0,[]⟩:z02)⟩:z08)) zms (ZrE.rd (R:=z0x) (x:=(⟨0,0⟩:z0a)) zpb ZrE.nil Z) Z) Z)) Z)) fun v29=>Za Z<|zgr aZ [.rd z0k 0,.rd (z03 aZ) [],.rd z2n 0,.rd z0g (⟨0,[],(⟨0,0,0,[]⟩:z02)⟩:z08),.rd z0x (⟨0,0⟩:z0a)] 1141 [.rd z0k 0] [.rd z2n 0,.rd z0g (⟨0,[],(⟨0,0,0,[]⟩:z02)⟩:z08),.rd z0x (⟨0,0⟩:z0a)] Z Z Z<|zio (R:=z04) (⟨0,[],0,(⟨0,[],(⟨0,0,0,[]⟩:z02)⟩:z08),(⟨0,0⟩:z0a)⟩:z06) 1141 Z (Sp.via (Sp.prod (Sp.prod (Sp.prod (Sp.prod (Sp.prod Sp.unit))))))<|Es (sto 1141 Z Z fH Z zam)<|Zn<|z58<|gSR<|Zq (faB 1141 Z Z Tryz.underlying72 Z (by exact zfv))<|Zq (faB 1141 Z Z Tryz.underlying64 Z (by exact ti9))<|Zq (ld 1141 Z Z ((fP (z10 _)).part (z1g _)) ty9 Z)<|Zm Z<|Zq (neS Z Z)<|Za Z<|z1t 69 Z fun y30=>Zj Z (fun h31=>?_) (fun h31=>?_)
    ·
     refine z2t<|z30<|z30<|z0j<|z2b<|Zq (I.add Z Z)<|Zm Z<|z1o<|z1n (fun aa ww h=>Zu h [1,2,3,4,1001])
    ·
     refine z7l (fun (s32:Bool) aa ww=>Sta (ctx 143 H [zG1] w) [(1,.rd z4s a1),(2,.val (z05 v1 0)),(4,.val (z05 v2 0)),(6,.val (z05 v3 0)),(7,.val v4),(14,.rd z0c s25.2.1),(15,.rd z0c s25.2.2),(16,.val (z05 v29 0)),(62,.rd (z03 z04) a0.Ops),(63,.rd z0c (a0.Ops.length:Int)),(64,.rd z0c s25.2.2),(75,.rd z0b s32)] [(1,some (v1,.box 27 [.rd z01 a0])),(2,some (v2,.box 112 [.rd z0f (⟨false,(⟨0,0,0,[]⟩:z02)⟩:z07)])),(3,some (v3,.box 112 [.rd z0f s25.1])),(4,some (v4,.map aZ z0b s5)),(1141,some (v29,.box 72 [.rd z04 x27])),zG1] aa ww) ?_ (fun s32=>?_)
     ·
      refine z2b<|Zq (faB 1141 Z Z Tryz.underlying72 Z (by exact zfv))<|Zq (faB 1141 Z Z Tryz.underlying64 Z (by exact ti5))<|Zq (ld 1141 Z Z ((fP (z10 _)).part (z17 _)) ty5 Z)<|Zq (B.eql Z Z)<|Zm Z<|z1q 80 Z (fun h33=>?_) (fun h33=>?_)
      ·
       refine lKn 79 Z h33<|z1h Zx Z Z (mv Z)<|z1h Zx Z Z (faB 1 Z Z Tryz.underlying27 Z (by exact zb8))<|z1h Zx Z Z (ld 1 Z Z (fP (z0m _)) zbg Z)<|z1h Zx Z Z (mv Z)<|z0p fun x34 h35=>z1h Zx Z Z (ixR Z Z h35 tu24 z3k Z)<|z1h Zx Z Z (ldR Z z6o)<|z1h Zx Z Z (mlk Z (.own 4 Z Z) Z ky78 Tryz.underlying150 ti4 Zr.bool Z)<|z1h Zx Z Z (zfq Z)<|Zq (pkT Z Z)<|Za Z<|z1t 75 Z fun y36=>z1o<|z3c (fun aa ww h=>Zu h [1,2,3,4,1141,1001])
      ·
       refine lKn 79 Z h33<|Zk Z<|Zk Z<|Zk Z<|Zk Z<|Zk Z<|Zk Z<|Zk Z<|Zk Z<|Zq (pkF Z Z)<|Za Z<|z1o<|z3c (fun aa ww h=>Zu h [1,2,3,4,1141,1001])
     ·
      refine gIf Z Z (fun h37=>?_) (fun h37=>?_)
      ·
       refine z2b<|Zq (faB 3 Z Z Tryz.underlying112 Z (by exact ti4))<|Es (sto 3 Z Z (fP (z9x _)) Z ti4)<|z1o<|z30<|z30<|z0j<|z2b<|Zq (I.add Z Z)<|Zm Z<|z1o<|z1n (fun aa ww h=>Zu h [1,2,3,4,1001])
      ·
       refine z7l (fun (s38:Bool) aa ww=>Sta (ctx 143 H [zG1] w) [(1,.rd z4s a1),(2,.val (z05 v1 0)),(4,.val (z05 v2 0)),(6,.val (z05 v3 0)),(7,.val v4),(14,.rd z0c s25.2.1),(15,.rd z0c s25.2.2),(16,.val (z05 v29 0)),(62,.rd (z03 z04) a0.Ops),(63,.rd z0c (a0.Ops.length:Int)),(64,.rd z0c s25.2.2),(91,.rd z0b s38)] [(1,some (v1,.box 27 [.rd z01 a0])),(2,some (v2,.box 112 [.rd z0f (⟨false,(⟨0,0,0,[]⟩:z02)⟩:z07)])),(3,some (v3,.box 112 [.rd z0f s25.1])),(4,some (v4,.map aZ z0b s5)),(1141,some (v29,.box 72 [.rd z04 x27])),zG1] aa ww) ?_ (fun s38=>?_)
       ·
        refine z8j [] mixed Z Z<|hTk 0 Z Z (faB 1141 Z Z Tryz.underlying72 Z (by exact zfv))<|hTk 1 Z Z (faB 1141 Z Z Tryz.underlying64 Z (by exact ti5))<|hTk 2 Z Z (ld 1141 Z Z ((fP (z10 _)).part (z17 _)) ty5 Z)<|hTk 3 Z Z (B.eql Z Z)<|hTk 4 Z Z (mv Z)<|hIf 96 Z Z (fun h39=>?_) (fun h39=>?_)
        ·
         refine hKn 95 Z Z h39<|Zg 5 Z Z (mv Z)<|Zg 6 Z Z (I.lss Z Z)<|Zg 7 Z Z (mv Z)<|hIf 99 Z Z (fun h40=>?_) (fun h40=>?_)
         ·
          refine hKn 98 Z Z h40<|hSk 8 Z Z<|hSk 9 Z Z<|hSk 10 Z Z<|hSk 11 Z Z<|hSk 12 Z Z<|hSk 13 Z Z<|hSk 14 Z Z<|hSk 15 Z Z<|hSk 16 Z Z<|Zg 17 Z Z (pkT Z Z)<|Zg 18 Z Z (mv Z)<|hSk 19 Z Z<|hSk 20 Z Z<|hSk 21 Z Z<|hSk 22 Z Z<|hSk 23 Z Z<|hSk 24 Z Z<|hSk 25 Z Z<|hSk 26 Z Z<|hSk 27 Z Z<|hSk 28 Z Z<|z3v 29 Z (by kernel_rfl) (by kernel_rfl) (by kernel_rfl) (gdU Z Z Z) Z Z<|z3v 30 Z (by kernel_rfl) (by kernel_rfl) (by kernel_rfl) (gdU Z Z Z) Z Z<|z3v 31 Z (by kernel_rfl) (by kernel_rfl) (by kernel_rfl) (gdU Z Z Z) Z Z<|z3v 32 Z (by kernel_rfl) (by kernel_rfl) (by kernel_rfl) (gdU Z Z Z) Z Z<|z3v 33 Z (by kernel_rfl) (by kernel_rfl) (by kernel_rfl) (gdU Z Z Z) Z Z<|z3v 34 Z (by kernel_rfl) (by kernel_rfl) (by kernel_rfl) (gdU Z Z Z) Z Z<|z3v 35 Z (by kernel_rfl) (by kernel_rfl) (by kernel_rfl) (gdU Z Z Z) Z Z<|z3v 36 Z (by kernel_rfl) (by kernel_rfl) (by kernel_rfl) (gdU Z Z Z) Z Z<|z3v 37 Z (by kernel_rfl) (by kernel_rfl) (by kernel_rfl) (gdU Z Z Z) Z Z<|z3v 38 Z (by kernel_rfl) (by kernel_rfl) (by kernel_rfl) (gdU Z Z Z) Z Z<|z3v 39 Z (by kernel_rfl) (by kernel_rfl) (by kernel_rfl) (gdU Z Z Z) Z Z<|z3v 40 Z (by kernel_rfl) (by kernel_rfl) (by kernel_rfl) (gdU Z Z Z) Z Z<|hSk 41 Z Z<|Zg 42 Z Z (pkT Z Z)<|hTk 43 Z Z (pkT Z Z)<|hTk 44 Z Z (asg Z)<|z3u (by kernel_rfl)<|z3c (fun aa ww h=>Zu h [1,2,3,4,1141,1001])
         ·
          refine hKn 98 Z Z h40<|Zg 8 Z Z (faB 1141 Z Z Tryz.underlying72 Z (by exact zq8))<|Zg 9 Z Z (ld 1141 Z Z (fP (z33 _)) zp9 Z)<|Zg 10 Z Z (faB 1 Z Z Tryz.underlying27 Z (by exact zc8))<|Zg 11 Z Z (ld 1 Z Z (fP (z09 _)) zer Z)<|Zg 12 Z Z (mv Z)<|z65 fun x41 h42=>Zg 13 Z Z (ixR Z Z h42 tu25 zam Z)<|Zg 14 Z Z (faR Z (z33 _) Tryz.underlying72 Z Z (by exact zq8))<|Zg 15 Z Z (ldR Z zp9)<|Zg 16 Z Z (U.gtr Z Z)<|Zg 17 Z Z (pkF Z Z)<|Zg 18 Z Z (mv Z)<|hIf 110 Z Z (fun h43=>?_) (fun h43=>?_)
          ·
           refine hKn 108 Z Z h43<|hKn 109 Z Z h43<|hSk 19 Z Z<|hSk 20 Z Z<|hSk 21 Z Z<|hSk 22 Z Z<|hSk 23 Z Z<|hSk 24 Z Z<|hSk 25 Z Z<|hSk 26 Z Z<|hSk 27 Z Z<|hSk 28 Z Z<|z3v 29 Z (by kernel_rfl) (by kernel_rfl) (by kernel_rfl) (gdU Z Z Z) Z Z<|z3v 30 Z (by kernel_rfl) (by kernel_rfl) (by kernel_rfl) (gdU Z Z Z) Z Z<|z3v 31 Z (by kernel_rfl) (by kernel_rfl) (by kernel_rfl) (gdU Z Z Z) Z Z<|z3v 32 Z (by kernel_rfl) (by kernel_rfl) (by kernel_rfl) (gdU Z Z Z) Z Z<|z3v 33 Z (by kernel_rfl) (by kernel_rfl) (by kernel_rfl) (gdU Z Z Z) Z Z<|z3v 34 Z (by kernel_rfl) (by kernel_rfl) (by kernel_rfl) (gdU Z Z Z) Z Z<|z3v 35 Z (by kernel_rfl) (by kernel_rfl) (by kernel_rfl) (gdU Z Z Z) Z Z<|z3v 36 Z (by kernel_rfl) (by kernel_rfl) (by kernel_rfl) (gdU Z Z Z) Z Z<|z3v 37 Z (by kernel_rfl) (by kernel_rfl) (by kernel_rfl) (gdU Z Z Z) Z Z<|z3v 38 Z (by kernel_rfl) (by kernel_rfl) (by kernel_rfl) (gdU Z Z Z) Z Z<|z3v 39 Z (by kernel_rfl) (by kernel_rfl) (by kernel_rfl) (gdU Z Z Z) Z Z<|z3v 40 Z (by kernel_rfl) (by kernel_rfl) (by kernel_rfl) (gdU Z Z Z) Z Z<|hSk 41 Z Z<|Zg 42 Z Z (pkT Z Z)<|hTk 43 Z Z (pkT Z Z)<|hTk 44 Z Z (asg Z)<|z3u (by kernel_rfl)<|z3c (fun aa ww h=>Zu h [1,2,3,4,1141,1001])
          ·
           refine hKn 108 Z Z h43<|hKn 109 Z Z h43<|Zg 19 Z Z (faB 1141 Z Z Tryz.underlying72 Z (by exact zq8))<|Zg 20 Z Z (ld 1141 Z Z (fP (z33 _)) zp9 Z)<|Zg 21 Z Z (faB 1 Z Z Tryz.underlying27 Z (by exact zc8))<|Zg 22 Z Z (ld 1 Z Z (fP (z09 _)) zer Z)<|Zg 23 Z Z (mv Z)<|z65 fun x44 h45=>Zg 24 Z Z (ixR Z Z h45 tu25 zam Z)<|Zg 25 Z Z (faR Z (z33 _) Tryz.underlying72 Z Z (by exact zq8))<|Zg 26 Z Z (ldR Z zp9)<|Zg 27 Z Z (U.eql Z Z)<|Zg 28 Z Z (mv Z)<|hIf 120 Z Z (fun h46=>?_) (fun h46=>?_)
           ·
            refine hKn 119 Z Z h46<|Zg 29 Z Z (faB 1 Z Z Tryz.underlying27 Z (by exact zb8))<|Zg 30 Z Z (ld 1 Z Z (fP (z0m _)) zbg Z)<|Zg 31 Z Z (mv Z)<|z65 fun x47 h48=>Zg 32 Z Z (ixR Z Z h48 tu24 z3k Z)<|Zg 33 Z Z (ldR Z z6o)<|Zg 34 Z Z (faB 1 Z Z Tryz.underlying27 Z (by exact zb8))<|Zg 35 Z Z (ld 1 Z Z (fP (z0m _)) zbg Z)<|Zg 36 Z Z (mv Z)<|z65 fun x49 h50=>Zg 37 Z Z (ixR Z Z h50 tu24 z3k Z)<|Zg 38 Z Z (ldR Z z6o)<|z3n 39 [] [] Z (by kernel_rfl) Z Zx Z Tryz.func89 Z Z (z83 _ _) (Y2 Z Z) rN Z (fun _ _=>z34) fun r51 n52=>Zg 40 Z Z (I.gtr Z Z)<|Zg 41 Z Z (pkT Z Z)<|Zg 42 Z Z (pkF Z Z)<|hTk 43 Z Z (pkT Z Z)<|hTk 44 Z Z (asg Z)<|ztm 91 Z Z fun y53=>z3u (by kernel_rfl)<|z3c (fun aa ww h=>Zu h [1,2,3,4,1141,1001])
           ·
            refine hKn 119 Z Z h46<|hSk 29 Z Z<|hSk 30 Z Z<|hSk 31 Z Z<|hSk 32 Z Z<|hSk 33 Z Z<|hSk 34 Z Z<|hSk 35 Z Z<|hSk 36 Z Z<|hSk 37 Z Z<|hSk 38 Z Z<|hSk 39 Z Z<|hSk 40 Z Z<|Zg 41 Z Z (pkF Z Z)<|Zg 42 Z Z (pkF Z Z)<|hTk 43 Z Z (pkT Z Z)<|hTk 44 Z Z (asg Z)<|z3u (by kernel_rfl)<|z3c (fun aa ww h=>Zu h [1,2,3,4,1141,1001])
        ·
         refine hKn 95 Z Z h39<|hSk 5 Z Z<|hSk 6 Z Z<|hSk 7 Z Z<|z3v 8 Z (by kernel_rfl) (by kernel_rfl) (by kernel_rfl) (gdU Z Z Z) Z Z<|z3v 9 Z (by kernel_rfl) (by kernel_rfl) (by kernel_rfl) (gdU Z Z Z) Z Z<|z3v 10 Z (by kernel_rfl) (by kernel_rfl) (by kernel_rfl) (gdU Z Z Z) Z Z<|z3v 11 Z (by kernel_rfl) (by kernel_rfl) (by kernel_rfl) (gdU Z Z Z) Z Z<|z3v 12 Z (by kernel_rfl) (by kernel_rfl) (by kernel_rfl) (gdU Z Z Z) Z Z<|z3v 13 Z (by kernel_rfl) (by kernel_rfl) (by kernel_rfl) (gdU Z Z Z) Z Z<|z3v 14 Z (by kernel_rfl) (by kernel_rfl) (by kernel_rfl) (gdU Z Z Z) Z Z<|z3v 15 Z (by kernel_rfl) (by kernel_rfl) (by kernel_rfl) (gdU Z Z Z) Z Z<|z3v 16 Z (by kernel_rfl) (by kernel_rfl) (by kernel_rfl) (gdU Z Z Z) Z Z<|hSk 17 Z Z<|hSk 18 Z Z<|z3v 19 Z (by kernel_rfl) (by kernel_rfl) (by kernel_rfl) (gdU Z Z Z) Z Z<|z3v 20 Z (by kernel_rfl) (by kernel_rfl) (by kernel_rfl) (gdU Z Z Z) Z Z<|z3v 21 Z (by kernel_rfl) (by kernel_rfl) (by kernel_rfl) (gdU Z Z Z) Z Z<|z3v 22 Z (by kernel_rfl) (by kernel_rfl) (by kernel_rfl) (gdU Z Z Z) Z Z<|z3v 23 Z (by kernel_rfl) (by kernel_rfl) (by kernel_rfl) (gdU Z Z Z) Z Z<|z3v 24 Z (by kernel_rfl) (by kernel_rfl) (by kernel_rfl) (gdU Z Z Z) Z Z<|z3v 25 Z (by kernel_rfl) (by kernel_rfl) (by kernel_rfl) (gdU Z Z Z) Z Z<|z3v 26 Z (by kernel_rfl) (by kernel_rfl) (by kernel_rfl) (gdU Z Z Z) Z Z<|z3v 27 Z (by kernel_rfl) (by kernel_rfl) (by kernel_rfl) (gdU Z Z Z) Z Z<|z3v 28 Z (by kernel_rfl) (by kernel_rfl) (by kernel_rfl) (gdU Z Z Z) Z Z<|z3v 29 Z (by kernel_rfl) (by kernel_rfl) (by kernel_rfl) (gdU Z Z Z) Z Z<|z3v 30 Z (by kernel_rfl) (by kernel_rfl) (by kernel_rfl) (gdU Z Z Z) Z Z<|z3v 31 Z (by kernel_rfl) (by kernel_rfl) (by kernel_rfl) (gdU Z Z Z) Z Z<|z3v 32 Z (by kernel_rfl) (by kernel_rfl) (by kernel_rfl) (gdU Z Z Z) Z Z<|z3v 33 Z (by kernel_rfl) (by kernel_rfl) (by kernel_rfl) (gdU Z Z Z) Z Z<|z3v 34 Z (by kernel_rfl) (by kernel_rfl) (by kernel_rfl) (gdU Z Z Z) Z Z<|z3v 35 Z (by kernel_rfl) (by kernel_rfl) (by kernel_rfl) (gdU Z Z Z) Z Z<|z3v 36 Z (by kernel_rfl) (by kernel_rfl) (by kernel_rfl) (gdU Z Z Z) Z Z<|z3v 37 Z (by kernel_rfl) (by kernel_rfl) (by kernel_rfl) (gdU Z Z Z) Z Z<|z3v 38 Z (by kernel_rfl) (by kernel_rfl) (by kernel_rfl) (gdU Z Z Z) Z Z<|z3v 39 Z (by kernel_rfl) (by kernel_rfl) (by kernel_rfl) (gdU Z Z Z) Z Z<|z3v 40 Z (by kernel_rfl) (by kernel_rfl) (by kernel_rfl) (gdU Z Z Z) Z Z<|z3v 41 Z (by kernel_rfl) (by kernel_rfl) (by kernel_rfl) (gdU Z Z Z) Z Z<|hSk 42 Z Z<|hTk 43 Z Z (pkF Z Z)<|hTk 44 Z Z (asg Z)<|z3u (by kernel_rfl)<|z3c (fun aa ww h=>Zu h [1,2,3,4,1141,1001])
       ·
        refine gIf Z Z (fun h54=>?_) (fun h54=>?_)
        ·
         refine z8j [3] mixed Z Z<|hTk 0 Z Z (mv Z)<|hTk 1 Z Z (faB 1141 Z Z Tryz.underlying72 Z (by exact zfv))<|hTk 2 Z Z (faB 1141 Z Z Tryz.underlying64 Z (by exact zb9))<|hTk 3 Z Z (ld 1141 Z Z ((fP (z10 _)).part (z2h _)) zfg Z)<|hTk 4 Z Z (asg Z)<|hTk 5 Z Z (faB 3 Z Z Tryz.underlying112 Z (by exact zb9))<|Zp 6 Z Z Z Z Z (sto 3 Z Z (fP (zat _)) Z zb9)<|z3u (by kernel_rfl)<|z30<|z30<|z0j<|z2b<|Zq (I.add Z Z)<|Zm Z<|z1o<|z1n (fun aa ww h=>Zu h [1,2,3,4,1001])
        ·
         refine z2t<|z30<|z30<|z0j<|z2b<|Zq (I.add Z Z)<|Zm Z<|z1o<|z1n (fun aa ww h=>Zu h [1,2,3,4,1001])
   ·
    refine z1z<|z11<|z13<|z3c (fun aa ww h=>Zu h [2,3,1001])
  ·
   refine gSR<|Zq (ld 3 Z Z fH zwc Z)<|Es (sto 2 Z Z fH Z zj3)<|Zb Z<|z0l<|zbw [] [1001] Z (eC 2 Z Z zwc<|eE Z<|eN) (y1 Z)
def z2y (a0:z00) (a1:List UInt8):Option (Bool × z02 × Int) :=
 z48 a0 >>= fun r3 =>
 if r3 != 0 then
  some (false,(⟨0,0,0,[]⟩:z02),r3)
 else
  z2l a0 a1 >>= fun r6 =>
  some (r6.1.in_,r6.1.v,r6.2)
theorem zbl (a0:z00) (a1:List UInt8):z1v Tryz.prog 25 [.rd z01 a0,.rd z4s a1] [zG1] (z2y a0 a1) (fun r nv=>⟨[.rd z0b r.1,.rd z0t r.2.1,.rd z0c r.2.2],[(1001,some (.bool true,.glob 1 (z2z 64 z0k) z56))]⟩):=by
 refine z2o 27 Tryz.func25 Z Z Z fun H w=>?_
 refine gSR<|Eb Z (bx 1 Z) fun v1=>Za Z<|Eb Z (z6n 2 zb9 (.zr (R:=z0t) (x:=(⟨0,0,0,[]⟩:z02)) zjx)) fun v2=>Zb Z<|z0s<|gSR<|Zq (ld 1 Z Z fH z9y Z)<|Zc [1001] [] Tryz.func60 Z (zab _) fun r3 n4=>Zb Z<|gSR<|Zm Z<|Zq (I.neq Z Z)<|Zj Z (fun h5=>?_) (fun h5=>?_)
 ·
  refine gSR<|Zq (bld (x':=(⟨0,0,0,[]⟩:z02)) [(0,1),(1,1),(2,1),(3,1)] Tryz.underlying54 zb9 Z zjx Z (Bld.done Z))<|Zm Z<|Za Z<|Es (sto 2 Z Z fH Z zb9)<|Zb Z<|z0l<|z0v<|zbw [] [1001] Z (eE Z<|eC 2 Z Z zfg<|eE Z<|eN) (y1 Z)
 ·
  refine Zt<|gSR<|Zq (ld 1 Z Z fH z9y Z)<|Zm Z<|Zc [1001] [] Tryz.func65 Z (z9z _ _) fun r6 n7=>Zm Z<|Zq (ext Z Z)<|Zq (ext Z Z)<|Eb Z (z6n 3 zj3 (.zr (R:=z0f) (x:=(⟨false,(⟨0,0,0,[]⟩:z02)⟩:z07)) zt4)) fun v8=>Es (sto 3 Z Z fH Z zj3)<|Zb Z<|z0s<|z8j [2] mixed Z Z<|hTk 0 Z Z (faB 3 Z Z Tryz.underlying112 Z (by exact ti4))<|hTk 1 Z Z (ld 3 Z Z (fP (z9x _)) ty4 Z)<|hTk 2 Z Z (faB 3 Z Z Tryz.underlying112 Z (by exact zb9))<|hTk 3 Z Z (ld 3 Z Z (fP (zat _)) zfg Z)<|hTk 4 Z Z (mv Z)<|hTk 5 Z Z (asg Z)<|Zp 6 Z Z Z Z Z (sto 2 Z Z fH Z zb9)<|hTk 7 Z Z (asg Z)<|z3u (by kernel_rfl)<|z0j<|z0l<|zbw [] [1001] Z (eE Z<|eC 2 Z Z zfg<|eE Z<|eN) (y1 Z)
def z44 (a1:Int):Option ((List (List UInt8))) :=
 if decide (a1<0) then
  none
 else
  some (w64 (a1 - (w64 (0 - (([]:List (List UInt8)).length:Int))))) >>= fun y2 =>
  if decide (0<y2) then
   mkn 32 [] y2 >>= fun x4 =>
   cut x4 0 (([]:List (List UInt8)).length:Int) >>= fun x7 =>
   some x7
  else
   some []
theorem zax (a1:Int):z1v Tryz.prog 99 [.val (.slice none 0 0),.rd z0c a1] [] (z44 a1) (fun r nv=>⟨[.val (nv 0)],[(100,some (nv 0,.list z4s 9 r))]⟩):=by
 refine z2o 27 Tryz.func99 Z Z Z fun H w=>?_
 refine gSR<|Zb Z<|z0s<|gSR<|Zm Z<|Zq (I.lss Z Z)<|Zj Z (fun h1=>?_) (fun h1=>?_)
 ·
  refine zzh
 ·
  refine Zt<|z0s<|gSR<|Zm Z<|Zm Z<|Zq (capN Z Z tu47)<|Zm Z<|zr7 z4s 11 Z<|Zq (z42 Z .rd Z tu47)<|Zq (I.sub Z Z)<|Zq (I.sub Z Z)<|Za Z<|z1t 1 Z fun y2=>Zn<|gSR<|Zm Z<|Zq (I.gtr Z Z)<|Zj Z (fun h3=>?_) (fun h3=>?_)
  ·
   refine z2b<|Zm Z<|Zm Z<|Zq (capN Z Z tu47)<|Zq (cutN Z Z tu47 ti9)<|Zm Z<|z0p fun x4 h5=>Ef Z (apZ 1 Z Z h5 tu47 tu3 ti9 Zr.str Z) fun v6=>Zm Z<|zr7 z4s 23 Z<|Zq (z42 Z .rd Z tu47)<|z0p fun x7 h8=>Ef Z (cutO 1 Z Z Z h8 tu47 ti9) fun v9=>Zb Z<|gSR<|Zm Z<|Zb Z<|z0l<|Ze [v9] [1] Z
  ·
   refine Zt<|gSR<|Zm Z<|Zb Z<|z0l<|znu z4s 9 2<|Ze [(.slice none 0 0)] [2] Z
def z2d (a0:List (List (List UInt8))) (s2:Int × Int):Option (Sum Int (Int × Int)) :=
 if decide (s2.2<(a0.length:Int)) then
  idx a0 s2.2 >>= fun x4 =>
  some (w64 (s2.1+(x4.length:Int))) >>= fun y6 =>
  if decide (y6<0) then
   none
  else
   some (.inr (y6,w64 (s2.2+1)))
 else
  some (.inl s2.1)
def z2e (a0:List (List (List UInt8))) (s11:(List (List UInt8)) × Int):Option (Sum ((List (List UInt8))) ((List (List UInt8)) × Int)) :=
 if decide (s11.2<(a0.length:Int)) then
  idx a0 s11.2 >>= fun x14 =>
  app 16 s11.1 x14 >>= fun x16 =>
  some (.inr (x16,w64 (s11.2+1)))
 else
  some (.inl s11.1)
def z3m (a0:List (List (List UInt8))):Option ((List (List UInt8))) :=
 (iter (z2d a0) (0,0)) >>= fun s1 =>
 z44 s1 >>= fun r8 =>
 (iter (z2e a0) (r8,0)) >>= fun s10 =>
 some s10
theorem zah (a0:List (List (List UInt8))):z1v Tryz.prog 67 [.rd (z03 (z03 z4s)) a0] [] (z3m a0) (fun r nv=>⟨[.val (nv 0)],[(100,some (nv 0,.list z4s 9 r))]⟩):=by
 refine z2o 36 Tryz.func67 Z Z Z fun H w=>?_
 refine gSR<|Zb Z<|gSR<|Zb Z<|z7l (fun (s1:Int) aa ww=>Sta (ctx 36 H [] w) [(0,.rd (z03 (z03 z4s)) a0),(3,.rd z0c s1)] [] aa ww) ?_ (fun s1=>?_)
 ·
  refine gSR<|Zm Z<|Zq (z42 Z .rd Z Tryz.underlying153)<|Zm Z<|Zn<|z2c (fun (s2:Int × Int) aa ww=>Sta (ctx 36 H [] w) [(0,.rd (z03 (z03 z4s)) a0),(3,.rd z0c s2.1),(9,.rd (z03 (z03 z4s)) a0),(10,.rd z0c (a0.length:Int)),(11,.rd z0c s2.2)] [] aa ww) (fun aa ww h=>Zu h []) (fun s2=>?_)
  refine gSR<|Zq (I.lss Z Z)<|Zn<|z0s<|gIf Z Z (fun h3=>?_) (fun h3=>?_)
  ·
   refine Zt<|z0s<|z58<|gSR<|z0p fun x4 h5=>Zq (ixR Z Z h5 Tryz.underlying153 ti47 Z)<|Zq (ldR Z ty47)<|Zb Z<|gSR<|Zm Z<|Zm Z<|Zq (z42 Z .rd Z tu47)<|Zq (I.add Z Z)<|Za Z<|z1t 3 Z fun y6=>Zn<|gSR<|Zm Z<|Zq (I.lss Z Z)<|Zj Z (fun h7=>?_) (fun h7=>?_)
   ·
    refine zzh
   ·
    refine z2t<|z30<|z0j<|z2b<|Zq (I.add Z Z)<|Zm Z<|z1o<|z1n (fun aa ww h=>Zu h [])
  ·
   refine z1z<|z11<|z13<|z3c (fun aa ww h=>Zu h [])
 ·
  refine gSR<|Zm Z<|Zc [] [(100,1)] Tryz.func99 Z (zax _) fun r8 n9=>Zb Z<|z7l (fun (s10:(List (List UInt8))) aa ww=>∃ nv:Nat→Value,Sta (ctx 36 H [] w) [(6,.val (nv 0))] [(1,some ((nv 0),.list z4s 9 s10))] aa ww) ?_ (fun s10=>?_)
  ·
   refine gSR<|Zm Z<|Zq (z42 Z .rd Z Tryz.underlying153)<|Zm Z<|Zn<|z2c (fun (s11:(List (List UInt8)) × Int) aa ww=>∃ nv:Nat→Value,Sta (ctx 36 H [] w) [(6,.val (nv 0)),(25,.rd (z03 (z03 z4s)) a0),(26,.rd z0c (a0.length:Int)),(27,.rd z0c s11.2)] [(1,some ((nv 0),.list z4s 9 s11.1))] aa ww) (fun aa ww h=>⟨nvl [(n9 0)],Zu h [1]⟩) (fun s11=>?_)
   refine gEx fun n12=>gSR<|Zq (I.lss Z Z)<|Zn<|z0s<|gIf Z Z (fun h13=>?_) (fun h13=>?_)
   ·
    refine Zt<|z0s<|z58<|gSR<|z0p fun x14 h15=>Zq (ixR Z Z h15 Tryz.underlying153 ti47 Z)<|Zq (ldR Z ty47)<|Zb Z<|z2b<|Zm Z<|Zm Z<|z0p fun x16 h17=>Ef Z (apn 1 Z Z Z .rd h17 tu47 ti9 Z Z Z) fun v18=>Za Z<|z1o<|z30<|z0j<|z2b<|Zq (I.add Z Z)<|Zm Z<|z1o<|z1n (fun aa ww h=>⟨nvl [v18],Zu h [1]⟩)
   ·
    refine z1z<|z11<|z13<|z3c (fun aa ww h=>⟨nvl [(n12 0)],Zu h [1]⟩)
  ·
   refine gEx fun n19=>gSR<|Zm Z<|Zb Z<|z0l<|Ze [(n19 0)] [1] Z
def z22 (c0:List (List UInt8)) (s3:Int) (s13:(List (List UInt8)) × Int × Int):Option (Sum ((List (List UInt8)) × Int) ((List (List UInt8)) × Int × Int)) :=
 if decide (s13.2.2<((((c0.length:Int):Int).toNat - (s3:Int).toNat:Nat):Int)) then
  zxe ((s3:Int).toNat) (((c0.length:Int):Int).toNat - (s3:Int).toNat) s13.2.2 >>= fun q15 =>
  idx s13.1 (q15:Int) >>= fun x17 =>
  zxe ((s3:Int).toNat) (((c0.length:Int):Int).toNat - (s3:Int).toNat) (w64 (s13.2.2 - 1)) >>= fun q19 =>
  idx s13.1 (q19:Int) >>= fun x21 =>
  if x17 != x21 then
   zxe ((s3:Int).toNat) (((c0.length:Int):Int).toNat - (s3:Int).toNat) s13.2.2 >>= fun q24 =>
   idx s13.1 (q24:Int) >>= fun x26 =>
   idx s13.1 s13.2.1 >>= fun x28 =>
   some (w64 (s13.2.1+1)) >>= fun y30 =>
   some (w64 (s13.2.2+1)) >>= fun y31 =>
   some (.inr (s13.1.set (s13.2.1:Int).toNat x26,y30,y31))
  else
   some (w64 (s13.2.2+1)) >>= fun y32 =>
   some (.inr (s13.1,s13.2.1,y32))
 else
  some (.inl (s13.1,s13.2.1))
def z1a (c0:List (List UInt8)) (s3:Int):Option (Sum (Sum ((List (List UInt8))) Unit) Int) :=
 if decide (s3<(c0.length:Int)) then
  idx c0 s3 >>= fun x5 =>
  idx c0 (w64 (s3 - 1)) >>= fun x7 =>
  if x5==x7 then
   chk (0≤s3∧s3≤(c0.length:Int)∧(c0.length:Int)≤(c0.length:Int)) >>= fun u10 =>
   (iter (z22 c0 s3) (c0,s3,1)) >>= fun s12 =>
   chk (0≤s12.2∧s12.2≤(s12.1.length:Int)∧(s12.1.length:Int)≤(s12.1.length:Int)) >>= fun u33 =>
   chk ((s12.2:Int).toNat+(((s12.1.length:Int):Int).toNat - (s12.2:Int).toNat)≤s12.1.length) >>= fun u35 =>
   cut (clr s12.1 ((s12.2:Int).toNat) (((s12.1.length:Int):Int).toNat - (s12.2:Int).toNat) []) 0 s12.2 >>= fun x37 =>
   some (.inl (.inl x37))
  else
   some (.inr (w64 (s3+1)))
 else
  some (.inl (.inr ()))
def z3i (c0:List (List UInt8)):Option ((List (List UInt8))) :=
 if decide ((c0.length:Int)<2) then
  some c0
 else
  z73 (iter (z1a c0) 1) fun s2 =>
  some c0
theorem za1 (p0:Value) (c0:List (List UInt8)):z1v Tryz.prog 68 [.val p0] [(1,some (p0,.list z4s 9 c0))] (z3i c0) (fun r nv=>⟨[.val (nv 0)],[(100,some (nv 0,.list z4s 9 r))]⟩):=by
 refine z2o 61 Tryz.func68 Z Z Z fun H w=>?_
 refine gSR<|Zb Z<|z0s<|gSR<|Zm Z<|Zq (z42 Z (.own 1 Z) Z tu47)<|Zq (I.lss Z Z)<|Zj Z (fun h1=>?_) (fun h1=>?_)
 ·
  refine gSR<|Zm Z<|Zb Z<|z0l<|z0v<|Ze [p0] [1] Z
 ·
  refine Zt<|z9a (fun (s2:Unit) aa ww=>Sta (ctx 61 H [(1,some (p0,.list z4s 9 c0))] w) [(0,.val p0)] [(1,some (p0,.list z4s 9 c0))] aa ww) ?_ (fun s2=>?_)
  ·
   refine gSR<|Zb Z<|z2c (fun (s3:Int) aa ww=>Sta (ctx 61 H [(1,some (p0,.list z4s 9 c0))] w) [(0,.val p0),(3,.rd z0c s3)] [(1,some (p0,.list z4s 9 c0))] aa ww) (fun aa ww h=>Zu h [1]) (fun s3=>?_)
   refine z0s<|gSR<|Zm Z<|Zm Z<|Zq (z42 Z (.own 1 Z) Z tu47)<|Zq (I.lss Z Z)<|Zj Z (fun h4=>?_) (fun h4=>?_)
   ·
    refine Zt<|z0s<|z58<|z0s<|zfy mixed (by kernel_rfl)<|Rq Z (mv Z)<|Rq Z (mv Z)<|z6j fun x5 h6=>Rq Z (ixO 1 Z Z Z h6 tu47 ti9)<|Rq Z (ld 1 Z Z (Foc.el h6) ty9 Z)<|Rq Z (mv Z)<|Rq Z (mv Z)<|Rq Z (I.sub Z Z)<|z6j fun x7 h8=>Rq Z (ixO 1 Z Z Z h8 tu47 ti9)<|Rq Z (ld 1 Z Z (Foc.el h8) ty9 Z)<|Rq Z (eqS Z Z)<|zm7<|z0j<|gIf Z Z (fun h9=>?_) (fun h9=>?_)
    ·
     refine gSR<|Zm Z<|Zm Z<|z0p fun u10 h11=>Zq (zy8 1 Z Z (.to Z) .no (z4q h11) tu47 ti9)<|Zb Z<|z7l (fun (s12:(List (List UInt8)) × Int) aa ww=>Sta (ctx 61 H [(1,some (p0,.list z4s 9 c0))] w) [(0,.val p0),(3,.rd z0c s12.2)] [(1,some (p0,.list z4s 9 s12.1))] aa ww) ?_ (fun s12=>?_)
     ·
      refine gSR<|Zb Z<|z2c (fun (s13:(List (List UInt8)) × Int × Int) aa ww=>Sta (ctx 61 H [(1,some (p0,.list z4s 9 c0))] w) [(0,.val p0),(3,.rd z0c s13.2.1),(4,.sub z4s.sz p0 ((s3:Int).toNat) (((c0.length:Int):Int).toNat - (s3:Int).toNat)),(5,.rd z0c s13.2.2)] [(1,some (p0,.list z4s 9 s13.1))] aa ww) (fun aa ww h=>Zu h [1]) (fun s13=>?_)
      refine z0s<|gSR<|Zm Z<|Zm Z<|Zq (z13o Z Z tu47)<|Zq (I.lss Z Z)<|Zj Z (fun h14=>?_) (fun h14=>?_)
      ·
       refine Zt<|z0s<|z58<|z0s<|zfy mixed (by kernel_rfl)<|Rq Z (mv Z)<|Rq Z (mv Z)<|z6j fun q15 h16=>z6j fun x17 h18=>Rq Z (ixSu 1 Z Z Z h16 tu47 ti9)<|Rq Z (ld 1 Z Z (Foc.el h18) ty9 Z)<|Rq Z (mv Z)<|Rq Z (mv Z)<|Rq Z (I.sub Z Z)<|z6j fun q19 h20=>z6j fun x21 h22=>Rq Z (ixSu 1 Z Z Z h20 tu47 ti9)<|Rq Z (ld 1 Z Z (Foc.el h22) ty9 Z)<|Rq Z (neS Z Z)<|zm7<|z0j<|gIf Z Z (fun h23=>?_) (fun h23=>?_)
       ·
        refine gSR<|Zm Z<|Zm Z<|Zm Z<|Zm Z<|z0p fun q24 h25=>z0p fun x26 h27=>Zq (ixSu 1 Z Z Z h25 tu47 ti9)<|Zq (ld 1 Z Z (Foc.el h27) ty9 Z)<|z0p fun x28 h29=>Zq (ixO 1 Z Z Z h29 tu47 ti9)<|Es (sto 1 Z Z (Foc.el h29) Z ti9)<|Zn<|z2b<|Zm Z<|Zq (I.add Z Z)<|Za Z<|z1t 3 Z fun y30=>z1o<|z30<|z0j<|z2b<|Zm Z<|Zq (I.add Z Z)<|Za Z<|z1t 5 Z fun y31=>z1o<|z1n (fun aa ww h=>Zu h [1])
       ·
        refine z2t<|z30<|z0j<|z2b<|Zm Z<|Zq (I.add Z Z)<|Za Z<|z1t 5 Z fun y32=>z1o<|z1n (fun aa ww h=>Zu h [1])
      ·
       refine z1z<|z11<|z13<|z3c (fun aa ww h=>Zu h [1])
     ·
      refine gSR<|Zm Z<|Zm Z<|z0p fun u33 h34=>Zq (zy8 1 Z Z (.to Z) .no (z4q h34) tu47 ti9)<|z0p fun u35 h36=>EsV (clrS 1 Z Z (z4q h36) Z tu47 ti9 Zr.str Z)<|Zn<|gSR<|Zm Z<|Zm Z<|z0p fun x37 h38=>Ef Z (cutO 1 Z Z Z h38 tu47 ti9) fun v39=>Zb Z<|z0l<|z43<|z0v<|z8g<|z6y<|Ze [v39] [1] Z
    ·
     refine z2t<|z30<|z0j<|z2b<|Zm Z<|Zq (I.add Z Z)<|Za Z<|z1o<|z1n (fun aa ww h=>Zu h [1])
   ·
    refine z1z<|z11<|z13<|z7d (fun aa ww h=>Zu h [1])
  ·
   refine gSR<|Zm Z<|Zb Z<|z0l<|Ze [p0] [1] Z
def z7j (a0:z00) (a1:z00) (r15:(List (List UInt8))) (s17:(List (List UInt8)) × Int):Option (Sum (Sum ((List (List UInt8)) × Int) ((List (List UInt8)))) ((List (List UInt8)) × Int)) :=
 if decide (s17.2<(r15.length:Int)) then
  idx r15 s17.2 >>= fun x20 =>
  z2l a0 x20 >>= fun r22 =>
  if r22.2 != 0 then
   some (.inl (.inl ([],r22.2)))
  else
   z2l a1 x20 >>= fun r26 =>
   if r26.2 != 0 then
    some (.inl (.inl ([],r26.2)))
   else
    if !decide (r22.1=r26.1) then
     app 16 s17.1 [x20] >>= fun x32 =>
     some (.inr (x32,w64 (s17.2+1)))
    else
     some (.inr (s17.1,w64 (s17.2+1)))
 else
  some (.inl (.inr s17.1))
def z9w (a0:z00) (a1:z00):Option ((List (List UInt8)) × Int) :=
 z6s a0 >>= fun r3 =>
 if r3.2 != 0 then
  some ([],r3.2)
 else
  z6s a1 >>= fun r6 =>
  if r6.2 != 0 then
   some ([],r6.2)
  else
   z3m [r3.1,r6.1] >>= fun r10 =>
   zlc r10 >>= fun r12 =>
   z73 (z3i r12 >>= fun r15 =>
   iter (z7j a0 a1 r15) ([],0)) fun s14 =>
   some (s14,0)
theorem zh8 (a0:z00) (a1:z00):z1v Tryz.prog 27 [.rd z01 a0,.rd z01 a1] [zG1] (z9w a0 a1) (fun r nv=>⟨[.val (nv 0),.rd z0c r.2],[(1001,some (.bool true,.glob 1 (z2z 64 z0k) z56)),(100,some (nv 0,.list z4s 9 r.1))]⟩):=by
 refine z2o 72 Tryz.func27 Z Z Z fun H w=>?_
 refine gSR<|Eb Z (bx 1 Z) fun v1=>Eb Z (bx 2 Z) fun v2=>Za Z<|Zb Z<|gSR<|Zq (ld 1 Z Z fH z9y Z)<|Zc [1001] [(100,3)] Tryz.func23 Z (zak _) fun r3 n4=>Zm Z<|Zq (ext Z Z)<|Zq (ext Z Z)<|Za Z<|Zb Z<|z0s<|gSR<|Zm Z<|Zq (I.neq Z Z)<|Zj Z (fun h5=>?_) (fun h5=>?_)
 ·
  refine gSR<|Zm Z<|Za Z<|Zb Z<|z0l<|z0v<|znu z4s 9 4<|Ze [(.slice none 0 0)] [1001,4] Z
 ·
  refine Zt<|gSR<|Zq (ld 2 Z Z fH z9y Z)<|Zc [1001] [(100,5)] Tryz.func23 Z (zak _) fun r6 n7=>Zm Z<|Zq (ext Z Z)<|Zq (ext Z Z)<|Za Z<|Zb Z<|z0s<|gSR<|Zm Z<|Zq (I.neq Z Z)<|Zj Z (fun h8=>?_) (fun h8=>?_)
  ·
   refine gSR<|Zm Z<|Za Z<|Zb Z<|z0l<|z0v<|znu z4s 9 6<|Ze [(.slice none 0 0)] [1001,6] Z
  ·
   refine Zt<|gSR<|Zm Z<|Zm Z<|ziw 3 [19,6,32] Z (fS Z<|fS Z<|fS Z<|fN)<|ziw 5 [27,8,33] Z (fS Z<|fS Z<|fS Z<|fN)<|Ef Z (lit (R:=(z03 z4s)) ([r3.1,r6.1]:List (List (List UInt8))) 7 (pP Z Z<|pP Z Z<|pN) Z Tryz.underlying153 ti47 Z Z) fun v9=>ziw 7 [34] Z (fS Z<|fN)<|Zc [] [(100,8)] Tryz.func67 Z (zah _) fun r10 n11=>Zb Z<|gSR<|Zm Z<|Zc [8] [(1,8)] Tryz.func63 Z (zrm _ _) fun r12 n13=>Zn<|gSR<|Zb Z<|z9a (fun (s14:(List (List UInt8))) aa ww=>∃ nv:Nat→Value,Sta (ctx 72 H [zG1] w) [(10,.val (nv 0))] [(13,some ((nv 0),.list z4s 9 s14)),zG1] aa ww) ?_ (fun s14=>?_)
   ·
    refine gSR<|Zm Z<|Zc [8] [(100,1100)] Tryz.func68 Z (za1 _ _) fun r15 n16=>Zq (z42 Z (.own 1100 Z) Z tu47)<|Zm Z<|Zn<|zzi z4s 9 1107<|z2c (fun (s17:(List (List UInt8)) × Int) aa ww=>∃ nv:Nat→Value,Sta (ctx 72 H [zG1] w) [(2,.val (z05 v1 0)),(3,.val (z05 v2 0)),(10,.val (nv 0)),(39,.val (n16 0)),(40,.rd z0c (r15.length:Int)),(41,.rd z0c s17.2)] [(1,some (v1,.box 27 [.rd z01 a0])),(2,some (v2,.box 27 [.rd z01 a1])),(1106,some ((nv 0),.list z4s 9 s17.1)),(1100,some ((n16 0),.list z4s 9 r15)),zG1] aa ww) (fun aa ww h=>⟨nvl [(.slice none 0 0)],Zu h [1,2,1107,1100,1001]⟩) (fun s17=>?_)
    refine gEx fun n18=>gSR<|Zq (I.lss Z Z)<|Zn<|z0s<|gIf Z Z (fun h19=>?_) (fun h19=>?_)
    ·
     refine Zt<|z0s<|z58<|gSR<|z0p fun x20 h21=>Zq (ixO 1100 Z Z Z h21 tu47 ti9)<|Zq (ld 1100 Z Z (Foc.el h21) ty9 Z)<|Zb Z<|gSR<|Zq (ld 1 Z Z fH z9y Z)<|Zm Z<|Zc [1001] [] Tryz.func65 Z (z9z _ _) fun r22 n23=>Zm Z<|Zq (ext Z Z)<|Zq (ext Z Z)<|Eb Z (z6n 1108 zj3 (.zr (R:=z0f) (x:=(⟨false,(⟨0,0,0,[]⟩:z02)⟩:z07)) zt4)) fun v24=>Es (sto 1108 Z Z fH Z zj3)<|Zb Z<|z0s<|gSR<|Zm Z<|Zq (I.neq Z Z)<|Zj Z (fun h25=>?_) (fun h25=>?_)
     ·
      refine gSR<|Zm Z<|Za Z<|Zb Z<|z0l<|z0v<|z43<|z0v<|z8g<|z6y<|znu z4s 9 1109<|Ze [(.slice none 0 0)] [1001,1109] Z
     ·
      refine Zt<|gSR<|Zq (ld 2 Z Z fH z9y Z)<|Zm Z<|Zc [1001] [] Tryz.func65 Z (z9z _ _) fun r26 n27=>Zm Z<|Zq (ext Z Z)<|Zq (ext Z Z)<|Eb Z (z6n 1110 zj3 (.zr (R:=z0f) (x:=(⟨false,(⟨0,0,0,[]⟩:z02)⟩:z07)) zt4)) fun v28=>Es (sto 1110 Z Z fH Z zj3)<|Zb Z<|z0s<|gSR<|Zm Z<|Zq (I.neq Z Z)<|Zj Z (fun h29=>?_) (fun h29=>?_)
      ·
       refine gSR<|Zm Z<|Za Z<|Zb Z<|z0l<|z0v<|z43<|z0v<|z8g<|z6y<|znu z4s 9 1111<|Ze [(.slice none 0 0)] [1001,1111] Z
      ·
       refine Zt<|gSR<|Zq (ld 1108 Z Z fH zwc Z)<|Zq (ld 1110 Z Z fH zwc Z)<|Zq (neA Z Z z15b Z Z z15w)<|Zj Z (fun h30=>?_) (fun h30=>?_)
       ·
        refine z2b<|Zm Z<|Zm Z<|Ef Z (lit (R:=z4s) ([x20]:List (List UInt8)) 1112 (pP Z Z<|pN) Z tu47 ti9 Z Z) fun v31=>z0p fun x32 h33=>Ef Z (apn 1106 Z Z Z (.own 1112 Z) h33 tu47 ti9 Z Z Z) fun v34=>Za Z<|z1o<|z30<|z0j<|z2b<|Zq (I.add Z Z)<|Zm Z<|z1o<|z1n (fun aa ww h=>⟨nvl [v34],Zu h [1,2,1106,1100,1001]⟩)
       ·
        refine z2t<|z30<|z0j<|z2b<|Zq (I.add Z Z)<|Zm Z<|z1o<|z1n (fun aa ww h=>⟨nvl [(n18 0)],Zu h [1,2,1106,1100,1001]⟩)
    ·
     refine z1z<|z11<|z13<|z7d (fun aa ww h=>⟨nvl [(n18 0)],Zu h [1106,1001]⟩)
   ·
    refine gEx fun n35=>gSR<|Zm Z<|Za Z<|Zb Z<|z0l<|Ze [(n35 0)] [1001,13] Z
def z4z (a0:List (List UInt8)) (a1:List (List UInt8)) (s3:Int):Option (Sum (Sum Bool Unit) Int) :=
 if decide (s3<(a0.length:Int)) then
  idx a0 s3 >>= fun x5 =>
  idx a1 s3 >>= fun x7 =>
  if x5 != x7 then
   some (.inl (.inl false))
  else
   some (.inr (w64 (s3+1)))
 else
  some (.inl (.inr ()))
def z6t (a0:List (List UInt8)) (a1:List (List UInt8)):Option (Bool) :=
 if (a0.length:Int) != (a1.length:Int) then
  some false
 else
  z73 (iter (z4z a0 a1) 0) fun s2 =>
  some true
theorem ze9 (a0:List (List UInt8)) (a1:List (List UInt8)):z1v Tryz.prog 29 [.rd (z03 z4s) a0,.rd (z03 z4s) a1] [] (z6t a0 a1) (fun r nv=>⟨[.rd z0b r],[]⟩):=by
 refine z2o 26 Tryz.func29 Z Z Z fun H w=>?_
 refine gSR<|Zb Z<|z0s<|gSR<|Zm Z<|Zq (z42 Z .rd Z tu47)<|Zm Z<|Zq (z42 Z .rd Z tu47)<|Zq (I.neq Z Z)<|Zj Z (fun h1=>?_) (fun h1=>?_)
 ·
  refine gSR<|Zb Z<|z0l<|z0v<|Ze [] [] Z
 ·
  refine Zt<|z9a (fun (s2:Unit) aa ww=>Sta (ctx 26 H [] w) [] [] aa ww) ?_ (fun s2=>?_)
  ·
   refine gSR<|Zb Z<|z2c (fun (s3:Int) aa ww=>Sta (ctx 26 H [] w) [(0,.rd (z03 z4s) a0),(1,.rd (z03 z4s) a1),(5,.rd z0c s3)] [] aa ww) (fun aa ww h=>Zu h []) (fun s3=>?_)
   refine z0s<|gSR<|Zm Z<|Zm Z<|Zq (z42 Z .rd Z tu47)<|Zq (I.lss Z Z)<|Zj Z (fun h4=>?_) (fun h4=>?_)
   ·
    refine Zt<|z0s<|z58<|z0s<|zfy mixed (by kernel_rfl)<|Rq Z (mv Z)<|Rq Z (mv Z)<|z6j fun x5 h6=>Rq Z (ixR Z Z h6 tu47 ti9 Z)<|Rq Z (ldR Z ty9)<|Rq Z (mv Z)<|Rq Z (mv Z)<|z6j fun x7 h8=>Rq Z (ixR Z Z h8 tu47 ti9 Z)<|Rq Z (ldR Z ty9)<|Rq Z (neS Z Z)<|zm7<|z0j<|gIf Z Z (fun h9=>?_) (fun h9=>?_)
    ·
     refine gSR<|Zb Z<|z0l<|z43<|z0v<|z8g<|z6y<|Ze [] [] Z
    ·
     refine z2t<|z30<|z0j<|z2b<|Zm Z<|Zq (I.add Z Z)<|Za Z<|z1o<|z1n (fun aa ww h=>Zu h [])
   ·
    refine z1z<|z11<|z13<|z7d (fun aa ww h=>Zu h [])
  ·
   refine gSR<|Zb Z<|z0l<|Ze [] [] Z
def z23 (a0:z00) (a1:z08) (a2:UInt64) (a3:List V3):Option (z00 × V3 × Bool) :=
 zcr 3 (⟨0,a3,a2,a1,(⟨0,0⟩:z0a)⟩:z06) >>= fun r5 =>
 zct a0 r5.1 >>= fun r8 =>
 if r5.2==0 then
  some (r8.1,r8.2.1,r8.2.2==0)
 else
  some (r8.1,r8.2.1,false)
end
section
open Go Go.RowKit
set_option maxRecDepth 100000
theorem z5s (a0:z00) (a1:z08) (a2:UInt64) (a3:List V3):z1v Tryz.prog 41 [.rd z01 a0,.rd z0g a1,.rd z2n a2,.rd (z03 aZ) a3] [zG1] (z23 a0 a1 a2 a3) (fun r nv=>⟨[.rd z01 r.1,.rd aZ r.2.1,.rd z0b r.2.2],[(1001,some (.bool true,.glob 1 (z2z 64 z0k) z56))]⟩):=by
 refine z2o 39 Tryz.func41 Z Z Z fun H w=>?_
 refine gSR<|Eb Z (bx 1 Z) fun v1=>Eb Z (bx 2 Z) fun v2=>Eb Z (z6n 3 zd9 (ZrE.nilS (ZrE.nilS ZrE.nil))) fun v3=>Eb Z (z6n 4 z3k (.zr (R:=aZ) (x:=(Vector.replicate 32 0)) zed)) fun v4=>Zb Z<|gSR<|Zm Z<|Zm Z<|Zq (ld 2 Z Z fH zyj Z)<|Zq (bld (x':=(⟨0,a3,a2,a1,(⟨0,0⟩:z0a)⟩:z06)) [(0,1),(1,1),(2,1),(3,6),(9,2)] Tryz.underlying72 zam Z zr72 Z (Bld.cons (z0z _) Z Z<|Bld.cons (z33 _) Z Z<|Bld.cons (z10 _) Z Z<|Bld.done Z))<|Zc [1001] [] Tryz.func34 Z (zlp _ _) fun r5 n6=>Zm Z<|Zq (ext Z Z)<|Zq (ext Z Z)<|Eb Z (z6n 5 zam (ZrE.rd (R:=z0k) (x:=0) (Zr.num Z) (ZrE.nilS (ZrE.rd (R:=z2n) (x:=0) (Zr.num Z) (ZrE.rd (R:=z0g) (x:=(⟨0,[],(⟨0,0,0,[]⟩:z02)⟩:z08)) zms (ZrE.rd (R:=z0x) (x:=(⟨0,0⟩:z0a)) zpb ZrE.nil Z) Z) Z)) Z)) fun v7=>zgr aZ [.rd z0k 0,.rd (z03 aZ) [],.rd z2n 0,.rd z0g (⟨0,[],(⟨0,0,0,[]⟩:z02)⟩:z08),.rd z0x (⟨0,0⟩:z0a)] 5 [.rd z0k 0] [.rd z2n 0,.rd z0g (⟨0,[],(⟨0,0,0,[]⟩:z02)⟩:z08),.rd z0x (⟨0,0⟩:z0a)] Z Z Z<|zio (R:=z04) (⟨0,[],0,(⟨0,[],(⟨0,0,0,[]⟩:z02)⟩:z08),(⟨0,0⟩:z0a)⟩:z06) 5 Z (Sp.via (Sp.prod (Sp.prod (Sp.prod (Sp.prod (Sp.prod Sp.unit))))))<|Es (sto 5 Z Z fH Z zam)<|Zb Z<|gSR<|Zq (ld 1 Z Z fH z9y Z)<|Zq (ld 5 Z Z fH ze3 Z)<|Zc [1001] [] Tryz.func35 Z (zlw _ _) fun r8 n9=>Zm Z<|Zq (ext Z Z)<|Zq (ext Z Z)<|Zq (ext Z Z)<|Eb Z (z6n 6 zd9 (ZrE.nilS (ZrE.nilS ZrE.nil))) fun v10=>Eb Z (z6n 7 z3k (.zr (R:=aZ) (x:=(Vector.replicate 32 0)) zed)) fun v11=>zgr aZ [.rd (z03 aZ) [],.val (.slice none 0 0)] 6 [] [.val (.slice none 0 0)] Z Z Z<|zgr z04 [.rd (z03 aZ) [],.rd (z03 z04) []] 6 [.rd (z03 aZ) []] [] Z Z Z<|zio (R:=z01) (⟨[],[]⟩:z00) 6 Z (Sp.via (Sp.prod (Sp.prod Sp.unit)))<|Es (sto 6 Z Z fH Z zd9)<|Es (sto 7 Z Z fH Z z3k)<|Zb Z<|z0s<|z8j [3,4] mixed Z Z<|hTk 0 Z Z (ld 6 Z Z fH z9y Z)<|hTk 1 Z Z (ld 7 Z Z fH z6o Z)<|hTk 2 Z Z (mv Z)<|hTk 3 Z Z (I.eql Z Z)<|hTk 4 Z Z (mv Z)<|hIf 35 Z Z (fun h12=>?_) (fun h12=>?_)
 ·
  refine hKn 34 Z Z h12<|Zg 5 Z Z (mv Z)<|Zg 6 Z Z (I.eql Z Z)<|hTk 7 Z Z (pkT Z Z)<|hPnl aZ [.rd (z03 aZ) [],.val (.slice none 0 0)] 3 [] [.val (.slice none 0 0)] Z Z Z<|hPnl z04 [.rd (z03 aZ) [],.rd (z03 z04) []] 3 [.rd (z03 aZ) []] [] Z Z Z<|hJoi (R:=z01) (⟨[],[]⟩:z00) 3 Z (Sp.via (Sp.prod (Sp.prod Sp.unit)))<|Zp 8 Z Z Z Z Z (sto 3 Z Z fH Z zd9)<|Zp 9 Z Z Z Z Z (sto 4 Z Z fH Z z3k)<|hTk 10 Z Z (asg Z)<|z3u (by kernel_rfl)<|z0j<|z0l<|zbw [] [1001] Z (eC 3 Z Z z9y<|eC 4 Z Z z6o<|eE Z<|eN) (y1 Z)
 ·
  refine hKn 34 Z Z h12<|hSk 5 Z Z<|hSk 6 Z Z<|hTk 7 Z Z (pkF Z Z)<|hPnl aZ [.rd (z03 aZ) [],.val (.slice none 0 0)] 3 [] [.val (.slice none 0 0)] Z Z Z<|hPnl z04 [.rd (z03 aZ) [],.rd (z03 z04) []] 3 [.rd (z03 aZ) []] [] Z Z Z<|hJoi (R:=z01) (⟨[],[]⟩:z00) 3 Z (Sp.via (Sp.prod (Sp.prod Sp.unit)))<|Zp 8 Z Z Z Z Z (sto 3 Z Z fH Z zd9)<|Zp 9 Z Z Z Z Z (sto 4 Z Z fH Z z3k)<|hTk 10 Z Z (asg Z)<|z3u (by kernel_rfl)<|z0j<|z0l<|zbw [] [1001] Z (eC 3 Z Z z9y<|eC 4 Z Z z6o<|eE Z<|eN) (y1 Z)
def z6a (a0:Int):Option (z02) :=
 some (⟨1,a0,0,[]⟩:z02)
theorem z8h (a0:Int):z1v Tryz.prog 43 [.rd z0c a0] [] (z6a a0) (fun r nv=>⟨[.rd z0t r],[]⟩):=by
 refine z2o 5 Tryz.func43 Z Z Z fun H w=>?_
 refine gSR<|Eb Z (z6n 1 zb9 (.zr (R:=z0t) (x:=(⟨0,0,0,[]⟩:z02)) zjx)) fun v1=>Zn<|gSR<|Zm Z<|Zq (bld (x':=(⟨1,a0,0,[]⟩:z02)) [(0,1),(1,1),(2,1),(3,1)] Tryz.underlying54 zb9 Z zjx Z (Bld.cons (z27 _) Z Z<|Bld.cons (z4f _) Z Z<|Bld.done Z))<|Es (sto 1 Z Z fH Z zb9)<|Zn<|z0l<|zbw [] [] Z (eC 1 Z Z zfg<|eN) (rN)
def z81 (a0:V3) (a1:V3):Option (Bool) :=
 z5w a0 a1 >>= fun r3 =>
 some (decide (r3<0)) >>= fun y5 =>
 some y5
theorem zfi (a0:V3) (a1:V3):z1v Tryz.prog 70 [.rd aZ a0,.rd aZ a1] [] (z81 a0 a1) (fun r nv=>⟨[.rd z0b r],[]⟩):=by
 refine z2o 9 Tryz.func70 Z Z Z fun H w=>?_
 refine gSR<|Eb Z (bx 1 Z) fun v1=>Eb Z (bx 2 Z) fun v2=>Zb Z<|gSR<|Zq (ld 1 Z Z fH z6o Z)<|Zq (ld 2 Z Z fH z6o Z)<|Zc [] [] Tryz.func85 Z (zcx _ _) fun r3 n4=>Zq (I.lss Z Z)<|Za Z<|z1t 4 Z fun y5=>Zn<|z0l<|Ze [] [] Z
def z3p (a0:z00) (a1:List UInt8) (a2:Bool) (a3:z02):Option (Bool) :=
 z2y a0 a1 >>= fun r3 =>
 if r3.2.2==0 then
  if r3.1==a2 then
   some (decide (r3.2.1=a3)) >>= fun y8 =>
   some y8
  else
   some false
 else
  some false
theorem z5m (a0:z00) (a1:List UInt8) (a2:Bool) (a3:z02):z1v Tryz.prog 42 [.rd z01 a0,.rd z4s a1,.rd z0b a2,.rd z0t a3] [zG1] (z3p a0 a1 a2 a3) (fun r nv=>⟨[.rd z0b r],[(1001,some (.bool true,.glob 1 (z2z 64 z0k) z56))]⟩):=by
 refine z2o 31 Tryz.func42 Z Z Z fun H w=>?_
 refine gSR<|Eb Z (bx 1 Z) fun v1=>Eb Z (bx 2 Z) fun v2=>Zb Z<|gSR<|Zq (ld 1 Z Z fH z9y Z)<|Zm Z<|Zc [1001] [] Tryz.func25 Z (zbl _ _) fun r3 n4=>Zm Z<|Zq (ext Z Z)<|Zq (ext Z Z)<|Zq (ext Z Z)<|Eb Z (z6n 3 zb9 (.zr (R:=z0t) (x:=(⟨0,0,0,[]⟩:z02)) zjx)) fun v5=>Za Z<|Es (sto 3 Z Z fH Z zb9)<|Zb Z<|gSR<|Zm Z<|Zq (I.eql Z Z)<|Zm Z<|z1q 21 Z (fun h6=>?_) (fun h6=>?_)
 ·
  refine lKn 20 Z h6<|z1h Zx Z Z (mv Z)<|z1h Zx Z Z (mv Z)<|z1h Zx Z Z (eqB Tryz.underlying4 Z Z)<|Zq (pkT Z Z)<|Zm Z<|z1q 26 Z (fun h7=>?_) (fun h7=>?_)
  ·
   refine lKn 24 Z h7<|lKn 25 Z h7<|z1h Zx Z Z (ld 3 Z Z fH zfg Z)<|z1h Zx Z Z (ld 2 Z Z fH zfg Z)<|z1h Zx Z Z (eqA Z Z zvt Z Z zxk)<|Zq (pkT Z Z)<|Za Z<|z1t 8 Z fun y8=>Zn<|z0l<|Ze [] [1001] Z
  ·
   refine lKn 24 Z h7<|lKn 25 Z h7<|Zk Z<|Zk Z<|Zk Z<|Zq (pkF Z Z)<|Zb Z<|z0l<|Ze [] [1001] Z
 ·
  refine lKn 20 Z h6<|Zk Z<|Zk Z<|Zk Z<|Zq (pkF Z Z)<|Zm Z<|Zk Z<|Zk Z<|Zk Z<|Zq (pkF Z Z)<|Zb Z<|z0l<|Ze [] [1001] Z
def z92  : Option (Bool) :=
 z23 (⟨[],[]⟩:z00) (⟨2,([97]:List UInt8),(⟨0,0,0,[]⟩:z02)⟩:z08) 1 [] >>= fun r3 =>
 z23 r3.1 (⟨3,([97]:List UInt8),(⟨0,0,0,[]⟩:z02)⟩:z08) 2 [] >>= fun r7 =>
 z23 r3.1 (⟨3,([97]:List UInt8),(⟨0,0,0,[]⟩:z02)⟩:z08) 2 [r3.2.1] >>= fun r12 =>
 z6s r3.1 >>= fun r16 =>
 z6a 1 >>= fun r18 =>
 z23 (⟨[],[]⟩:z00) (⟨4,([114]:List UInt8),r18⟩:z08) 7 [] >>= fun r20 =>
 z6a 2 >>= fun r24 =>
 z23 r20.1 (⟨4,([114]:List UInt8),r24⟩:z08) 7 [] >>= fun r27 =>
 (z81 r20.2.1 r27.2.1 >>= fun r32 =>
 if r32 then
  some 2
 else
  some 1) >>= fun s31 =>
 if r3.2.2 then
  if r7.2.2 then
   if r12.2.2 then
    if r16.2==0 then
     z6t r16.1 [([97]:List UInt8)] >>= fun r41 =>
     if r41 then
      z3p r3.1 ([97]:List UInt8) true (⟨0,0,0,[]⟩:z02) >>= fun r44 =>
      if r44 then
       z3p r7.1 ([97]:List UInt8) true (⟨0,0,0,[]⟩:z02) >>= fun r47 =>
       if r47 then
        z3p r12.1 ([97]:List UInt8) false (⟨0,0,0,[]⟩:z02) >>= fun r50 =>
        if r50 then
         if r20.2.2 then
          if r27.2.2 then
           z6a s31 >>= fun r55 =>
           z3p r27.1 ([114]:List UInt8) false r55 >>= fun r57 =>
           some r57
          else
           some false
         else
          some false
        else
         some false
       else
        some false
      else
       some false
     else
      some false
    else
     some false
   else
    some false
  else
   some false
 else
  some false
set_option maxHeartbeats 4000000 in
theorem zg6  : z1v Tryz.prog 30 [] [zG1] (z92) (fun r nv=>⟨[.rd z0b r],[(1001,some (.bool true,.glob 1 (z2z 64 z0k) z56))]⟩):=by
 refine z2o 113 Tryz.func30 Z Z Z fun H w=>?_
 refine gSR<|Zb Z<|gSR<|Zq (bld (x':=(⟨2,([97]:List UInt8),(⟨0,0,0,[]⟩:z02)⟩:z08)) [(0,1),(1,1),(2,4)] Tryz.underlying64 zfv Z zms Z (Bld.cons (z17 _) Z Z<|Bld.cons (z1g _) Z Z<|Bld.done Z))<|Zq (bld (x':=(⟨3,([97]:List UInt8),(⟨0,0,0,[]⟩:z02)⟩:z08)) [(0,1),(1,1),(2,4)] Tryz.underlying64 zfv Z zms Z (Bld.cons (z17 _) Z Z<|Bld.cons (z1g _) Z Z<|Bld.done Z))<|Eb Z (z6n 1 zfv (.zr (R:=z0g) (x:=(⟨0,[],(⟨0,0,0,[]⟩:z02)⟩:z08)) zms)) fun v1=>Eb Z (z6n 2 zfv (.zr (R:=z0g) (x:=(⟨0,[],(⟨0,0,0,[]⟩:z02)⟩:z08)) zms)) fun v2=>Es (sto 1 Z Z fH Z zfv)<|Es (sto 2 Z Z fH Z zfv)<|Zn<|gSR<|Zq (bld (x':=(⟨[],[]⟩:z00)) [(0,1),(1,1)] Tryz.underlying27 zd9 Z zr27 Z (Bld.done Z))<|Zq (ld 1 Z Z fH zyj Z)<|call [1001] [] Z Tryz.func41 Z Z (z5s _ _ _ _) (aQ Z<|aQ Z<|aQ Z<|aNil Z<|aN) (y1 Z) fun r3 n4=>Zm Z<|Zq (ext Z Z)<|Zq (ext Z Z)<|Zq (ext Z Z)<|Eb Z (z6n 3 zd9 (ZrE.nilS (ZrE.nilS ZrE.nil))) fun v5=>Eb Z (z6n 4 z3k (.zr (R:=aZ) (x:=(Vector.replicate 32 0)) zed)) fun v6=>zgr aZ [.rd (z03 aZ) [],.val (.slice none 0 0)] 3 [] [.val (.slice none 0 0)] Z Z Z<|zgr z04 [.rd (z03 aZ) [],.rd (z03 z04) []] 3 [.rd (z03 aZ) []] [] Z Z Z<|zio (R:=z01) (⟨[],[]⟩:z00) 3 Z (Sp.via (Sp.prod (Sp.prod Sp.unit)))<|Es (sto 3 Z Z fH Z zd9)<|Es (sto 4 Z Z fH Z z3k)<|Zb Z<|gSR<|Zq (ld 3 Z Z fH z9y Z)<|Zq (ld 2 Z Z fH zyj Z)<|call [1001] [] Z Tryz.func41 Z Z (z5s _ _ _ _) (aQ Z<|aQ Z<|aQ Z<|aNil Z<|aN) (y1 Z) fun r7 n8=>Zm Z<|Zq (ext Z Z)<|Zq (ext Z Z)<|Zq (ext Z Z)<|Eb Z (z6n 5 zd9 (ZrE.nilS (ZrE.nilS ZrE.nil))) fun v9=>Eb Z (z6n 6 z3k (.zr (R:=aZ) (x:=(Vector.replicate 32 0)) zed)) fun v10=>zgr aZ [.rd (z03 aZ) [],.val (.slice none 0 0)] 5 [] [.val (.slice none 0 0)] Z Z Z<|zgr z04 [.rd (z03 aZ) [],.rd (z03 z04) []] 5 [.rd (z03 aZ) []] [] Z Z Z<|zio (R:=z01) (⟨[],[]⟩:z00) 5 Z (Sp.via (Sp.prod (Sp.prod Sp.unit)))<|Es (sto 5 Z Z fH Z zd9)<|Es (sto 6 Z Z fH Z z3k)<|Zb Z<|gSR<|Zq (ld 3 Z Z fH z9y Z)<|Zq (ld 2 Z Z fH zyj Z)<|Zq (ld 4 Z Z fH z6o Z)<|Ef Z (lit (R:=aZ) ([r3.2.1]:List V3) 7 (pP Z Z<|pN) Z tu24 z3k Z Z) fun v11=>ziw 7 [41] Z (fS Z<|fN)<|Zc [1001] [] Tryz.func41 Z (z5s _ _ _ _) fun r12 n13=>Zm Z<|Zq (ext Z Z)<|Zq (ext Z Z)<|Zq (ext Z Z)<|Eb Z (z6n 8 zd9 (ZrE.nilS (ZrE.nilS ZrE.nil))) fun v14=>Eb Z (z6n 9 z3k (.zr (R:=aZ) (x:=(Vector.replicate 32 0)) zed)) fun v15=>zgr aZ [.rd (z03 aZ) [],.val (.slice none 0 0)] 8 [] [.val (.slice none 0 0)] Z Z Z<|zgr z04 [.rd (z03 aZ) [],.rd (z03 z04) []] 8 [.rd (z03 aZ) []] [] Z Z Z<|zio (R:=z01) (⟨[],[]⟩:z00) 8 Z (Sp.via (Sp.prod (Sp.prod Sp.unit)))<|Es (sto 8 Z Z fH Z zd9)<|Es (sto 9 Z Z fH Z z3k)<|Zb Z<|gSR<|Zq (ld 3 Z Z fH z9y Z)<|Zc [1001] [(100,10)] Tryz.func23 Z (zak _) fun r16 n17=>Zm Z<|Zq (ext Z Z)<|Zq (ext Z Z)<|Za Z<|Zb Z<|gSR<|Zq (bld (x':=(⟨[],[]⟩:z00)) [(0,1),(1,1)] Tryz.underlying27 zd9 Z zr27 Z (Bld.done Z))<|Zc [] [] Tryz.func43 Z (z8h _) fun r18 n19=>Zq (bld (x':=(⟨4,([114]:List UInt8),r18⟩:z08)) [(0,1),(1,1),(2,4)] Tryz.underlying64 zfv Z zms Z (Bld.cons (z17 _) Z Z<|Bld.cons (z1g _) Z Z<|Bld.cons (z2h _) Z Z<|Bld.done Z))<|call [1001] [] Z Tryz.func41 Z Z (z5s _ _ _ _) (aQ Z<|aQ Z<|aQ Z<|aNil Z<|aN) (y1 Z) fun r20 n21=>Zm Z<|Zq (ext Z Z)<|Zq (ext Z Z)<|Zq (ext Z Z)<|Eb Z (z6n 11 zd9 (ZrE.nilS (ZrE.nilS ZrE.nil))) fun v22=>Eb Z (z6n 12 z3k (.zr (R:=aZ) (x:=(Vector.replicate 32 0)) zed)) fun v23=>zgr aZ [.rd (z03 aZ) [],.val (.slice none 0 0)] 11 [] [.val (.slice none 0 0)] Z Z Z<|zgr z04 [.rd (z03 aZ) [],.rd (z03 z04) []] 11 [.rd (z03 aZ) []] [] Z Z Z<|zio (R:=z01) (⟨[],[]⟩:z00) 11 Z (Sp.via (Sp.prod (Sp.prod Sp.unit)))<|Es (sto 11 Z Z fH Z zd9)<|Es (sto 12 Z Z fH Z z3k)<|Zb Z<|z0s<|zx6 [(3,.val (z05 v5 0)),(5,.rd z0b r3.2.2),(6,.val (z05 v9 0)),(8,.rd z0b r7.2.2),(9,.val (z05 v14 0)),(11,.rd z0b r12.2.2),(12,.val (n17 0)),(13,.rd z0c r16.2),(14,.val (z05 v22 0)),(15,.val (z05 v23 0)),(16,.rd z0b r20.2.2)] [zG1,(1,some (v1,.box 64 [.rd z0g (⟨2,([97]:List UInt8),(⟨0,0,0,[]⟩:z02)⟩:z08)])),(2,some (v2,.box 64 [.rd z0g (⟨3,([97]:List UInt8),(⟨0,0,0,[]⟩:z02)⟩:z08)])),(3,some (v5,.box 27 [.rd z01 r3.1])),(4,some (v6,.box 78 [.rd aZ r3.2.1])),(5,some (v9,.box 27 [.rd z01 r7.1])),(6,some (v10,.box 78 [.rd aZ r7.2.1])),(8,some (v14,.box 27 [.rd z01 r12.1])),(9,some (v15,.box 78 [.rd aZ r12.2.1])),(10,some ((n17 0),.list z4s 9 r16.1)),(11,some (v22,.box 27 [.rd z01 r20.1])),(12,some (v23,.box 78 [.rd aZ r20.2.1]))] [1001,1,2,3,4,5,6,8,9,10,11,12] (Zs Z Z Z Z<|Zs Z Z Z Z<|sS Z<|sS Z<|sS Z<|sN) (Zi Z<|Zi Z<|Zi Z<|Zi Z<|Zi Z<|Zi Z<|Zi Z<|Zi Z<|Zi Z<|Zi Z<|Zi Z<|Zi Z<|rN)<|z98 fun r24 h26=>z98 fun r27 h29=>gOr [] [⟨11,some ([], fun nv=>(v22,.box 27 [.rd z01 r20.1])),[]⟩,⟨1001,some ([], fun nv=>((.bool true),.glob 1 (z2z 64 z0k) z56)),[]⟩,⟨13,none,[(8,some ([1], fun nv=>((nv 1),.box 27 [.rd z01 (⟨[],[]⟩:z00)]))),(10,some ([1], fun nv=>((nv 1),.box 27 [.rd z01 r27.1])))]⟩,⟨14,none,[(9,some ([2], fun nv=>((nv 2),.box 78 [.rd aZ (Vector.replicate 32 0)]))),(11,some ([2], fun nv=>((nv 2),.box 78 [.rd aZ r27.2.1])))]⟩] [pk 60 (.rd z01 r20.1) [(0,0,false)],pd 61 (.rd z0t r24),pd 62 (.rd z0g (⟨4,([114]:List UInt8),r24⟩:z08)),pk 63 (.tup [.rd z01 r27.1,.rd aZ r27.2.1,.rd z0b r27.2.2]) [(1,0,false)],pd 59 (.tup [.rd z01 r27.1,.rd aZ r27.2.1,.rd z0b r27.2.2]),pd 64 (.rd z01 r27.1),pd 65 (.rd aZ r27.2.1),pd 66 (.rd z0b r27.2.2),⟨some (17,[1], fun nv=>.val (z05 (nv 1) 0)),[(2,0,true)],[1],[]⟩,⟨some (18,[2], fun nv=>.val (z05 (nv 2) 0)),[(3,0,true)],[2],[]⟩,⟨none,[(2,1,true)],[],[]⟩,⟨none,[(3,1,true)],[],[]⟩,pd 19 (.rd z0b r27.2.2)] mixed (oC (oRn (fun nv E=>ld 11 Z Z fH z9y Z))<|oC (oCl [] [] [] h26 Tryz.func43 Z (fun nv=>(z8h _)) (fun nv=>(Y1 Z)) (fun nv E=>rN))<|oC (oRn (fun nv E=>bld (x':=(⟨4,([114]:List UInt8),r24⟩:z08)) [(0,1),(1,1),(2,4)] Tryz.underlying64 zfv Z zms Z (Bld.cons (z17 _) Z Z<|Bld.cons (z1g _) Z Z<|Bld.cons (z2h _) Z Z<|Bld.done Z)))<|oC (oCl [] [1001] [] h29 Tryz.func41 Z (fun nv=>(z5s _ _ _ _)) (fun nv=>(aQ Z<|aQ Z<|aQ Z<|aNil Z<|aN)) (fun nv E=>(y1 Z)))<|oC (oRn (fun nv E=>mv Z))<|oC (oRn (fun nv E=>ext Z Z))<|oC (oRn (fun nv E=>ext Z Z))<|oC (oRn (fun nv E=>ext Z Z))<|oC (oEb 13 1 (fun nv E=>z6n 13 zd9 (.zr (R:=z01) (x:=(⟨[],[]⟩:z00)) zr27)))<|oC (oEb 14 2 (fun nv E=>z6n 14 z3k (.zr (R:=aZ) (x:=(Vector.replicate 32 0)) zed)))<|oC (oEs 13 (fun nv E=>sto 13 Z Z fH Z zd9))<|oC (oEs 14 (fun nv E=>sto 14 Z Z fH Z z3k))<|oC (oRn (fun nv E=>asg Z))<|oN) fun n30=>z0j<|gSR<|Zb Z<|z7l (fun (s31:Int) aa ww=>∃ nv:Nat→Value,Sta (ctx 113 H [zG1] w) [(3,.val (z05 v5 0)),(5,.rd z0b r3.2.2),(6,.val (z05 v9 0)),(8,.rd z0b r7.2.2),(9,.val (z05 v14 0)),(11,.rd z0b r12.2.2),(12,.val (n17 0)),(13,.rd z0c r16.2),(16,.rd z0b r20.2.2),(17,.val (z05 (nv 0) 0)),(19,.rd z0b r27.2.2),(20,.rd z0c s31)] [(3,some (v5,.box 27 [.rd z01 r3.1])),(5,some (v9,.box 27 [.rd z01 r7.1])),(8,some (v14,.box 27 [.rd z01 r12.1])),(10,some ((n17 0),.list z4s 9 r16.1)),(13,some ((nv 0),.box 27 [.rd z01 r27.1])),zG1] aa ww) ?_ (fun s31=>?_)
 ·
  refine gSR<|Zq (ld 12 Z Z fH z6o Z)<|Zq (ld 14 Z Z fH z6o Z)<|Zc [] [] Tryz.func70 Z (zfi _ _) fun r32 n33=>Zj Z (fun h34=>?_) (fun h34=>?_)
  ·
   refine z2b<|Za Z<|z1o<|z3c (fun aa ww h=>⟨nvl [(n30 1)],Zu h [3,5,8,10,13,1001]⟩)
  ·
   refine z2t<|z3c (fun aa ww h=>⟨nvl [(n30 1)],Zu h [3,5,8,10,13,1001]⟩)
 ·
  refine gEx fun n35=>z0s<|z8j [1001,1041] mixed Z Z<|hTk 0 Z Z (mv Z)<|hTk 1 Z Z (mv Z)<|hIf 71 Z Z (fun h36=>?_) (fun h36=>?_)
  ·
   refine hKn 5 Z Z h36<|hKn 70 Z Z h36<|Zg 2 Z Z (mv Z)<|hTk 3 Z Z (pkT Z Z)<|hTk 4 Z Z (mv Z)<|hIf 74 Z Z (fun h37=>?_) (fun h37=>?_)
   ·
    refine hKn 8 Z Z h37<|hKn 72 Z Z h37<|hKn 73 Z Z h37<|Zg 5 Z Z (mv Z)<|hTk 6 Z Z (pkT Z Z)<|hTk 7 Z Z (mv Z)<|hIf 77 Z Z (fun h38=>?_) (fun h38=>?_)
    ·
     refine hKn 11 Z Z h38<|hKn 75 Z Z h38<|hKn 76 Z Z h38<|Zg 8 Z Z (mv Z)<|Zg 9 Z Z (I.eql Z Z)<|hTk 10 Z Z (pkT Z Z)<|hTk 11 Z Z (mv Z)<|hIf 81 Z Z (fun h39=>?_) (fun h39=>?_)
     ·
      refine hKn 79 Z Z h39<|hKn 80 Z Z h39<|Zg 12 Z Z (mv Z)<|hDo 13 Z (by kernel_rfl) Zx Z Z Z (lit (R:=z4s) ([([97]:List UInt8)]:List (List UInt8)) 1041 (pP Z Z<|pN) Z tu47 ti9 Z Z) (fun _=>rfl) fun v40=>zzw 10 [12,82] Z (fS Z<|fS Z<|fN)<|zzw 1041 [83] Z (fS Z<|fN)<|z3n 14 [] [] Z (by kernel_rfl) Z Zx Z Tryz.func29 Z Z (ze9 _ _) (Y2 Z Z) rN Z (fun _ _=>z9s) fun r41 n42=>hTk 15 Z Z (pkT Z Z)<|hTk 16 Z Z (mv Z)<|hIf 86 Z Z (fun h43=>?_) (fun h43=>?_)
      ·
       refine hKn 84 Z Z h43<|hKn 85 Z Z h43<|Zg 17 Z Z (ld 3 Z Z fH z9y Z)<|Zg 18 Z Z (bld (x':=(⟨0,0,0,[]⟩:z02)) [(0,1),(1,1),(2,1),(3,1)] Tryz.underlying54 zb9 Z zjx Z (Bld.done Z))<|z3n 19 [1001] [] Z (by kernel_rfl) Z Zx Z Tryz.func42 Z Z (z5m _ _ _ _) (aQ Z<|aQ Z<|aQ Z<|aQ Z<|aN) (y1 Z) Z (fun _ _=>z9s) fun r44 n45=>hTk 20 Z Z (pkT Z Z)<|hTk 21 Z Z (mv Z)<|hIf 91 Z Z (fun h46=>?_) (fun h46=>?_)
       ·
        refine hKn 89 Z Z h46<|hKn 90 Z Z h46<|Zg 22 Z Z (ld 5 Z Z fH z9y Z)<|Zg 23 Z Z (bld (x':=(⟨0,0,0,[]⟩:z02)) [(0,1),(1,1),(2,1),(3,1)] Tryz.underlying54 zb9 Z zjx Z (Bld.done Z))<|z3n 24 [1001] [] Z (by kernel_rfl) Z Zx Z Tryz.func42 Z Z (z5m _ _ _ _) (aQ Z<|aQ Z<|aQ Z<|aQ Z<|aN) (y1 Z) Z (fun _ _=>z9s) fun r47 n48=>hTk 25 Z Z (pkT Z Z)<|hTk 26 Z Z (mv Z)<|hIf 96 Z Z (fun h49=>?_) (fun h49=>?_)
        ·
         refine hKn 94 Z Z h49<|hKn 95 Z Z h49<|Zg 27 Z Z (ld 8 Z Z fH z9y Z)<|Zg 28 Z Z (bld (x':=(⟨0,0,0,[]⟩:z02)) [(0,1),(1,1),(2,1),(3,1)] Tryz.underlying54 zb9 Z zjx Z (Bld.done Z))<|z3n 29 [1001] [] Z (by kernel_rfl) Z Zx Z Tryz.func42 Z Z (z5m _ _ _ _) (aQ Z<|aQ Z<|aQ Z<|aQ Z<|aN) (y1 Z) Z (fun _ _=>z9s) fun r50 n51=>hTk 30 Z Z (pkT Z Z)<|hTk 31 Z Z (mv Z)<|hIf 101 Z Z (fun h52=>?_) (fun h52=>?_)
         ·
          refine hKn 99 Z Z h52<|hKn 100 Z Z h52<|Zg 32 Z Z (mv Z)<|hTk 33 Z Z (pkT Z Z)<|hTk 34 Z Z (mv Z)<|hIf 104 Z Z (fun h53=>?_) (fun h53=>?_)
          ·
           refine hKn 16 Z Z h53<|hKn 102 Z Z h53<|hKn 103 Z Z h53<|Zg 35 Z Z (mv Z)<|hTk 36 Z Z (pkT Z Z)<|hTk 37 Z Z (mv Z)<|hIf 107 Z Z (fun h54=>?_) (fun h54=>?_)
           ·
            refine hKn 19 Z Z h54<|hKn 105 Z Z h54<|hKn 106 Z Z h54<|Zg 38 Z Z (ld 13 Z Z fH z9y Z)<|Zg 39 Z Z (mv Z)<|zwo 40 [] [] Z (by kernel_rfl) Z Zx Z Tryz.func43 Z Z (z8h _) (Y1 Z) rN Z fun r55 n56=>z3n 41 [1001] [] Z (by kernel_rfl) Z Zx Z Tryz.func42 Z Z (z5m _ _ _ _) (aQ Z<|aQ Z<|aQ Z<|aQ Z<|aN) (y1 Z) Z (fun _ _=>z9s) fun r57 n58=>hTk 42 Z Z (pkT Z Z)<|hTk 43 Z Z (asg Z)<|z3u (by kernel_rfl)<|z0j<|z0l<|Ze [] [1001] Z
           ·
            refine hKn 19 Z Z h54<|hKn 105 Z Z h54<|hKn 106 Z Z h54<|hSk 38 Z Z<|hSk 39 Z Z<|hSk 40 Z Z<|hSk 41 Z Z<|hTk 42 Z Z (pkF Z Z)<|hTk 43 Z Z (asg Z)<|z3u (by kernel_rfl)<|z0j<|z0l<|Ze [] [1001] Z
          ·
           refine hKn 16 Z Z h53<|hKn 102 Z Z h53<|hKn 103 Z Z h53<|hSk 35 Z Z<|hTk 36 Z Z (pkF Z Z)<|hTk 37 Z Z (mv Z)<|hSk 38 Z Z<|hSk 39 Z Z<|hSk 40 Z Z<|hSk 41 Z Z<|hTk 42 Z Z (pkF Z Z)<|hTk 43 Z Z (asg Z)<|z3u (by kernel_rfl)<|z0j<|z0l<|Ze [] [1001] Z
         ·
          refine hKn 99 Z Z h52<|hKn 100 Z Z h52<|hSk 32 Z Z<|hTk 33 Z Z (pkF Z Z)<|hTk 34 Z Z (mv Z)<|hSk 35 Z Z<|hTk 36 Z Z (pkF Z Z)<|hTk 37 Z Z (mv Z)<|hSk 38 Z Z<|hSk 39 Z Z<|hSk 40 Z Z<|hSk 41 Z Z<|hTk 42 Z Z (pkF Z Z)<|hTk 43 Z Z (asg Z)<|z3u (by kernel_rfl)<|z0j<|z0l<|Ze [] [1001] Z
        ·
         refine hKn 94 Z Z h49<|hKn 95 Z Z h49<|hSk 27 Z Z<|hSk 28 Z Z<|hSk 29 Z Z<|hTk 30 Z Z (pkF Z Z)<|hTk 31 Z Z (mv Z)<|hSk 32 Z Z<|hTk 33 Z Z (pkF Z Z)<|hTk 34 Z Z (mv Z)<|hSk 35 Z Z<|hTk 36 Z Z (pkF Z Z)<|hTk 37 Z Z (mv Z)<|hSk 38 Z Z<|hSk 39 Z Z<|hSk 40 Z Z<|hSk 41 Z Z<|hTk 42 Z Z (pkF Z Z)<|hTk 43 Z Z (asg Z)<|z3u (by kernel_rfl)<|z0j<|z0l<|Ze [] [1001] Z
       ·
        refine hKn 89 Z Z h46<|hKn 90 Z Z h46<|hSk 22 Z Z<|hSk 23 Z Z<|hSk 24 Z Z<|hTk 25 Z Z (pkF Z Z)<|hTk 26 Z Z (mv Z)<|hSk 27 Z Z<|hSk 28 Z Z<|hSk 29 Z Z<|hTk 30 Z Z (pkF Z Z)<|hTk 31 Z Z (mv Z)<|hSk 32 Z Z<|hTk 33 Z Z (pkF Z Z)<|hTk 34 Z Z (mv Z)<|hSk 35 Z Z<|hTk 36 Z Z (pkF Z Z)<|hTk 37 Z Z (mv Z)<|hSk 38 Z Z<|hSk 39 Z Z<|hSk 40 Z Z<|hSk 41 Z Z<|hTk 42 Z Z (pkF Z Z)<|hTk 43 Z Z (asg Z)<|z3u (by kernel_rfl)<|z0j<|z0l<|Ze [] [1001] Z
      ·
       refine hKn 84 Z Z h43<|hKn 85 Z Z h43<|hSk 17 Z Z<|hSk 18 Z Z<|hSk 19 Z Z<|hTk 20 Z Z (pkF Z Z)<|hTk 21 Z Z (mv Z)<|hSk 22 Z Z<|hSk 23 Z Z<|hSk 24 Z Z<|hTk 25 Z Z (pkF Z Z)<|hTk 26 Z Z (mv Z)<|hSk 27 Z Z<|hSk 28 Z Z<|hSk 29 Z Z<|hTk 30 Z Z (pkF Z Z)<|hTk 31 Z Z (mv Z)<|hSk 32 Z Z<|hTk 33 Z Z (pkF Z Z)<|hTk 34 Z Z (mv Z)<|hSk 35 Z Z<|hTk 36 Z Z (pkF Z Z)<|hTk 37 Z Z (mv Z)<|hSk 38 Z Z<|hSk 39 Z Z<|hSk 40 Z Z<|hSk 41 Z Z<|hTk 42 Z Z (pkF Z Z)<|hTk 43 Z Z (asg Z)<|z3u (by kernel_rfl)<|z0j<|z0l<|Ze [] [1001] Z
     ·
      refine hKn 79 Z Z h39<|hKn 80 Z Z h39<|hSk 12 Z Z<|hSk 13 Z Z<|hSk 14 Z Z<|hTk 15 Z Z (pkF Z Z)<|hTk 16 Z Z (mv Z)<|hSk 17 Z Z<|hSk 18 Z Z<|hSk 19 Z Z<|hTk 20 Z Z (pkF Z Z)<|hTk 21 Z Z (mv Z)<|hSk 22 Z Z<|hSk 23 Z Z<|hSk 24 Z Z<|hTk 25 Z Z (pkF Z Z)<|hTk 26 Z Z (mv Z)<|hSk 27 Z Z<|hSk 28 Z Z<|hSk 29 Z Z<|hTk 30 Z Z (pkF Z Z)<|hTk 31 Z Z (mv Z)<|hSk 32 Z Z<|hTk 33 Z Z (pkF Z Z)<|hTk 34 Z Z (mv Z)<|hSk 35 Z Z<|hTk 36 Z Z (pkF Z Z)<|hTk 37 Z Z (mv Z)<|hSk 38 Z Z<|hSk 39 Z Z<|hSk 40 Z Z<|hSk 41 Z Z<|hTk 42 Z Z (pkF Z Z)<|hTk 43 Z Z (asg Z)<|z3u (by kernel_rfl)<|z0j<|z0l<|Ze [] [1001] Z
    ·
     refine hKn 11 Z Z h38<|hKn 75 Z Z h38<|hKn 76 Z Z h38<|hSk 8 Z Z<|hSk 9 Z Z<|hTk 10 Z Z (pkF Z Z)<|hTk 11 Z Z (mv Z)<|hSk 12 Z Z<|hSk 13 Z Z<|hSk 14 Z Z<|hTk 15 Z Z (pkF Z Z)<|hTk 16 Z Z (mv Z)<|hSk 17 Z Z<|hSk 18 Z Z<|hSk 19 Z Z<|hTk 20 Z Z (pkF Z Z)<|hTk 21 Z Z (mv Z)<|hSk 22 Z Z<|hSk 23 Z Z<|hSk 24 Z Z<|hTk 25 Z Z (pkF Z Z)<|hTk 26 Z Z (mv Z)<|hSk 27 Z Z<|hSk 28 Z Z<|hSk 29 Z Z<|hTk 30 Z Z (pkF Z Z)<|hTk 31 Z Z (mv Z)<|hSk 32 Z Z<|hTk 33 Z Z (pkF Z Z)<|hTk 34 Z Z (mv Z)<|hSk 35 Z Z<|hTk 36 Z Z (pkF Z Z)<|hTk 37 Z Z (mv Z)<|hSk 38 Z Z<|hSk 39 Z Z<|hSk 40 Z Z<|hSk 41 Z Z<|hTk 42 Z Z (pkF Z Z)<|hTk 43 Z Z (asg Z)<|z3u (by kernel_rfl)<|z0j<|z0l<|Ze [] [1001] Z
   ·
    refine hKn 8 Z Z h37<|hKn 72 Z Z h37<|hKn 73 Z Z h37<|hSk 5 Z Z<|hTk 6 Z Z (pkF Z Z)<|hTk 7 Z Z (mv Z)<|hSk 8 Z Z<|hSk 9 Z Z<|hTk 10 Z Z (pkF Z Z)<|hTk 11 Z Z (mv Z)<|hSk 12 Z Z<|hSk 13 Z Z<|hSk 14 Z Z<|hTk 15 Z Z (pkF Z Z)<|hTk 16 Z Z (mv Z)<|hSk 17 Z Z<|hSk 18 Z Z<|hSk 19 Z Z<|hTk 20 Z Z (pkF Z Z)<|hTk 21 Z Z (mv Z)<|hSk 22 Z Z<|hSk 23 Z Z<|hSk 24 Z Z<|hTk 25 Z Z (pkF Z Z)<|hTk 26 Z Z (mv Z)<|hSk 27 Z Z<|hSk 28 Z Z<|hSk 29 Z Z<|hTk 30 Z Z (pkF Z Z)<|hTk 31 Z Z (mv Z)<|hSk 32 Z Z<|hTk 33 Z Z (pkF Z Z)<|hTk 34 Z Z (mv Z)<|hSk 35 Z Z<|hTk 36 Z Z (pkF Z Z)<|hTk 37 Z Z (mv Z)<|hSk 38 Z Z<|hSk 39 Z Z<|hSk 40 Z Z<|hSk 41 Z Z<|hTk 42 Z Z (pkF Z Z)<|hTk 43 Z Z (asg Z)<|z3u (by kernel_rfl)<|z0j<|z0l<|Ze [] [1001] Z
  ·
   refine hKn 5 Z Z h36<|hKn 70 Z Z h36<|hSk 2 Z Z<|hTk 3 Z Z (pkF Z Z)<|hTk 4 Z Z (mv Z)<|hSk 5 Z Z<|hTk 6 Z Z (pkF Z Z)<|hTk 7 Z Z (mv Z)<|hSk 8 Z Z<|hSk 9 Z Z<|hTk 10 Z Z (pkF Z Z)<|hTk 11 Z Z (mv Z)<|hSk 12 Z Z<|hSk 13 Z Z<|hSk 14 Z Z<|hTk 15 Z Z (pkF Z Z)<|hTk 16 Z Z (mv Z)<|hSk 17 Z Z<|hSk 18 Z Z<|hSk 19 Z Z<|hTk 20 Z Z (pkF Z Z)<|hTk 21 Z Z (mv Z)<|hSk 22 Z Z<|hSk 23 Z Z<|hSk 24 Z Z<|hTk 25 Z Z (pkF Z Z)<|hTk 26 Z Z (mv Z)<|hSk 27 Z Z<|hSk 28 Z Z<|hSk 29 Z Z<|hTk 30 Z Z (pkF Z Z)<|hTk 31 Z Z (mv Z)<|hSk 32 Z Z<|hTk 33 Z Z (pkF Z Z)<|hTk 34 Z Z (mv Z)<|hSk 35 Z Z<|hTk 36 Z Z (pkF Z Z)<|hTk 37 Z Z (mv Z)<|hSk 38 Z Z<|hSk 39 Z Z<|hSk 40 Z Z<|hSk 41 Z Z<|hTk 42 Z Z (pkF Z Z)<|hTk 43 Z Z (asg Z)<|z3u (by kernel_rfl)<|z0j<|z0l<|Ze [] [1001] Z
def z70 (a0:z00) (a1:z08) (a2:UInt64) (a3:UInt32):Option (Bool) :=
 z92 >>= fun r3 =>
 (z8x [a0] >>= fun r7 =>
 if r7 then
  some true
 else
  z79 a0 >>= fun r10 =>
  if r10 != 0 then
   some true
  else
   z4e (⟨0,[],0,a1,(⟨0,0⟩:z0a)⟩:z06) >>= fun r13 =>
   if r13 then
    some true
   else
    some (!r3)) >>= fun s5 =>
 if s5 then
  some r3
 else
  za9 a0 >>= fun r17 =>
  if r17.2 != 0 then
   some false
  else
   cut r17.1 0 (min (r17.1.length:Int) 4) >>= fun x20 =>
   zcr a3 (⟨0,x20,a2,a1,(⟨0,0⟩:z0a)⟩:z06) >>= fun r22 =>
   if r22.2 != 0 then
    some r3
   else
    zct a0 r22.1 >>= fun r27 =>
    if r27.2.2 != 0 then
     (if r3 then
      if r27.2.2==14 then
       some true
      else
       some (r27.2.2==18) >>= fun y35 =>
       some y35
     else
      some false) >>= fun s32 =>
     some s32
    else
     z9w a0 r27.1 >>= fun r36 =>
     z73 (if r36.2 != 0 then
      some (.inl false)
     else
      if decide (1<(r36.1.length:Int)) then
       some (.inl false)
      else
       if (r36.1.length:Int)==1 then
        if a1.Kind==1 then
         some (.inl false)
        else
         idx r36.1 0 >>= fun x43 =>
         if x43 != a1.Key then
          some (.inl false)
         else
          some (.inr ())
       else
        some (.inr ())) fun s38 =>
     z2y r27.1 a1.Key >>= fun r46 =>
     z2y a0 a1.Key >>= fun r49 =>
     if r46.2.2 != 0 then
      some false
     else
      if r49.2.2 != 0 then
       some false
      else
       if a1.Kind==2 then
        (if r3 then
         if r46.1 then
          some (decide (r46.2.1=r49.2.1)) >>= fun y58 =>
          some y58
         else
          some false
        else
         some false) >>= fun s55 =>
        some s55
       else
        if a1.Kind==3 then
         (if r3 then
          if decide (r46.2.1=r49.2.1) then
           if !r46.1 then
            some true
           else
            if r49.1 then
             some (decide (4<(r17.1.length:Int))) >>= fun y65 =>
             some y65
            else
             some false
          else
           some false
         else
          some false) >>= fun s60 =>
         some s60
        else
         if a1.Kind==4 then
          (if r3 then
           if r46.1==r49.1 then
            if decide (r46.2.1=a1.Value) then
             some true
            else
             some (decide (r46.2.1=r49.2.1)) >>= fun y71 =>
             some y71
           else
            some false
          else
           some false) >>= fun s67 =>
          some s67
         else
          if r3 then
           if r46.1==r49.1 then
            some (decide (r46.2.1=r49.2.1)) >>= fun y74 =>
            some y74
           else
            some false
          else
           some false
end
section
open Go Go.RowKit
set_option maxRecDepth 100000
set_option maxHeartbeats 4000000 in
theorem zbx (a0:z00) (a1:z08) (a2:UInt64) (a3:UInt32):z1v Tryz.prog 5 [.rd z01 a0,.rd z0g a1,.rd z2n a2,.rd z0k a3] [zG1] (z70 a0 a1 a2 a3) (fun r nv=>⟨[.rd z0b r],[(1001,some (.bool true,.glob 1 (z2z 64 z0k) z56))]⟩):=by
 refine z2o 201 Tryz.func5 Z Z Z fun H w=>?_
 refine gSR<|Eb Z (bx 1 Z) fun v1=>Eb Z (bx 2 Z) fun v2=>Zb Z<|gSR<|Zc [1001] [] Tryz.func30 Z (zg6) fun r3 n4=>Zb Z<|z0s<|z7l (fun (s5:Bool) aa ww=>Sta (ctx 201 H [zG1] w) [(2,.rd z2n a2),(3,.rd z0k a3),(4,.val (z05 v1 0)),(5,.val (z05 v2 0)),(9,.rd z0b r3),(42,.rd z0b s5)] [(1,some (v1,.box 27 [.rd z01 a0])),(2,some (v2,.box 64 [.rd z0g a1])),zG1] aa ww) ?_ (fun s5=>?_)
 ·
  refine z2b<|Zq (ld 1 Z Z fH z9y Z)<|Ef Z (lit (R:=z01) ([a0]:List z00) 1100 (pP Z Z<|pN) Z tu22 zd9 Z Z) fun v6=>ziw 1100 [27] Z (fS Z<|fN)<|Zc [] [] Tryz.func9 Z (zgh _) fun r7 n8=>Zm Z<|z1q 29 Z (fun h9=>?_) (fun h9=>?_)
  ·
   refine lKn 28 Z h9<|Zk Z<|Zk Z<|Zk Z<|Zq (pkT Z Z)<|Zm Z<|Zk Z<|Zk Z<|Zk Z<|Zq (pkT Z Z)<|Zm Z<|Zk Z<|Zk Z<|Zq (pkT Z Z)<|z1o<|z3c (fun aa ww h=>Zu h [1,2,1001])
  ·
   refine lKn 28 Z h9<|z1h Zx Z Z (ld 1 Z Z fH z9y Z)<|zgy [] [] Zx Z Tryz.func31 Z Z (zgb _) (Y1 Z) rN fun r10 n11=>z1h Zx Z Z (I.neq Z Z)<|Zq (pkF Z Z)<|Zm Z<|z1q 34 Z (fun h12=>?_) (fun h12=>?_)
   ·
    refine lKn 32 Z h12<|lKn 33 Z h12<|Zk Z<|Zk Z<|Zk Z<|Zq (pkT Z Z)<|Zm Z<|Zk Z<|Zk Z<|Zq (pkT Z Z)<|z1o<|z3c (fun aa ww h=>Zu h [1,2,1001])
   ·
    refine lKn 32 Z h12<|lKn 33 Z h12<|z1h Zx Z Z (ld 2 Z Z fH zyj Z)<|z1h Zx Z Z (bld (x':=(⟨0,[],0,a1,(⟨0,0⟩:z0a)⟩:z06)) [(0,1),(1,1),(2,1),(3,6),(9,2)] Tryz.underlying72 zam Z zr72 Z (Bld.cons (z10 _) Z Z<|Bld.done Z))<|zgy [] [] Zx Z Tryz.func32 Z Z (zbc _) (Y1 Z) rN fun r13 n14=>Zq (pkF Z Z)<|Zm Z<|z1q 39 Z (fun h15=>?_) (fun h15=>?_)
    ·
     refine lKn 37 Z h15<|lKn 38 Z h15<|Zk Z<|Zk Z<|Zq (pkT Z Z)<|z1o<|z3c (fun aa ww h=>Zu h [1,2,1001])
    ·
     refine lKn 37 Z h15<|lKn 38 Z h15<|z1h Zx Z Z (mv Z)<|z1h Zx Z Z (zfq Z)<|Zq (pkF Z Z)<|z1o<|z3c (fun aa ww h=>Zu h [1,2,1001])
 ·
  refine gIf Z Z (fun h16=>?_) (fun h16=>?_)
  ·
   refine gSR<|Zm Z<|Zb Z<|z0l<|z0v<|Ze [] [1001] Z
  ·
   refine Zt<|gSR<|Zq (ld 1 Z Z fH z9y Z)<|Zc [1001] [(100,1101)] Tryz.func33 Z (zi3 _) fun r17 n18=>Zm Z<|Zq (ext Z Z)<|Zq (ext Z Z)<|Za Z<|Zb Z<|z0s<|gSR<|Zm Z<|Zq (I.neq Z Z)<|Zj Z (fun h19=>?_) (fun h19=>?_)
   ·
    refine gSR<|Zb Z<|z0l<|z0v<|Ze [] [1001] Z
   ·
    refine Zt<|z0s<|gFrz 1101 [47,10] Z (fS Z<|fS Z<|fN)<|zx6 [(2,.rd z2n a2),(3,.rd z0k a3),(4,.val (z05 v1 0)),(5,.val (z05 v2 0)),(9,.rd z0b r3),(10,.rd (z03 aZ) r17.1)] [(1,some (v1,.box 27 [.rd z01 a0])),(2,some (v2,.box 64 [.rd z0g a1])),zG1] [1,2,1001] (Zs Z Z Z Z<|sS Z<|sS Z<|sN) (Zi Z<|Zi Z<|Zi Z<|rN)<|z98 fun x20 h21=>z98 fun r22 h24=>gOr [] [⟨2,some ([], fun nv=>(v2,.box 64 [.rd z0g a1])),[]⟩,⟨1001,some ([], fun nv=>((.bool true),.glob 1 (z2z 64 z0k) z56)),[]⟩,⟨1102,none,[(13,some ([1], fun nv=>((nv 1),.box 72 [.rd z04 (⟨0,[],0,(⟨0,[],(⟨0,0,0,[]⟩:z02)⟩:z08),(⟨0,0⟩:z0a)⟩:z06)]))),(14,some ([1], fun nv=>((nv 1),.box 72 [.rd z04 r22.1])))]⟩] [pd 52 (.rd z0k a3),pd 53 (.rd (z03 aZ) r17.1),pd 54 (.rd (z03 aZ) r17.1),pd 55 (.rd z0c (r17.1.length:Int)),pd 56 (.rd z0c (min (r17.1.length:Int) 4)),pd 57 (.rd (z03 aZ) x20),pd 58 (.rd z2n a2),pk 59 (.rd z0g a1) [(0,0,false)],pd 60 (.rd z04 (⟨0,x20,a2,a1,(⟨0,0⟩:z0a)⟩:z06)),pk 61 (.tup [.rd z04 r22.1,.rd z0c r22.2]) [(1,0,false)],pd 51 (.tup [.rd z04 r22.1,.rd z0c r22.2]),pd 62 (.rd z04 r22.1),pd 63 (.rd z0c r22.2),⟨some (12,[1], fun nv=>.val (z05 (nv 1) 0)),[(2,0,true)],[1],[]⟩,⟨none,[(2,1,true)],[],[]⟩,pd 13 (.rd z0c r22.2)] mixed (oC (oRn (fun nv E=>mv Z))<|oC (oRn (fun nv E=>mv Z))<|oC (oRn (fun nv E=>mv Z))<|oC (oRn (fun nv E=>z42 Z .rd Z tu24))<|oC (oRn (fun nv E=>I.min Z Z))<|oC (oRn (fun nv E=>cut' Z .no (.to Z) h21 tu24 z3k))<|oC (oRn (fun nv E=>mv Z))<|oC (oRn (fun nv E=>ld 2 Z Z fH zyj Z))<|oC (oRn (fun nv E=>bld (x':=(⟨0,x20,a2,a1,(⟨0,0⟩:z0a)⟩:z06)) [(0,1),(1,1),(2,1),(3,6),(9,2)] Tryz.underlying72 zam Z zr72 Z (Bld.cons (z0z _) Z Z<|Bld.cons (z33 _) Z Z<|Bld.cons (z10 _) Z Z<|Bld.done Z)))<|oC (oCl [] [1001] [] h24 Tryz.func34 Z (fun nv=>(zlp _ _)) (fun nv=>(Y2 Z Z)) (fun nv E=>(y1 Z)))<|oC (oRn (fun nv E=>mv Z))<|oC (oRn (fun nv E=>ext Z Z))<|oC (oRn (fun nv E=>ext Z Z))<|oC (oEb 1102 1 (fun nv E=>z6n 1102 zam (.zr (R:=z04) (x:=(⟨0,[],0,(⟨0,[],(⟨0,0,0,[]⟩:z02)⟩:z08),(⟨0,0⟩:z0a)⟩:z06)) zr72)))<|oC (oEs 1102 (fun nv E=>sto 1102 Z Z fH Z zam))<|oC (oRn (fun nv E=>asg Z))<|oN) fun n25=>z0j<|z0s<|gSR<|Zm Z<|Zq (I.neq Z Z)<|Zj Z (fun h26=>?_) (fun h26=>?_)
    ·
     refine gSR<|Zm Z<|Zb Z<|z0l<|z0v<|Ze [] [1001] Z
    ·
     refine Zt<|gSR<|Zq (ld 1 Z Z fH z9y Z)<|Zq (ld 1102 Z Z fH ze3 Z)<|Zc [1001] [] Tryz.func35 Z (zlw _ _) fun r27 n28=>Zm Z<|Zq (ext Z Z)<|Zq (ext Z Z)<|Zq (ext Z Z)<|Eb Z (z6n 1103 zd9 (ZrE.nilS (ZrE.nilS ZrE.nil))) fun v29=>Eb Z (z6n 1104 z3k (.zr (R:=aZ) (x:=(Vector.replicate 32 0)) zed)) fun v30=>zgr aZ [.rd (z03 aZ) [],.val (.slice none 0 0)] 1103 [] [.val (.slice none 0 0)] Z Z Z<|zgr z04 [.rd (z03 aZ) [],.rd (z03 z04) []] 1103 [.rd (z03 aZ) []] [] Z Z Z<|zio (R:=z01) (⟨[],[]⟩:z00) 1103 Z (Sp.via (Sp.prod (Sp.prod Sp.unit)))<|Es (sto 1103 Z Z fH Z zd9)<|Es (sto 1104 Z Z fH Z z3k)<|Zb Z<|z0s<|gSR<|Zm Z<|Zq (I.neq Z Z)<|Zj Z (fun h31=>?_) (fun h31=>?_)
     ·
      refine z7l (fun (s32:Bool) aa ww=>Sta (ctx 201 H [zG1] w) [(8,.rd z0b s32)] [zG1] aa ww) ?_ (fun s32=>?_)
      ·
       refine z2b<|Zm Z<|Zm Z<|z1q 77 Z (fun h33=>?_) (fun h33=>?_)
       ·
        refine lKn 9 Z h33<|lKn 76 Z h33<|z1h Zx Z Z (mv Z)<|z1h Zx Z Z (I.eql Z Z)<|z1h Zx Z Z (mv Z)<|z1q 80 Z (fun h34=>?_) (fun h34=>?_)
        ·
         refine lKn 79 Z h34<|Zk Z<|Zk Z<|z1h Zx Z Z (pkT Z Z)<|Zq (pkT Z Z)<|Za Z<|z1o<|z3c (fun aa ww h=>Zu h [1001])
        ·
         refine lKn 79 Z h34<|z1h Zx Z Z (mv Z)<|z1h Zx Z Z (I.eql Z Z)<|z1h Zx Z Z (pkF Z Z)<|Zq (pkT Z Z)<|Za Z<|z1t 8 Z fun y35=>z1o<|z3c (fun aa ww h=>Zu h [1001])
       ·
        refine lKn 9 Z h33<|lKn 76 Z h33<|Zk Z<|Zk Z<|Zk Z<|zaz (gdU Z Z Z) Z Z<|zaz (gdU Z Z Z) Z Z<|Zk Z<|Zq (pkF Z Z)<|Za Z<|z1o<|z3c (fun aa ww h=>Zu h [1001])
      ·
       refine z0l<|z0v<|Ze [] [1001] Z
     ·
      refine Zt<|gSR<|Zq (ld 1 Z Z fH z9y Z)<|Zq (ld 1103 Z Z fH z9y Z)<|Zc [1001] [(100,1105)] Tryz.func27 Z (zh8 _ _) fun r36 n37=>Zm Z<|Zq (ext Z Z)<|Zq (ext Z Z)<|Za Z<|Zb Z<|z9a (fun (s38:Unit) aa ww=>Sta (ctx 201 H [zG1] w) [(4,.val (z05 v1 0)),(5,.val (z05 v2 0)),(9,.rd z0b r3),(10,.rd (z03 aZ) r17.1),(14,.val (z05 v29 0))] [(1,some (v1,.box 27 [.rd z01 a0])),(2,some (v2,.box 64 [.rd z0g a1])),(1103,some (v29,.box 27 [.rd z01 r27.1])),zG1] aa ww) ?_ (fun s38=>?_)
      ·
       refine z0s<|zfy mixed (by kernel_rfl)<|Rq Z (mv Z)<|Rq Z (I.neq Z Z)<|Rq Z (mv Z)<|zr3 93 Z (fun h39=>?_) (fun h39=>?_)
       ·
        refine qKn 92 Z h39<|z4c Zx Z Z<|z4c Zx Z Z<|z4c Zx Z Z<|Rq Z (pkT Z Z)<|Rq Z (mv Z)<|z4c Zx Z Z<|z4c Zx Z Z<|z4c Zx Z Z<|z4c Zx Z Z<|z4c (gdU Z Z Z) Z Z<|z4c (gdU Z Z Z) Z Z<|z4c (gdU Z Z Z) Z Z<|z4c (gdU Z Z Z) Z Z<|z4c (gdU Z Z Z) Z Z<|z4c (gdU Z Z Z) Z Z<|z4c (gdU Z Z Z) Z Z<|z4c (gdU Z Z Z) Z Z<|z4c (gdU Z Z Z) Z Z<|z4c (gdU Z Z Z) Z Z<|z4c (gdU Z Z Z) Z Z<|z4c Zx Z Z<|Rq Z (pkT Z Z)<|zm7<|z0j<|zd5 Z<|gSR<|Zb Z<|z0l<|z6y<|Ze [] [1001] Z
       ·
        refine qKn 92 Z h39<|zju Zx Z Z (mv Z)<|zju Zx Z Z (z42 Z (.own 1105 Z) Z tu47)<|zju Zx Z Z (I.gtr Z Z)<|Rq Z (pkF Z Z)<|Rq Z (mv Z)<|zr3 98 Z (fun h40=>?_) (fun h40=>?_)
        ·
         refine qKn 96 Z h40<|qKn 97 Z h40<|z4c Zx Z Z<|z4c Zx Z Z<|z4c Zx Z Z<|z4c Zx Z Z<|z4c (gdU Z Z Z) Z Z<|z4c (gdU Z Z Z) Z Z<|z4c (gdU Z Z Z) Z Z<|z4c (gdU Z Z Z) Z Z<|z4c (gdU Z Z Z) Z Z<|z4c (gdU Z Z Z) Z Z<|z4c (gdU Z Z Z) Z Z<|z4c (gdU Z Z Z) Z Z<|z4c (gdU Z Z Z) Z Z<|z4c (gdU Z Z Z) Z Z<|z4c (gdU Z Z Z) Z Z<|z4c Zx Z Z<|Rq Z (pkT Z Z)<|zm7<|z0j<|zd5 Z<|gSR<|Zb Z<|z0l<|z6y<|Ze [] [1001] Z
        ·
         refine qKn 96 Z h40<|qKn 97 Z h40<|zju Zx Z Z (mv Z)<|zju Zx Z Z (z42 Z (.own 1105 Z) Z tu47)<|zju Zx Z Z (I.eql Z Z)<|zju Zx Z Z (mv Z)<|zr3 102 Z (fun h41=>?_) (fun h41=>?_)
         ·
          refine qKn 101 Z h41<|zju Zx Z Z (faB 2 Z Z Tryz.underlying64 Z (by exact ti5))<|zju Zx Z Z (ld 2 Z Z (fP (z17 _)) ty5 Z)<|zju Zx Z Z (B.eql Z Z)<|zju Zx Z Z (mv Z)<|zr3 106 Z (fun h42=>?_) (fun h42=>?_)
          ·
           refine qKn 105 Z h42<|z4c Zx Z Z<|z4c Zx Z Z<|z4c Zx Z Z<|z4c Zx Z Z<|z4c Zx Z Z<|z4c Zx Z Z<|zju Zx Z Z (pkT Z Z)<|zju Zx Z Z (pkT Z Z)<|Rq Z (pkF Z Z)<|zm7<|z0j<|zd5 Z<|gSR<|Zb Z<|z0l<|z6y<|Ze [] [1001] Z
          ·
           refine qKn 105 Z h42<|zju Zx Z Z (mv Z)<|z6j fun x43 h44=>zju Zx Z Z (ixO 1105 Z Z Z h44 tu47 ti9)<|zju Zx Z Z (ld 1105 Z Z (Foc.el h44) ty9 Z)<|zju Zx Z Z (faB 2 Z Z Tryz.underlying64 Z (by exact ti9))<|zju Zx Z Z (ld 2 Z Z (fP (z1g _)) ty9 Z)<|zju Zx Z Z (neS Z Z)<|zju Zx Z Z (pkF Z Z)<|zju Zx Z Z (pkT Z Z)<|Rq Z (pkF Z Z)<|zm7<|z0j<|gIf Z Z (fun h45=>?_) (fun h45=>?_)
           ·
            refine gKn 112 Z h45<|gKn 113 Z h45<|gKn 114 Z h45<|gSR<|Zb Z<|z0l<|z6y<|Ze [] [1001] Z
           ·
            refine gKn 112 Z h45<|gKn 113 Z h45<|gKn 114 Z h45<|z2t<|z7d (fun aa ww h=>Zu h [1,2,1103,1001])
         ·
          refine qKn 101 Z h41<|z4c Zx Z Z<|z4c Zx Z Z<|z4c Zx Z Z<|z4c Zx Z Z<|z4c (gdU Z Z Z) Z Z<|z4c (gdU Z Z Z) Z Z<|z4c (gdU Z Z Z) Z Z<|z4c (gdU Z Z Z) Z Z<|z4c (gdU Z Z Z) Z Z<|z4c (gdU Z Z Z) Z Z<|z4c Zx Z Z<|zju Zx Z Z (pkF Z Z)<|Rq Z (pkF Z Z)<|zm7<|z0j<|zd4 Z<|z2t<|z7d (fun aa ww h=>Zu h [1,2,1103,1001])
      ·
       refine gSR<|Zq (ld 1103 Z Z fH z9y Z)<|Zq (faB 2 Z Z Tryz.underlying64 Z (by exact ti9))<|Zq (ld 2 Z Z (fP (z1g _)) ty9 Z)<|Zc [1001] [] Tryz.func25 Z (zbl _ _) fun r46 n47=>Zm Z<|Zq (ext Z Z)<|Zq (ext Z Z)<|Zq (ext Z Z)<|Eb Z (z6n 1106 zb9 (.zr (R:=z0t) (x:=(⟨0,0,0,[]⟩:z02)) zjx)) fun v48=>Za Z<|Es (sto 1106 Z Z fH Z zb9)<|Zb Z<|gSR<|Zq (ld 1 Z Z fH z9y Z)<|Zq (faB 2 Z Z Tryz.underlying64 Z (by exact ti9))<|Zq (ld 2 Z Z (fP (z1g _)) ty9 Z)<|Zc [1001] [] Tryz.func25 Z (zbl _ _) fun r49 n50=>Zm Z<|Zq (ext Z Z)<|Zq (ext Z Z)<|Zq (ext Z Z)<|Eb Z (z6n 1107 zb9 (.zr (R:=z0t) (x:=(⟨0,0,0,[]⟩:z02)) zjx)) fun v51=>Za Z<|Es (sto 1107 Z Z fH Z zb9)<|Zb Z<|z0s<|gSR<|Zm Z<|Zq (I.neq Z Z)<|Zm Z<|z1q 134 Z (fun h52=>?_) (fun h52=>?_)
       ·
        refine lKn 133 Z h52<|Zk Z<|Zk Z<|Zq (pkT Z Z)<|Zn<|zd5 Z<|gSR<|Zb Z<|z0l<|z0v<|Ze [] [1001] Z
       ·
        refine lKn 133 Z h52<|z1h Zx Z Z (mv Z)<|z1h Zx Z Z (I.neq Z Z)<|Zq (pkF Z Z)<|Zj Z (fun h53=>?_) (fun h53=>?_)
        ·
         refine gKn 136 Z h53<|gSR<|Zb Z<|z0l<|z0v<|Ze [] [1001] Z
        ·
         refine gKn 136 Z h53<|Zt<|z0s<|gSR<|Zq (faB 2 Z Z Tryz.underlying64 Z (by exact ti5))<|Zq (ld 2 Z Z (fP (z17 _)) ty5 Z)<|Zn<|z58<|gSR<|Zq (B.eql Z Z)<|Zb Z<|gIf Z Z (fun h54=>?_) (fun h54=>?_)
         ·
          refine gKn 141 Z h54<|z7l (fun (s55:Bool) aa ww=>Sta (ctx 201 H [zG1] w) [(8,.rd z0b s55)] [zG1] aa ww) ?_ (fun s55=>?_)
          ·
           refine z2b<|Zm Z<|Zm Z<|z1q 143 Z (fun h56=>?_) (fun h56=>?_)
           ·
            refine lKn 9 Z h56<|lKn 142 Z h56<|z1h Zx Z Z (mv Z)<|Zq (pkT Z Z)<|Zm Z<|z1q 146 Z (fun h57=>?_) (fun h57=>?_)
            ·
             refine lKn 121 Z h57<|lKn 19 Z h57<|lKn 144 Z h57<|lKn 145 Z h57<|z1h Zx Z Z (ld 1106 Z Z fH zfg Z)<|z1h Zx Z Z (ld 1107 Z Z fH zfg Z)<|z1h Zx Z Z (eqA Z Z zvt Z Z zxk)<|Zq (pkT Z Z)<|Za Z<|z1t 8 Z fun y58=>z1o<|z3c (fun aa ww h=>Zu h [1001])
            ·
             refine lKn 121 Z h57<|lKn 19 Z h57<|lKn 144 Z h57<|lKn 145 Z h57<|Zk Z<|Zk Z<|Zk Z<|Zq (pkF Z Z)<|Za Z<|z1o<|z3c (fun aa ww h=>Zu h [1001])
           ·
            refine lKn 9 Z h56<|lKn 142 Z h56<|Zk Z<|Zq (pkF Z Z)<|Zm Z<|Zk Z<|Zk Z<|Zk Z<|Zq (pkF Z Z)<|Za Z<|z1o<|z3c (fun aa ww h=>Zu h [1001])
          ·
           refine z0l<|z43<|z0v<|Ze [] [1001] Z
         ·
          refine gKn 141 Z h54<|gSR<|Zq (B.eql Z Z)<|Zb Z<|gIf Z Z (fun h59=>?_) (fun h59=>?_)
          ·
           refine gKn 152 Z h59<|z7l (fun (s60:Bool) aa ww=>Sta (ctx 201 H [zG1] w) [(8,.rd z0b s60)] [zG1] aa ww) ?_ (fun s60=>?_)
           ·
            refine z2b<|Zm Z<|Zm Z<|z1q 154 Z (fun h61=>?_) (fun h61=>?_)
            ·
             refine lKn 9 Z h61<|lKn 153 Z h61<|z1h Zx Z Z (ld 1106 Z Z fH zfg Z)<|z1h Zx Z Z (ld 1107 Z Z fH zfg Z)<|z1h Zx Z Z (eqA Z Z zvt Z Z zxk)<|Zq (pkT Z Z)<|Zm Z<|z1q 159 Z (fun h62=>?_) (fun h62=>?_)
             ·
              refine lKn 157 Z h62<|lKn 158 Z h62<|z1h Zx Z Z (mv Z)<|z1h Zx Z Z (zfq Z)<|z1h Zx Z Z (mv Z)<|z1q 162 Z (fun h63=>?_) (fun h63=>?_)
              ·
               refine lKn 161 Z h63<|Zk Z<|Zk Z<|zaz (gdU Z Z Z) Z Z<|zaz (gdU Z Z Z) Z Z<|zaz (gdU Z Z Z) Z Z<|Zk Z<|z1h Zx Z Z (pkT Z Z)<|Zq (pkT Z Z)<|Za Z<|z1o<|z3c (fun aa ww h=>Zu h [1001])
              ·
               refine lKn 161 Z h63<|z1h Zx Z Z (mv Z)<|z1h Zx Z Z (mv Z)<|z1q 164 Z (fun h64=>?_) (fun h64=>?_)
               ·
                refine lKn 129 Z h64<|lKn 22 Z h64<|lKn 163 Z h64<|z1h Zx Z Z (mv Z)<|z1h Zx Z Z (z42 Z .rd Z tu24)<|z1h Zx Z Z (I.gtr Z Z)<|z1h Zx Z Z (pkT Z Z)<|z1h Zx Z Z (pkF Z Z)<|Zq (pkT Z Z)<|Za Z<|z1t 8 Z fun y65=>z1o<|z3c (fun aa ww h=>Zu h [1001])
               ·
                refine lKn 129 Z h64<|lKn 22 Z h64<|lKn 163 Z h64<|Zk Z<|Zk Z<|Zk Z<|z1h Zx Z Z (pkF Z Z)<|z1h Zx Z Z (pkF Z Z)<|Zq (pkT Z Z)<|Za Z<|z1o<|z3c (fun aa ww h=>Zu h [1001])
             ·
              refine lKn 157 Z h62<|lKn 158 Z h62<|Zk Z<|Zk Z<|Zk Z<|zaz (gdU Z Z Z) Z Z<|zaz (gdU Z Z Z) Z Z<|zaz (gdU Z Z Z) Z Z<|zaz (gdU Z Z Z) Z Z<|zaz (gdU Z Z Z) Z Z<|zaz (gdU Z Z Z) Z Z<|Zk Z<|Zq (pkF Z Z)<|Za Z<|z1o<|z3c (fun aa ww h=>Zu h [1001])
            ·
             refine lKn 9 Z h61<|lKn 153 Z h61<|Zk Z<|Zk Z<|Zk Z<|Zq (pkF Z Z)<|Zm Z<|Zk Z<|Zk Z<|Zk Z<|zaz (gdU Z Z Z) Z Z<|zaz (gdU Z Z Z) Z Z<|zaz (gdU Z Z Z) Z Z<|zaz (gdU Z Z Z) Z Z<|zaz (gdU Z Z Z) Z Z<|zaz (gdU Z Z Z) Z Z<|Zk Z<|Zq (pkF Z Z)<|Za Z<|z1o<|z3c (fun aa ww h=>Zu h [1001])
           ·
            refine z0l<|z43<|z0v<|Ze [] [1001] Z
          ·
           refine gKn 152 Z h59<|gSR<|Zq (B.eql Z Z)<|Zb Z<|gIf Z Z (fun h66=>?_) (fun h66=>?_)
           ·
            refine gKn 172 Z h66<|z7l (fun (s67:Bool) aa ww=>Sta (ctx 201 H [zG1] w) [(8,.rd z0b s67)] [zG1] aa ww) ?_ (fun s67=>?_)
            ·
             refine z2b<|Zm Z<|Zm Z<|z1q 174 Z (fun h68=>?_) (fun h68=>?_)
             ·
              refine lKn 9 Z h68<|lKn 173 Z h68<|z1h Zx Z Z (mv Z)<|z1h Zx Z Z (mv Z)<|z1h Zx Z Z (eqB Tryz.underlying4 Z Z)<|Zq (pkT Z Z)<|Zm Z<|z1q 179 Z (fun h69=>?_) (fun h69=>?_)
              ·
               refine lKn 177 Z h69<|lKn 178 Z h69<|z1h Zx Z Z (ld 1106 Z Z fH zfg Z)<|z1h Zx Z Z (faB 2 Z Z Tryz.underlying64 Z (by exact zb9))<|z1h Zx Z Z (ld 2 Z Z (fP (z2h _)) zfg Z)<|z1h Zx Z Z (eqA Z Z zvt Z Z zxk)<|z1h Zx Z Z (mv Z)<|z1q 184 Z (fun h70=>?_) (fun h70=>?_)
               ·
                refine lKn 183 Z h70<|Zk Z<|Zk Z<|Zk Z<|z1h Zx Z Z (pkT Z Z)<|Zq (pkT Z Z)<|Za Z<|z1o<|z3c (fun aa ww h=>Zu h [1001])
               ·
                refine lKn 183 Z h70<|z1h Zx Z Z (ld 1106 Z Z fH zfg Z)<|z1h Zx Z Z (ld 1107 Z Z fH zfg Z)<|z1h Zx Z Z (eqA Z Z zvt Z Z zxk)<|z1h Zx Z Z (pkF Z Z)<|Zq (pkT Z Z)<|Za Z<|z1t 8 Z fun y71=>z1o<|z3c (fun aa ww h=>Zu h [1001])
              ·
               refine lKn 177 Z h69<|lKn 178 Z h69<|Zk Z<|Zk Z<|Zk Z<|Zk Z<|Zk Z<|zaz (gdU Z Z Z) Z Z<|zaz (gdU Z Z Z) Z Z<|zaz (gdU Z Z Z) Z Z<|Zk Z<|Zq (pkF Z Z)<|Za Z<|z1o<|z3c (fun aa ww h=>Zu h [1001])
             ·
              refine lKn 9 Z h68<|lKn 173 Z h68<|Zk Z<|Zk Z<|Zk Z<|Zq (pkF Z Z)<|Zm Z<|Zk Z<|Zk Z<|Zk Z<|Zk Z<|Zk Z<|zaz (gdU Z Z Z) Z Z<|zaz (gdU Z Z Z) Z Z<|zaz (gdU Z Z Z) Z Z<|Zk Z<|Zq (pkF Z Z)<|Za Z<|z1o<|z3c (fun aa ww h=>Zu h [1001])
            ·
             refine z0l<|z43<|z0v<|Ze [] [1001] Z
           ·
            refine gKn 172 Z h66<|z2t<|z30<|z0j<|gSR<|Zm Z<|Zm Z<|z1q 191 Z (fun h72=>?_) (fun h72=>?_)
            ·
             refine lKn 9 Z h72<|lKn 190 Z h72<|z1h Zx Z Z (mv Z)<|z1h Zx Z Z (mv Z)<|z1h Zx Z Z (eqB Tryz.underlying4 Z Z)<|Zq (pkT Z Z)<|Zm Z<|z1q 196 Z (fun h73=>?_) (fun h73=>?_)
             ·
              refine lKn 194 Z h73<|lKn 195 Z h73<|z1h Zx Z Z (ld 1106 Z Z fH zfg Z)<|z1h Zx Z Z (ld 1107 Z Z fH zfg Z)<|z1h Zx Z Z (eqA Z Z zvt Z Z zxk)<|Zq (pkT Z Z)<|Za Z<|z1t 8 Z fun y74=>Zn<|z0l<|Ze [] [1001] Z
             ·
              refine lKn 194 Z h73<|lKn 195 Z h73<|Zk Z<|Zk Z<|Zk Z<|Zq (pkF Z Z)<|Zb Z<|z0l<|Ze [] [1001] Z
            ·
             refine lKn 9 Z h72<|lKn 190 Z h72<|Zk Z<|Zk Z<|Zk Z<|Zq (pkF Z Z)<|Zm Z<|Zk Z<|Zk Z<|Zk Z<|Zq (pkF Z Z)<|Zb Z<|z0l<|Ze [] [1001] Z
end
section
open Go
section
variable {α:Type}
theorem zen {l:List α} {i:Nat} (d:α) (h:i<l.length):idx l (i:Int)=some (l.getD i d):=by rw [z0h h]; simp [h]
theorem zvu {n:Nat} {v:Vector α n} {i:Int}:z6m v i=idx v.toList i:=rfl
theorem z10i {n:Nat} {v:Vector α n} {i:Nat} {x:α}:(zgq v (i:Int) x).toList=v.toList.set i x:=by
 unfold zgq; simp
theorem zzf {l:List α} {i j:Nat} {x d:α} (h:i<l.length):(l.set i x).getD j d=if i=j then x else l.getD j d:=by
 simp only [List.getD_eq_getElem?_getD,List.getElem?_set]
 by_cases e:i=j
 ·
  subst e; simp [h]
 ·
  simp [e]
theorem zns {l:List α} {n i:Nat} {d:α} (h:i<n):(l.take n).getD i d=l.getD i d:=by
 simp [List.getD_eq_getElem?_getD,List.getElem?_take,h]
theorem zme {l:List α} {n:Nat} {x:α} (h:n<l.length):(l.set n x).take (n+1)=l.take n++[x]:=by
 rw [List.take_add_one,List.getElem?_set_self h,List.take_set_of_le (Nat.le_refl _)]; rfl
end
theorem zpk (a:UInt32) (n:Nat):(zma a n).toNat=a.toNat * 2 ^ (min n 32) % 4294967296:=by unfold zma; simp
theorem zdv (a:UInt32) (n:Nat):(z3w a n).toNat=a.toNat / 2 ^ (min n 32):=by
 unfold z3w
 have h1:=UInt32.toNat_lt a
 have h2:a.toNat / 2 ^ (min n 32)≤a.toNat:=Nat.div_le_self _ _
 simp; omega
def tr (x:UInt32) (n:Nat):UInt32:=z3w x n ||| zma x (32 - n)
theorem zcs (x:UInt32) (n:Nat) (h:n≤32):z24 x (n:Int)=some (tr x n):=by
 unfold z24
 rw [z2x (by omega),z0w (by omega) (by omega),z2x (by omega)]
 simp only [bS]
 unfold tr
 rw [show ((32:Int) - (n:Int)).toNat=32 - n by omega,Int.toNat_natCast]
theorem zjq (x:UInt32) (n:Nat) (h:1≤n) (h2:n≤31):z1i x (-(n:Int))=some (tr x n):=by
 have key:∀ n:Fin 32,1≤n.val→(UInt64.ofInt (-(n.val:Int)) &&& 31)=UInt64.ofNat (32 - n.val):=by decide +kernel
 have k2:∀ n:Fin 32,1≤n.val→(UInt64.ofNat (32 - n.val)).toNat=32 - n.val∧(32 - UInt64.ofNat (32 - n.val)).toNat=n.val:=by decide +kernel
 unfold z1i
 rw [key ⟨n, by omega⟩ h]
 simp only [bS]
 rw [(k2 ⟨n, by omega⟩ h).1,(k2 ⟨n, by omega⟩ h).2]
 unfold tr
 rw [UInt32.or_comm]
theorem z105 (x:UInt32) (a b c:Nat) (ha:1≤a∧a≤31) (hb:1≤b∧b≤31) (hc:1≤c∧c≤31):zcv x (a:Int) (b:Int) (c:Int)=some ((tr x a ^^^ tr x b) ^^^ tr x c):=by
 unfold zcv
 rw [z0w (by omega) (by omega),z0w (by omega) (by omega),z0w (by omega) (by omega)]
 rw [show (0:Int) - (a:Int) = -(a:Int) by omega, show (0:Int) - (b:Int) = -(b:Int) by omega, show (0:Int) - (c:Int) = -(c:Int) by omega]
 rw [zjq x a ha.1 ha.2,zjq x b hb.1 hb.2,zjq x c hc.1 hc.2]
 rfl
def sg0 (x:UInt32):UInt32:=(tr x 7 ^^^ tr x 18) ^^^ z3w x 3
def sg1 (x:UInt32):UInt32:=(tr x 17 ^^^ tr x 19) ^^^ z3w x 10
def zx7 (b:List UInt8) (k:Nat):UInt32:=(((b.getD (4 * k) 0).toUInt32 * 256+(b.getD (4 * k+1) 0).toUInt32) * 256+(b.getD (4 * k+2) 0).toUInt32) * 256+(b.getD (4 * k+3) 0).toUInt32
def zq2 (l:List UInt32):List UInt32:=l++[((l.getD (l.length - 16) 0+l.getD (l.length - 7) 0)+sg0 (l.getD (l.length - 15) 0))+sg1 (l.getD (l.length - 2) 0)]
def z5u (b:List UInt8):Nat→List UInt32
 | 0=>(List.range 16).map (zx7 b)
 | n+1=>zq2 (z5u b n)
theorem zd1 (b:List UInt8):∀ n,(z5u b n).length=16+n
 | 0=>by simp [z5u]
 | n+1=>by simp [z5u,zq2,zd1 b n]; omega
theorem zqx (l:List UInt32) (t:Nat) (h:l.length=t):zq2 l=l++[((l.getD (t - 16) 0+l.getD (t - 7) 0)+sg0 (l.getD (t - 15) 0))+sg1 (l.getD (t - 2) 0)]:=by subst h; rfl
theorem zyl (b:List UInt8) (hb:64≤b.length):iter (z4p b) ([],0)=some (z5u b 0):=by
 refine z37 (F:=z4p b) (b:=z5u b 0) 16 (fun i=>((List.range i).map (zx7 b),(i:Int))) (fun i hi=>?_) ?_
 ·
  unfold z4p
  rw [if_pos (by simp; omega)]
  simp only []
  rw [z0w (x:=4 * (i:Int)) (by omega) (by omega),z0w (x:=4 * (i:Int)+1) (by omega) (by omega),z0w (x:=4 * (i:Int)+2) (by omega) (by omega),z0w (x:=4 * (i:Int)+3) (by omega) (by omega)]
  rw [show (4 * (i:Int))=((4 * i:Nat):Int) by omega, show (((4 * i:Nat):Int)+1)=((4 * i+1:Nat):Int) by omega, show (((4 * i:Nat):Int)+2)=((4 * i+2:Nat):Int) by omega, show (((4 * i:Nat):Int)+3)=((4 * i+3:Nat):Int) by omega]
  rw [zen 0 (by omega),zen 0 (by omega),zen 0 (by omega),zen 0 (by omega)]
  simp only [bS]
  rw [z1m (by simp; omega)]
  simp only [bS,z0u (show i<9223372036854775807 by omega)]
  rw [List.range_succ,List.map_append]
  rfl
 ·
  unfold z4p
  rw [if_neg (by simp)]
  rfl
theorem zz6 (b:List UInt8):iter (z4i) (z5u b 0,16)=some (z5u b 48):=by
 refine z37 (F:=z4i) (b:=z5u b 48) 48 (fun i=>(z5u b i,((16+i:Nat):Int))) (fun i hi=>?_) ?_
 ·
  have hl:=zd1 b i
  unfold z4i
  rw [if_pos (by simp; omega)]
  simp only []
  rw [z0w (x:=((16+i:Nat):Int) - 15) (by omega) (by omega),z0w (x:=((16+i:Nat):Int) - 2) (by omega) (by omega),z0w (x:=((16+i:Nat):Int) - 16) (by omega) (by omega),z0w (x:=((16+i:Nat):Int) - 7) (by omega) (by omega)]
  rw [show ((16+i:Nat):Int) - 15=((16+i - 15:Nat):Int) by omega, show ((16+i:Nat):Int) - 2=((16+i - 2:Nat):Int) by omega, show ((16+i:Nat):Int) - 16=((16+i - 16:Nat):Int) by omega, show ((16+i:Nat):Int) - 7=((16+i - 7:Nat):Int) by omega]
  rw [zen 0 (by omega),zen 0 (by omega),zen 0 (by omega),zen 0 (by omega)]
  simp only [bS]
  rw [show (7:Int)=((7:Nat):Int) from rfl, show (18:Int)=((18:Nat):Int) from rfl, show (17:Int)=((17:Nat):Int) from rfl, show (19:Int)=((19:Nat):Int) from rfl]
  rw [zcs _ 7 (by omega),zcs _ 18 (by omega),zcs _ 17 (by omega),zcs _ 19 (by omega)]
  simp only [bS]
  rw [z1m (by simp; omega)]
  simp only [bS,z0u (show 16+i<9223372036854775807 by omega)]
  rw [show z5u b (i+1)=zq2 (z5u b i) from rfl,zqx _ (16+i) hl]
  rfl
 ·
  unfold z4i
  rw [if_neg (by simp)]
theorem z144 (x:UInt32) (y:UInt8) (h:x.toNat<16777216):(zma x 8) ||| y.toUInt32=x * 256+y.toUInt32:=by
 apply UInt32.toNat_inj.1
 have hy:=UInt8.toNat_lt y
 rw [UInt32.toNat_or,zpk,UInt32.toNat_add,UInt32.toNat_mul]
 have e1:(y.toUInt32).toNat=y.toNat:=by simp
 have e2:(256:UInt32).toNat=256:=rfl
 rw [e1,e2, show (2:Nat) ^ (min 8 32)=256 from rfl,Nat.mod_eq_of_lt (a:=x.toNat * 256) (by omega),Nat.mod_eq_of_lt (a:=x.toNat * 256+y.toNat) (by omega)]
 have:=Nat.shiftLeft_add_eq_or_of_lt (i:=8) (b:=y.toNat) (by simpa using hy) x.toNat
 rw [Nat.shiftLeft_eq, show (2:Nat) ^ 8=256 from rfl] at this
 exact this.symm
def zj1 (b:List UInt8) (k:Nat):Nat→UInt32
 | 0=>0
 | m+1=>zj1 b k m * 256+(b.getD (4 * k+m) 0).toUInt32
theorem zru (b:List UInt8) (k:Nat):∀ m,m≤4→(zj1 b k m).toNat<256 ^ m
 | 0,_=>by simp [zj1]
 | m+1,h=>by
  have ih:=zru b k m (by omega)
  have hy:=UInt8.toNat_lt (b.getD (4 * k+m) 0)
  have hp:256 ^ m≤256 ^ 3:=Nat.pow_le_pow_right (by omega) (by omega)
  have e3:(256:Nat) ^ 3=16777216:=rfl
  have ep:256 ^ (m+1)=256 ^ m * 256:=Nat.pow_succ ..
  rw [zj1,UInt32.toNat_add,UInt32.toNat_mul,ep]
  have e1:((b.getD (4 * k+m) 0).toUInt32).toNat=(b.getD (4 * k+m) 0).toNat:=by simp
  have e2:(256:UInt32).toNat=256:=rfl
  rw [e1,e2,Nat.mod_eq_of_lt (a:=(zj1 b k m).toNat * 256) (by omega),Nat.mod_eq_of_lt (by omega)]
  omega
theorem zsh (b:List UInt8) (k:Nat):zj1 b k 4=zx7 b k:=by
 simp only [zj1,zx7,Nat.add_zero]
 simp
theorem zuz (b:List UInt8) (hb:b.length=64):∃ w,iter (z5f b) (Vector.replicate 64 0,0)=some w∧w.toList.take 16=z5u b 0:=by
 refine z7w (F:=z5f b) 64 (fun i s=>s.2=(i:Int)∧∀ k,k<16→s.1.toList.getD k 0=zj1 b k (min 4 (i - 4 * k))) (fun w=>w.toList.take 16=z5u b 0) (fun i s hi hs=>?_) (fun s hs=>?_) (Vector.replicate 64 0,0) 0 (by omega) ⟨rfl, fun k hk=>?_⟩
 ·
  obtain ⟨w,j⟩:=s
  obtain ⟨h1,h2⟩:=hs
  simp only at h1 h2
  subst h1
  have hlw:w.toList.length=64:=by simp
  have hdiv:w64 (Int.tdiv (i:Int) 4)=((i / 4:Nat):Int):=by
   have:Int.tdiv (i:Int) 4=((i / 4:Nat):Int):=by
    rw [Int.tdiv_eq_ediv_of_nonneg (by omega)]; omega
   rw [this,z0w (by omega) (by omega)]
  refine ⟨(zgq w ((i / 4:Nat):Int) (zj1 b (i / 4) (i % 4+1)),((i+1:Nat):Int)),?_,rfl, fun k hk=>?_⟩
  ·
   unfold z5f
   rw [if_pos (by simp; omega)]
   simp only [hdiv,zvu]
   rw [zen 0 (by omega)]
   simp only [bS]
   rw [zen 0 (by omega)]
   simp only [bS,z0u (show i<9223372036854775807 by omega)]
   rw [h2 (i / 4) (by omega), show min 4 (i - 4 * (i / 4))=i % 4 by omega]
   have hlt:=zru b (i / 4) (i % 4) (by omega)
   have hp:256 ^ (i % 4)≤256 ^ 3:=Nat.pow_le_pow_right (by omega) (by omega)
   have e3:(256:Nat) ^ 3=16777216:=rfl
   rw [z144 _ _ (by omega)]
   have e4:zj1 b (i / 4) (i % 4+1)=zj1 b (i / 4) (i % 4) * 256+(b.getD i 0).toUInt32:=by
    show zj1 b (i / 4) (i % 4) * 256+(b.getD (4 * (i / 4)+i % 4) 0).toUInt32=_
    rw [show 4 * (i / 4)+i % 4=i by omega]
   rw [e4]
  ·
   simp only []
   rw [z10i,zzf (by omega)]
   by_cases hk2:i / 4=k
   ·
    subst hk2
    rw [if_pos rfl, show min 4 (i+1 - 4 * (i / 4))=i % 4+1 by omega]
   ·
    rw [if_neg hk2,h2 k hk]
    congr 1; omega
 ·
  obtain ⟨w,j⟩:=s
  obtain ⟨h1,h2⟩:=hs
  simp only at h1 h2
  subst h1
  have hlw:w.toList.length=64:=by simp
  refine ⟨w,?_,?_⟩
  ·
   unfold z5f
   rw [if_neg (by simp [hb])]
  ·
   apply List.ext_getElem
   ·
    simp [z5u]
   ·
    intro k k1 k2
    have hk:k<16:=by simp [z5u] at k2; exact k2
    have:=h2 k hk
    rw [show min 4 (64 - 4 * k)=4 by omega,zsh] at this
    have e:w.toList.getD k 0=w.toList[k]'(by omega):=by rw [List.getD_eq_getElem?_getD,List.getElem?_eq_getElem (by omega)]; rfl
    rw [e] at this
    simp only [List.getElem_take,this,z5u,List.getElem_map,List.getElem_range]
 ·
  show (Vector.replicate 64 (0:UInt32)).toList.getD k 0=_
  rw [show min 4 (0 - 4 * k)=0 by omega,Vector.toList_replicate,List.getD_eq_getElem?_getD,List.getElem?_replicate,if_pos (by omega)]
  rfl
theorem zsm (v:Vector UInt32 64) (t:Nat) (h1:16≤t) (h2:t<64) (p q r s u:UInt32) (e1:z6m v ((t - 15:Nat):Int)=some p) (e2:z6m v ((t - 2:Nat):Int)=some q) (e3:z6m v ((t - 16:Nat):Int)=some r) (e4:z6m v ((t - 7:Nat):Int)=some s) (e5:z6m v (t:Int)=some u) :
  z4d (v,(t:Int))=some (.inr (zgq v (t:Int) (((r+s)+sg0 p)+sg1 q),((t+1:Nat):Int))):=by
 have r1:=zjq p 7 (by omega) (by omega)
 have r2:=zjq p 18 (by omega) (by omega)
 have r3:=zjq q 17 (by omega) (by omega)
 have r4:=zjq q 19 (by omega) (by omega)
 have hw:=z0u (show t<9223372036854775807 by omega)
 have hd:decide ((t:Int)<64)=true:=by simp; omega
 have w1:w64 ((t:Int) - 15)=((t - 15:Nat):Int):=by rw [z0w (by omega) (by omega)]; omega
 have w2:w64 ((t:Int) - 2)=((t - 2:Nat):Int):=by rw [z0w (by omega) (by omega)]; omega
 have w3:w64 ((t:Int) - 16)=((t - 16:Nat):Int):=by rw [z0w (by omega) (by omega)]; omega
 have w4:w64 ((t:Int) - 7)=((t - 7:Nat):Int):=by rw [z0w (by omega) (by omega)]; omega
 unfold z4d
 rw [if_pos hd]
 simp only []
 rw [w1,w2,w3,w4,hw,e1,e2,e3,e4,e5]
 simp only [bS]
 rw [show (-7:Int) = -((7:Nat):Int) from rfl, show (-18:Int) = -((18:Nat):Int) from rfl, show (-17:Int) = -((17:Nat):Int) from rfl, show (-19:Int) = -((19:Nat):Int) from rfl,r1,r2,r3,r4]
 simp only [bS]
 rfl
theorem zu7 (b:List UInt8) (w:Vector UInt32 64) (hw:w.toList.take 16=z5u b 0):∃ v,iter (z4d) (w,16)=some v∧v.toList=z5u b 48:=by
 refine z7w (F:=z4d) 48 (fun i s=>s.2=((16+i:Nat):Int)∧s.1.toList.take (16+i)=z5u b i) (fun v=>v.toList=z5u b 48) (fun i s hi hs=>?_) (fun s hs=>?_) (w,16) 0 (by omega) ⟨rfl,hw⟩
 ·
  obtain ⟨w,j⟩:=s
  obtain ⟨h1,h2⟩:=hs
  simp only at h1 h2
  subst h1
  have hlw:w.toList.length=64:=by simp
  have hl:=zd1 b i
  have hg:∀ k,k<16+i→w.toList.getD k 0=(z5u b i).getD k 0:=fun k hk=>by rw [← h2,zns hk]
  have hv:∀ k,k<16+i→z6m w (k:Int)=some ((z5u b i).getD k 0):=fun k hk=>by rw [zvu,zen 0 (by omega),hg k hk]
  refine ⟨_,zsm w (16+i) (by omega) (by omega) _ _ _ _ _ (hv _ (by omega)) (hv _ (by omega)) (hv _ (by omega)) (hv _ (by omega)) (z7k (by omega)),rfl,?_⟩
  simp only []
  rw [z10i, show 16+(i+1)=16+i+1 by omega,zme (by omega),h2, show z5u b (i+1)=zq2 (z5u b i) from rfl,zqx _ (16+i) hl]
 ·
  obtain ⟨w,j⟩:=s
  obtain ⟨h1,h2⟩:=hs
  simp only at h1 h2
  subst h1
  refine ⟨w,?_,?_⟩
  ·
   unfold z4d
   rw [if_neg (by simp)]
  ·
   rw [← h2,List.take_of_length_le (by simp)]
abbrev O8:=UInt32 × UInt32 × UInt32 × UInt32 × UInt32 × UInt32 × UInt32 × UInt32
def toV (s:O8):Vector UInt32 8:=#v[s.1,s.2.1,s.2.2.1,s.2.2.2.1,s.2.2.2.2.1,s.2.2.2.2.2.1,s.2.2.2.2.2.2.1,s.2.2.2.2.2.2.2]
def ofV (h:Vector UInt32 8):O8:=(h[0],h[1],h[2],h[3],h[4],h[5],h[6],h[7])
theorem z124 (h:Vector UInt32 8):toV (ofV h)=h:=by
 apply Vector.ext
 intro i hi
 unfold toV ofV
 match i,hi with
 | 0,_=>rfl
 | 1,_=>rfl
 | 2,_=>rfl
 | 3,_=>rfl
 | 4,_=>rfl
 | 5,_=>rfl
 | 6,_=>rfl
 | 7,_=>rfl
def rnd1 (k w:UInt32) (s:O8):UInt32:=(((s.2.2.2.2.2.2.2+((tr s.2.2.2.2.1 6 ^^^ tr s.2.2.2.2.1 11) ^^^ tr s.2.2.2.2.1 25))+((s.2.2.2.2.1 &&& s.2.2.2.2.2.1) ^^^ ((~~~s.2.2.2.2.1) &&& s.2.2.2.2.2.2.1)))+k)+w
def rnd2 (s:O8):UInt32:=((tr s.1 2 ^^^ tr s.1 13) ^^^ tr s.1 22)+(((s.1 &&& s.2.1) ^^^ (s.1 &&& s.2.2.1)) ^^^ (s.2.1 &&& s.2.2.1))
def rnd (k w:UInt32) (s:O8):O8:=(rnd1 k w s+rnd2 s,s.1,s.2.1,s.2.2.1,s.2.2.2.1+rnd1 k w s,s.2.2.2.2.1,s.2.2.2.2.2.1,s.2.2.2.2.2.2.1)
def zrq (K W:List UInt32) (s:O8):Nat→O8
 | 0=>s
 | n+1=>rnd (K.getD n 0) (W.getD n 0) (zrq K W s n)
theorem zth:z8i=some z56.toList:=rfl
theorem zm4:z56.toList.length=64:=by simp
theorem zvz (w:Vector UInt32 64) (a b c d e f g z:UInt32) (i:Nat) (hi:i<64) (k u:UInt32) (hk:z6m z56 (i:Int)=some k) (hu:z6m w (i:Int)=some u) :
  z4v w (a,b,c,d,e,f,g,z,(i:Int))=some (.inr (rnd1 k u (a,b,c,d,e,f,g,z)+rnd2 (a,b,c,d,e,f,g,z),a,b,c,d+rnd1 k u (a,b,c,d,e,f,g,z),e,f,g,((i+1:Nat):Int))):=by
 have m1:=z105 e 6 11 25 (by omega) (by omega) (by omega)
 have m2:=z105 a 2 13 22 (by omega) (by omega) (by omega)
 have hw:=z0u (show i<9223372036854775807 by omega)
 have hd:decide ((i:Int)<64)=true:=by simp; omega
 unfold z4v
 rw [if_pos hd]
 simp only []
 rw [hk,hu,hw]
 simp only [bS]
 rw [show (6:Int)=((6:Nat):Int) from rfl, show (11:Int)=((11:Nat):Int) from rfl, show (25:Int)=((25:Nat):Int) from rfl, show (2:Int)=((2:Nat):Int) from rfl, show (13:Int)=((13:Nat):Int) from rfl, show (22:Int)=((22:Nat):Int) from rfl,m1,m2]
 simp only [bS]
 rfl
theorem zye (K W:List UInt32) (a b c d e f g z:UInt32) (i:Nat) (hi:i<64) (k u:UInt32) (hk:idx K (i:Int)=some k) (hu:idx W (i:Int)=some u) :
  z2w W K (#v[a,b,c,d,e,f,g,z],(i:Int))=some (.inr (#v[rnd1 k u (a,b,c,d,e,f,g,z)+rnd2 (a,b,c,d,e,f,g,z),a,b,c,d+rnd1 k u (a,b,c,d,e,f,g,z),e,f,g],((i+1:Nat):Int))):=by
 have t1:=zcs e 6 (by omega)
 have t2:=zcs e 11 (by omega)
 have t3:=zcs e 25 (by omega)
 have t4:=zcs a 2 (by omega)
 have t5:=zcs a 13 (by omega)
 have t6:=zcs a 22 (by omega)
 have hw:=z0u (show i<9223372036854775807 by omega)
 have hd:decide ((i:Int)<64)=true:=by simp; omega
 have v0:z6m #v[a,b,c,d,e,f,g,z] 0=some a:=rfl
 have v1:z6m #v[a,b,c,d,e,f,g,z] 1=some b:=rfl
 have v2:z6m #v[a,b,c,d,e,f,g,z] 2=some c:=rfl
 have v3:z6m #v[a,b,c,d,e,f,g,z] 3=some d:=rfl
 have v4:z6m #v[a,b,c,d,e,f,g,z] 4=some e:=rfl
 have v5:z6m #v[a,b,c,d,e,f,g,z] 5=some f:=rfl
 have v6:z6m #v[a,b,c,d,e,f,g,z] 6=some g:=rfl
 have v7:z6m #v[a,b,c,d,e,f,g,z] 7=some z:=rfl
 unfold z2w
 rw [if_pos hd]
 simp only []
 rw [v0,v1,v2,v3,v4,v5,v6,v7,hk,hu,hw]
 simp only [bS]
 rw [show (6:Int)=((6:Nat):Int) from rfl, show (11:Int)=((11:Nat):Int) from rfl, show (25:Int)=((25:Nat):Int) from rfl, show (2:Int)=((2:Nat):Int) from rfl, show (13:Int)=((13:Nat):Int) from rfl, show (22:Int)=((22:Nat):Int) from rfl,t1,t2,t3,t4,t5,t6]
 simp only [bS]
 rfl
def zst (s:O8) (i:Int):UInt32 × UInt32 × UInt32 × UInt32 × UInt32 × UInt32 × UInt32 × UInt32 × Int:=match s with
 | (a,b,c,d,e,f,g,z)=>(a,b,c,d,e,f,g,z,i)
theorem zsl (w:Vector UInt32 64) (s:O8) (i:Nat) (hi:i<64):z4v w (zst s (i:Int))=some (.inr (zst (rnd (z56.toList.getD i 0) (w.toList.getD i 0) s) ((i+1:Nat):Int))):=by
 obtain ⟨a,b,c,d,e,f,g,z⟩:=s
 exact zvz w a b c d e f g z i hi _ _ (zen 0 (by rw [zm4]; exact hi)) (zen 0 (by simp; exact hi))
theorem zsv (w:Vector UInt32 64) (s:O8):iter (z4v w) (zst s 0)=some (zrq z56.toList w.toList s 64):=by
 refine z37 (F:=z4v w) (b:=zrq z56.toList w.toList s 64) 64 (fun i=>zst (zrq z56.toList w.toList s i) (i:Int)) (fun i hi=>zsl w _ i hi) ?_
 generalize zrq z56.toList w.toList s 64=q
 obtain ⟨a,b,c,d,e,f,g,z⟩:=q
 unfold zst z4v
 rw [if_neg (by simp)]
theorem zui (K W:List UInt32) (hk:K.length=64) (hW:W.length=64) (s:O8) (i:Nat) (hi:i<64):z2w W K (toV s,(i:Int))=some (.inr (toV (rnd (K.getD i 0) (W.getD i 0) s),((i+1:Nat):Int))):=by
 obtain ⟨a,b,c,d,e,f,g,z⟩:=s
 exact zye K W a b c d e f g z i hi _ _ (zen 0 (by omega)) (zen 0 (by omega))
theorem zww (K W:List UInt32) (hk:K.length=64) (hW:W.length=64) (s:O8):iter (z2w W K) (toV s,0)=some (toV (zrq K W s 64)):=by
 refine z37 (F:=z2w W K) (b:=toV (zrq K W s 64)) 64 (fun i=>(toV (zrq K W s i),(i:Int))) (fun i hi=>zui K W hk hW _ i hi) ?_
 generalize toV (zrq K W s 64)=q
 unfold z2w
 rw [if_neg (by simp)]
theorem z11a (s:O8):zbn s=z1j (toV s):=by
 funext x
 obtain ⟨h,i⟩:=x
 unfold zbn z1j
 simp only [bS]
 show (if decide (i<8)=true then z6m (toV s) i >>= _ else _)=_
 split
 ·
  cases h1:z6m (toV s) i <;> cases h2:z6m h i <;> rfl
 ·
  rfl
def addV (h v:Vector UInt32 8):Vector UInt32 8:=(iter (z1j v) (h,0)).getD h
theorem zuf (h v:Vector UInt32 8):iter (z1j v) (h,0)=some (addV h v):=by
 obtain ⟨r,h1,-⟩:=z7w (F:=z1j v) 8 (fun i s=>s.2=(i:Int)) (fun _=>True) (fun i s hi hs=>by
  obtain ⟨u,j⟩:=s
  simp only at hs
  subst hs
  unfold z1j
  rw [if_pos (by simp; omega)]
  rw [z7k (show i<8 by omega),z7k (show i<8 by omega)]
  simp only [bS,z0u (show i<9223372036854775807 by omega)]
  exact ⟨_,rfl,rfl⟩) (fun s hs=>by
  obtain ⟨u,j⟩:=s
  simp only at hs
  subst hs
  unfold z1j
  rw [if_neg (by simp)]
  exact ⟨_,rfl,trivial⟩) (h,0) 0 (by omega) rfl
 unfold addV
 rw [h1]; rfl
def gr (h:Vector UInt32 8) (b:List UInt8):Vector UInt32 8:=addV h (toV (zrq z56.toList (z5u b 48) (ofV h) 64))
theorem z14p (h:Vector UInt32 8) (b:List UInt8) (hb:b.length=64):z7y h b=some (gr h b):=by
 unfold z7y
 rw [zyl b (by omega)]
 simp only [bS]
 rw [zz6 b]
 simp only [bS,zth]
 have:=zww z56.toList (z5u b 48) zm4 (by rw [zd1]) (ofV h)
 rw [z124] at this
 rw [this]
 simp only [bS]
 rw [zuf]
 rfl
theorem z11q (h:Vector UInt32 8) (b:List UInt8) (hb:64≤b.length):zcf h b=some (gr h (b.take 64)):=by
 unfold zcf zbf
 rw [show (64:Int)=((64:Nat):Int) from rfl, show (0:Int)=((0:Nat):Int) from rfl,zae (by omega) hb]
 simp only [bS,List.drop_zero,Nat.sub_zero]
 obtain ⟨w,h1,h2⟩:=zuz (b.take 64) (by simp; omega)
 rw [show ((0:Nat):Int)=0 from rfl,h1]
 simp only [bS]
 obtain ⟨v,h3,h4⟩:=zu7 (b.take 64) w h2
 rw [h3]
 simp only [bS]
 have hv:∀ i:Nat,(hi:i<8)→z6m h (i:Int)=some h[i]:=fun i hi=>z7k hi
 rw [show z6m h 0=some h[0] from hv 0 (by omega), show z6m h 1=some h[1] from hv 1 (by omega), show z6m h 2=some h[2] from hv 2 (by omega), show z6m h 3=some h[3] from hv 3 (by omega), show z6m h 4=some h[4] from hv 4 (by omega), show z6m h 5=some h[5] from hv 5 (by omega), show z6m h 6=some h[6] from hv 6 (by omega), show z6m h 7=some h[7] from hv 7 (by omega)]
 simp only [bS]
 have:=zsv v (ofV h)
 rw [show (h[0],h[1],h[2],h[3],h[4],h[5],h[6],h[7],(0:Int))=zst (ofV h) 0 from rfl,this]
 simp only [bS]
 rw [z11a,h4,zuf]
 rfl
end
section
open Go
def blk (h:Vector UInt32 8) (b:List UInt8):Vector UInt32 8:=if h64:64≤b.length then blk (gr h (b.take 64)) (b.drop 64) else h
termination_by b.length
decreasing_by simp; omega
theorem znj {h:Vector UInt32 8} {b:List UInt8} (hb:b.length<64):blk h b=h:=by rw [blk,dif_neg (by omega)]
theorem zny {h:Vector UInt32 8} {b:List UInt8} (hb:64≤b.length):blk h b=blk (gr h (b.take 64)) (b.drop 64):=by rw [blk,dif_pos hb]
def lft (b:List UInt8):List UInt8:=b.drop (b.length / 64 * 64)
theorem ztq {b:List UInt8} (hb:b.length<64):lft b=b:=by unfold lft; rw [Nat.div_eq_of_lt hb]; simp
theorem zv9 {b:List UInt8} (hb:64≤b.length):lft b=lft (b.drop 64):=by
 unfold lft
 rw [List.drop_drop,List.length_drop]
 congr 1
 omega
theorem zwt (b:List UInt8):(lft b).length<64:=by unfold lft; simp; omega
theorem z117 (h:Vector UInt32 8):∀ (n:Nat) (a c:List UInt8),a.length=n→blk h (a++c)=blk (blk h a) (lft a++c)∧lft (a++c)=lft (lft a++c):=by
 intro n
 induction n using Nat.strongRecOn generalizing h with
 | _ n ih =>
  intro a c ha
  by_cases h64:64≤a.length
  ·
   have e1:(a++c).take 64=a.take 64:=by rw [List.take_append_of_le_length h64]
   have e2:(a++c).drop 64=a.drop 64++c:=by rw [List.drop_append_of_le_length h64]
   have hl:64≤(a++c).length:=by simp; omega
   obtain ⟨i1,i2⟩:=ih (a.drop 64).length (by simp; omega) (gr h (a.take 64)) (a.drop 64) c rfl
   rw [zny hl,e1,e2,zny h64,zv9 h64,zv9 hl,e2]
   exact ⟨i1,i2⟩
  ·
   rw [znj (b:=a) (by omega),ztq (b:=a) (by omega)]
   exact ⟨rfl,rfl⟩
theorem zua:∀ (n:Nat) (m:z21) (r:List UInt8),r.length=n→iter z8o (m,r)=some ({ m with Words:=blk m.Words r },lft r):=by
 intro n
 induction n using Nat.strongRecOn with
 | _ n ih =>
  intro m r hr
  by_cases h64:64≤r.length
  ·
   have hs:z8o (m,r)=some (.inr ({ m with Words:=gr m.Words (r.take 64) },r.drop 64)):=by
    unfold z8o
    rw [if_pos (by simp; omega)]
    simp only []
    rw [z11q _ _ h64, show (64:Int)=((64:Nat):Int) from rfl,zae h64 (Nat.le_refl _)]
    simp only [bS]
    rw [List.take_of_length_le (l:=r.drop 64) (by simp)]
   rw [z1p hs,ih (r.drop 64).length (by simp; omega) _ _ rfl,zny h64,zv9 h64]
  ·
   refine (z1l (b:=(m,r)) ?_).trans ?_
   ·
    unfold z8o
    rw [if_neg (by simp; omega)]
   ·
    rw [znj (by omega),ztq (by omega)]
theorem z10v (a b:List UInt8) (h:a.length+b.length≤1000000):z1u [a,b]=some (a++b):=by
 have l1:iter (z0r [a,b]) (0,0)=some ((a.length+b.length:Nat):Int):=by
  have s1:z0r [a,b] (0,0)=some (.inr ((a.length:Int),1)):=by
   unfold z0r
   rw [if_pos (by simp)]
   simp only []
   rw [show idx [a,b] 0=some a from rfl]
   simp only [bS]
   rw [z0w (x:=(0:Int)+(a.length:Int)) (by omega) (by omega),z0w (x:=(0:Int)+1) (by omega) (by omega)]
   rw [if_neg (by simp)]
   simp
  have s2:z0r [a,b] ((a.length:Int),1)=some (.inr (((a.length+b.length:Nat):Int),2)):=by
   unfold z0r
   rw [if_pos (by simp)]
   simp only []
   rw [show idx [a,b] 1=some b from rfl]
   simp only [bS]
   rw [z0w (x:=(a.length:Int)+(b.length:Int)) (by omega) (by omega),z0w (x:=(1:Int)+1) (by omega) (by omega)]
   rw [if_neg (by simp; omega)]
   simp
  have s3:z0r [a,b] (((a.length+b.length:Nat):Int),2)=some (.inl ((a.length+b.length:Nat):Int)):=by
   unfold z0r
   rw [if_neg (by simp)]
  rw [z1p s1,z1p s2,z1l s3]
 have gw:z3d ((a.length+b.length:Nat):Int)=some []:=by
  unfold z3d
  rw [if_neg (by simp; omega)]
  rw [show ((([]:List UInt8).length:Nat):Int)=0 from rfl, show w64 ((0:Int) - 0)=0 by decide,Int.sub_zero,z0w (by omega) (by omega)]
  simp only [bS]
  split
  ·
   rw [zfo (by omega) (by omega)]
   simp only [bS]
   rw [show (0:Int)=((0:Nat):Int) from rfl,zae (Nat.le_refl _) (Nat.zero_le _)]
   simp
  ·
   rfl
 have l2:iter (z0q [a,b]) ([],0)=some (a++b):=by
  have s1:z0q [a,b] ([],0)=some (.inr (a,1)):=by
   unfold z0q
   rw [if_pos (by simp)]
   simp only []
   rw [show idx [a,b] 0=some a from rfl,z0w (x:=(0:Int)+1) (by omega) (by omega)]
   simp only [bS]
   rw [z1m (by simp; omega)]
   simp
  have s2:z0q [a,b] (a,1)=some (.inr (a++b,2)):=by
   unfold z0q
   rw [if_pos (by simp)]
   simp only []
   rw [show idx [a,b] 1=some b from rfl,z0w (x:=(1:Int)+1) (by omega) (by omega)]
   simp only [bS]
   rw [z1m (by simp; omega)]
   simp
  have s3:z0q [a,b] (a++b,2)=some (.inl (a++b)):=by
   unfold z0q
   rw [if_neg (by simp)]
  rw [z1p s1,z1p s2,z1l s3]
 unfold z1u
 rw [l1]
 simp only [bS]
 rw [gw]
 simp only [bS]
 rw [l2]
 simp only [bS]
theorem z10r (m:z21) (b:List UInt8) (h:m.Rest.length+b.length≤1000000):za0 m b=some ⟨blk m.Words (m.Rest++b),lft (m.Rest++b),w64 (m.N+(b.length:Int))⟩:=by
 unfold za0
 rw [z10v _ _ h]
 simp only [bS]
 rw [zua _ _ _ rfl]
 simp only [bS]
 unfold z7c
 have:=zwt (m.Rest++b)
 rw [z1m (by simp; omega)]
 simp only [bS,List.nil_append]
def H0:Vector UInt32 8:=#v[1779033703,3144134277,1013904242,2773480762,1359893119,2600822924,528734635,1541459225]
def ztd (a:List UInt8):z21:=⟨blk H0 a,lft a,(a.length:Int)⟩
theorem zzb:zci=some (ztd []):=by
 unfold zci ztd
 rw [znj (by simp),ztq (by simp)]
 rfl
theorem zo1 (a b:List UInt8) (h:a.length+b.length≤500000):za0 (ztd a) b=some (ztd (a++b)):=by
 have hl:=zwt a
 rw [z10r (ztd a) b (by show (lft a).length+b.length≤1000000; omega)]
 obtain ⟨h1,h2⟩:=z117 H0 _ a b rfl
 unfold ztd
 rw [h1,h2,z0w (by simp; omega) (by simp; omega)]
 simp
theorem zsg (b:List UInt8) (hb:b.length≤1000000):∀ (n:Nat) (h:Vector UInt32 8) (i:Nat),(b.drop i).length=n→i≤b.length→iter (z4n b) (h,(i:Int))=some (blk h (b.drop i)):=by
 intro n
 induction n using Nat.strongRecOn with
 | _ n ih =>
  intro h i hn hi
  have hw:w64 ((i:Int)+64)=((i+64:Nat):Int):=by rw [z0w (by omega) (by omega)]; omega
  simp only [List.length_drop] at hn
  by_cases h64:i+64≤b.length
  ·
   have hs:z4n b (h,(i:Int))=some (.inr (gr h ((b.drop i).take 64),((i+64:Nat):Int))):=by
    unfold z4n
    simp only [hw]
    rw [if_pos (by simp; omega),zae (by omega) h64]
    simp only [bS]
    rw [show i+64 - i=64 by omega,z14p _ _ (by simp; omega)]
    simp only [bS]
   rw [z1p hs,ih (b.drop (i+64)).length (by simp; omega) _ _ rfl h64,zny (b:=b.drop i) (by simp; omega),List.drop_drop]
  ·
   refine (z1l (b:=h) ?_).trans ?_
   ·
    unfold z4n
    simp only [hw]
    rw [if_neg (by simp; omega)]
   ·
    rw [znj (by simp; omega)]
theorem ztz (h:Vector UInt32 8) (b:List UInt8) (hb:b.length≤1000000):z8c h b=some (blk h b):=by
 unfold z8c
 have:=zsg b hb _ h 0 rfl (by omega)
 rw [show (0:Int)=((0:Nat):Int) from rfl,this]
 simp only [bS,List.drop_zero]
def zrs (n:Nat):Nat:=(119 - n % 64) % 64
def z7s (n:Nat):List UInt8:=(List.range 8).map fun i=>(z6l (UInt64.ofNat n * 8) (56 - 8 * i)).toUInt8
def tl (n:Nat):List UInt8:=([128]++List.replicate (zrs n) 0)++z7s n
theorem zox (n:Nat):UInt64.ofInt (n:Int)=UInt64.ofNat n:=by
 apply UInt64.toNat_inj.1
 unfold UInt64.ofInt
 simp only [UInt64.toNat_ofNat']
 omega
theorem zu8 (n:Nat) (x:List UInt8) (hx:x.length≤100):iter (z9j (UInt64.ofNat n * 8)) (x,56)=some (x++z7s n):=by
 rw [show (x,(56:Int))=(x++(z7s n).take 0,56 - 8 * ((0:Nat):Int)) by simp]
 refine z37 (F:=z9j (UInt64.ofNat n * 8)) (b:=x++z7s n) 8 (fun i=>(x++(z7s n).take i,56 - 8 * (i:Int))) (fun i hi=>?_) ?_
 ·
  have hl:(z7s n).length=8:=by simp [z7s]
  unfold z9j
  rw [if_pos (by simp; omega)]
  simp only []
  rw [z2x (by omega),z0w (by omega) (by omega)]
  simp only [bS]
  rw [z1m (by simp; omega)]
  simp only [bS]
  rw [List.take_add_one,List.getElem?_eq_getElem (by omega)]
  simp only [Option.toList_some,List.append_assoc]
  rw [show (56 - 8 * (i:Int)).toNat=56 - 8 * i by omega, show (56 - 8 * (i:Int) - 8)=56 - 8 * ((i+1:Nat):Int) by omega]
  simp [z7s]
 ·
  have hl:(z7s n).length=8:=by simp [z7s]
  unfold z9j
  rw [if_neg (by simp),List.take_of_length_le (by omega)]
theorem zub (n:Nat) (x:List UInt8) (hx:x.length≤100):iter (z5j (n:Int)) (x,7)=some (x++z7s n):=by
 rw [show (x,(7:Int))=(x++(z7s n).take 0,7 - ((0:Nat):Int)) by simp]
 refine z37 (F:=z5j (n:Int)) (b:=x++z7s n) 8 (fun i=>(x++(z7s n).take i,7 - (i:Int))) (fun i hi=>?_) ?_
 ·
  have hl:(z7s n).length=8:=by simp [z7s]
  unfold z5j
  rw [if_pos (by simp; omega)]
  simp only []
  rw [z0w (x:=8 * (7 - (i:Int))) (by omega) (by omega),z2x (by omega),z0w (by omega) (by omega)]
  simp only [bS]
  rw [z1m (by simp; omega)]
  simp only [bS]
  rw [List.take_add_one,List.getElem?_eq_getElem (by omega)]
  simp only [Option.toList_some,List.append_assoc]
  rw [show (8 * (7 - (i:Int))).toNat=56 - 8 * i by omega, show (7 - (i:Int) - 1)=7 - ((i+1:Nat):Int) by omega]
  rw [zox]
  simp [z7s,UInt64.mul_comm]
 ·
  have hl:(z7s n).length=8:=by simp [z7s]
  unfold z5j
  rw [if_neg (by simp),List.take_of_length_le (by omega)]
theorem zuo (n:Nat) (hn:n≤1000000):iter (z5g (n:Int)) [128]=some ([128]++List.replicate (zrs n) 0):=by
 refine z37 (F:=z5g (n:Int)) (b:=[128]++List.replicate (zrs n) 0) (zrs n) (fun i=>[128]++List.replicate i 0) (fun i hi=>?_) ?_
 ·
  have hz:zrs n<64:=Nat.mod_lt _ (by omega)
  have hl:(([128]++List.replicate i 0:List UInt8).length:Int)=((1+i:Nat):Int):=by simp; omega
  unfold z5g
  rw [hl,z0w (x:=(n:Int)+((1+i:Nat):Int)) (by omega) (by omega),z0w (by omega) (by omega)]
  have ht:Int.tmod ((n:Int)+((1+i:Nat):Int)+8) 64=(((n+9+i) % 64:Nat):Int):=by
   rw [Int.tmod_eq_emod_of_nonneg (by omega)]; omega
  rw [ht,if_pos]
  ·
   rw [z1m (by simp; omega)]
   simp only [bS]
   rw [List.replicate_succ',List.append_assoc]
  ·
   simp only [bne_iff_ne,ne_eq]
   unfold zrs at hi
   omega
 ·
  have hl:(([128]++List.replicate (zrs n) 0:List UInt8).length:Int)=((1+zrs n:Nat):Int):=by simp; omega
  have hz:zrs n<64:=Nat.mod_lt _ (by omega)
  unfold z5g
  rw [hl,z0w (x:=(n:Int)+((1+zrs n:Nat):Int)) (by omega) (by omega),z0w (by omega) (by omega)]
  have ht:Int.tmod ((n:Int)+((1+zrs n:Nat):Int)+8) 64=0:=by
   rw [Int.tmod_eq_emod_of_nonneg (by omega)]
   unfold zrs
   omega
  rw [ht,if_neg (by simp)]
theorem zzj (n:Nat) (hn:n≤1000000):z9f (n:Int)=some (tl n):=by
 have hz:zrs n<64:=Nat.mod_lt _ (by omega)
 unfold z9f
 rw [zuo n hn]
 simp only [bS]
 rw [zub n _ (by simp; omega)]
 simp only [bS]
 rfl
def wr (h:Vector UInt32 8):V3:=Vector.ofFn fun i=>(z3w (h[i.val / 4]'(by omega)) (24 - 8 * (i.val % 4))).toUInt8
theorem zsz (h:Vector UInt32 8):z7g h=some (wr h):=by
 have:∃ r,iter (z4a h) (Vector.replicate 32 0,0)=some r∧r=wr h:=by
  refine z7w (F:=z4a h) 32 (fun i s=>s.2=(i:Int)∧∀ k (hk:k<32),k<i→s.1[k]=(wr h)[k]) (fun r=>r=wr h) (fun i s hi hs=>?_) (fun s hs=>?_) (Vector.replicate 32 0,0) 0 (by omega) ⟨rfl, fun k hk h0=>by omega⟩
  ·
   obtain ⟨v,j⟩:=s
   obtain ⟨h1,h2⟩:=hs
   simp only at h1 h2
   subst h1
   have hd:w64 (Int.tdiv (i:Int) 4)=((i / 4:Nat):Int):=by
    have:Int.tdiv (i:Int) 4=((i / 4:Nat):Int):=by rw [Int.tdiv_eq_ediv_of_nonneg (by omega)]; omega
    rw [this,z0w (by omega) (by omega)]
   have hm:w64 (8 * (Int.tmod (i:Int) 4))=((8 * (i % 4):Nat):Int):=by
    have:Int.tmod (i:Int) 4=((i % 4:Nat):Int):=by rw [Int.tmod_eq_emod_of_nonneg (by omega)]; omega
    rw [this,z0w (by omega) (by omega)]; omega
   have hs:w64 (24 - ((8 * (i % 4):Nat):Int))=((24 - 8 * (i % 4):Nat):Int):=by rw [z0w (by omega) (by omega)]; omega
   refine ⟨(zgq v (i:Int) ((z3w (h[i / 4]'(by omega)) (24 - 8 * (i % 4))).toUInt8),((i+1:Nat):Int)),?_,rfl, fun k hk hk2=>?_⟩
   ·
    unfold z4a
    rw [if_pos (by simp; omega)]
    simp only []
    rw [hd,hm,hs,z7k (show i / 4<8 by omega),z2x (by omega),z7k hi,z0u (show i<9223372036854775807 by omega)]
    simp only [bS,Int.toNat_natCast]
   ·
    simp only []
    rw [zf7 hk,Int.toNat_natCast]
    by_cases e:i=k
    ·
     subst e
     rw [if_pos rfl]
     simp [wr]
    ·
     rw [if_neg e]; exact h2 k hk (by omega)
  ·
   obtain ⟨v,j⟩:=s
   obtain ⟨h1,h2⟩:=hs
   simp only at h1 h2
   subst h1
   refine ⟨v,?_,?_⟩
   ·
    unfold z4a
    rw [if_neg (by simp)]
   ·
    exact Vector.ext fun k hk=>h2 k hk hk
 obtain ⟨r,h1,rfl⟩:=this
 unfold z7g
 rw [h1]
 simp only [bS]
theorem zo2 (m:z21):iter (z7z m) (Vector.replicate 32 0,0)=some (wr m.Words):=by
 have:∃ r,iter (z7z m) (Vector.replicate 32 0,0)=some r∧r=wr m.Words:=by
  refine z7w (F:=z7z m) 8 (fun i s=>s.2=(i:Int)∧∀ k (hk:k<32),k<4 * i→s.1[k]=(wr m.Words)[k]) (fun r=>r=wr m.Words) (fun i s hi hs=>?_) (fun s hs=>?_) (Vector.replicate 32 0,0) 0 (by omega) ⟨rfl, fun k hk h0=>by omega⟩
  ·
   obtain ⟨v,j⟩:=s
   obtain ⟨h1,h2⟩:=hs
   simp only at h1 h2
   subst h1
   have e0:w64 (4 * (i:Int))=((4 * i:Nat):Int):=by rw [z0w (by omega) (by omega)]; omega
   have e1:w64 (((4 * i:Nat):Int)+1)=((4 * i+1:Nat):Int):=by rw [z0w (by omega) (by omega)]; omega
   have e2:w64 (((4 * i:Nat):Int)+2)=((4 * i+2:Nat):Int):=by rw [z0w (by omega) (by omega)]; omega
   have e3:w64 (((4 * i:Nat):Int)+3)=((4 * i+3:Nat):Int):=by rw [z0w (by omega) (by omega)]; omega
   refine ⟨(zgq (zgq (zgq (zgq v ((4 * i:Nat):Int) (z3w m.Words[i] 24).toUInt8) ((4 * i+1:Nat):Int) (z3w m.Words[i] 16).toUInt8) ((4 * i+2:Nat):Int) (z3w m.Words[i] 8).toUInt8) ((4 * i+3:Nat):Int) m.Words[i].toUInt8,((i+1:Nat):Int)),?_,rfl, fun k hk hk2=>?_⟩
   ·
    unfold z7z
    rw [if_pos (by simp; omega)]
    simp only []
    rw [e0,e1,e2,e3,z7k hi,z7k (show 4 * i<32 by omega),z0u (show i<9223372036854775807 by omega)]
    simp only [bS]
    rw [z7k (show 4 * i+1<32 by omega),z7k (show 4 * i+2<32 by omega),z7k (show 4 * i+3<32 by omega)]
    simp only [bS]
   ·
    simp only []
    rw [zf7 hk,zf7 hk,zf7 hk,zf7 hk]
    simp only [Int.toNat_natCast]
    have hw:(wr m.Words)[k]=(z3w (m.Words[k / 4]'(by omega)) (24 - 8 * (k % 4))).toUInt8:=by simp [wr]
    have s0:∀ x:UInt32,z3w x 0=x:=fun x=>by
     apply UInt32.toNat_inj.1; rw [zdv]; simp
    by_cases c3:4 * i+3=k
    ·
     subst c3
     rw [if_pos rfl,hw]
     have a1:(4 * i+3) / 4=i:=by omega
     have a2:24 - 8 * ((4 * i+3) % 4)=0:=by omega
     simp only [a1,a2,s0]
    ·
     rw [if_neg c3]
     by_cases c2:4 * i+2=k
     ·
      subst c2
      rw [if_pos rfl,hw]
      have a1:(4 * i+2) / 4=i:=by omega
      have a2:24 - 8 * ((4 * i+2) % 4)=8:=by omega
      simp only [a1,a2]
     ·
      rw [if_neg c2]
      by_cases c1:4 * i+1=k
      ·
       subst c1
       rw [if_pos rfl,hw]
       have a1:(4 * i+1) / 4=i:=by omega
       have a2:24 - 8 * ((4 * i+1) % 4)=16:=by omega
       simp only [a1,a2]
      ·
       rw [if_neg c1]
       by_cases c0:4 * i=k
       ·
        subst c0
        rw [if_pos rfl,hw]
        have a1:(4 * i) / 4=i:=by omega
        have a2:24 - 8 * ((4 * i) % 4)=24:=by omega
        simp only [a1,a2]
       ·
        rw [if_neg c0]
        exact h2 k hk (by omega)
  ·
   obtain ⟨v,j⟩:=s
   obtain ⟨h1,h2⟩:=hs
   simp only at h1 h2
   subst h1
   refine ⟨v,?_,?_⟩
   ·
    unfold z7z
    rw [if_neg (by simp)]
   ·
    exact Vector.ext fun k hk=>h2 k hk (by omega)
 obtain ⟨r,h1,rfl⟩:=this
 exact h1
def sha (b:List UInt8):V3:=wr (blk H0 (b++tl b.length))
theorem z13i (a:List UInt8) (h:a.length≤300000):zf4 (ztd a)=some (sha a):=by
 have hz:zrs a.length<64:=Nat.mod_lt _ (by omega)
 unfold zf4
 rw [show (ztd a).N=((a.length:Nat):Int) from rfl,zox]
 simp only [bS]
 have ht:Int.tmod (w64 (119 - Int.tmod ((a.length:Nat):Int) 64)) 64=((zrs a.length:Nat):Int):=by
  have e1:Int.tmod ((a.length:Nat):Int) 64=((a.length % 64:Nat):Int):=by rw [Int.tmod_eq_emod_of_nonneg (by omega)]; omega
  rw [e1,z0w (by omega) (by omega),Int.tmod_eq_emod_of_nonneg (by omega)]
  unfold zrs
  omega
 rw [ht]
 have hap:appz 1 ([128]:List UInt8) 0 ((zrs a.length:Nat):Int)=some ([128]++List.replicate (zrs a.length) 0):=by
  unfold appz
  rw [if_pos ⟨by omega, by simp; omega⟩,Int.toNat_natCast]
 rw [hap]
 simp only [bS]
 rw [zu8 _ _ (by simp; omega)]
 simp only [bS]
 have htl:(tl a.length).length≤200:=by simp [tl,z7s]; omega
 rw [show ([128]++List.replicate (zrs a.length) 0)++z7s a.length=tl a.length from rfl,zo1 a _ (by omega)]
 simp only [bS]
 rw [zo2]
 simp only [bS]
 rfl
theorem z12w (b:List UInt8) (h:b.length≤300000):z9m b=some (sha b):=by
 have hz:zrs b.length<64:=Nat.mod_lt _ (by omega)
 have htl:(tl b.length).length≤200:=by simp [tl,z7s]; omega
 unfold z9m zap
 simp only [bS]
 rw [z1m (by simp; omega)]
 simp only [bS,List.nil_append]
 rw [zzj _ (by omega)]
 simp only [bS]
 rw [z1m (by simp; omega)]
 simp only [bS]
 rw [ztz _ _ (by simp; omega)]
 simp only [bS]
 rw [zsz]
 simp only [bS]
 rfl
end
section
open Go Go.RowKit
def pmod:Nat→Nat→Nat→Nat→Nat
 | 0,_,_,m=>1 % m
 | f+1,a,n,m=>if n=0 then 1 % m else (if n % 2=1 then a * pmod f (a * a % m) (n / 2) m % m else pmod f (a * a % m) (n / 2) m)
theorem zmo:∀ (f a n m:Nat),n<2 ^ f→pmod f a n m=a ^ n % m
 | 0,a,n,m,h=>by
  have:n=0:=by simpa using h
  subst this; rfl
 | f+1,a,n,m,h=>by
  have h2:n / 2<2 ^ f:=by rw [Nat.pow_succ] at h; omega
  have key:(a * a % m) ^ (n / 2) % m=a ^ (2 * (n / 2)) % m:=by
   rw [← Nat.pow_mod,← Nat.pow_two,← Nat.pow_mul]
  simp only [pmod,zmo f _ _ _ h2,key]
  split
  ·
   rename_i h0; subst h0; rfl
  ·
   split
   ·
    rename_i h1
    rw [Nat.mul_mod,Nat.mod_mod,← Nat.mul_mod, show a * a ^ (2 * (n / 2))=a ^ (2 * (n / 2)+1) by rw [Nat.pow_succ,Nat.mul_comm], show 2 * (n / 2)+1=n by omega]
   ·
    rename_i h1
    rw [show 2 * (n / 2)=n by omega]
abbrev gp:Nat:=1000000007
abbrev gq:Nat:=500000003
theorem zrp:4 ^ gq % gp=1:=by
 rw [← zmo 64 4 gq gp (by decide)]
 decide +kernel
def inG (a:Nat):Prop:=0<a∧a<gp∧a ^ gq % gp=1
instance:DecidablePred inG:=fun a=>by unfold inG; exact inferInstance
theorem zg5 (a m n p:Nat):(a ^ m % p) ^ n % p=a ^ (m * n) % p:=by rw [← Nat.pow_mod,← Nat.pow_mul]
theorem znl {a:Nat} (h:a ^ gq % gp=1) (k:Nat):a ^ (gq * k) % gp=1:=by
 rw [Nat.pow_mul,Nat.pow_mod,h,Nat.one_pow]
 rfl
theorem zk2 {a:Nat} (h:a ^ gq % gp=1) (k r:Nat):a ^ (gq * k+r) % gp=a ^ r % gp:=by
 rw [Nat.pow_add,Nat.mul_mod,znl h,Nat.one_mul,Nat.mod_mod]
theorem zmn {a:Nat} (h:a ^ gq % gp=1) (n:Nat):inG (a ^ n % gp):=by
 have h2:(a ^ n % gp) ^ gq % gp=1:=by rw [zg5,Nat.mul_comm,znl h]
 refine ⟨Nat.pos_of_ne_zero fun h0=>?_,Nat.mod_lt _ (by decide),h2⟩
 rw [h0,Nat.zero_pow (by decide)] at h2
 exact absurd h2 (by decide)
theorem z11j {y E:Nat} (h:y ^ gq % gp=1) (hE:E<gq):(y ^ E % gp) ^ (gq - 1) % gp=y ^ (gq - E) % gp:=by
 rw [zg5]
 by_cases h0:E=0
 ·
  subst h0
  rw [Nat.zero_mul,Nat.sub_zero,h,Nat.pow_zero]
  decide
 ·
  have e:E * (gq - 1)=gq * (E - 1)+(gq - E):=by
   obtain ⟨k,rfl⟩:∃ k,E=k+1:=⟨E - 1, by omega⟩
   have hE':k+1<500000003:=hE
   show (k+1) * 500000002=500000003 * (k+1 - 1)+(500000003 - (k+1))
   omega
  rw [e,zk2 h]
theorem zul {a n i p:Nat}:((a ^ (n >>> (i+1)) % p) * (a ^ (n >>> (i+1)) % p) % p) * a ^ ((n >>> i) % 2) % p=a ^ (n >>> i) % p:=by
 have e:n >>> i=2 * (n >>> (i+1))+(n >>> i) % 2:=by
  rw [Nat.shiftRight_succ]; omega
 have key:∀ x y:Nat,((x % p) * (x % p) % p) * y % p=x * x * y % p:=fun x y=>by
  rw [Nat.mul_mod ((x % p) * (x % p) % p) y,Nat.mod_mod,← Nat.mul_mod x x,← Nat.mul_mod]
 rw [key,← Nat.pow_add,← Nat.pow_add]
 congr 2
 omega
end
section
open Go
def u32 (n:Nat):UInt32:=UInt32.ofNat n
theorem z1y {n:Nat} (h:n<gp):(u32 n).toNat=n:=by
 have h:n<1000000007:=h
 unfold u32; simp; omega
theorem m64 (x y:UInt64) (h:x.toNat * y.toNat<18446744073709551616):(x * y % 1000000007).toNat=x.toNat * y.toNat % gp:=by
 rw [UInt64.toNat_mod,UInt64.toNat_mul,Nat.mod_eq_of_lt h]
 rfl
theorem to32 (x:UInt64) (h:x.toNat<gp):x.toUInt32=u32 x.toNat:=by
 apply UInt32.toNat_inj.1
 have h:x.toNat<1000000007:=h
 rw [z1y h]; simp; omega
theorem mul2 (x y:UInt32):z9o 1000000007 [x,y]=some (u32 (x.toNat * y.toNat % gp)):=by
 have hx:=UInt32.toNat_lt x
 have hy:=UInt32.toNat_lt y
 have e1:(1 * x.toUInt64 % 1000000007:UInt64).toNat=x.toNat % gp:=by
  rw [m64 _ _ (by simp; omega)]; simp
 have hlt:x.toNat % gp<1000000007:=Nat.mod_lt _ (by decide)
 have hpr:(x.toNat % gp) * y.toNat≤1000000007 * 4294967296:=Nat.mul_le_mul (by omega) (by omega)
 have e2:(1 * x.toUInt64 % 1000000007 * y.toUInt64 % 1000000007:UInt64).toNat=x.toNat * y.toNat % gp:=by
  rw [m64 _ _ (by rw [e1]; simp; omega),e1]
  simp only [UInt32.toNat_toUInt64]
  rw [Nat.mod_mul_mod]
 have s1:z3e 1000000007 [x,y] (1,0)=some (.inr (1 * x.toUInt64 % 1000000007,1)):=by
  unfold z3e
  rw [if_pos (by simp)]
  simp only []
  rw [show idx [x,y] 0=some x from rfl,z2x (by decide),z0w (x:=(0:Int)+1) (by omega) (by omega)]
  simp only [bS]
  rfl
 have s2:z3e 1000000007 [x,y] (1 * x.toUInt64 % 1000000007,1)=some (.inr (1 * x.toUInt64 % 1000000007 * y.toUInt64 % 1000000007,2)):=by
  unfold z3e
  rw [if_pos (by simp)]
  simp only []
  rw [show idx [x,y] 1=some y from rfl,z2x (by decide),z0w (x:=(1:Int)+1) (by omega) (by omega)]
  simp only [bS]
  rfl
 have s3:z3e 1000000007 [x,y] (1 * x.toUInt64 % 1000000007 * y.toUInt64 % 1000000007,2)=some (.inl (1 * x.toUInt64 % 1000000007 * y.toUInt64 % 1000000007)):=by
  unfold z3e
  rw [if_neg (by simp)]
 unfold z9o
 rw [z1p s1,z1p s2,z1l s3]
 simp only [bS]
 rw [to32 _ (by rw [e2]; exact Nat.mod_lt _ (by decide)),e2]
theorem zzd (a:UInt32) (n:UInt64) (i:Nat) (hi:i<64):zac a n (u32 (a.toNat ^ (n.toNat >>> (64 - i)) % gp),(i:Int))=some (.inr (u32 (a.toNat ^ (n.toNat >>> (64 - (i+1))) % gp),((i+1:Nat):Int))):=by
 have hlt:a.toNat ^ (n.toNat >>> (64 - i)) % gp<gp:=Nat.mod_lt _ (by decide)
 have hlt2:(a.toNat ^ (n.toNat >>> (64 - i)) % gp) * (a.toNat ^ (n.toNat >>> (64 - i)) % gp) % gp<gp:=Nat.mod_lt _ (by decide)
 have hw:w64 (63 - (i:Int))=((63 - i:Nat):Int):=by rw [z0w (by omega) (by omega)]; omega
 have key:=zul (a:=a.toNat) (n:=n.toNat) (i:=63 - i) (p:=gp)
 rw [show 63 - i+1=64 - i by omega] at key
 have hb:=z15r n (63 - i) (by omega)
 unfold zac zg8
 rw [if_pos (by simp; omega)]
 simp only []
 rw [mul2,z1y hlt]
 simp only [bS]
 rw [hw,z2x (by omega),z0u (show i<9223372036854775807 by omega)]
 simp only [bS]
 rw [show 64 - (i+1)=63 - i by omega]
 have hs:n.toNat >>> (63 - i) % 2=(if n.toNat.testBit (63 - i) then 1 else 0):=by
  rw [Nat.testBit_eq_decide_div_mod_eq,← Nat.shiftRight_eq_div_pow]
  by_cases h:n.toNat >>> (63 - i) % 2=1
  ·
   simp [h]
  ·
   simp [h]; omega
 cases ht:n.toNat.testBit (63 - i) with
 | true =>
  rw [ht] at hs
  rw [hs,if_pos rfl,Nat.pow_one] at key
  rw [if_pos (by rw [Int.toNat_natCast,hb]; exact ht),mul2,z1y hlt2,key]
  simp only [bS]
 | false =>
  rw [ht] at hs
  rw [hs,if_neg (by simp),Nat.pow_zero,Nat.mul_one,Nat.mod_mod] at key
  rw [if_neg (by rw [Int.toNat_natCast,hb,ht]; simp),key]
theorem zqy (a:UInt32) (n:UInt64):zd6 a n=some (u32 (a.toNat ^ n.toNat % gp)):=by
 have h0:n.toNat >>> 64=0:=by
  rw [Nat.shiftRight_eq_div_pow]; exact Nat.div_eq_of_lt (UInt64.toNat_lt n)
 have:=z37 (F:=zac a n) (b:=u32 (a.toNat ^ n.toNat % gp)) 64 (fun i=>(u32 (a.toNat ^ (n.toNat >>> (64 - i)) % gp),(i:Int))) (fun i hi=>zzd a n i hi) (by
  unfold zac
  rw [if_neg (by simp)]
  simp)
 simp only [Nat.sub_zero,h0,Nat.pow_zero] at this
 unfold zd6
 rw [show ((1:UInt32),(0:Int))=(u32 (1 % gp),((0:Nat):Int)) from rfl,this]
 simp only [bS]
theorem zt1:∀ (k:Nat) (a n o:UInt64),n.toNat=k→a.toNat<4294967296→o.toNat<gp→∃ r:UInt64,iter (z4u 1000000007) (a,n,o)=some r∧r.toNat=o.toNat * a.toNat ^ n.toNat % gp:=by
 intro k
 induction k using Nat.strongRecOn with
 | _ k ih =>
  intro a n o hk ha ho
  have ho':o.toNat<1000000007:=ho
  by_cases hn:n.toNat=0
  ·
   refine ⟨o,z1l ?_,?_⟩
   ·
    unfold z4u
    rw [if_neg]
    simp only [decide_eq_true_eq,UInt64.lt_iff_toNat_lt]
    simp; omega
   ·
    rw [hn,Nat.pow_zero,Nat.mul_one,Nat.mod_eq_of_lt ho]
  ·
   have haa:(a * a % 1000000007).toNat=a.toNat * a.toNat % gp:=m64 a a (by
    have:a.toNat * a.toNat≤4294967295 * 4294967295:=Nat.mul_le_mul (by omega) (by omega)
    omega)
   have hoa:(o * a % 1000000007).toNat=o.toNat * a.toNat % gp:=m64 o a (by
    have:o.toNat * a.toNat≤1000000007 * 4294967295:=Nat.mul_le_mul (by omega) (by omega)
    omega)
   have hn2:(n / 2).toNat=n.toNat / 2:=by simp
   have hm2:((n % 2)==1)=decide (n.toNat % 2=1):=by
    rw [Bool.eq_iff_iff,beq_iff_eq,← UInt64.toNat_inj]
    simp
   have hlt:a.toNat * a.toNat % gp<1000000007:=Nat.mod_lt _ (by decide)
   have hol:o.toNat * a.toNat % gp<gp:=Nat.mod_lt _ (by decide)
   have hpow:∀ m:Nat,(a.toNat * a.toNat % gp) ^ m % gp=a.toNat ^ (2 * m) % gp:=fun m=>by
    rw [← Nat.pow_mod,← Nat.pow_two,← Nat.pow_mul]
   have hstep:z4u 1000000007 (a,n,o)=some (.inr (a * a % 1000000007,n / 2, if n.toNat % 2=1 then o * a % 1000000007 else o)):=by
    unfold z4u
    rw [if_pos (by simp only [decide_eq_true_eq,UInt64.lt_iff_toNat_lt]; simp; omega)]
    simp only []
    rw [hm2,z2x (by decide)]
    by_cases h:n.toNat % 2=1
    ·
     rw [if_pos (by simpa using h),if_pos h]
     simp only [bS]
    ·
     rw [if_neg (by simpa using h),if_neg h]
     simp only [bS]
   rw [z1p hstep]
   by_cases h:n.toNat % 2=1
   ·
    rw [if_pos h]
    obtain ⟨r,h1,h2⟩:=ih (n / 2).toNat (by rw [hn2]; omega) (a * a % 1000000007) (n / 2) (o * a % 1000000007) rfl (by rw [haa]; omega) (by rw [hoa]; exact hol)
    refine ⟨r,h1,?_⟩
    rw [h2,haa,hoa,hn2,Nat.mul_mod,hpow,Nat.mod_mod,← Nat.mul_mod,Nat.mul_assoc, show a.toNat * a.toNat ^ (2 * (n.toNat / 2))=a.toNat ^ (2 * (n.toNat / 2)+1) by rw [Nat.pow_succ,Nat.mul_comm], show 2 * (n.toNat / 2)+1=n.toNat by omega]
   ·
    rw [if_neg h]
    obtain ⟨r,h1,h2⟩:=ih (n / 2).toNat (by rw [hn2]; omega) (a * a % 1000000007) (n / 2) o rfl (by rw [haa]; omega) ho
    refine ⟨r,h1,?_⟩
    rw [h2,haa,hn2,Nat.mul_mod,hpow,← Nat.mul_mod, show 2 * (n.toNat / 2)=n.toNat by omega]
theorem zrd (a n:UInt64) (ha:a.toNat<4294967296):∃ r:UInt64,z75 a n 1000000007=some r∧r.toNat=a.toNat ^ n.toNat % gp:=by
 obtain ⟨r,h1,h2⟩:=zt1 _ a n 1 rfl ha (by decide)
 refine ⟨r,?_, by rw [h2]; simp⟩
 unfold z75
 rw [h1]
 simp only [bS]
theorem zk7 (a:UInt32) (n:UInt64):z4r a n=some (u32 (a.toNat ^ n.toNat % gp)):=by
 obtain ⟨r,h1,h2⟩:=zrd a.toUInt64 n (by simp; exact UInt32.toNat_lt a)
 unfold z4r
 rw [h1]
 simp only [bS]
 simp only [UInt32.toNat_toUInt64] at h2
 rw [to32 _ (by rw [h2]; exact Nat.mod_lt _ (by decide)),h2]
theorem z13b (a:UInt32):(u32 (a.toNat ^ (500000003:UInt64).toNat % gp)==1)=decide (a.toNat ^ gq % gp=1):=by
 have hlt:a.toNat ^ gq % gp<gp:=Nat.mod_lt _ (by decide)
 rw [show (500000003:UInt64).toNat=gq from rfl,Bool.eq_iff_iff,beq_iff_eq,decide_eq_true_iff,← UInt32.toNat_inj,z1y hlt]
 rfl
theorem zti (a:UInt32):zf3 a=some (decide (inG a.toNat)):=by
 unfold zf3
 have h1:decide (0<a)=decide (0<a.toNat):=by simp [UInt32.lt_iff_toNat_lt]
 have h2:decide (a<1000000007)=decide (a.toNat<gp):=by simp [UInt32.lt_iff_toNat_lt]
 rw [h1,h2,zqy]
 simp only [bS]
 rw [z13b]
 unfold inG
 by_cases c1:0<a.toNat
 ·
  by_cases c2:a.toNat<gp
  ·
   simp [c1,c2]
  ·
   simp [c1,c2]
 ·
  simp [c1]
theorem zs3 (a:UInt32):z9p a=some (decide (inG a.toNat)):=by
 obtain ⟨r,hr1,hr2⟩:=zrd a.toUInt64 500000003 (by simp; exact UInt32.toNat_lt a)
 unfold z9p
 have h1:decide (1≤a)=decide (0<a.toNat):=by
  rw [decide_eq_decide,UInt32.le_iff_toNat_le]; simp; omega
 have h2:decide (a<1000000007)=decide (a.toNat<gp):=by simp [UInt32.lt_iff_toNat_lt]
 rw [h1,h2,hr1]
 simp only [bS]
 have h3:(r==1)=decide (a.toNat ^ gq % gp=1):=by
  simp only [UInt32.toNat_toUInt64] at hr2
  rw [Bool.eq_iff_iff,beq_iff_eq,decide_eq_true_iff,← UInt64.toNat_inj,hr2]
  rfl
 rw [h3]
 unfold inG
 by_cases c1:0<a.toNat
 ·
  by_cases c2:a.toNat<gp
  ·
   simp [c1,c2]
  ·
   simp [c1,c2]
 ·
  simp [c1]
end
section
open Go
theorem zvv (l:List (List UInt8)) (h0:l.length≤20) (h:∀ b∈l,b.length≤10000):z1f l=some false:=by
 have:iter (z14 l) 0=some (.inr ()):=by
  refine z37 (F:=z14 l) (b:=.inr ()) l.length (fun i=>(i:Int)) (fun i hi=>?_) ?_
  ·
   have hb:=h l[i] (List.getElem_mem _)
   unfold z14 zbp
   rw [if_pos (by simp; omega),z0h hi]
   simp only [bS]
   rw [if_neg (by simp; omega),z0u (show i<9223372036854775807 by omega)]
  ·
   unfold z14
   rw [if_neg (by simp)]
 unfold z1f z2g
 rw [this]
 simp only [zpg,bS]
 rfl
theorem zjg:∀ (l:List (List UInt8)),(∀ b∈l,b.length≤10000)→l.flatten.length≤l.length * 10000
 | [],_=>by simp
 | b::l,h=>by
  have h1:=h b (by simp)
  have h2:=zjg l (fun c hc=>h c (by simp [hc]))
  simp only [List.flatten_cons,List.length_append,List.length_cons]; omega
theorem zjr (l:List (List UInt8)) (h0:l.length≤20) (h:∀ b∈l,b.length≤10000):z9g l=some (sha l.flatten,0):=by
 have hl:iter (z77 l) (ztd [],0)=some (ztd l.flatten):=by
  have:=z37 (F:=z77 l) (b:=ztd l.flatten) l.length (fun i=>(ztd (l.take i).flatten,(i:Int))) (fun i hi=>?_) ?_
  ·
   simpa using this
  ·
   have hb:=h l[i] (List.getElem_mem _)
   have hf:=zjg (l.take i) (fun b hb'=>h b (List.mem_of_mem_take hb'))
   simp only [List.length_take] at hf
   unfold z77
   rw [if_pos (by simp; omega)]
   simp only []
   rw [z0h hi]
   simp only [bS]
   rw [zo1 _ _ (by omega),z0u (show i<9223372036854775807 by omega)]
   simp only [bS]
   rw [List.take_add_one,List.getElem?_eq_getElem hi,List.flatten_append]
   rw [show ((some l[i]:Option (List UInt8)).toList).flatten=l[i] by simp]
  ·
   unfold z77
   rw [if_neg (by simp)]
   simp
 have hf:=zjg l h
 unfold z9g
 rw [if_neg (by simp; omega),zvv l h0 h]
 simp only [bS]
 rw [if_neg (by simp),zzb]
 simp only [bS]
 rw [hl]
 simp only [bS]
 rw [z13i _ (by omega)]
 simp only [bS]
theorem z148 (b:List UInt8) (h:b.length≤10000):zet b=some (sha b,0):=by
 unfold zet
 rw [zjr [b] (by simp) (by simpa using h)]
 simp
def four (x:UInt32):List UInt8:=[(z3w x 24).toUInt8,(z3w x 16).toUInt8,(z3w x 8).toUInt8,x.toUInt8]
theorem zwl (x:UInt32):z7v x=some (four x):=by
 unfold z7v four
 have hx:=UInt32.toNat_lt x
 have e1:(x / 16777216).toUInt8=(z3w x 24).toUInt8:=by
  apply UInt8.toNat_inj.1
  simp only [UInt32.toNat_toUInt8,zdv,UInt32.toNat_div]; rfl
 have e2:((x / 65536) % 256).toUInt8=(z3w x 16).toUInt8:=by
  apply UInt8.toNat_inj.1
  simp only [UInt32.toNat_toUInt8,zdv,UInt32.toNat_div,UInt32.toNat_mod]
  exact Nat.mod_mod _ _
 have e3:((x / 256) % 256).toUInt8=(z3w x 8).toUInt8:=by
  apply UInt8.toNat_inj.1
  simp only [UInt32.toNat_toUInt8,zdv,UInt32.toNat_div,UInt32.toNat_mod]
  exact Nat.mod_mod _ _
 have e4:(x % 256).toUInt8=x.toUInt8:=by
  apply UInt8.toNat_inj.1
  simp only [UInt32.toNat_toUInt8,UInt32.toNat_mod]
  exact Nat.mod_mod _ _
 rw [e1,e2,e3,e4]
def zkt (d:V3):Nat→UInt64
 | 0=>0
 | i+1=>256 * zkt d i+(d.toList.getD i 0).toUInt64
theorem zqi (d:V3):∀ i,i≤8→(zkt d i).toNat<256 ^ i
 | 0,_=>by simp [zkt]
 | i+1,h=>by
  have ih:=zqi d i (by omega)
  have hy:=UInt8.toNat_lt (d.toList.getD i 0)
  have ep:256 ^ (i+1)=256 ^ i * 256:=Nat.pow_succ ..
  have hp:256 ^ i≤256 ^ 7:=Nat.pow_le_pow_right (by omega) (by omega)
  have e7:(256:Nat) ^ 7=72057594037927936:=rfl
  rw [zkt,UInt64.toNat_add,UInt64.toNat_mul,ep]
  have e1:((d.toList.getD i 0).toUInt64).toNat=(d.toList.getD i 0).toNat:=by simp
  have e2:(256:UInt64).toNat=256:=rfl
  rw [e1,e2,Nat.mod_eq_of_lt (a:=256 * (zkt d i).toNat) (by omega),Nat.mod_eq_of_lt (by omega)]
  omega
theorem zxz (x:UInt64) (y:UInt8) (h:x.toNat<72057594037927936):(zn1 x 8) ||| y.toUInt64=256 * x+y.toUInt64:=by
 apply UInt64.toNat_inj.1
 have hy:=UInt8.toNat_lt y
 rw [UInt64.toNat_or,zk6,UInt64.toNat_add,UInt64.toNat_mul]
 have e1:(y.toUInt64).toNat=y.toNat:=by simp
 have e2:(256:UInt64).toNat=256:=rfl
 rw [e1,e2, show (2:Nat) ^ (min 8 64)=256 from rfl,Nat.mod_eq_of_lt (a:=x.toNat * 256) (by omega),Nat.mod_eq_of_lt (a:=256 * x.toNat) (by omega),Nat.mod_eq_of_lt (by omega)]
 have:=Nat.shiftLeft_add_eq_or_of_lt (i:=8) (b:=y.toNat) (by simpa using hy) x.toNat
 rw [Nat.shiftLeft_eq, show (2:Nat) ^ 8=256 from rfl] at this
 rw [← this]; omega
theorem zrh (d:V3) (e:Int):iter (zaf (d,e)) (0,0)=some (zkt d 8):=by
 refine z37 (F:=zaf (d,e)) (b:=zkt d 8) 8 (fun i=>(zkt d i,(i:Int))) (fun i hi=>?_) ?_
 ·
  have hl:((d.toList.drop 0).take 8).length=8:=by simp
  have hlt:=zqi d i (by omega)
  have hp:256 ^ i≤256 ^ 7:=Nat.pow_le_pow_right (by omega) (by omega)
  have e7:(256:Nat) ^ 7=72057594037927936:=rfl
  unfold zaf
  simp only [hl]
  rw [if_pos (by simp; omega),zen 0 (by rw [hl]; exact hi)]
  simp only [bS]
  rw [List.drop_zero,zns hi,zxz _ _ (by omega),z0u (show i<9223372036854775807 by omega)]
  rfl
 ·
  have hl:((d.toList.drop 0).take 8).length=8:=by simp
  unfold zaf
  simp only [hl]
  rw [if_neg (by simp)]
theorem z10t (b:List UInt8) (h:b.length≤300000):z86 b=some (zkt (sha b) 8):=by
 have:iter (z4l (sha b)) (0,0)=some (zkt (sha b) 8):=by
  refine z37 (F:=z4l (sha b)) (b:=zkt (sha b) 8) 8 (fun i=>(zkt (sha b) i,(i:Int))) (fun i hi=>?_) ?_
  ·
   unfold z4l
   rw [if_pos (by simp; omega)]
   simp only [zvu]
   rw [zen 0 (by simp; omega),z0u (show i<9223372036854775807 by omega)]
   simp only [bS]
   rfl
  ·
   unfold z4l
   rw [if_neg (by simp)]
 unfold z86
 rw [z12w b h]
 simp only [bS]
 rw [this]
 simp only [bS]
def zte (r y:UInt32) (m:List UInt8):UInt32:=(zkt (sha ((([99]++four r)++four y)++m)) 8 % 500000003).toUInt32
theorem z120 (m:List UInt8) (r y:UInt32) (h:m.length≤9991):zbi 99 m [r,y]=some (zkt (sha ((([99]++four r)++four y)++m)) 8,0):=by
 have l1:iter (z3h [r,y]) ([99],0)=some (([99]++four r)++four y):=by
  have s1:z3h [r,y] ([99],0)=some (.inr ([99]++four r,1)):=by
   unfold z3h
   rw [if_pos (by simp)]
   simp only []
   rw [show idx [r,y] 0=some r from rfl,z0w (x:=(0:Int)+1) (by omega) (by omega)]
   simp only [bS]
   rw [z1m (by simp)]
   rfl
  have s2:z3h [r,y] ([99]++four r,1)=some (.inr (([99]++four r)++four y,2)):=by
   unfold z3h
   rw [if_pos (by simp)]
   simp only []
   rw [show idx [r,y] 1=some y from rfl,z0w (x:=(1:Int)+1) (by omega) (by omega)]
   simp only [bS]
   rw [z1m (by simp [four])]
   rfl
  have s3:z3h [r,y] (([99]++four r)++four y,2)=some (.inl (([99]++four r)++four y)):=by
   unfold z3h
   rw [if_neg (by simp)]
  rw [z1p s1,z1p s2,z1l s3]
 unfold zbi
 rw [if_neg (by simp; omega),l1]
 simp only [bS]
 rw [zjr _ (by simp) (by
  intro b hb
  simp only [List.mem_cons,List.not_mem_nil,or_false] at hb
  rcases hb with rfl | rfl
  ·
   simp [four]
  ·
   omega)]
 simp only [bS]
 rw [zrh, show [([99]++four r)++four y,m].flatten=(([99]++four r)++four y)++m by simp only [List.flatten_cons,List.flatten_nil,List.append_nil]]
 rfl
theorem zit (r y:UInt32) (m:List UInt8) (h:m.length≤9991):z8m r y m=some (zte r y m,0):=by
 unfold z8m
 rw [z120 m r y h]
 simp only [bS]
 rw [if_neg (by simp)]
 rfl
theorem zkj (r y:UInt32) (m:List UInt8) (h:m.length≤9991):z64 r y m=some (zte r y m):=by
 unfold z64
 rw [zwl]
 simp only [bS]
 rw [z1m (by simp [four]),zwl]
 simp only [bS]
 rw [z1m (by simp [four])]
 simp only [bS]
 rw [z1m (by simp [four]; omega)]
 simp only [bS]
 rw [z10t _ (by simp [four]; omega)]
 simp only [bS]
 rfl
def z97 (x:UInt32):Bool:=decide (x.toNat<gq)
theorem zdl (x:UInt32):z39 x=some (z97 x):=by
 have e:decide (x.toUInt64<500000003)=z97 x:=by unfold z97; simp [UInt64.lt_iff_toNat_lt]
 unfold z39
 rw [e]
 rfl
def sigR (y:UInt32) (s:z0a):UInt32:=u32 ((4 ^ s.S.toNat % gp) * (y.toNat ^ (gq - s.E.toNat) % gp) % gp)
def zkh (y:UInt32) (m:List UInt8) (s:z0a):Bool:=z97 s.E&&(z97 s.S&&(zte (sigR y s) y m==s.E))
theorem zze (y:UInt32) (m:List UInt8) (s:z0a) (hy:inG y.toNat) (h:m.length≤9991):z8z y m s=some (zkh y m s):=by
 unfold z8z zkh
 rw [zdl]
 simp only [bS]
 cases hE:z97 s.E with
 | false=>rw [if_pos (by simp)]; rfl
 | true =>
  rw [if_neg (by simp),zdl]
  simp only [bS]
  cases hS:z97 s.S with
  | false=>rw [if_pos (by simp)]; rfl
  | true =>
   have hE':s.E.toNat<gq:=by simpa [z97] using hE
   have hin:=zmn hy.2.2 s.E.toNat
   have hlt:y.toNat ^ s.E.toNat % gp<gp:=Nat.mod_lt _ (by decide)
   rw [if_neg (by simp),zk7]
   simp only [bS]
   unfold zcn zco zbb
   rw [zs3,z1y (by simpa using hlt)]
   simp only [bS]
   have hE64:s.E.toUInt64.toNat=s.E.toNat:=by simp
   rw [hE64,decide_eq_true hin,if_neg (by simp),zk7,z1y hlt,zk7]
   simp only [bS]
   rw [show (500000002:UInt64).toNat=gq - 1 from rfl,z11j hy.2.2 hE']
   unfold z9q
   simp only [bS]
   have hS64:s.S.toUInt64.toNat=s.S.toNat:=by simp
   have hl1:4 ^ s.S.toNat % gp<gp:=Nat.mod_lt _ (by decide)
   have hl2:y.toNat ^ (gq - s.E.toNat) % gp<gp:=Nat.mod_lt _ (by decide)
   have hprod:((u32 ((4:UInt32).toNat ^ s.S.toUInt64.toNat % gp)).toUInt64 * (u32 (y.toNat ^ (gq - s.E.toNat) % gp)).toUInt64 % 1000000007).toUInt32=sigR y s:=by
    have hb:(4 ^ s.S.toNat % gp) * (y.toNat ^ (gq - s.E.toNat) % gp)≤1000000007 * 1000000007:=Nat.mul_le_mul (Nat.le_of_lt hl1) (Nat.le_of_lt hl2)
    have e1:=m64 (u32 ((4:UInt32).toNat ^ s.S.toUInt64.toNat % gp)).toUInt64 (u32 (y.toNat ^ (gq - s.E.toNat) % gp)).toUInt64
    simp only [UInt32.toNat_toUInt64] at e1
    rw [show (4:UInt32).toNat=4 from rfl,z1y hl1,z1y hl2] at e1
    have e1:=e1 (by omega)
    rw [show (4:UInt32).toNat=4 from rfl,hS64,to32 _ (by rw [e1]; exact Nat.mod_lt _ (by decide)),e1]
    rfl
   rw [hprod,zkj _ _ _ h]
   simp only [bS]
   rfl
theorem all1 (a:UInt32) (h:inG a.toNat):zbt [a]=some true:=by
 unfold zbt
 have s1:z45 [a] 0=some (.inr 1):=by
  unfold z45
  rw [if_pos (by simp), show idx [a] 0=some a from rfl]
  simp only [bS]
  rw [zti,decide_eq_true h,z0w (x:=(0:Int)+1) (by omega) (by omega)]
  rfl
 have s2:z45 [a] 1=some (.inl (.inr ())):=by
  unfold z45
  rw [if_neg (by simp)]
 rw [z1p s1,z1l s2]
 rfl
theorem all2 (a b:UInt32) (h:inG a.toNat) (h2:inG b.toNat):zbt [a,b]=some true:=by
 unfold zbt
 have s1:z45 [a,b] 0=some (.inr 1):=by
  unfold z45
  rw [if_pos (by simp), show idx [a,b] 0=some a from rfl]
  simp only [bS]
  rw [zti,decide_eq_true h,z0w (x:=(0:Int)+1) (by omega) (by omega)]
  rfl
 have s2:z45 [a,b] 1=some (.inr 2):=by
  unfold z45
  rw [if_pos (by simp), show idx [a,b] 1=some b from rfl]
  simp only [bS]
  rw [zti,decide_eq_true h2,z0w (x:=(1:Int)+1) (by omega) (by omega)]
  rfl
 have s3:z45 [a,b] 2=some (.inl (.inr ())):=by
  unfold z45
  rw [if_neg (by simp)]
 rw [z1p s1,z1p s2,z1l s3]
 rfl
theorem zuu (y:UInt32) (m:List UInt8) (s:z0a) (hy:inG y.toNat) (h:m.length≤9991):zdd y m s=some (if zkh y m s then 0 else 22):=by
 have hmax:decide (500000003≤max s.E s.S)=!(z97 s.E&&z97 s.S):=by
  have e1:(500000003≤max s.E s.S)↔(500000003≤s.E∨500000003≤s.S):=by
   rw [show max s.E s.S=if s.E≤s.S then s.S else s.E from rfl]
   split
   ·
    rename_i hh
    constructor
    ·
     exact fun h=>.inr h
    ·
     rintro (h | h)
     ·
      exact UInt32.le_trans h hh
     ·
      exact h
   ·
    rename_i hh
    constructor
    ·
     exact fun h=>.inl h
    ·
     rintro (h | h)
     ·
      exact h
     ·
      rw [UInt32.le_iff_toNat_le] at *; omega
  rw [Bool.eq_iff_iff,decide_eq_true_iff,e1]
  unfold z97
  simp only [UInt32.le_iff_toNat_le,Bool.not_eq_true',Bool.and_eq_false_iff,decide_eq_false_iff_not,Nat.not_lt]
  rfl
 unfold zdd
 rw [zti,decide_eq_true hy]
 simp only [bS]
 rw [if_neg (by simp),if_neg (by simp; omega),hmax]
 cases hE:z97 s.E with
 | false=>unfold zkh; rw [hE]; rfl
 | true =>
  cases hS:z97 s.S with
  | false=>unfold zkh; rw [hE,hS]; rfl
  | true =>
   have hE':s.E.toNat<gq:=by simpa [z97] using hE
   have hE':s.E.toNat<500000003:=hE'
   rw [if_neg (by simp)]
   unfold zko za2 zkn
   rw [all1 y hy]
   simp only [bS]
   rw [if_neg (by simp),zqy]
   simp only [bS]
   rw [zqy]
   simp only [bS]
   have hS64:s.S.toUInt64.toNat=s.S.toNat:=by simp
   have hq:(500000003 - s.E.toUInt64).toNat=gq - s.E.toNat:=by
    rw [UInt64.toNat_sub_of_le _ _ (by rw [UInt64.le_iff_toNat_le]; simp; omega)]
    simp
   have hl1:4 ^ s.S.toNat % gp<gp:=Nat.mod_lt _ (by decide)
   have hl2:y.toNat ^ (gq - s.E.toNat) % gp<gp:=Nat.mod_lt _ (by decide)
   rw [hq,hS64, show (4:UInt32).toNat=4 from rfl]
   rw [all2 _ _ (by rw [z1y hl1]; exact zmn zrp _) (by rw [z1y hl2]; exact zmn hy.2.2 _)]
   simp only [bS]
   rw [if_neg (by simp),mul2,z1y hl1,z1y hl2]
   simp only [bS]
   rw [zit _ _ _ h]
   simp only [bS]
   rw [if_neg (by simp)]
   unfold zkh
   rw [hE,hS]
   show (if (zte (sigR y s) y m != s.E)=true then some 22 else some 0)=_
   by_cases hc:zte (sigR y s) y m=s.E
   ·
    simp [hc]
   ·
    simp [hc]
end
section
open Go
def okc (c:UInt8):Bool:=decide (33≤c.toNat)&&decide (c.toNat≤126)
theorem z12e (x:Int):zj8 x=some (decide (x<33) || decide (126<x)):=by
 unfold zj8
 cases decide (x<33) <;> rfl
theorem zrf (b:List UInt8):∀ (rest pre:List UInt8),b=pre++rest →
  (rest.all okc=true→iter (z1s b true) pre.length=some (.inr ()))∧(rest.all okc=false→∃ i:Nat,iter (z1s b true) pre.length=some (.inl (i:Int)))
 | [],pre,e=>by
  refine ⟨fun _=>z1l ?_, fun h=>by simp at h⟩
  subst e
  unfold z1s
  simp
 | c::rest,pre,e=>by
  have hlen:pre.length<b.length:=by rw [e]; simp
  have hget:b[pre.length]'hlen=c:=by subst e; simp
  have hF:z1s b true pre.length=if ((decide (((z8e b pre.length).1:Int)<33) || decide (126<((z8e b pre.length).1:Int)))==true) then some (.inl (.inl (pre.length:Int))) else some (.inr (pre.length+(z8e b pre.length).2)):=by
   unfold z1s
   rw [if_pos hlen]
   simp only [bs,z12e]
  cases hc:okc c with
  | false =>
   refine ⟨fun h=>by simp [hc] at h, fun _=>⟨pre.length,z1l ?_⟩⟩
   rw [hF,if_pos]
   by_cases h8:c.toNat<128
   ·
    rw [zn3 hlen (by rw [hget]; exact h8),hget]
    simp only [okc,Bool.and_eq_false_iff,decide_eq_false_iff_not] at hc
    simp; omega
   ·
    have:=zwy hlen (by rw [hget]; omega)
    simp; omega
  | true =>
   simp only [okc,Bool.and_eq_true,decide_eq_true_eq] at hc
   rw [zn3 hlen (by rw [hget]; omega),hget,if_neg (by simp; omega)] at hF
   have ih:=zrf b rest (pre++[c]) (by simp [e])
   simp only [List.length_append,List.length_cons,List.length_nil,Nat.zero_add] at ih
   rw [z1p hF]
   have hc':okc c=true:=by simp [okc,hc]
   simpa [hc'] using ih
theorem zv1 (b:List UInt8) (hb:b.length≤9223372036854775807):∀ (rest pre:List UInt8),b=pre++rest→iter (z5q b) (pre.length:Int)=some (if rest.all okc then .inr () else .inl false)
 | [],pre,e=>by
  refine z1l ?_
  subst e
  unfold z5q
  simp
 | c::rest,pre,e=>by
  have hlen:pre.length<b.length:=by rw [e]; simp
  have hget:b[pre.length]'hlen=c:=by subst e; simp
  have hF:z5q b (pre.length:Int)=if okc c then some (.inr ((pre.length+1:Nat):Int)) else some (.inl (.inl false)):=by
   unfold z5q
   rw [if_pos (by simp <;> omega)]
   simp only [z0h hlen,hget,bs,z0u (show pre.length<9223372036854775807 by omega)]
   simp only [okc,UInt8.lt_iff_toNat_lt,UInt8.reduceToNat]
   by_cases h1:c.toNat<33
   ·
    have:¬ 33≤c.toNat:=by omega
    simp [h1,this]
   ·
    by_cases h2:126<c.toNat
    ·
     have:¬ c.toNat≤126:=by omega
     simp [h1,h2,this]
    ·
     have h3:33≤c.toNat:=by omega
     have h4:c.toNat≤126:=by omega
     simp [h1,h2,h3,h4]
  cases hc:okc c with
  | false=>rw [hc] at hF; rw [z1l hF]; simp [hc]
  | true =>
   rw [hc] at hF
   rw [z1p hF]
   have ih:=zv1 b hb rest (pre++[c]) (by simp [e])
   simp only [List.length_append,List.length_cons,List.length_nil,Nat.zero_add] at ih
   rw [ih]; simp [hc]
def zc0 (k:List UInt8):Bool:=decide (1≤k.length)&&(decide (k.length≤20)&&k.all okc)
theorem z11c (k:List UInt8):z7t k=some (zc0 k):=by
 unfold z7t zc0
 by_cases h1:1≤k.length
 ·
  by_cases h2:k.length≤20
  ·
   have h:=zv1 k (by omega) k [] rfl
   rw [if_neg (by simp; omega),if_neg (by simp; omega), show (0:Int)=(([]:List UInt8).length:Int) from rfl,h,decide_eq_true h1,decide_eq_true h2]
   cases k.all okc <;> rfl
  ·
   rw [if_neg (by simp; omega),if_pos (by simp; omega),decide_eq_false h2]; simp
 ·
  rw [if_pos (by simp; omega),decide_eq_false h1]; rfl
theorem z139 (k:List UInt8):zon k=some (zc0 k):=by
 unfold zon zc0 z5a z5b
 by_cases h1:1≤k.length
 ·
  by_cases h2:k.length≤20
  ·
   obtain ⟨e1,e2⟩:=zrf k k [] rfl
   simp only [List.length_nil] at e1 e2
   rw [if_pos (by simp; omega),if_pos (by simp; omega),decide_eq_true h1,decide_eq_true h2]
   cases h:k.all okc
   ·
    obtain ⟨i,hi⟩:=e2 h
    rw [hi]
    simp only [or_l,bS]
    rw [decide_eq_false (by omega)]; rfl
   ·
    rw [e1 h]; rfl
  ·
   rw [if_pos (by simp; omega),if_neg (by simp; omega),decide_eq_false h2]; simp
 ·
  rw [if_neg (by simp; omega),decide_eq_false h1]; rfl
def v0:z02:=⟨0,0,0,[]⟩
def zfa (a:z08):Bool :=
 if a.Kind=1 then decide (a.Key=[])&&decide (a.Value=v0)
 else if a.Kind=2∨a.Kind=3 then zc0 a.Key&&decide (a.Value=v0)
 else if a.Kind=4 then zc0 a.Key&&okV a.Value
 else false
theorem z13x (a:z08) (h:a.Value.Text.length≤9223372036854775807):zde a=some (if zfa a then 0 else 8):=by
 obtain ⟨K,key,v⟩:=a
 unfold zde zfa
 simp only at h ⊢
 rw [z139,znt v h]
 by_cases h1:K=1
 ·
  subst h1
  by_cases hk:key=[] <;> by_cases hv:v=⟨0,0,0,[]⟩ <;> simp [hk,hv,v0]
 by_cases h2:K=2∨K=3
 ·
  have e:(if K==2 then some true else some (K==3))=some true:=by
   rcases h2 with rfl | rfl <;> rfl
  rw [if_neg (by simpa using h1),e,if_neg h1,if_pos h2]
  simp only [bS]
  rw [if_pos trivial]
  cases zc0 key with
  | false=>rfl
  | true =>
   by_cases hv:v=⟨0,0,0,[]⟩
   ·
    subst hv; rfl
   ·
    have hv':¬ v=v0:=hv
    simp only [bS,if_true,decide_eq_false hv,decide_eq_false hv']; rfl
 ·
  have e:(if K==2 then some true else some (K==3))=some false:=by
   have e2:(K==2)=false:=by simp; exact fun h=>h2 (.inl h)
   have e3:(K==3)=false:=by simp; exact fun h=>h2 (.inr h)
   rw [e2,e3]; rfl
  rw [if_neg (by simpa using h1),e,if_neg h1,if_neg h2]
  simp only [bS]
  rw [if_neg (by simp)]
  by_cases h4:K=4
  ·
   subst h4
   rw [if_pos (by decide),if_pos rfl]
   cases zc0 key with
   | false=>rfl
   | true=>cases okV v <;> rfl
  ·
   rw [if_neg (by simpa using h4),if_neg h4]; rfl
theorem zv4 (a:z08) (h:a.Value.Text.length≤9223372036854775807):z6x a=some (if zfa a then 0 else 8):=by
 obtain ⟨K,key,v⟩:=a
 unfold z6x zfa
 simp only at h ⊢
 rw [z11c,zuh v h]
 simp only [bS]
 by_cases h1:K=1
 ·
  subst h1
  by_cases hk:key=[] <;> by_cases hv:v=⟨0,0,0,[]⟩ <;> simp [hk,hv,v0]
 by_cases h2:K=2∨K=3
 ·
  have e:(if K==2 then some true else some (K==3))=some true:=by
   rcases h2 with rfl | rfl <;> rfl
  rw [if_neg (by simpa using h1),e,if_neg h1,if_pos h2]
  simp only [bS]
  rw [if_pos trivial]
  cases zc0 key with
  | false=>rfl
  | true =>
   by_cases hv:v=⟨0,0,0,[]⟩
   ·
    subst hv; rfl
   ·
    have hv':¬ v=v0:=hv
    simp only [bS,if_true,decide_eq_false hv,decide_eq_false hv']; rfl
 ·
  have e:(if K==2 then some true else some (K==3))=some false:=by
   have e2:(K==2)=false:=by simp; exact fun h=>h2 (.inl h)
   have e3:(K==3)=false:=by simp; exact fun h=>h2 (.inr h)
   rw [e2,e3]; rfl
  rw [if_neg (by simpa using h1),e,if_neg h1,if_neg h2]
  simp only [bS]
  rw [if_neg (by simp)]
  by_cases h4:K=4
  ·
   subst h4
   rw [if_pos (by decide),if_pos rfl]
   cases zc0 key with
   | false=>rfl
   | true=>cases okV v <;> rfl
  ·
   rw [if_neg (by simpa using h4),if_neg h4]; rfl
theorem zk8 (l:List V3) (h:l.length≤100):z12 l=some l:=by
 unfold z12
 rw [z1m (by simp; omega)]; rfl
def zcj (a:z06):Bool:=decide (inG a.Author.toNat)&&(!decide (1000000000000<a.Stamp)&&(zfa a.Act&&(z97 a.Sig.E&&z97 a.Sig.S)))
def z3j (a:z06):Int:=if 4<a.Preds.length then 4 else if z71 a.Preds=false then 32 else if zcj a then 0 else 8
theorem zmz (x y:UInt32):decide (500000003≤max x y)=!(z97 x&&z97 y):=by
 have e1:(500000003≤max x y)↔(500000003≤x∨500000003≤y):=by
  rw [show max x y=if x≤y then y else x from rfl]
  split
  ·
   rename_i hh
   constructor
   ·
    exact fun h=>.inr h
   ·
    rintro (h | h)
    ·
     exact UInt32.le_trans h hh
    ·
     exact h
  ·
   rename_i hh
   constructor
   ·
    exact fun h=>.inl h
   ·
    rintro (h | h)
    ·
     exact h
    ·
     rw [UInt32.le_iff_toNat_le] at *; omega
 rw [Bool.eq_iff_iff,decide_eq_true_iff,e1]
 unfold z97
 simp only [UInt32.le_iff_toNat_le,Bool.not_eq_true',Bool.and_eq_false_iff,decide_eq_false_iff_not,Nat.not_lt]
 rfl
theorem zq7 (l:List V3) (h:l.length≤4):(z15 l >>= fun r5=>if !r5 then some true else z12 l >>= fun r8=>z2p r8 >>= fun r10=>some ((r10.length:Int) != (l.length:Int)) >>= fun y12=>some y12)=some (!z71 l):=by
 obtain ⟨b,e1,e2⟩:=zur l (by omega)
 obtain ⟨c,e3,e4⟩:=zsn l (by omega)
 have e5:=zz8 l
 rw [e1]
 simp only [bS]
 cases b with
 | false =>
  have:z71 l=false:=by
   rw [← Bool.not_eq_true,e5]; intro h; have:=e2.2 h.1; simp at this
  rw [this]; rfl
 | true =>
  rw [if_neg (by simp),zk8 l (by omega)]
  simp only [bS]
  rw [e3]
  simp only [bS]
  by_cases hc:c.length=l.length
  ·
   rw [e5.2 ⟨e2.1 rfl,e4.1 hc⟩,hc]; simp
  ·
   have:z71 l=false:=by
    rw [← Bool.not_eq_true,e5]; intro h; exact hc (e4.2 h.2)
   rw [this]; simp; omega
theorem zcu (a:z06) (h:a.Act.Value.Text.length≤9223372036854775807):zc7 a=some (z3j a):=by
 unfold zc7 z3j
 simp only [bS]
 by_cases h4:4<a.Preds.length
 ·
  rw [if_pos (by simp; omega),if_pos h4]
 ·
  rw [if_neg (by simp; omega),if_neg h4]
  have:=zq7 a.Preds (by omega)
  simp only [bS] at this
  rw [this]
  simp only [bS]
  cases hi:z71 a.Preds with
  | false=>rfl
  | true =>
   rw [if_neg (by simp),zti,z13x _ h,zmz]
   simp only [bS]
   unfold zcj
   cases decide (inG a.Author.toNat) with
   | false=>rfl
   | true =>
    cases decide (1000000000000<a.Stamp) with
    | true=>rfl
    | false=>cases zfa a.Act <;> cases z97 a.Sig.E <;> cases z97 a.Sig.S <;> rfl
theorem zpw (a:z06) (h:a.Act.Value.Text.length≤9223372036854775807):z78 a=some (z3j a):=by
 unfold z78 z3j
 by_cases h4:4<a.Preds.length
 ·
  rw [if_pos (by simp; omega),if_pos h4]
 ·
  rw [if_neg (by simp; omega),if_neg h4,znh _ (by omega)]
  simp only [bS]
  cases hi:z71 a.Preds with
  | false=>rfl
  | true =>
   rw [if_neg (by simp),zs3,zv4 _ h,zdl,zdl]
   simp only [bS]
   unfold zcj
   cases decide (inG a.Author.toNat) with
   | false=>rfl
   | true =>
    cases decide (1000000000000<a.Stamp) with
    | true=>rfl
    | false=>cases zfa a.Act <;> cases z97 a.Sig.E <;> cases z97 a.Sig.S <;> rfl
theorem z5r {a:z06} (h:z3j a=0):a.Preds.length≤4∧z71 a.Preds=true∧zcj a=true:=by
 unfold z3j at h
 by_cases h4:4<a.Preds.length
 ·
  rw [if_pos h4] at h; omega
 ·
  rw [if_neg h4] at h
  cases hi:z71 a.Preds with
  | false=>rw [hi] at h; simp at h
  | true =>
   rw [hi] at h
   cases hr:zcj a with
   | false=>rw [hr] at h; simp at h
   | true=>exact ⟨by omega,rfl,rfl⟩
theorem zlh {k:List UInt8} (h:zc0 k=true):k.length≤20:=by
 unfold zc0 at h
 simp only [Bool.and_eq_true,decide_eq_true_eq] at h
 exact h.2.1
theorem zb6 {a:z08} (h:zfa a=true):(a.Kind=1∧a.Key=[])∨((a.Kind=2∨a.Kind=3)∧a.Key.length≤20)∨(a.Kind=4∧a.Key.length≤20∧okV a.Value=true):=by
 unfold zfa at h
 by_cases h1:a.Kind=1
 ·
  rw [if_pos h1] at h; simp only [Bool.and_eq_true,decide_eq_true_eq] at h; exact .inl ⟨h1,h.1⟩
 ·
  rw [if_neg h1] at h
  by_cases h2:a.Kind=2∨a.Kind=3
  ·
   rw [if_pos h2] at h; simp only [Bool.and_eq_true,decide_eq_true_eq] at h; exact .inr (.inl ⟨h2,zlh h.1⟩)
  ·
   rw [if_neg h2] at h
   by_cases h4:a.Kind=4
   ·
    rw [if_pos h4] at h; simp only [Bool.and_eq_true] at h; exact .inr (.inr ⟨h4,zlh h.1,h.2⟩)
   ·
    rw [if_neg h4] at h; simp at h
end
section
open Go
theorem zop {α:Type} (l:List (List α)) (i:Nat) (h:i<l.length):(l.take (i+1)).flatten=(l.take i).flatten++l[i]:=by
 rw [List.take_add_one,List.getElem?_eq_getElem h,List.flatten_append]
 simp
theorem zo6 (l:List (List UInt8)) (h0:l.length≤20) (h:∀ b∈l,b.length≤10000):z1u l=some l.flatten:=by
 have hb:∀ i,(l.take i).flatten.length≤200000:=fun i=>by
  have:=zjg (l.take i) (fun b hb'=>h b (List.mem_of_mem_take hb'))
  simp only [List.length_take] at this; omega
 have e1:iter (z0r l) (0,0)=some (l.flatten.length:Int):=by
  have:=z37 (F:=z0r l) (b:=(l.flatten.length:Int)) l.length (fun i=>(((l.take i).flatten.length:Int),(i:Int))) (fun i hi=>?_) ?_
  ·
   simpa using this
  ·
   have h1:=hb (i+1)
   have e:=congrArg List.length (zop l i hi)
   rw [List.length_append] at e
   unfold z0r
   rw [if_pos (by simp; omega)]
   simp only []
   rw [z0h hi]
   simp only [bS]
   rw [z0w (x:=((l.take i).flatten.length:Int)+(l[i].length:Int)) (by omega) (by omega),if_neg (by simp; omega),z0u (show i<9223372036854775807 by omega),e]
   simp
  ·
   unfold z0r
   rw [if_neg (by simp)]
   simp
 have e2:z3d (l.flatten.length:Int)=some []:=by
  have h1:=hb l.length
  rw [List.take_length] at h1
  unfold z3d
  rw [if_neg (by simp)]
  simp only [bS]
  generalize l.flatten.length=n at h1 ⊢
  rw [show (0:Int) - (([]:List UInt8).length:Int)=0 from rfl,z0w (x:=0) (by omega) (by omega), show (n:Int) - 0=(n:Int) by omega,z0w (by omega) (by omega)]
  by_cases h2:0<n
  ·
   rw [if_pos (by simpa using h2),zfo (by omega) (by omega)]
   simp only [bS]
   rw [show (0:Int)=((0:Nat):Int) from rfl, show ((([]:List UInt8).length:Nat):Int)=((0:Nat):Int) from rfl,zae (by omega) (by simp)]
   simp
  ·
   rw [if_neg (by simpa using h2)]
 have e3:iter (z0q l) ([],0)=some l.flatten:=by
  have:=z37 (F:=z0q l) (b:=l.flatten) l.length (fun i=>((l.take i).flatten,(i:Int))) (fun i hi=>?_) ?_
  ·
   simpa using this
  ·
   have h1:=hb (i+1)
   have e:=zop l i hi
   rw [e,List.length_append] at h1
   unfold z0q
   rw [if_pos (by simp; omega)]
   simp only []
   rw [z0h hi]
   simp only [bS]
   rw [z1m (by omega),z0u (show i<9223372036854775807 by omega),e]
   simp only [bS]
  ·
   unfold z0q
   rw [if_neg (by simp)]
   simp
 unfold z1u
 rw [e1]
 simp only [bS]
 rw [e2]
 simp only [bS]
 rw [e3]
 simp only [bS]
def zn7 (a:z06):List UInt8:=[111]++(z1r a.Author.toNat++((z1r a.Preds.length++zkz a.Preds)++(z1r a.Stamp.toNat++[a.Act.Kind])))
def zxb (a:z08):List UInt8:=z1r a.Key.length++a.Key
def msg (a:z06):List UInt8 :=
 if a.Act.Kind=1 then zn7 a else if a.Act.Kind=4 then (zn7 a++zxb a.Act)++zx8 a.Act.Value else zn7 a++zxb a.Act
def z96 (a:z06):List UInt8:=msg a++(z1r a.Sig.E.toNat++z1r a.Sig.S.toNat)
theorem zmv {v:z02} (h:okV v=true) (hI:inI v.Num):(zx8 v).length≤100:=by
 unfold zx8
 rcases zmf h with k | k | k
 ·
  have:=z16 (zig v.Num) (zrg hI)
  rw [if_pos k]; simp; omega
 ·
  rw [k,if_neg (by decide),if_pos rfl]; simp [be8]
 ·
  have h3:=(okV3 h k).2.2.1
  have:=z16 v.Text.length (by omega)
  rw [k,if_neg (by decide),if_neg (by decide)]; simp; omega
theorem zn2 {a:z06} (h:z3j a=0):(zn7 a).length≤160:=by
 obtain ⟨h1,h2,h3⟩:=z5r h
 have l1:=z16 a.Author.toNat (by have:=UInt32.toNat_lt a.Author; omega)
 have l2:=z16 a.Preds.length (by omega)
 have l3:=z16 a.Stamp.toNat (UInt64.toNat_lt _)
 have l4:=zhi a.Preds
 unfold zn7
 simp only [List.length_append,List.length_cons,List.length_nil]; omega
theorem zmp {a:z08} (h:zfa a=true):(zxb a).length≤30:=by
 have hk:a.Key.length≤20:=by
  rcases zb6 h with ⟨_,h⟩ | ⟨_,h⟩ | ⟨_,h,_⟩
  ·
   simp [h]
  ·
   exact h
  ·
   exact h
 have:=z16 a.Key.length (by omega)
 unfold zxb; simp only [List.length_append]; omega
theorem zhz {a:z06} (h:zcj a=true):zfa a.Act=true:=by
 unfold zcj at h
 simp only [Bool.and_eq_true] at h
 exact h.2.2.1
theorem znb {a:z06} (h:zcj a=true):inG a.Author.toNat:=by
 unfold zcj at h
 simp only [Bool.and_eq_true,decide_eq_true_eq] at h
 exact h.1
theorem zi9 {a:z06} (h:z3j a=0) (hI:inI a.Act.Value.Num):(msg a).length≤300:=by
 have h1:=zn2 h
 have ha:=zhz (z5r h).2.2
 have h2:=zmp ha
 unfold msg
 split
 ·
  omega
 ·
  split
  ·
   rename_i h4
   have:okV a.Act.Value=true:=by
    rcases zb6 ha with ⟨k,_⟩ | ⟨k,_⟩ | ⟨_,_,k⟩
    ·
     rw [h4] at k; simp at k
    ·
     rw [h4] at k; simp at k
    ·
     exact k
   have h3:=zmv this hI
   simp only [List.length_append]; omega
  ·
   simp only [List.length_append]; omega
theorem zwr {a:z06} (h:z3j a=0) (hI:inI a.Act.Value.Num):(z96 a).length≤400:=by
 have h1:=zi9 h hI
 have l1:=z16 a.Sig.E.toNat (by have:=UInt32.toNat_lt a.Sig.E; omega)
 have l2:=z16 a.Sig.S.toNat (by have:=UInt32.toNat_lt a.Sig.S; omega)
 unfold z96
 simp only [List.length_append]; omega
def bare (a:z06):z06:={ a with Sig:=(⟨0,0⟩:z0a) }
theorem zwn {a:z06} (h:z3j a=0):z3j (bare a)=0:=by
 obtain ⟨h1,h2,h3⟩:=z5r h
 unfold zcj at h3
 simp only [Bool.and_eq_true] at h3
 obtain ⟨g1,g2,g3,g4,g5⟩:=h3
 unfold z3j bare
 rw [if_neg (by simp; omega),h2,if_neg (by simp),if_pos]
 unfold zcj
 rw [g1,g2,g3]; rfl
theorem zi1 (a:z06) (h:z3j a=0) (hI:inI a.Act.Value.Num) (ht:a.Act.Value.Text.length≤9223372036854775807):z8d a=some (msg a,0):=by
 obtain ⟨h1,h2,h3⟩:=z5r h
 have ha:=zhz h3
 have l1:=z16 a.Author.toNat (by have:=UInt32.toNat_lt a.Author; omega)
 have l2:=z16 a.Preds.length (by omega)
 have l3:=z16 a.Stamp.toNat (UInt64.toNat_lt _)
 have l4:=zhi a.Preds
 have hl:=zn2 h
 have e1:zc7 { a with Sig:=(⟨0,0⟩:z0a) }=some 0:=by
  have:=zcu (bare a) ht
  rw [zwn h] at this
  exact this
 unfold z8d
 rw [e1]
 simp only [bS]
 rw [if_neg (by simp),z12l _ (by omega) h2]
 simp only [bS]
 rw [z6v,z6v]
 simp only [bS]
 rw [zo6 _ (by simp) (by
  intro b hb
  simp only [List.mem_cons,List.not_mem_nil,or_false] at hb
  rcases hb with rfl | rfl | rfl | rfl | rfl
  ·
   simp
  ·
   simp; omega
  ·
   simp only [List.length_append]; omega
  ·
   omega
  ·
   simp)]
 simp only [bS]
 have e2:[[111],z1r a.Author.toUInt64.toNat,z1r a.Preds.length++zkz a.Preds,z1r a.Stamp.toNat,[a.Act.Kind]].flatten=zn7 a:=by
  unfold zn7
  simp only [List.flatten_cons,List.flatten_nil,List.append_nil,UInt32.toNat_toUInt64]
 rw [e2]
 unfold msg
 by_cases k1:a.Act.Kind=1
 ·
  rw [if_pos (by simpa using k1),if_pos k1]
 ·
  rw [if_neg (by simpa using k1),if_neg k1]
  have hk:a.Act.Key.length≤20:=by
   rcases zb6 ha with ⟨_,h⟩ | ⟨_,h⟩ | ⟨_,h,_⟩
   ·
    simp [h]
   ·
    exact h
   ·
    exact h
  have l5:=zmp ha
  have e3:zb7 a.Act.Key=some (zxb a.Act,0):=zov _ (by omega)
  rw [z2x (by omega)]
  simp only [bS]
  rw [e3]
  simp only [bS]
  rw [z1m (by omega)]
  simp only [bS]
  by_cases k4:a.Act.Kind=4
  ·
   have hv:okV a.Act.Value=true:=by
    rcases zb6 ha with ⟨k,_⟩ | ⟨k,_⟩ | ⟨_,_,k⟩
    ·
     rw [k4] at k; simp at k
    ·
     rw [k4] at k; simp at k
    ·
     exact k
   have l6:=zmv hv hI
   rw [if_pos (by simpa using k4),if_pos k4,z12v _ hI ht,hv]
   simp only [bS,if_true]
   rw [z1m (by simp only [List.length_append]; omega)]
   simp only [bS]
  ·
   rw [if_neg (by simpa using k4),if_neg k4]
theorem zuc (a:z06) (h:z3j a=0) (hI:inI a.Act.Value.Num):z7q a=some (msg a):=by
 obtain ⟨h1,h2,h3⟩:=z5r h
 have ha:=zhz h3
 have l1:=z16 a.Author.toNat (by have:=UInt32.toNat_lt a.Author; omega)
 have l2:=z16 a.Preds.length (by omega)
 have l3:=z16 a.Stamp.toNat (UInt64.toNat_lt _)
 have l4:=zhi a.Preds
 have hl:=zn2 h
 unfold z7q
 rw [z6p]
 simp only [bS]
 rw [z1m (by simp; omega),zz9 _ (by omega)]
 simp only [bS]
 rw [z1m (by simp; omega),z6p]
 simp only [bS]
 rw [z1m (by simp; omega)]
 simp only [bS]
 rw [z1m (by simp; omega)]
 simp only [bS]
 have e2:[111]++z1r a.Author.toUInt64.toNat++(z1r a.Preds.length++zkz a.Preds)++z1r a.Stamp.toNat++[a.Act.Kind]=zn7 a:=by
  unfold zn7
  simp only [List.append_assoc,UInt32.toNat_toUInt64]
 rw [e2]
 unfold msg
 by_cases k1:a.Act.Kind=1
 ·
  rw [if_neg (by simp [k1]),if_pos k1]
  simp only [bS]
  rw [k1]; rfl
 ·
  rw [if_pos (by simpa using k1),if_neg k1]
  have hk:a.Act.Key.length≤20:=by
   rcases zb6 ha with ⟨_,h⟩ | ⟨_,h⟩ | ⟨_,h,_⟩
   ·
    simp [h]
   ·
    exact h
   ·
    exact h
  have l5:=zmp ha
  have e3:z6d a.Act.Key=some (zxb a.Act):=zlg _ (by omega)
  rw [z2x (by omega)]
  simp only [bS]
  rw [e3]
  simp only [bS]
  rw [z1m (by omega)]
  simp only [bS]
  by_cases k4:a.Act.Kind=4
  ·
   have hv:okV a.Act.Value=true:=by
    rcases zb6 ha with ⟨k,_⟩ | ⟨k,_⟩ | ⟨_,_,k⟩
    ·
     rw [k4] at k; simp at k
    ·
     rw [k4] at k; simp at k
    ·
     exact k
   have l6:=zmv hv hI
   rw [if_pos (by simpa using k4),if_pos k4,zx2 _ hI hv]
   simp only [bS]
   rw [z1m (by simp only [List.length_append]; omega)]
   simp only [bS]
  ·
   rw [if_neg (by simpa using k4),if_neg k4]
theorem zut (a:z06) (h:z3j a=0) (hI:inI a.Act.Value.Num) (ht:a.Act.Value.Text.length≤9223372036854775807):zcy a=some (z96 a,0):=by
 have hm:=zi9 h hI
 have l1:=z16 a.Sig.E.toNat (by have:=UInt32.toNat_lt a.Sig.E; omega)
 have l2:=z16 a.Sig.S.toNat (by have:=UInt32.toNat_lt a.Sig.S; omega)
 unfold zcy
 rw [zcu _ ht,h]
 simp only [bS]
 rw [if_neg (by simp),zi1 _ h hI ht,z6v,z6v]
 simp only [bS,UInt32.toNat_toUInt64]
 rw [zo6 _ (by simp) (by
  intro b hb
  simp only [List.mem_cons,List.not_mem_nil,or_false] at hb
  rcases hb with rfl | rfl | rfl <;> omega)]
 simp only [bS,List.flatten_cons,List.flatten_nil,List.append_nil]
 rfl
theorem zpp (a:z06) (h:z3j a=0) (hI:inI a.Act.Value.Num):z8u a=some (z96 a):=by
 have hm:=zi9 h hI
 have l1:=z16 a.Sig.E.toNat (by have:=UInt32.toNat_lt a.Sig.E; omega)
 have l2:=z16 a.Sig.S.toNat (by have:=UInt32.toNat_lt a.Sig.S; omega)
 unfold z8u z96
 rw [zuc _ h hI,z6p,z6p]
 simp only [bS,UInt32.toNat_toUInt64]
 rw [z1m (by omega)]
 simp only [bS]
 rw [z1m (by simp only [List.length_append]; omega)]
 simp only [bS,List.append_assoc]
def z32:V3:=Vector.replicate 32 0
theorem zm0 (a:z06) (hI:inI a.Act.Value.Num) (ht:a.Act.Value.Text.length≤9223372036854775807):ztn a=some (if z3j a=0 then (sha (z96 a),0) else (z32,z3j a)):=by
 unfold ztn
 by_cases h:z3j a=0
 ·
  have:=zwr h hI
  rw [zut a h hI ht]
  simp only [bS]
  rw [if_neg (by simp),z148 _ (by omega),if_pos h]
  simp only [bS]
 ·
  have e:zcy a=some ([],z3j a):=by
   unfold zcy
   rw [zcu _ ht]
   simp only [bS]
   rw [if_pos (by simpa using h)]
  rw [e]
  simp only [bS]
  rw [if_pos (by simpa using h),if_neg h]; rfl
theorem zy9 (a:z06) (h:z3j a=0) (hI:inI a.Act.Value.Num):zb0 a=some (sha (z96 a)):=by
 have:=zwr h hI
 unfold zb0
 rw [zpp a h hI]
 simp only [bS]
 rw [z12w _ (by omega)]
 simp only [bS]
def zcq (a:z06):Int:=if z3j a=0 then (if zkh a.Author (msg a) a.Sig then 0 else 22) else z3j a
theorem zdm (a:z06) (hI:inI a.Act.Value.Num) (ht:a.Act.Value.Text.length≤9223372036854775807):zel a=some (zcq a):=by
 unfold zel zcq
 rw [zcu _ ht]
 simp only [bS]
 by_cases h:z3j a=0
 ·
  have:=zi9 h hI
  rw [if_neg (by simp [h]),if_pos h,zi1 a h hI ht]
  simp only [bS]
  rw [zuu _ _ _ (znb (z5r h).2.2) (by omega)]
  simp only [bS]
 ·
  rw [if_pos (by simpa using h),if_neg h]
theorem zo3 (a:z06) (hI:inI a.Act.Value.Num) (ht:a.Act.Value.Text.length≤9223372036854775807):z7x a=some (zcq a):=by
 unfold z7x zcq za5
 rw [zpw _ ht]
 simp only [bS]
 by_cases h:z3j a=0
 ·
  have:=zi9 h hI
  rw [if_neg (by simp [h]),if_pos h,zuc a h hI]
  simp only [bS]
  rw [zze _ _ _ (znb (z5r h).2.2) (by omega)]
  simp only [bS]
  cases zkh a.Author (msg a) a.Sig <;> rfl
 ·
  rw [if_pos (by simpa using h),if_neg h]
end
end Go.Proofs.YthgpinfkodaefaaGreatDoor
