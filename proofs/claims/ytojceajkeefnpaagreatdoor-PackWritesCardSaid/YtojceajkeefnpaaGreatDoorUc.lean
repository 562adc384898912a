import Derived.Test.YtojceajkeefnpaaGreatDoorUb
set_option linter.unusedSimpArgs false
set_option linter.unusedVariables false
namespace Go.Proofs.YtojceajkeefnpaaGreatDoor
section
open Go Go.RowKit
set_option maxRecDepth 100000
theorem z12 (a0:UInt64):z28 Tryz.prog 104 [.rd z2p a0] [] (z0y a0) (fun r nv=>⟨[.val (nv 0)],[(100,some (nv 0,.list u8R 5 r))]⟩):=by
 refine z2o 41 Tryz.func104 Z Z Z fun H w=>?_
 refine gSR<|Zb Z<|z0t<|gSR<|Zm Z<|Zq (U.leq Z Z)<|Zj Z (fun h1=>?_) (fun h1=>?_)
 ·refine gSR<|Zm Z<|Zq (U.toB Z tu35 tu5)<|Ef Z (lit (R:=u8R) ([a0.toUInt8]:List UInt8) 1 (pP Z Z<|pN) Z tu52 ti5 Z Z) fun v2=>Zb Z<|z0n<|z16<|Ze [v2] [1] Z
 ·refine Zt<|gSR<|Zb Z<|z7q (fun (s3:(List UInt8)) aa ww=>∃ nv:Nat→Value,Sta (ctx 41 H [] w) [(3,.val (nv 0))] [(3,some ((nv 0),.list u8R 5 s3))] aa ww) ?_ (fun s3=>?_)
  ·refine zmw u8R 5 6<|z23 (fun (s4:UInt64 × (List UInt8)) aa ww=>∃ nv:Nat→Value,Sta (ctx 41 H [] w) [(0,.rd z2p s4.1),(3,.val (nv 0))] [(5,some ((nv 0),.list u8R 5 s4.2))] aa ww) (fun aa ww h=>⟨nvl [(.slice none 0 0)],Zu h [6]⟩) (fun s4=>?_)
   refine gEx fun n5=>z0t<|gSR<|Zm Z<|Zq (U.gtr Z Z)<|Zj Z (fun h6=>?_) (fun h6=>?_)
   ·refine Zt<|z5o<|gSR<|Zm Z<|Zm Z<|Zq (U.rem Z Z (by decide))<|Zq (U.toB Z tu35 tu5)<|Ef Z (lit (R:=u8R) ([(s4.1 % 256).toUInt8]:List UInt8) 7 (pP Z Z<|pN) Z tu52 ti5 Z Z) fun v7=>z0k fun x8 h9=>Ef Z (apn 5 Z Z Z (.own 7 Z) h9 tu52 ti5 Z Z Z) fun v10=>Zb Z<|z27<|Zm Z<|Zq (U.quo Z Z (by decide))<|Za Z<|z1w<|z2y<|z1l (fun aa ww h=>⟨nvl [v10],Zu h [5]⟩)
   ·refine z20<|z0u<|z0v<|z41 (fun aa ww h=>⟨nvl [(n5 0)],Zu h [5]⟩)
  ·refine gEx fun n11=>gSR<|Zm Z<|Zq (z4o Z (.own 3 Z) Z tu52)<|Zq (I.add Z Z)<|Zq (I.toB Z tu3 tu5)<|Ef Z (lit (R:=u8R) ([UInt8.ofInt (w64 (247+(s3.length:Int)))]:List UInt8) 8 (pP Z Z<|pN) Z tu52 ti5 Z Z) fun v12=>Zb Z<|z7q (fun (s13:(List UInt8)) aa ww=>∃ nv:Nat→Value,Sta (ctx 41 H [] w) [(4,.val (nv 0))] [(8,some ((nv 0),.list u8R 5 s13))] aa ww) ?_ (fun s13=>?_)
   ·refine gSR<|Zm Z<|Zq (z4o Z (.own 3 Z) Z tu52)<|Zq (I.sub Z Z)<|Za Z<|z1k 5 Z fun y14=>Zn<|z23 (fun (s15:(List UInt8) × Int) aa ww=>∃ nv:Nat→Value,Sta (ctx 41 H [] w) [(3,.val (n11 0)),(4,.val (nv 0)),(5,.rd z0h s15.2)] [(3,some ((n11 0),.list u8R 5 s3)),(8,some ((nv 0),.list u8R 5 s15.1))] aa ww) (fun aa ww h=>⟨nvl [v12],Zu h [3,8]⟩) (fun s15=>?_)
    refine gEx fun n16=>z0t<|gSR<|Zm Z<|Zq (I.geq Z Z)<|Zj Z (fun h17=>?_) (fun h17=>?_)
    ·refine Zt<|z0t<|z5o<|z27<|Zm Z<|Zm Z<|Zm Z<|z0k fun x18 h19=>Zq (ixO 3 Z Z Z h19 tu52 ti5)<|Zq (ld 3 Z Z (Foc.el h19) ty5 Z)<|Ef Z (lit (R:=u8R) ([x18]:List UInt8) 9 (pP Z Z<|pN) Z tu52 ti5 Z Z) fun v20=>z0k fun x21 h22=>Ef Z (apn 8 Z Z Z (.own 9 Z) h22 tu52 ti5 Z Z Z) fun v23=>Za Z<|z1w<|z2y<|z0l<|z27<|Zm Z<|Zq (I.sub Z Z)<|Za Z<|z1k 5 Z fun y24=>z1w<|z1l (fun aa ww h=>⟨nvl [v23],Zu h [3,8]⟩)
    ·refine z20<|z0u<|z0v<|z41 (fun aa ww h=>⟨nvl [(n16 0)],Zu h [8]⟩)
   ·refine gEx fun n25=>gSR<|Zm Z<|Zb Z<|z0n<|Ze [(n25 0)] [8] Z
def z4j (a0:List V3) (s4:(List UInt8) × Int):Option (Sum ((List UInt8)) ((List UInt8) × Int)) :=
 if decide (s4.2<(a0.length:Int)) then
  idx a0 s4.2 >>= fun x7 =>
  app 1 s4.1 x7.toList >>= fun x9 =>
  some (w64 (s4.2+1)) >>= fun y12 =>
  some (.inr (x9,y12))
 else
  some (.inl s4.1)
def z7z (a0:List V3):Option ((List UInt8)) :=
 z0y (UInt64.ofInt (a0.length:Int)) >>= fun r1 =>
 (iter (z4j a0) (r1,0)) >>= fun s3 =>
 some s3
theorem zd8 (a0:List V3):z28 Tryz.prog 144 [.rd (z01 aZ) a0] [] (z7z a0) (fun r nv=>⟨[.val (nv 0)],[(100,some (nv 0,.list u8R 5 r))]⟩):=by
 refine z2o 22 Tryz.func144 Z Z Z fun H w=>?_
 refine gSR<|Zb Z<|gSR<|Zm Z<|Zq (z4o Z .rd Z tu29)<|Zq (I.toU Z tu3 tu35)<|Zc [] [(100,1)] Tryz.func104 Z (z12 _) fun r1 n2=>Zb Z<|z7q (fun (s3:(List UInt8)) aa ww=>∃ nv:Nat→Value,Sta (ctx 22 H [] w) [(3,.val (nv 0))] [(1,some ((nv 0),.list u8R 5 s3))] aa ww) ?_ (fun s3=>?_)
 ·refine gSR<|Zb Z<|z23 (fun (s4:(List UInt8) × Int) aa ww=>∃ nv:Nat→Value,Sta (ctx 22 H [] w) [(0,.rd (z01 aZ) a0),(3,.val (nv 0)),(4,.rd z0h s4.2)] [(1,some ((nv 0),.list u8R 5 s4.1))] aa ww) (fun aa ww h=>⟨nvl [(n2 0)],Zu h [1]⟩) (fun s4=>?_)
  refine gEx fun n5=>z0t<|gSR<|Zm Z<|Zm Z<|Zq (z4o Z .rd Z tu29)<|Zq (I.lss Z Z)<|Zj Z (fun h6=>?_) (fun h6=>?_)
  ·refine Zt<|z0t<|z5o<|z27<|Zm Z<|Zm Z<|Zm Z<|z0k fun x7 h8=>Zq (ixR Z Z h8 tu29 z3o Z)<|Zq (zud Z tu45 ti5 Z Z Z)<|z0k fun x9 h10=>Ef Z (apn 1 Z Z Z .rd h10 tu52 ti5 Z Z Z) fun v11=>Za Z<|z1w<|z2y<|z0l<|z27<|Zm Z<|Zq (I.add Z Z)<|Za Z<|z1k 4 Z fun y12=>z1w<|z1l (fun aa ww h=>⟨nvl [v11],Zu h [1]⟩)
  ·refine z20<|z0u<|z0v<|z41 (fun aa ww h=>⟨nvl [(n5 0)],Zu h [1]⟩)
 ·refine gEx fun n13=>gSR<|Zm Z<|Zb Z<|z0n<|Ze [(n13 0)] [1] Z
def z3r (a0:List UInt8):Option ((List UInt8)) :=
 z0y (UInt64.ofInt (a0.length:Int)) >>= fun r1 =>
 app 1 r1 a0 >>= fun x3 =>
 some x3
theorem z87 (a0:List UInt8):z28 Tryz.prog 109 [.rd (z01 u8R) a0] [] (z3r a0) (fun r nv=>⟨[.val (nv 0)],[(100,some (nv 0,.list u8R 5 r))]⟩):=by
 refine z2o 9 Tryz.func109 Z Z Z fun H w=>?_
 refine gSR<|Zb Z<|gSR<|Zm Z<|Zq (z4o Z .rd Z tu52)<|Zq (I.toU Z tu3 tu35)<|Zc [] [(100,1)] Tryz.func104 Z (z12 _) fun r1 n2=>Zm Z<|z0k fun x3 h4=>Ef Z (apn 1 Z Z Z .rd h4 tu52 ti5 Z Z Z) fun v5=>Zb Z<|z0n<|Ze [v5] [1] Z
def z6n (a0:Int):Option ((List UInt8)) :=
 if decide (0≤a0) then
  z0y (2 * (UInt64.ofInt a0)) >>= fun r2 =>
  some r2
 else
  z0y ((2 * (UInt64.ofInt (w64 (0 - (w64 (a0+1))))))+1) >>= fun r4 =>
  some r4
theorem zc0 (a0:Int):z28 Tryz.prog 188 [.rd z0h a0] [] (z6n a0) (fun r nv=>⟨[.val (nv 0)],[(100,some (nv 0,.list u8R 5 r))]⟩):=by
 refine z2o 16 Tryz.func188 Z Z Z fun H w=>?_
 refine gSR<|Zb Z<|z0t<|gSR<|Zm Z<|Zq (I.geq Z Z)<|Zj Z (fun h1=>?_) (fun h1=>?_)
 ·refine gSR<|Zm Z<|Zq (I.toU Z Tryz.underlying2 tu35)<|Zq (U.mul Z Z)<|Zc [] [(100,1)] Tryz.func104 Z (z12 _) fun r2 n3=>Zb Z<|z0n<|z16<|Ze [(n3 0)] [1] Z
 ·refine Zt<|gSR<|Zm Z<|Zq (I.add Z Z)<|Zq (I.neg Z)<|Zq (I.toU Z Tryz.underlying2 tu35)<|Zq (U.mul Z Z)<|Zq (U.add Z Z)<|Zc [] [(100,2)] Tryz.func104 Z (z12 _) fun r4 n5=>Zb Z<|z0n<|Ze [(n5 0)] [2] Z
def z3t (a0:z04) (s11:(List UInt8) × Int):Option (Sum ((List UInt8)) ((List UInt8) × Int)) :=
 if decide (0≤s11.2) then
  chk (0≤w64 (8 * s11.2)) >>= fun u14 =>
  app 1 s11.1 [(z5q a0.Bits ((w64 (8 * s11.2):Int).toNat)).toUInt8] >>= fun x17 =>
  some (w64 (s11.2 - 1)) >>= fun y20 =>
  some (.inr (x17,y20))
 else
  some (.inl s11.1)
def z7k (a0:z04):Option ((List UInt8)) :=
 if a0.Kind==1 then
  z6n a0.Num >>= fun r4 =>
  app 1 [a0.Kind] r4 >>= fun x6 =>
  some x6
 else
  if a0.Kind==2 then
   (iter (z3t a0) ([a0.Kind],7)) >>= fun s10 =>
   some s10
  else
   chk (a0.Text.length≤281474976710656) >>= fun u22 =>
   z3r a0.Text >>= fun r24 =>
   app 1 [a0.Kind] r24 >>= fun x26 =>
   some x26
theorem zch (a0:z04):z28 Tryz.prog 145 [.rd z13 a0] [] (z7k a0) (fun r nv=>⟨[.val (nv 0)],[(100,some (nv 0,.list u8R 5 r))]⟩):=by
 refine z2o 39 Tryz.func145 Z Z Z fun H w=>?_
 refine gSR<|Eb Z (bx 1 Z) fun v1=>Zb Z<|gSR<|Zq (faB 1 Z Z Tryz.underlying37 Z (by exact ti5))<|Zq (ld 1 Z Z (fP (z1t _)) ty5 Z)<|Ef Z (lit (R:=u8R) ([a0.Kind]:List UInt8) 2 (pP Z Z<|pN) Z tu52 ti5 Z Z) fun v2=>Zb Z<|z0t<|gSR<|Zq (faB 1 Z Z Tryz.underlying37 Z (by exact ti5))<|Zq (ld 1 Z Z (fP (z1t _)) ty5 Z)<|Zn<|z5o<|gSR<|Zq (B.eql Z Z)<|Zb Z<|gIf Z Z (fun h3=>?_) (fun h3=>?_)
 ·refine gKn 11 Z h3<|gSR<|Zm Z<|Zq (faB 1 Z Z Tryz.underlying37 Z (by exact ti2))<|Zq (ld 1 Z Z (fP (z4h _)) ty2 Z)<|Zc [] [(100,3)] Tryz.func188 Z (zc0 _) fun r4 n5=>z0k fun x6 h7=>Ef Z (apn 2 Z Z Z (.own 3 Z) h7 tu52 ti5 Z Z Z) fun v8=>Zb Z<|z0n<|z4l<|z16<|Ze [v8] [2] Z
 ·refine gKn 11 Z h3<|gSR<|Zq (B.eql Z Z)<|Zb Z<|gIf Z Z (fun h9=>?_) (fun h9=>?_)
  ·refine gKn 18 Z h9<|z7q (fun (s10:(List UInt8)) aa ww=>∃ nv:Nat→Value,Sta (ctx 39 H [] w) [(3,.val (nv 0))] [(2,some ((nv 0),.list u8R 5 s10))] aa ww) ?_ (fun s10=>?_)
   ·refine gSR<|Zb Z<|z23 (fun (s11:(List UInt8) × Int) aa ww=>∃ nv:Nat→Value,Sta (ctx 39 H [] w) [(1,.val (z0i v1 0)),(3,.val (nv 0)),(4,.rd z0h s11.2)] [(1,some (v1,.box 37 [.rd z13 a0])),(2,some ((nv 0),.list u8R 5 s11.1))] aa ww) (fun aa ww h=>⟨nvl [v2],Zu h [1,2]⟩) (fun s11=>?_)
    refine gEx fun n12=>z0t<|gSR<|Zm Z<|Zq (I.geq Z Z)<|Zj Z (fun h13=>?_) (fun h13=>?_)
    ·refine Zt<|z0t<|z5o<|z27<|Zm Z<|Zq (faB 1 Z Z Tryz.underlying37 Z (by exact zm8))<|Zq (ld 1 Z Z (fP (z2e _)) zlx Z)<|Zm Z<|Zq (I.mul Z Z)<|z0k fun u14 h15=>Zq (U.shr Z Z (z4y h15))<|Zq (U.toB Z tu35 tu5)<|Ef Z (lit (R:=u8R) ([(z5q a0.Bits ((w64 (8 * s11.2):Int).toNat)).toUInt8]:List UInt8) 4 (pP Z Z<|pN) Z tu52 ti5 Z Z) fun v16=>z0k fun x17 h18=>Ef Z (apn 2 Z Z Z (.own 4 Z) h18 tu52 ti5 Z Z Z) fun v19=>Za Z<|z1w<|z2y<|z0l<|z27<|Zm Z<|Zq (I.sub Z Z)<|Za Z<|z1k 4 Z fun y20=>z1w<|z1l (fun aa ww h=>⟨nvl [v19],Zu h [1,2]⟩)
    ·refine z20<|z0u<|z0v<|z41 (fun aa ww h=>⟨nvl [(n12 0)],Zu h [2]⟩)
   ·refine gEx fun n21=>gSR<|Zm Z<|Zb Z<|z0n<|z4l<|z16<|Ze [(n21 0)] [2] Z
  ·refine gKn 18 Z h9<|z2s<|z2y<|z0l<|gSR<|Zm Z<|Zq (faB 1 Z Z Tryz.underlying37 Z (by exact ti9))<|Zq (ld 1 Z Z (fP (z26 _)) ty9 Z)<|z0k fun u22 h23=>zre Z Z h23 tu9 tu52 tu5<|Zc [] [(100,5)] Tryz.func109 Z (z87 _) fun r24 n25=>z0k fun x26 h27=>Ef Z (apn 2 Z Z Z (.own 5 Z) h27 tu52 ti5 Z Z Z) fun v28=>Zb Z<|z0n<|Ze [v28] [2] Z
def z80 (a0:z00):Option ((List UInt8)) :=
 z0y a0.Author.toUInt64 >>= fun r3 =>
 app 1 [111] r3 >>= fun x5 =>
 z7z a0.Preds >>= fun r8 =>
 app 1 x5 r8 >>= fun x10 =>
 z0y a0.Stamp >>= fun r13 =>
 app 1 x10 r13 >>= fun x15 =>
 app 1 x15 [a0.Act.Kind] >>= fun x19 =>
 (if a0.Act.Kind != 1 then
  chk (a0.Act.Key.length≤281474976710656) >>= fun u24 =>
  z3r a0.Act.Key >>= fun r26 =>
  app 1 x19 r26 >>= fun x28 =>
  some x28
 else
  some x19) >>= fun s22 =>
 if a0.Act.Kind==4 then
  z7k a0.Act.Value >>= fun r33 =>
  app 1 s22 r33 >>= fun x35 =>
  some x35
 else
  some s22
theorem zd9 (a0:z00):z28 Tryz.prog 103 [.rd z03 a0] [] (z80 a0) (fun r nv=>⟨[.val (nv 0)],[(100,some (nv 0,.list u8R 5 r))]⟩):=by
 refine z2o 47 Tryz.func103 Z Z Z fun H w=>?_
 refine gSR<|Eb Z (bx 1 Z) fun v1=>Zb Z<|gSR<|Ef Z (lit (R:=u8R) ([111]:List UInt8) 2 (pP Z Z<|pN) Z tu52 ti5 Z Z) fun v2=>Zq (faB 1 Z Z Tryz.underlying43 Z (by exact z67))<|Zq (ld 1 Z Z (fP (z4i _)) z8b Z)<|Zq (W.toU Z tu34 tu35)<|Zc [] [(100,3)] Tryz.func104 Z (z12 _) fun r3 n4=>z0k fun x5 h6=>Ef Z (apn 2 Z Z Z (.own 3 Z) h6 tu52 ti5 Z Z Z) fun v7=>Zb Z<|z0t<|z8s [2,13,25] mixed Z Z<|hTk 0 Z Z (mv Z)<|hTk 1 Z Z (faB 1 Z Z Tryz.underlying43 Z (by exact zc1))<|hTk 2 Z Z (ld 1 Z Z (fP (z0e _)) zdd Z)<|hTk 5 Z Z (faB 1 Z Z Tryz.underlying43 Z (by exact zm8))<|hTk 6 Z Z (ld 1 Z Z (fP (z57 _)) zlx Z)<|z5e 3 [] [(100,13)] Z (by kernel_rfl) Z (gd0 Z) Z Tryz.func144 Z Z (zd8 _) (Y1 Z) rN Z (fun _ _=>z2c) fun r8 n9=>z2r fun x10 h11=>Zo 4 Z Z Z (apn 2 Z Z Z (.own 13 Z) h11 tu52 ti5 Z Z Z) fun v12=>z5e 7 [] [(100,25)] Z (by kernel_rfl) Z (gd0 Z) Z Tryz.func104 Z Z (z12 _) (Y1 Z) rN Z (fun _ _=>z2c) fun r13 n14=>z2r fun x15 h16=>Zo 8 Z Z Z (apn 2 Z Z Z (.own 25 Z) h16 tu52 ti5 Z Z Z) fun v17=>Zf 9 Z Z z2c (asg Z)<|z5x (by kernel_rfl)<|z0l<|gSR<|Zm Z<|Zq (faB 1 Z Z Tryz.underlying43 Z (by exact zi6))<|Zq (faB 1 Z Z Tryz.underlying39 Z (by exact ti5))<|Zq (ld 1 Z Z ((fP (z1g _)).part (z2i _)) ty5 Z)<|Ef Z (lit (R:=u8R) ([a0.Act.Kind]:List UInt8) 37 (pP Z Z<|pN) Z tu52 ti5 Z Z) fun v18=>z0k fun x19 h20=>Ef Z (apn 2 Z Z Z (.own 37 Z) h20 tu52 ti5 Z Z Z) fun v21=>Zb Z<|z7q (fun (s22:(List UInt8)) aa ww=>∃ nv:Nat→Value,Sta (ctx 47 H [] w) [(1,.val (z0i v1 0)),(3,.val (nv 0))] [(1,some (v1,.box 43 [.rd z03 a0])),(2,some ((nv 0),.list u8R 5 s22))] aa ww) ?_ (fun s22=>?_)
 ·refine gSR<|Zq (faB 1 Z Z Tryz.underlying43 Z (by exact zi6))<|Zq (faB 1 Z Z Tryz.underlying39 Z (by exact ti5))<|Zq (ld 1 Z Z ((fP (z1g _)).part (z2i _)) ty5 Z)<|Zq (B.neq Z Z)<|Zj Z (fun h23=>?_) (fun h23=>?_)
  ·refine z27<|Zm Z<|Zq (faB 1 Z Z Tryz.underlying43 Z (by exact zi6))<|Zq (faB 1 Z Z Tryz.underlying39 Z (by exact ti9))<|Zq (ld 1 Z Z ((fP (z1g _)).part (z3p _)) ty9 Z)<|z0k fun u24 h25=>zre Z Z h25 tu9 tu52 tu5<|Zc [] [(100,38)] Tryz.func109 Z (z87 _) fun r26 n27=>z0k fun x28 h29=>Ef Z (apn 2 Z Z Z (.own 38 Z) h29 tu52 ti5 Z Z Z) fun v30=>Za Z<|z1w<|z41 (fun aa ww h=>⟨nvl [v30],Zu h [1,2]⟩)
  ·refine z2s<|z41 (fun aa ww h=>⟨nvl [v21],Zu h [1,2]⟩)
 ·refine gEx fun n31=>z0t<|gSR<|Zq (faB 1 Z Z Tryz.underlying43 Z (by exact zi6))<|Zq (faB 1 Z Z Tryz.underlying39 Z (by exact ti5))<|Zq (ld 1 Z Z ((fP (z1g _)).part (z2i _)) ty5 Z)<|Zq (B.eql Z Z)<|Zj Z (fun h32=>?_) (fun h32=>?_)
  ·refine z27<|Zm Z<|Zq (faB 1 Z Z Tryz.underlying43 Z (by exact zi6))<|Zq (faB 1 Z Z Tryz.underlying39 Z (by exact ze1))<|Zq (ld 1 Z Z ((fP (z1g _)).part (z3d _)) zkb Z)<|Zc [] [(100,39)] Tryz.func145 Z (zch _) fun r33 n34=>z0k fun x35 h36=>Ef Z (apn 2 Z Z Z (.own 39 Z) h36 tu52 ti5 Z Z Z) fun v37=>Zb Z<|gSR<|Zm Z<|Zb Z<|z0n<|Ze [v37] [2] Z
  ·refine Zt<|gSR<|Zm Z<|Zb Z<|z0n<|Ze [(n31 0)] [2] Z
def z5u (a0:z00):Option ((List UInt8)) :=
 z80 a0 >>= fun r2 =>
 z0y a0.Sig.E.toUInt64 >>= fun r4 =>
 app 1 r2 r4 >>= fun x6 =>
 z0y a0.Sig.S.toUInt64 >>= fun r9 =>
 app 1 x6 r9 >>= fun x11 =>
 some x11
theorem z9r (a0:z00):z28 Tryz.prog 54 [.rd z03 a0] [] (z5u a0) (fun r nv=>⟨[.val (nv 0)],[(100,some (nv 0,.list u8R 5 r))]⟩):=by
 refine z2o 17 Tryz.func54 Z Z Z fun H w=>?_
 refine gSR<|Eb Z (bx 1 Z) fun v1=>Zb Z<|z0t<|z8s [5,20,38] mixed Z Z<|hTk 0 Z Z (ld 1 Z Z fH zez Z)<|hTk 2 Z Z (faB 1 Z Z Tryz.underlying43 Z (by exact zl9))<|hTk 3 Z Z (faB 1 Z Z Tryz.underlying41 Z (by exact z67))<|hTk 4 Z Z (ld 1 Z Z ((fP (z2l _)).part (za1 _)) z8b Z)<|hTk 5 Z Z (W.toU Z tu34 tu35)<|hTk 8 Z Z (faB 1 Z Z Tryz.underlying43 Z (by exact zl9))<|hTk 9 Z Z (faB 1 Z Z Tryz.underlying41 Z (by exact z67))<|hTk 10 Z Z (ld 1 Z Z ((fP (z2l _)).part (z9v _)) z8b Z)<|hTk 11 Z Z (W.toU Z tu34 tu35)<|z5e 1 [] [(100,5)] Z (by kernel_rfl) Z (gd0 Z) Z Tryz.func103 Z Z (zd9 _) (Y1 Z) rN Z (fun _ _=>z2c) fun r2 n3=>z5e 6 [] [(100,20)] Z (by kernel_rfl) Z (gd0 Z) Z Tryz.func104 Z Z (z12 _) (Y1 Z) rN Z (fun _ _=>z2c) fun r4 n5=>z2r fun x6 h7=>Zo 7 Z Z Z (apn 5 Z Z Z (.own 20 Z) h7 tu52 ti5 Z Z Z) fun v8=>z5e 12 [] [(100,38)] Z (by kernel_rfl) Z (gd0 Z) Z Tryz.func104 Z Z (z12 _) (Y1 Z) rN Z (fun _ _=>z2c) fun r9 n10=>z2r fun x11 h12=>Zo 13 Z Z Z (apn 5 Z Z Z (.own 38 Z) h12 tu52 ti5 Z Z Z) fun v13=>Zf 14 Z Z z2c (asg Z)<|z5x (by kernel_rfl)<|z0l<|z0n<|Ze [v13] [5] Z
def z8z  : Option ((Vector UInt32 8)) :=
 some (#v[1779033703,3144134277,1013904242,2773480762,1359893119,2600822924,528734635,1541459225]:Vector UInt32 8)
theorem zcl  : z28 Tryz.prog 101 [] [] (z8z) (fun r nv=>⟨[.rd (z2h 8 z0o) r],[]⟩):=by
 refine z2o 2 Tryz.func101 Z Z Z fun H w=>?_
 refine gSR<|Eb Z (zb8 1 zbx (.zr (R:=(z2h 8 z0o)) (x:=(Vector.replicate 8 0)) zjo)) fun v1=>Zn<|gSR<|Zq (zw6 (R:=z0o) [1779033703,3144134277,1013904242,2773480762,1359893119,2600822924,528734635,1541459225] (#v[1779033703,3144134277,1013904242,2773480762,1359893119,2600822924,528734635,1541459225]:Vector UInt32 8) (pP Z Z<|pP Z Z<|pP Z Z<|pP Z Z<|pP Z Z<|pP Z Z<|pP Z Z<|pP Z Z<|pN) Z tu149 zbx Z z67)<|Es (sto 1 Z Z fH Z zbx)<|Zn<|z0n<|zfk [] [] Z (eC 1 Z Z zib<|eN) (rN)
def z4m (a0:Int) (s3:(List UInt8)):Option (Sum ((List UInt8)) ((List UInt8))) :=
 if (Int.tmod (w64 ((w64 (a0+(s3.length:Int)))+8)) 64) != 0 then
  app 1 s3 [0] >>= fun x7 =>
  some (.inr x7)
 else
  some (.inl s3)
def z4r (a0:Int) (s12:(List UInt8) × Int):Option (Sum ((List UInt8)) ((List UInt8) × Int)) :=
 if decide (0≤s12.2) then
  chk (0≤w64 (8 * s12.2)) >>= fun u15 =>
  app 1 s12.1 [(z5q (8 * (UInt64.ofInt a0)) ((w64 (8 * s12.2):Int).toNat)).toUInt8] >>= fun x18 =>
  some (w64 (s12.2 - 1)) >>= fun y21 =>
  some (.inr (x18,y21))
 else
  some (.inl s12.1)
def z84 (a0:Int):Option ((List UInt8)) :=
 (iter (z4m a0) [128]) >>= fun s2 =>
 (iter (z4r a0) (s2,7)) >>= fun s11 =>
 some s11
theorem zdw (a0:Int):z28 Tryz.prog 102 [.rd z0h a0] [] (z84 a0) (fun r nv=>⟨[.val (nv 0)],[(100,some (nv 0,.list u8R 5 r))]⟩):=by
 refine z2o 31 Tryz.func102 Z Z Z fun H w=>?_
 refine gSR<|Zb Z<|gSR<|Ef Z (lit (R:=u8R) ([128]:List UInt8) 1 (pP Z Z<|pN) Z tu52 ti5 Z Z) fun v1=>Zb Z<|z7q (fun (s2:(List UInt8)) aa ww=>∃ nv:Nat→Value,Sta (ctx 31 H [] w) [(0,.rd z0h a0),(3,.val (nv 0))] [(1,some ((nv 0),.list u8R 5 s2))] aa ww) ?_ (fun s2=>?_)
 ·refine z23 (fun (s3:(List UInt8)) aa ww=>∃ nv:Nat→Value,Sta (ctx 31 H [] w) [(0,.rd z0h a0),(3,.val (nv 0))] [(1,some ((nv 0),.list u8R 5 s3))] aa ww) (fun aa ww h=>⟨nvl [v1],Zu h [1]⟩) (fun s3=>?_)
  refine gEx fun n4=>z0t<|gSR<|Zm Z<|Zm Z<|Zq (z4o Z (.own 1 Z) Z tu52)<|Zq (I.add Z Z)<|Zq (I.add Z Z)<|Zq (I.rem Z Z (by decide))<|Zq (I.neq Z Z)<|Zj Z (fun h5=>?_) (fun h5=>?_)
  ·refine Zt<|z5o<|z27<|Zm Z<|Ef Z (lit (R:=u8R) ([0]:List UInt8) 2 (pP Z Z<|pN) Z tu52 ti5 Z Z) fun v6=>z0k fun x7 h8=>Ef Z (apn 1 Z Z Z (.own 2 Z) h8 tu52 ti5 Z Z Z) fun v9=>Za Z<|z1w<|z2y<|z1l (fun aa ww h=>⟨nvl [v9],Zu h [1]⟩)
  ·refine z20<|z0u<|z0v<|z41 (fun aa ww h=>⟨nvl [(n4 0)],Zu h [1]⟩)
 ·refine gEx fun n10=>z7q (fun (s11:(List UInt8)) aa ww=>∃ nv:Nat→Value,Sta (ctx 31 H [] w) [(3,.val (nv 0))] [(1,some ((nv 0),.list u8R 5 s11))] aa ww) ?_ (fun s11=>?_)
  ·refine gSR<|Zb Z<|z23 (fun (s12:(List UInt8) × Int) aa ww=>∃ nv:Nat→Value,Sta (ctx 31 H [] w) [(0,.rd z0h a0),(3,.val (nv 0)),(4,.rd z0h s12.2)] [(1,some ((nv 0),.list u8R 5 s12.1))] aa ww) (fun aa ww h=>⟨nvl [(n10 0)],Zu h [1]⟩) (fun s12=>?_)
   refine gEx fun n13=>z0t<|gSR<|Zm Z<|Zq (I.geq Z Z)<|Zj Z (fun h14=>?_) (fun h14=>?_)
   ·refine Zt<|z0t<|z5o<|z27<|Zm Z<|Zm Z<|Zq (I.toU Z tu3 tu35)<|Zq (U.mul Z Z)<|Zm Z<|Zq (I.mul Z Z)<|z0k fun u15 h16=>Zq (U.shr Z Z (z4y h16))<|Zq (U.toB Z tu35 tu5)<|Ef Z (lit (R:=u8R) ([(z5q (8 * (UInt64.ofInt a0)) ((w64 (8 * s12.2):Int).toNat)).toUInt8]:List UInt8) 3 (pP Z Z<|pN) Z tu52 ti5 Z Z) fun v17=>z0k fun x18 h19=>Ef Z (apn 1 Z Z Z (.own 3 Z) h19 tu52 ti5 Z Z Z) fun v20=>Za Z<|z1w<|z2y<|z0l<|z27<|Zm Z<|Zq (I.sub Z Z)<|Za Z<|z1k 4 Z fun y21=>z1w<|z1l (fun aa ww h=>⟨nvl [v20],Zu h [1]⟩)
   ·refine z20<|z0u<|z0v<|z41 (fun aa ww h=>⟨nvl [(n13 0)],Zu h [1]⟩)
  ·refine gEx fun n22=>gSR<|Zm Z<|Zb Z<|z0n<|Ze [(n22 0)] [1] Z
def z1i (a0:UInt32) (a1:Int):Option (UInt32) :=
 chk (0≤a1) >>= fun u1 =>
 chk (0≤w64 (32 - a1)) >>= fun u3 =>
 some ((z5a a0 ((a1:Int).toNat)) ||| (zhx a0 ((w64 (32 - a1):Int).toNat))) >>= fun y5 =>
 some y5
theorem z1j (a0:UInt32) (a1:Int):z28 Tryz.prog 186 [.rd z0o a0,.rd z0h a1] [] (z1i a0 a1) (fun r nv=>⟨[.rd z0o r],[]⟩):=by
 refine z2o 13 Tryz.func186 Z Z Z fun H w=>?_
 refine gSR<|Zb Z<|z0t<|zdz mixed (by kernel_rfl)<|Rq Z (mv Z)<|Rq Z (mv Z)<|z60 fun u1 h2=>Rq Z (W.shr Z Z (z4y h2))<|Rq Z (mv Z)<|Rq Z (mv Z)<|Rq Z (I.sub Z Z)<|z60 fun u3 h4=>Rq Z (W.shl Z Z (z4y h4))<|Rq Z (W.or Z Z)<|Rq Z (asg Z)<|zxc 4 Z fun y5=>zm7<|z0l<|z0n<|Ze [] [] Z
def z6x  : Option ((List UInt32)) :=
 some [1116352408,1899447441,3049323471,3921009573,961987163,1508970993,2453635748,2870763221,3624381080,310598401,607225278,1426881987,1925078388,2162078206,2614888103,3248222580,3835390401,4022224774,264347078,604807628,770255983,1249150122,1555081692,1996064986,2554220882,2821834349,2952996808,3210313671,3336571891,3584528711,113926993,338241895,666307205,773529912,1294757372,1396182291,1695183700,1986661051,2177026350,2456956037,2730485921,2820302411,3259730800,3345764771,3516065817,3600352804,4094571909,275423344,430227734,506948616,659060556,883997877,958139571,1322822218,1537002063,1747873779,1955562222,2024104815,2227730452,2361852424,2428436474,2756734187,3204031479,3329325298]
theorem zam  : z28 Tryz.prog 187 [] [] (z6x) (fun r nv=>⟨[.val (nv 0)],[(100,some (nv 0,.list z0o 34 r))]⟩):=by
 refine z2o 2 Tryz.func187 Z Z Z fun H w=>?_
 refine gSR<|Zb Z<|gSR<|Ef Z (lit (R:=z0o) ([1116352408,1899447441,3049323471,3921009573,961987163,1508970993,2453635748,2870763221,3624381080,310598401,607225278,1426881987,1925078388,2162078206,2614888103,3248222580,3835390401,4022224774,264347078,604807628,770255983,1249150122,1555081692,1996064986,2554220882,2821834349,2952996808,3210313671,3336571891,3584528711,113926993,338241895,666307205,773529912,1294757372,1396182291,1695183700,1986661051,2177026350,2456956037,2730485921,2820302411,3259730800,3345764771,3516065817,3600352804,4094571909,275423344,430227734,506948616,659060556,883997877,958139571,1322822218,1537002063,1747873779,1955562222,2024104815,2227730452,2361852424,2428436474,2756734187,3204031479,3329325298]:List UInt32) 1 (pP Z Z<|pP Z Z<|pP Z Z<|pP Z Z<|pP Z Z<|pP Z Z<|pP Z Z<|pP Z Z<|pP Z Z<|pP Z Z<|pP Z Z<|pP Z Z<|pP Z Z<|pP Z Z<|pP Z Z<|pP Z Z<|pP Z Z<|pP Z Z<|pP Z Z<|pP Z Z<|pP Z Z<|pP Z Z<|pP Z Z<|pP Z Z<|pP Z Z<|pP Z Z<|pP Z Z<|pP Z Z<|pP Z Z<|pP Z Z<|pP Z Z<|pP Z Z<|pP Z Z<|pP Z Z<|pP Z Z<|pP Z Z<|pP Z Z<|pP Z Z<|pP Z Z<|pP Z Z<|pP Z Z<|pP Z Z<|pP Z Z<|pP Z Z<|pP Z Z<|pP Z Z<|pP Z Z<|pP Z Z<|pP Z Z<|pP Z Z<|pP Z Z<|pP Z Z<|pP Z Z<|pP Z Z<|pP Z Z<|pP Z Z<|pP Z Z<|pP Z Z<|pP Z Z<|pP Z Z<|pP Z Z<|pP Z Z<|pP Z Z<|pP Z Z<|pN) Z tu232 z67 Z Z) fun v1=>Zb Z<|z0n<|Ze [v1] [1] Z
def z3m (a1:List UInt8) (s4:(List UInt32) × Int):Option (Sum ((List UInt32)) ((List UInt32) × Int)) :=
 if decide (s4.2<16) then
  idx a1 (w64 (4 * s4.2)) >>= fun x7 =>
  idx a1 (w64 ((w64 (4 * s4.2))+1)) >>= fun x9 =>
  idx a1 (w64 ((w64 (4 * s4.2))+2)) >>= fun x11 =>
  idx a1 (w64 ((w64 (4 * s4.2))+3)) >>= fun x13 =>
  app 4 s4.1 [(((((x7.toUInt32 * 256)+x9.toUInt32) * 256)+x11.toUInt32) * 256)+x13.toUInt32] >>= fun x16 =>
  some (w64 (s4.2+1)) >>= fun y19 =>
  some (.inr (x16,y19))
 else
  some (.inl s4.1)
def z3h (s22:(List UInt32) × Int):Option (Sum ((List UInt32)) ((List UInt32) × Int)) :=
 if decide (s22.2<64) then
  idx s22.1 (w64 (s22.2 - 15)) >>= fun x25 =>
  idx s22.1 (w64 (s22.2 - 2)) >>= fun x27 =>
  idx s22.1 (w64 (s22.2 - 16)) >>= fun x29 =>
  idx s22.1 (w64 (s22.2 - 7)) >>= fun x31 =>
  z1i x25 7 >>= fun r33 =>
  z1i x25 18 >>= fun r36 =>
  z1i x27 17 >>= fun r39 =>
  z1i x27 19 >>= fun r42 =>
  app 4 s22.1 [((x29+x31)+((r33 ^^^ r36) ^^^ (z5a x25 3)))+((r39 ^^^ r42) ^^^ (z5a x27 10))] >>= fun x45 =>
  some (w64 (s22.2+1)) >>= fun y48 =>
  some (.inr (x45,y48))
 else
  some (.inl s22.1)
def z2a (s21:(List UInt32)) (r50:(List UInt32)) (s54:(Vector UInt32 8) × Int):Option (Sum ((Vector UInt32 8)) ((Vector UInt32 8) × Int)) :=
 if decide (s54.2<64) then
  z5f s54.1 0 >>= fun x56 =>
  z5f s54.1 1 >>= fun x58 =>
  z5f s54.1 2 >>= fun x60 =>
  z5f s54.1 4 >>= fun x62 =>
  z5f s54.1 5 >>= fun x64 =>
  z5f s54.1 6 >>= fun x66 =>
  z5f s54.1 7 >>= fun x68 =>
  idx r50 s54.2 >>= fun x70 =>
  idx s21 s54.2 >>= fun x72 =>
  z1i x62 6 >>= fun r74 =>
  z1i x62 11 >>= fun r76 =>
  z1i x62 25 >>= fun r78 =>
  some ((((x68+((r74 ^^^ r76) ^^^ r78))+((x62 &&& x64) ^^^ ((~~~x62) &&& x66)))+x70)+x72) >>= fun y80 =>
  z1i x56 2 >>= fun r81 =>
  z1i x56 13 >>= fun r83 =>
  z1i x56 22 >>= fun r85 =>
  some (((r81 ^^^ r83) ^^^ r85)+(((x56 &&& x58) ^^^ (x56 &&& x60)) ^^^ (x58 &&& x60))) >>= fun y87 =>
  z5f s54.1 3 >>= fun x88 =>
  some (w64 (s54.2+1)) >>= fun y90 =>
  some (.inr ((#v[y80+y87,x56,x58,x60,x88+y80,x62,x64,x66]:Vector UInt32 8),y90))
 else
  some (.inl s54.1)
def z1v (s53:(Vector UInt32 8)) (s92:(Vector UInt32 8) × Int):Option (Sum ((Vector UInt32 8)) ((Vector UInt32 8) × Int)) :=
 if decide (s92.2<8) then
  z5f s92.1 s92.2 >>= fun x94 =>
  z5f s53 s92.2 >>= fun x96 =>
  z5f s92.1 s92.2 >>= fun x98 =>
  some (w64 (s92.2+1)) >>= fun y100 =>
  some (.inr (zcr s92.1 s92.2 (x94+x96),y100))
 else
  some (.inl s92.1)
def z6m (a0:Vector UInt32 8) (a1:List UInt8):Option ((Vector UInt32 8)) :=
 (iter (z3m a1) ([],0)) >>= fun s3 =>
 (iter (z3h) (s3,16)) >>= fun s21 =>
 z6x >>= fun r50 =>
 (iter (z2a s21 r50) (a0,0)) >>= fun s53 =>
 (iter (z1v s53) (a0,0)) >>= fun s91 =>
 some s91
set_option maxHeartbeats 4000000 in
theorem zbz (a0:Vector UInt32 8) (a1:List UInt8):z28 Tryz.prog 143 [.rd (z2h 8 z0o) a0,.rd (z01 u8R) a1] [] (z6m a0 a1) (fun r nv=>⟨[.rd (z2h 8 z0o) r],[]⟩):=by
 refine z2o 203 Tryz.func143 Z Z Z fun H w=>?_
 refine gSR<|Eb Z (bx 1 Z) fun v1=>Eb Z (zb8 2 zbx (.zr (R:=(z2h 8 z0o)) (x:=(Vector.replicate 8 0)) zjo)) fun v2=>Zn<|gSR<|Zb Z<|z7q (fun (s3:(List UInt32)) aa ww=>∃ nv:Nat→Value,Sta (ctx 203 H [] w) [(2,.val (z0i v1 0)),(4,.val (z0i v2 0)),(5,.val (nv 0))] [(1,some (v1,.box 149 [.rd (z2h 8 z0o) a0])),(2,some (v2,.box 149 [.rd (z2h 8 z0o) (Vector.replicate 8 0)])),(108,some ((nv 0),.list z0o 34 s3))] aa ww) ?_ (fun s3=>?_)
 ·refine gSR<|Zb Z<|zmw z0o 34 215<|z23 (fun (s4:(List UInt32) × Int) aa ww=>∃ nv:Nat→Value,Sta (ctx 203 H [] w) [(1,.rd (z01 u8R) a1),(2,.val (z0i v1 0)),(4,.val (z0i v2 0)),(5,.val (nv 0)),(6,.rd z0h s4.2)] [(1,some (v1,.box 149 [.rd (z2h 8 z0o) a0])),(2,some (v2,.box 149 [.rd (z2h 8 z0o) (Vector.replicate 8 0)])),(214,some ((nv 0),.list z0o 34 s4.1))] aa ww) (fun aa ww h=>⟨nvl [(.slice none 0 0)],Zu h [1,2,215]⟩) (fun s4=>?_)
  refine gEx fun n5=>z0t<|gSR<|Zm Z<|Zq (I.lss Z Z)<|Zj Z (fun h6=>?_) (fun h6=>?_)
  ·refine Zt<|z0t<|z5o<|z8s [214,318] mixed Z Z<|hTk 0 Z Z (mv Z)<|hTk 1 Z Z (mv Z)<|hTk 2 Z Z (mv Z)<|hTk 3 Z Z (I.mul Z Z)<|z2r fun x7 h8=>hTk 4 Z Z (ixR Z Z h8 tu52 ti5 Z)<|hTk 5 Z Z (ldR Z ty5)<|hTk 6 Z Z (B.toW Z tu5 tu34)<|hTk 7 Z Z (W.mul Z Z)<|hTk 8 Z Z (mv Z)<|hTk 9 Z Z (mv Z)<|hTk 10 Z Z (I.mul Z Z)<|hTk 11 Z Z (I.add Z Z)<|z2r fun x9 h10=>hTk 12 Z Z (ixR Z Z h10 tu52 ti5 Z)<|hTk 13 Z Z (ldR Z ty5)<|hTk 14 Z Z (B.toW Z tu5 tu34)<|hTk 15 Z Z (W.add Z Z)<|hTk 16 Z Z (W.mul Z Z)<|hTk 17 Z Z (mv Z)<|hTk 18 Z Z (mv Z)<|hTk 19 Z Z (I.mul Z Z)<|hTk 20 Z Z (I.add Z Z)<|z2r fun x11 h12=>hTk 21 Z Z (ixR Z Z h12 tu52 ti5 Z)<|hTk 22 Z Z (ldR Z ty5)<|hTk 23 Z Z (B.toW Z tu5 tu34)<|hTk 24 Z Z (W.add Z Z)<|hTk 25 Z Z (W.mul Z Z)<|hTk 26 Z Z (mv Z)<|hTk 27 Z Z (mv Z)<|hTk 28 Z Z (I.mul Z Z)<|hTk 29 Z Z (I.add Z Z)<|z2r fun x13 h14=>hTk 30 Z Z (ixR Z Z h14 tu52 ti5 Z)<|hTk 31 Z Z (ldR Z ty5)<|hTk 32 Z Z (B.toW Z tu5 tu34)<|hTk 33 Z Z (W.add Z Z)<|Zo 34 Z Z Z (lit (R:=z0o) ([(((((x7.toUInt32 * 256)+x9.toUInt32) * 256)+x11.toUInt32) * 256)+x13.toUInt32]:List UInt32) 318 (pP Z Z<|pN) Z tu232 z67 Z Z) fun v15=>z2r fun x16 h17=>Zo 35 Z Z Z (apn 214 Z Z Z (.own 318 Z) h17 tu232 z67 Z Z Z) fun v18=>Zf 36 Z Z z2c (asg Z)<|z5x (by kernel_rfl)<|z2y<|z0l<|z27<|Zm Z<|Zq (I.add Z Z)<|Za Z<|z1k 6 Z fun y19=>z1w<|z1l (fun aa ww h=>⟨nvl [v18],Zu h [1,2,214]⟩)
  ·refine z20<|z0u<|z0v<|z41 (fun aa ww h=>⟨nvl [(n5 0)],Zu h [1,2,214]⟩)
 ·refine gEx fun n20=>z7q (fun (s21:(List UInt32)) aa ww=>∃ nv:Nat→Value,Sta (ctx 203 H [] w) [(2,.val (z0i v1 0)),(4,.val (z0i v2 0)),(5,.val (nv 0))] [(1,some (v1,.box 149 [.rd (z2h 8 z0o) a0])),(2,some (v2,.box 149 [.rd (z2h 8 z0o) (Vector.replicate 8 0)])),(108,some ((nv 0),.list z0o 34 s21))] aa ww) ?_ (fun s21=>?_)
  ·refine gSR<|Zb Z<|z23 (fun (s22:(List UInt32) × Int) aa ww=>∃ nv:Nat→Value,Sta (ctx 203 H [] w) [(2,.val (z0i v1 0)),(4,.val (z0i v2 0)),(5,.val (nv 0)),(7,.rd z0h s22.2)] [(1,some (v1,.box 149 [.rd (z2h 8 z0o) a0])),(2,some (v2,.box 149 [.rd (z2h 8 z0o) (Vector.replicate 8 0)])),(108,some ((nv 0),.list z0o 34 s22.1))] aa ww) (fun aa ww h=>⟨nvl [(n20 0)],Zu h [1,2,108]⟩) (fun s22=>?_)
   refine gEx fun n23=>z0t<|gSR<|Zm Z<|Zq (I.lss Z Z)<|Zj Z (fun h24=>?_) (fun h24=>?_)
   ·refine Zt<|z0t<|z5o<|z0t<|zdz mixed (by kernel_rfl)<|Rq Z (mv Z)<|Rq Z (mv Z)<|Rq Z (I.sub Z Z)<|z60 fun x25 h26=>Rq Z (ixO 108 Z Z Z h26 tu232 z67)<|Rq Z (ld 108 Z Z (Foc.el h26) z8b Z)<|Rq Z (mv Z)<|Rq Z (mv Z)<|Rq Z (I.sub Z Z)<|z60 fun x27 h28=>Rq Z (ixO 108 Z Z Z h28 tu232 z67)<|Rq Z (ld 108 Z Z (Foc.el h28) z8b Z)<|Rq Z (asg Z)<|Rq Z (asg Z)<|zm7<|z0l<|zxl [(5,.val (n23 0)),(2,.val (z0i v1 0)),(4,.val (z0i v2 0)),(7,.rd z0h s22.2),(8,.rd z0o x25),(9,.rd z0o x27)] [(1,some (v1,.box 149 [.rd (z2h 8 z0o) a0])),(2,some (v2,.box 149 [.rd (z2h 8 z0o) (Vector.replicate 8 0)])),(108,some ((n23 0),.list z0o 34 s22.1))] [1,2,108] (Zs Z Z Z Z<|sS Z<|sS Z<|sN) (Zi Z<|Zi Z<|Zi Z<|rN)<|zdy fun x29 h30=>zdy fun x31 h32=>zdy fun r33 h35=>zdy fun r36 h38=>zdy fun r39 h41=>zdy fun r42 h44=>zdy fun x45 h46=>gOr [(5,.val (n23 0),32)] [⟨108,some ([], fun nv=>((n23 0),.list z0o 34 s22.1)),[(31,some ([2], fun nv=>((nv 2),.list z0o 34 x45)))]⟩,⟨330,none,[(30,some ([1], fun nv=>((nv 1),.list z0o 34 [((x29+x31)+((r33 ^^^ r36) ^^^ (z5a x25 3)))+((r39 ^^^ r42) ^^^ (z5a x27 10))])))]⟩] [⟨some (76,[], fun nv=>.val (n23 0)),[],[],[0]⟩,⟨some (77,[], fun nv=>.val (n23 0)),[],[],[0]⟩,pd 78 (.rd z0h s22.2),pd 79 (.rd z0h (w64 (s22.2 - 16))),pk 80 (.val (z0i (n23 0) ((w64 (s22.2 - 16):Int).toNat * 1))) [(0,0,false)],pk 81 (.rd z0o x29) [(0,0,false)],⟨some (82,[], fun nv=>.val (n23 0)),[],[],[0]⟩,pd 83 (.rd z0h s22.2),pd 84 (.rd z0h (w64 (s22.2 - 7))),pk 85 (.val (z0i (n23 0) ((w64 (s22.2 - 7):Int).toNat * 1))) [(0,0,false)],pk 86 (.rd z0o x31) [(0,0,false)],pd 87 (.rd z0o (x29+x31)),pd 88 (.rd z0o x25),pd 89 (.rd z0o r33),pd 90 (.rd z0o x25),pd 91 (.rd z0o r36),pd 92 (.rd z0o (r33 ^^^ r36)),pd 93 (.rd z0o x25),pd 94 (.rd z0o (z5a x25 3)),pd 95 (.rd z0o ((r33 ^^^ r36) ^^^ (z5a x25 3))),pd 96 (.rd z0o ((x29+x31)+((r33 ^^^ r36) ^^^ (z5a x25 3)))),pd 97 (.rd z0o x27),pd 98 (.rd z0o r39),pd 99 (.rd z0o x27),pd 100 (.rd z0o r42),pd 101 (.rd z0o (r39 ^^^ r42)),pd 102 (.rd z0o x27),pd 103 (.rd z0o (z5a x27 10)),pd 104 (.rd z0o ((r39 ^^^ r42) ^^^ (z5a x27 10))),pd 105 (.rd z0o (((x29+x31)+((r33 ^^^ r36) ^^^ (z5a x25 3)))+((r39 ^^^ r42) ^^^ (z5a x27 10)))),⟨some (106,[1], fun nv=>.val (nv 1)),[(1,0,true)],[1],[]⟩,⟨some (107,[2], fun nv=>.val (nv 2)),[(1,1,false),(0,0,true)],[2],[]⟩,⟨some (5,[2], fun nv=>.val (nv 2)),[],[],[]⟩] mixed (oC (oRn (fun nv E=>mv Z))<|oC (oRn (fun nv E=>mv Z))<|oC (oRn (fun nv E=>mv Z))<|oC (oRn (fun nv E=>I.sub Z Z))<|oC (oRn (fun nv E=>ixO 108 Z Z Z h30 tu232 z67))<|oC (oRn (fun nv E=>ld 108 Z Z (Foc.el h30) z8b Z))<|oC (oRn (fun nv E=>mv Z))<|oC (oRn (fun nv E=>mv Z))<|oC (oRn (fun nv E=>I.sub Z Z))<|oC (oRn (fun nv E=>ixO 108 Z Z Z h32 tu232 z67))<|oC (oRn (fun nv E=>ld 108 Z Z (Foc.el h32) z8b Z))<|oC (oRn (fun nv E=>W.add Z Z))<|oC (oRn (fun nv E=>mv Z))<|oC (oCl [] [] [] h35 Tryz.func186 Z (fun nv=>(z1j _ _)) (fun nv=>(Y2 Z Z)) (fun nv E=>rN))<|oC (oRn (fun nv E=>mv Z))<|oC (oCl [] [] [] h38 Tryz.func186 Z (fun nv=>(z1j _ _)) (fun nv=>(Y2 Z Z)) (fun nv E=>rN))<|oC (oRn (fun nv E=>W.xor Z Z))<|oC (oRn (fun nv E=>mv Z))<|oC (oRn (fun nv E=>W.shr Z Z (Int.natCast_nonneg _)))<|oC (oRn (fun nv E=>W.xor Z Z))<|oC (oRn (fun nv E=>W.add Z Z))<|oC (oRn (fun nv E=>mv Z))<|oC (oCl [] [] [] h41 Tryz.func186 Z (fun nv=>(z1j _ _)) (fun nv=>(Y2 Z Z)) (fun nv E=>rN))<|oC (oRn (fun nv E=>mv Z))<|oC (oCl [] [] [] h44 Tryz.func186 Z (fun nv=>(z1j _ _)) (fun nv=>(Y2 Z Z)) (fun nv E=>rN))<|oC (oRn (fun nv E=>W.xor Z Z))<|oC (oRn (fun nv E=>mv Z))<|oC (oRn (fun nv E=>W.shr Z Z (Int.natCast_nonneg _)))<|oC (oRn (fun nv E=>W.xor Z Z))<|oC (oRn (fun nv E=>W.add Z Z))<|oC (oEf 330 1 (fun nv E=>lit (R:=z0o) ([((x29+x31)+((r33 ^^^ r36) ^^^ (z5a x25 3)))+((r39 ^^^ r42) ^^^ (z5a x27 10))]:List UInt32) 330 (pP Z Z<|pN) Z tu232 z67 Z Z))<|oC (oEf 108 2 (fun nv E=>apn 108 Z Z Z (.own 330 Z) h46 tu232 z67 Z Z Z))<|oC (oRn (fun nv E=>asg Z))<|oN) fun n47=>z2y<|z0l<|z27<|Zm Z<|Zq (I.add Z Z)<|Za Z<|z1k 7 Z fun y48=>z1w<|z1l (fun aa ww h=>⟨nvl [(n47 2)],Zu h [1,2,108]⟩)
   ·refine z20<|z0u<|z0v<|z41 (fun aa ww h=>⟨nvl [(n23 0)],Zu h [1,2,108]⟩)
  ·refine gEx fun n49=>gSR<|Zc [] [(100,331)] Tryz.func187 Z (zam) fun r50 n51=>Zb Z<|gSR<|Zq (ld 1 Z Z fH zib Z)<|Eb Z (zb8 332 zbx (.zr (R:=(z2h 8 z0o)) (x:=(Vector.replicate 8 0)) zjo)) fun v52=>Es (sto 332 Z Z fH Z zbx)<|Zn<|z7q (fun (s53:(Vector UInt32 8)) aa ww=>Sta (ctx 203 H [] w) [(2,.val (z0i v1 0)),(4,.val (z0i v2 0)),(11,.val (z0i v52 0))] [(1,some (v1,.box 149 [.rd (z2h 8 z0o) a0])),(2,some (v2,.box 149 [.rd (z2h 8 z0o) (Vector.replicate 8 0)])),(332,some (v52,.box 149 [.rd (z2h 8 z0o) s53]))] aa ww) ?_ (fun s53=>?_)
   ·refine gSR<|Zb Z<|z23 (fun (s54:(Vector UInt32 8) × Int) aa ww=>Sta (ctx 203 H [] w) [(2,.val (z0i v1 0)),(4,.val (z0i v2 0)),(5,.val (n49 0)),(10,.val (n51 0)),(11,.val (z0i v52 0)),(12,.rd z0h s54.2)] [(1,some (v1,.box 149 [.rd (z2h 8 z0o) a0])),(2,some (v2,.box 149 [.rd (z2h 8 z0o) (Vector.replicate 8 0)])),(108,some ((n49 0),.list z0o 34 s21)),(331,some ((n51 0),.list z0o 34 r50)),(332,some (v52,.box 149 [.rd (z2h 8 z0o) s54.1]))] aa ww) (fun aa ww h=>Zu h [1,2,108,331,332]) (fun s54=>?_)
    refine z0t<|gSR<|Zm Z<|Zq (I.lss Z Z)<|Zj Z (fun h55=>?_) (fun h55=>?_)
    ·refine Zt<|z0t<|z5o<|z0t<|zdz mixed (by kernel_rfl)<|z60 fun x56 h57=>Rq Z (ixB 332 Z Z Z h57 tu149 z67)<|Rq Z (ld 332 Z Z (fP (.el h57)) z8b Z)<|z60 fun x58 h59=>Rq Z (ixB 332 Z Z Z h59 tu149 z67)<|Rq Z (ld 332 Z Z (fP (.el h59)) z8b Z)<|z60 fun x60 h61=>Rq Z (ixB 332 Z Z Z h61 tu149 z67)<|Rq Z (ld 332 Z Z (fP (.el h61)) z8b Z)<|z60 fun x62 h63=>Rq Z (ixB 332 Z Z Z h63 tu149 z67)<|Rq Z (ld 332 Z Z (fP (.el h63)) z8b Z)<|z60 fun x64 h65=>Rq Z (ixB 332 Z Z Z h65 tu149 z67)<|Rq Z (ld 332 Z Z (fP (.el h65)) z8b Z)<|z60 fun x66 h67=>Rq Z (ixB 332 Z Z Z h67 tu149 z67)<|Rq Z (ld 332 Z Z (fP (.el h67)) z8b Z)<|Rq Z (asg Z)<|Rq Z (asg Z)<|Rq Z (asg Z)<|Rq Z (asg Z)<|Rq Z (asg Z)<|Rq Z (asg Z)<|zm7<|z0l<|z0t<|z8s [] mixed Z Z<|z2r fun x68 h69=>hTk 0 Z Z (ixB 332 Z Z Z h69 tu149 z67)<|hTk 1 Z Z (ld 332 Z Z (fP (.el h69)) z8b Z)<|hTk 2 Z Z (mv Z)<|hTk 4 Z Z (mv Z)<|hTk 7 Z Z (mv Z)<|hTk 11 Z Z (mv Z)<|hTk 12 Z Z (mv Z)<|hTk 13 Z Z (W.and Z Z)<|hTk 14 Z Z (mv Z)<|hTk 15 Z Z (W.cpl Z)<|hTk 16 Z Z (mv Z)<|hTk 17 Z Z (W.and Z Z)<|hTk 18 Z Z (W.xor Z Z)<|hTk 20 Z Z (mv Z)<|hTk 21 Z Z (mv Z)<|z2r fun x70 h71=>hTk 22 Z Z (ixO 331 Z Z Z h71 tu232 z67)<|hTk 23 Z Z (ld 331 Z Z (Foc.el h71) z8b Z)<|hTk 25 Z Z (mv Z)<|hTk 26 Z Z (mv Z)<|z2r fun x72 h73=>hTk 27 Z Z (ixO 108 Z Z Z h73 tu232 z67)<|hTk 28 Z Z (ld 108 Z Z (Foc.el h73) z8b Z)<|z5e 3 [] [] Z (by kernel_rfl) Z (gd0 Z) Z Tryz.func186 Z Z (z1j _ _) (Y2 Z Z) rN Z (fun _ _=>z42) fun r74 n75=>z5e 5 [] [] Z (by kernel_rfl) Z (gd0 Z) Z Tryz.func186 Z Z (z1j _ _) (Y2 Z Z) rN Z (fun _ _=>z42) fun r76 n77=>hTk 6 Z Z (W.xor Z Z)<|z5e 8 [] [] Z (by kernel_rfl) Z (gd0 Z) Z Tryz.func186 Z Z (z1j _ _) (Y2 Z Z) rN Z (fun _ _=>z42) fun r78 n79=>hTk 9 Z Z (W.xor Z Z)<|hTk 10 Z Z (W.add Z Z)<|hTk 19 Z Z (W.add Z Z)<|hTk 24 Z Z (W.add Z Z)<|hTk 29 Z Z (W.add Z Z)<|hTk 30 Z Z (asg Z)<|zqf 19 Z Z fun y80=>z5x (by kernel_rfl)<|z0l<|gSR<|Zm Z<|Zc [] [] Tryz.func186 Z (z1j _ _) fun r81 n82=>Zm Z<|Zc [] [] Tryz.func186 Z (z1j _ _) fun r83 n84=>Zq (W.xor Z Z)<|Zm Z<|Zc [] [] Tryz.func186 Z (z1j _ _) fun r85 n86=>Zq (W.xor Z Z)<|Zm Z<|Zm Z<|Zq (W.and Z Z)<|Zm Z<|Zm Z<|Zq (W.and Z Z)<|Zq (W.xor Z Z)<|Zm Z<|Zm Z<|Zq (W.and Z Z)<|Zq (W.xor Z Z)<|Zq (W.add Z Z)<|Za Z<|z1k 20 Z fun y87=>Zn<|z27<|Zm Z<|Zm Z<|Zq (W.add Z Z)<|Zm Z<|Zm Z<|Zm Z<|z0k fun x88 h89=>Zq (ixB 332 Z Z Z h89 tu149 z67)<|Zq (ld 332 Z Z (fP (.el h89)) z8b Z)<|Zm Z<|Zq (W.add Z Z)<|Zm Z<|Zm Z<|Zm Z<|Zq (zw6 (R:=z0o) [y80+y87,x56,x58,x60,x88+y80,x62,x64,x66] (#v[y80+y87,x56,x58,x60,x88+y80,x62,x64,x66]:Vector UInt32 8) (pP Z Z<|pP Z Z<|pP Z Z<|pP Z Z<|pP Z Z<|pP Z Z<|pP Z Z<|pP Z Z<|pN) Z tu149 zbx Z z67)<|Es (sto 332 Z Z fH Z zbx)<|z1w<|z2y<|z0l<|z27<|Zm Z<|Zq (I.add Z Z)<|Za Z<|z1k 12 Z fun y90=>z1w<|z1l (fun aa ww h=>Zu h [1,2,108,331,332])
    ·refine z20<|z0u<|z0v<|z41 (fun aa ww h=>Zu h [1,2,332])
   ·refine z7q (fun (s91:(Vector UInt32 8)) aa ww=>Sta (ctx 203 H [] w) [(2,.val (z0i v1 0)),(4,.val (z0i v2 0))] [(1,some (v1,.box 149 [.rd (z2h 8 z0o) s91])),(2,some (v2,.box 149 [.rd (z2h 8 z0o) (Vector.replicate 8 0)]))] aa ww) ?_ (fun s91=>?_)
    ·refine gSR<|Zb Z<|z23 (fun (s92:(Vector UInt32 8) × Int) aa ww=>Sta (ctx 203 H [] w) [(2,.val (z0i v1 0)),(4,.val (z0i v2 0)),(11,.val (z0i v52 0)),(21,.rd z0h s92.2)] [(1,some (v1,.box 149 [.rd (z2h 8 z0o) s92.1])),(2,some (v2,.box 149 [.rd (z2h 8 z0o) (Vector.replicate 8 0)])),(332,some (v52,.box 149 [.rd (z2h 8 z0o) s53]))] aa ww) (fun aa ww h=>Zu h [1,2,332]) (fun s92=>?_)
     refine z0t<|gSR<|Zm Z<|Zq (I.lss Z Z)<|Zj Z (fun h93=>?_) (fun h93=>?_)
     ·refine Zt<|z0t<|z5o<|z8s [1] mixed Z Z<|hTk 0 Z Z (mv Z)<|z2r fun x94 h95=>hTk 1 Z Z (ixB 1 Z Z Z h95 tu149 z67)<|hTk 3 Z Z (mv Z)<|z2r fun x96 h97=>hTk 4 Z Z (ixB 332 Z Z Z h97 tu149 z67)<|hTk 5 Z Z (ld 332 Z Z (fP (.el h97)) z8b Z)<|zu1 2 Z (by kernel_rfl) (gd0 Z) Z Z z42 (ld 1 Z Z (fP (.el h95)) z8b Z)<|hTk 6 Z Z (W.add Z Z)<|z2r fun x98 h99=>hTk 7 Z Z (ixB 1 Z Z Z h99 tu149 z67)<|Zp 8 Z Z Z Z Z (sto 1 Z Z (fP (.el h99)) Z z67)<|z5x (by kernel_rfl)<|z2y<|z0l<|z27<|Zm Z<|Zq (I.add Z Z)<|Za Z<|z1k 21 Z fun y100=>z1w<|z1l (fun aa ww h=>Zu h [1,2,332])
     ·refine z20<|z0u<|z0v<|z41 (fun aa ww h=>Zu h [1,2])
    ·refine gSR<|Zq (ld 1 Z Z fH zib Z)<|Es (sto 2 Z Z fH Z zbx)<|Zn<|z0n<|zfk [] [] Z (eC 2 Z Z zib<|eN) (rN)
def z3g (a1:List UInt8) (s4:(Vector UInt32 8) × Int):Option (Sum ((Vector UInt32 8)) ((Vector UInt32 8) × Int)) :=
 if decide ((w64 (s4.2+64))≤(a1.length:Int)) then
  cut a1 s4.2 (w64 (s4.2+64)) >>= fun x6 =>
  z6m s4.1 x6 >>= fun r8 =>
  some (w64 (s4.2+64)) >>= fun y10 =>
  some (.inr (r8,y10))
 else
  some (.inl s4.1)
def z6q (a0:Vector UInt32 8) (a1:List UInt8):Option ((Vector UInt32 8)) :=
 (iter (z3g a1) (a0,0)) >>= fun s3 =>
 some s3
theorem zc2 (a0:Vector UInt32 8) (a1:List UInt8):z28 Tryz.prog 100 [.rd (z2h 8 z0o) a0,.rd (z01 u8R) a1] [] (z6q a0 a1) (fun r nv=>⟨[.rd (z2h 8 z0o) r],[]⟩):=by
 refine z2o 21 Tryz.func100 Z Z Z fun H w=>?_
 refine gSR<|Eb Z (bx 1 Z) fun v1=>Eb Z (zb8 2 zbx (.zr (R:=(z2h 8 z0o)) (x:=(Vector.replicate 8 0)) zjo)) fun v2=>Zn<|z7q (fun (s3:(Vector UInt32 8)) aa ww=>Sta (ctx 21 H [] w) [(2,.val (z0i v1 0)),(4,.val (z0i v2 0))] [(1,some (v1,.box 149 [.rd (z2h 8 z0o) s3])),(2,some (v2,.box 149 [.rd (z2h 8 z0o) (Vector.replicate 8 0)]))] aa ww) ?_ (fun s3=>?_)
 ·refine gSR<|Zb Z<|z23 (fun (s4:(Vector UInt32 8) × Int) aa ww=>Sta (ctx 21 H [] w) [(1,.rd (z01 u8R) a1),(2,.val (z0i v1 0)),(4,.val (z0i v2 0)),(5,.rd z0h s4.2)] [(1,some (v1,.box 149 [.rd (z2h 8 z0o) s4.1])),(2,some (v2,.box 149 [.rd (z2h 8 z0o) (Vector.replicate 8 0)]))] aa ww) (fun aa ww h=>Zu h [1,2]) (fun s4=>?_)
  refine z0t<|gSR<|Zm Z<|Zq (I.add Z Z)<|Zm Z<|Zq (z4o Z .rd Z tu52)<|Zq (I.leq Z Z)<|Zj Z (fun h5=>?_) (fun h5=>?_)
  ·refine Zt<|z0t<|z5o<|z8s [1] mixed Z Z<|hTk 1 Z Z (mv Z)<|hTk 2 Z Z (mv Z)<|hTk 3 Z Z (mv Z)<|hTk 4 Z Z (I.add Z Z)<|z2r fun x6 h7=>hTk 5 Z Z (zv8 Z (.to Z) (.to Z) h7 tu52 ti5)<|zu1 0 Z (by kernel_rfl) (gd0 Z) Z Z zuz (ld 1 Z Z fH zib Z)<|zv1 6 [] [] Z (by kernel_rfl) Z (gd0 Z) Z Tryz.func143 Z Z (zbz _ _) (Y2 Z Z) rN Z fun r8 n9=>Zp 7 Z Z Z Z Z (sto 1 Z Z fH Z zbx)<|z5x (by kernel_rfl)<|z2y<|z0l<|z27<|Zm Z<|Zq (I.add Z Z)<|Za Z<|z1k 5 Z fun y10=>z1w<|z1l (fun aa ww h=>Zu h [1,2])
  ·refine z20<|z0u<|z0v<|z41 (fun aa ww h=>Zu h [1,2])
 ·refine gSR<|Zq (ld 1 Z Z fH zib Z)<|Es (sto 2 Z Z fH Z zbx)<|Zn<|z0n<|zfk [] [] Z (eC 2 Z Z zib<|eN) (rN)
def z33 (a0:Vector UInt32 8) (s5:V3 × Int):Option (Sum (V3) (V3 × Int)) :=
 if decide (s5.2<32) then
  z5f a0 (w64 (Int.tdiv s5.2 4)) >>= fun x7 =>
  chk (0≤w64 (24 - (w64 (8 * (Int.tmod s5.2 4))))) >>= fun u9 =>
  z5f s5.1 s5.2 >>= fun x11 =>
  some (w64 (s5.2+1)) >>= fun y13 =>
  some (.inr (zcr s5.1 s5.2 ((z5a x7 ((w64 (24 - (w64 (8 * (Int.tmod s5.2 4)))):Int).toNat)).toUInt8),y13))
 else
  some (.inl s5.1)
def z61 (a0:Vector UInt32 8):Option (V3) :=
 (iter (z33 a0) ((Vector.replicate 32 0),0)) >>= fun s4 =>
 some s4
theorem zbk (a0:Vector UInt32 8):z28 Tryz.prog 99 [.rd (z2h 8 z0o) a0] [] (z61 a0) (fun r nv=>⟨[.rd aZ r],[]⟩):=by
 refine z2o 22 Tryz.func99 Z Z Z fun H w=>?_
 refine gSR<|Eb Z (bx 1 Z) fun v1=>Eb Z (zb8 2 z3o (.zr (R:=aZ) (x:=(Vector.replicate 32 0)) zjz)) fun v2=>Zn<|gSR<|Eb Z (zb8 3 z3o (.zr (R:=aZ) (x:=(Vector.replicate 32 0)) zjz)) fun v3=>Zn<|z7q (fun (s4:V3) aa ww=>Sta (ctx 22 H [] w) [(2,.val (z0i v2 0)),(3,.val (z0i v3 0))] [(2,some (v2,.box 45 [.rd aZ (Vector.replicate 32 0)])),(3,some (v3,.box 45 [.rd aZ s4]))] aa ww) ?_ (fun s4=>?_)
 ·refine gSR<|Zb Z<|z23 (fun (s5:V3 × Int) aa ww=>Sta (ctx 22 H [] w) [(1,.val (z0i v1 0)),(2,.val (z0i v2 0)),(3,.val (z0i v3 0)),(4,.rd z0h s5.2)] [(1,some (v1,.box 149 [.rd (z2h 8 z0o) a0])),(2,some (v2,.box 45 [.rd aZ (Vector.replicate 32 0)])),(3,some (v3,.box 45 [.rd aZ s5.1]))] aa ww) (fun aa ww h=>Zu h [1,2,3]) (fun s5=>?_)
  refine z0t<|gSR<|Zm Z<|Zq (I.lss Z Z)<|Zj Z (fun h6=>?_) (fun h6=>?_)
  ·refine Zt<|z0t<|z5o<|z27<|Zm Z<|Zm Z<|Zq (I.quo Z Z (by decide))<|z0k fun x7 h8=>Zq (ixB 1 Z Z Z h8 tu149 z67)<|Zq (ld 1 Z Z (fP (.el h8)) z8b Z)<|Zm Z<|Zq (I.rem Z Z (by decide))<|Zq (I.mul Z Z)<|Zq (I.sub Z Z)<|z0k fun u9 h10=>Zq (W.shr Z Z (z4y h10))<|Zq (W.toB Z tu34 tu5)<|z0k fun x11 h12=>Zq (ixB 3 Z Z Z h12 tu45 ti5)<|Es (sto 3 Z Z (fP (.el h12)) Z ti5)<|z1w<|z2y<|z0l<|z27<|Zm Z<|Zq (I.add Z Z)<|Za Z<|z1k 4 Z fun y13=>z1w<|z1l (fun aa ww h=>Zu h [1,2,3])
  ·refine z20<|z0u<|z0v<|z41 (fun aa ww h=>Zu h [2,3])
 ·refine gSR<|Zq (ld 3 Z Z fH z8h Z)<|Es (sto 2 Z Z fH Z z3o)<|Zn<|z0n<|zfk [] [] Z (eC 2 Z Z z8h<|eN) (rN)
def z98 (a0:List UInt8):Option (V3) :=
 z8z >>= fun r2 =>
 app 1 ([]:List UInt8) a0 >>= fun x5 =>
 z84 (a0.length:Int) >>= fun r8 =>
 app 1 x5 r8 >>= fun x10 =>
 z6q r2 x10 >>= fun r13 =>
 z61 r13 >>= fun r15 =>
 some r15
theorem zeq (a0:List UInt8):z28 Tryz.prog 53 [.rd (z01 u8R) a0] [] (z98 a0) (fun r nv=>⟨[.rd aZ r],[]⟩):=by
 refine z2o 13 Tryz.func53 Z Z Z fun H w=>?_
 refine gSR<|Eb Z (zb8 1 z3o (.zr (R:=aZ) (x:=(Vector.replicate 32 0)) zjz)) fun v1=>Zn<|gSR<|Zc [] [] Tryz.func101 Z (zcl) fun r2 n3=>Ef Z (lit (R:=u8R) (([]:List UInt8):List UInt8) 2 (pN) Z tu52 ti5 Z Z) fun v4=>Zm Z<|z0k fun x5 h6=>Ef Z (apn 2 Z Z Z .rd h6 tu52 ti5 Z Z Z) fun v7=>Zm Z<|Zq (z4o Z .rd Z tu52)<|Zc [] [(100,3)] Tryz.func102 Z (zdw _) fun r8 n9=>z0k fun x10 h11=>Ef Z (apn 2 Z Z Z (.own 3 Z) h11 tu52 ti5 Z Z Z) fun v12=>zcq 2 [10] Z (fS Z<|fN)<|Zc [] [] Tryz.func100 Z (zc2 _ _) fun r13 n14=>Zc [] [] Tryz.func99 Z (zbk _) fun r15 n16=>Es (sto 1 Z Z fH Z z3o)<|Zn<|z0n<|zfk [] [] Z (eC 1 Z Z z8h<|eN) (rN)
def z9b (a0:z00):Option (V3) :=
 z5u a0 >>= fun r3 =>
 z98 r3 >>= fun r5 =>
 some r5
theorem zeo (a0:z00):z28 Tryz.prog 16 [.rd z03 a0] [] (z9b a0) (fun r nv=>⟨[.rd aZ r],[]⟩):=by
 refine z2o 6 Tryz.func16 Z Z Z fun H w=>?_
 refine gSR<|Eb Z (bx 1 Z) fun v1=>Eb Z (zb8 2 z3o (.zr (R:=aZ) (x:=(Vector.replicate 32 0)) zjz)) fun v2=>Zn<|gSR<|Zq (ld 1 Z Z fH zez Z)<|Zc [] [(100,3)] Tryz.func54 Z (z9r _) fun r3 n4=>zcq 3 [4] Z (fS Z<|fN)<|Zc [] [] Tryz.func53 Z (zeq _) fun r5 n6=>Es (sto 2 Z Z fH Z z3o)<|Zn<|z0n<|zfk [] [] Z (eC 2 Z Z z8h<|eN) (rN)
def z5d (a0:V3) (a1:V3) (s4:Int):Option (Sum (Sum Int Unit) Int) :=
 if decide (s4<32) then
  z5f a0 s4 >>= fun x6 =>
  z5f a1 s4 >>= fun x8 =>
  if decide (x6<x8) then
   some (.inl (.inl (-1)))
  else
   z5f a0 s4 >>= fun x11 =>
   z5f a1 s4 >>= fun x13 =>
   if decide (x13<x11) then
    some (.inl (.inl 1))
   else
    some (.inr (w64 (s4+1)))
 else
  some (.inl (.inr ()))
def z4s (a0:V3) (a1:V3):Option (Int) :=
 z71 (iter (z5d a0 a1) 0) fun s3 =>
 some 0
theorem z6r (a0:V3) (a1:V3):z28 Tryz.prog 18 [.rd aZ a0,.rd aZ a1] [] (z4s a0 a1) (fun r nv=>⟨[.rd z0h r],[]⟩):=by
 refine z2o 24 Tryz.func18 Z Z Z fun H w=>?_
 refine gSR<|Eb Z (bx 1 Z) fun v1=>Eb Z (bx 2 Z) fun v2=>Zb Z<|z8x (fun (s3:Unit) aa ww=>Sta (ctx 24 H [] w) [] [] aa ww) ?_ (fun s3=>?_)
 ·refine gSR<|Zb Z<|z23 (fun (s4:Int) aa ww=>Sta (ctx 24 H [] w) [(2,.val (z0i v1 0)),(3,.val (z0i v2 0)),(5,.rd z0h s4)] [(1,some (v1,.box 45 [.rd aZ a0])),(2,some (v2,.box 45 [.rd aZ a1]))] aa ww) (fun aa ww h=>Zu h [1,2]) (fun s4=>?_)
  refine z0t<|gSR<|Zm Z<|Zq (I.lss Z Z)<|Zj Z (fun h5=>?_) (fun h5=>?_)
  ·refine Zt<|z0t<|z5o<|z0t<|z0t<|zdz mixed (by kernel_rfl)<|Rq Z (mv Z)<|z60 fun x6 h7=>Rq Z (ixB 1 Z Z Z h7 tu45 ti5)<|Rq Z (ld 1 Z Z (fP (.el h7)) ty5 Z)<|Rq Z (mv Z)<|z60 fun x8 h9=>Rq Z (ixB 2 Z Z Z h9 tu45 ti5)<|Rq Z (ld 2 Z Z (fP (.el h9)) ty5 Z)<|Rq Z (B.lss Z Z)<|zm7<|z0l<|gIf Z Z (fun h10=>?_) (fun h10=>?_)
   ·refine gSR<|Zb Z<|z0n<|z16<|z4l<|z16<|z81<|z85<|Ze [] [] Z
   ·refine Zt<|z0t<|zdz mixed (by kernel_rfl)<|Rq Z (mv Z)<|z60 fun x11 h12=>Rq Z (ixB 1 Z Z Z h12 tu45 ti5)<|Rq Z (ld 1 Z Z (fP (.el h12)) ty5 Z)<|Rq Z (mv Z)<|z60 fun x13 h14=>Rq Z (ixB 2 Z Z Z h14 tu45 ti5)<|Rq Z (ld 2 Z Z (fP (.el h14)) ty5 Z)<|Rq Z (B.gtr Z Z)<|zm7<|z0l<|gIf Z Z (fun h15=>?_) (fun h15=>?_)
    ·refine gSR<|Zb Z<|z0n<|z4l<|z16<|z81<|z85<|Ze [] [] Z
    ·refine z2s<|z2y<|z0l<|z27<|Zm Z<|Zq (I.add Z Z)<|Za Z<|z1w<|z1l (fun aa ww h=>Zu h [1,2])
  ·refine z20<|z0u<|z0v<|z8d (fun aa ww h=>Zu h [])
 ·refine gSR<|Zb Z<|z0n<|Ze [] [] Z
def z2m (a0:List V3) (s2:Int):Option (Sum (Sum Bool Unit) Int) :=
 if decide (s2<(a0.length:Int)) then
  idx a0 (w64 (s2 - 1)) >>= fun x4 =>
  idx a0 s2 >>= fun x6 =>
  z4s x4 x6 >>= fun r8 =>
  if decide (0≤r8) then
   some (.inl (.inl false))
  else
   some (.inr (w64 (s2+1)))
 else
  some (.inl (.inr ()))
def z6p (a0:List V3):Option (Bool) :=
 z71 (iter (z2m a0) 1) fun s1 =>
 some true
theorem zc4 (a0:List V3):z28 Tryz.prog 14 [.rd (z01 aZ) a0] [] (z6p a0) (fun r nv=>⟨[.rd z09 r],[]⟩):=by
 refine z2o 21 Tryz.func14 Z Z Z fun H w=>?_
 refine gSR<|Zb Z<|z8x (fun (s1:Unit) aa ww=>Sta (ctx 21 H [] w) [] [] aa ww) ?_ (fun s1=>?_)
 ·refine gSR<|Zb Z<|z23 (fun (s2:Int) aa ww=>Sta (ctx 21 H [] w) [(0,.rd (z01 aZ) a0),(3,.rd z0h s2)] [] aa ww) (fun aa ww h=>Zu h []) (fun s2=>?_)
  refine z0t<|gSR<|Zm Z<|Zm Z<|Zq (z4o Z .rd Z tu29)<|Zq (I.lss Z Z)<|Zj Z (fun h3=>?_) (fun h3=>?_)
  ·refine Zt<|z0t<|z5o<|z0t<|z8s [] mixed Z Z<|hTk 0 Z Z (mv Z)<|hTk 1 Z Z (mv Z)<|hTk 2 Z Z (I.sub Z Z)<|z2r fun x4 h5=>hTk 3 Z Z (ixR Z Z h5 tu29 z3o Z)<|hTk 4 Z Z (ldR Z z8h)<|hTk 5 Z Z (mv Z)<|hTk 6 Z Z (mv Z)<|z2r fun x6 h7=>hTk 7 Z Z (ixR Z Z h7 tu29 z3o Z)<|hTk 8 Z Z (ldR Z z8h)<|z5e 9 [] [] Z (by kernel_rfl) Z (gd0 Z) Z Tryz.func18 Z Z (z6r _ _) (Y2 Z Z) rN Z (fun _ _=>z42) fun r8 n9=>hTk 10 Z Z (I.geq Z Z)<|z5x (by kernel_rfl)<|z0l<|gIf Z Z (fun h10=>?_) (fun h10=>?_)
   ·refine gSR<|Zb Z<|z0n<|z4l<|z16<|z81<|z85<|Ze [] [] Z
   ·refine z2s<|z2y<|z0l<|z27<|Zm Z<|Zq (I.add Z Z)<|Za Z<|z1w<|z1l (fun aa ww h=>Zu h [])
  ·refine z20<|z0u<|z0v<|z8d (fun aa ww h=>Zu h [])
 ·refine gSR<|Zb Z<|z0n<|Ze [] [] Z
def z3w (a2:UInt64) (s2:UInt64 × UInt64 × UInt64):Option (Sum UInt64 (UInt64 × UInt64 × UInt64)) :=
 if decide (0<s2.2.1) then
  (if (s2.2.1 % 2)==1 then
   chk (a2≠0) >>= fun u6 =>
   some ((s2.2.2 * s2.1) % a2) >>= fun y8 =>
   some y8
  else
   some s2.2.2) >>= fun s4 =>
  chk (a2≠0) >>= fun u9 =>
  some ((s2.1 * s2.1) % a2) >>= fun y11 =>
  some (.inr (y11,s2.2.1 / 2,s4))
 else
  some (.inl s2.2.2)
def z79 (a0:UInt64) (a1:UInt64) (a2:UInt64):Option (UInt64) :=
 (iter (z3w a2) (a0,a1,1)) >>= fun s1 =>
 some s1
theorem zck (a0:UInt64) (a1:UInt64) (a2:UInt64):z28 Tryz.prog 96 [.rd z2p a0,.rd z2p a1,.rd z2p a2] [] (z79 a0 a1 a2) (fun r nv=>⟨[.rd z2p r],[]⟩):=by
 refine z2o 26 Tryz.func96 Z Z Z fun H w=>?_
 refine gSR<|Zb Z<|gSR<|Zb Z<|z7q (fun (s1:UInt64) aa ww=>Sta (ctx 26 H [] w) [(7,.rd z2p s1)] [] aa ww) ?_ (fun s1=>?_)
 ·refine z23 (fun (s2:UInt64 × UInt64 × UInt64) aa ww=>Sta (ctx 26 H [] w) [(0,.rd z2p s2.1),(1,.rd z2p s2.2.1),(2,.rd z2p a2),(7,.rd z2p s2.2.2)] [] aa ww) (fun aa ww h=>Zu h []) (fun s2=>?_)
  refine z0t<|gSR<|Zm Z<|Zq (U.gtr Z Z)<|Zj Z (fun h3=>?_) (fun h3=>?_)
  ·refine Zt<|z5o<|z7q (fun (s4:UInt64) aa ww=>Sta (ctx 26 H [] w) [(0,.rd z2p s2.1),(1,.rd z2p s2.2.1),(2,.rd z2p a2),(7,.rd z2p s4)] [] aa ww) ?_ (fun s4=>?_)
   ·refine gSR<|Zm Z<|Zq (U.rem Z Z (by decide))<|Zq (U.eql Z Z)<|Zj Z (fun h5=>?_) (fun h5=>?_)
    ·refine z27<|Zm Z<|Zm Z<|Zq (U.mul Z Z)<|Zm Z<|z0k fun u6 h7=>Zq (U.rem Z Z (z4y h7))<|Za Z<|z1k 7 Z fun y8=>z1w<|z41 (fun aa ww h=>Zu h [])
    ·refine z2s<|z41 (fun aa ww h=>Zu h [])
   ·refine gSR<|Zm Z<|Zm Z<|Zq (U.mul Z Z)<|Zm Z<|z0k fun u9 h10=>Zq (U.rem Z Z (z4y h10))<|Za Z<|z1k 0 Z fun y11=>Zn<|z27<|Zm Z<|Zq (U.quo Z Z (by decide))<|Za Z<|z1w<|z2y<|z1l (fun aa ww h=>Zu h [])
  ·refine z20<|z0u<|z0v<|z41 (fun aa ww h=>Zu h [])
 ·refine gSR<|Zm Z<|Zb Z<|z0n<|Ze [] [] Z
def z96 (a0:UInt32):Option (Bool) :=
 if decide (1≤a0) then
  if decide (a0<1000000007) then
   z79 a0.toUInt64 500000003 1000000007 >>= fun r3 =>
   some (r3==1)
  else
   some false
 else
  some false
theorem zen (a0:UInt32):z28 Tryz.prog 50 [.rd z0o a0] [] (z96 a0) (fun r nv=>⟨[.rd z09 r],[]⟩):=by
 refine z2o 15 Tryz.func50 Z Z Z fun H w=>?_
 refine gSR<|Zb Z<|gSR<|Zm Z<|Zq (W.geq Z Z)<|Zm Z<|z1y 5 Z (fun h1=>?_) (fun h1=>?_)
 ·refine lKn 4 Z h1<|z1q Zx Z Z (mv Z)<|z1q Zx Z Z (W.lss Z Z)<|Zq (pkT Z Z)<|Zm Z<|z1y 9 Z (fun h2=>?_) (fun h2=>?_)
  ·refine lKn 7 Z h2<|lKn 8 Z h2<|z1q Zx Z Z (mv Z)<|z1q Zx Z Z (W.toU Z tu34 tu35)<|zcd [] [] Zx Z Tryz.func96 Z Z (zck _ _ _) (aQ Z<|aQ Z<|aQ Z<|aN) rN fun r3 n4=>z1q Zx Z Z (U.eql Z Z)<|Zq (pkT Z Z)<|Zb Z<|z0n<|Ze [] [] Z
  ·refine lKn 7 Z h2<|lKn 8 Z h2<|Zk Z<|Zk Z<|Zk Z<|Zk Z<|Zq (pkF Z Z)<|Zb Z<|z0n<|Ze [] [] Z
 ·refine lKn 4 Z h1<|Zk Z<|Zk Z<|Zq (pkF Z Z)<|Zm Z<|Zk Z<|Zk Z<|Zk Z<|Zk Z<|Zq (pkF Z Z)<|Zb Z<|z0n<|Ze [] [] Z
def z4p (a0:List UInt8) (s4:Int):Option (Sum (Sum Bool Unit) Int) :=
 if decide (s4<(a0.length:Int)) then
  idx a0 s4 >>= fun x6 =>
  if decide (x6<33) then
   some (.inl (.inl false))
  else
   idx a0 s4 >>= fun x9 =>
   if decide (126<x9) then
    some (.inl (.inl false))
   else
    some (.inr (w64 (s4+1)))
 else
  some (.inl (.inr ()))
def z6d (a0:List UInt8):Option (Bool) :=
 if decide ((a0.length:Int)<1) then
  some false
 else
  if decide (20<(a0.length:Int)) then
   some false
  else
   z71 (iter (z4p a0) 0) fun s3 =>
   some true
theorem z9y (a0:List UInt8):z28 Tryz.prog 97 [.rd ze5 a0] [] (z6d a0) (fun r nv=>⟨[.rd z09 r],[]⟩):=by
 refine z2o 28 Tryz.func97 Z Z Z fun H w=>?_
 refine gSR<|Zb Z<|z0t<|gSR<|Zm Z<|Zq (zq7 Z Z tu9)<|Zq (I.lss Z Z)<|Zm Z<|z1y 7 Z (fun h1=>?_) (fun h1=>?_)
 ·refine lKn 6 Z h1<|Zk Z<|Zk Z<|Zk Z<|Zq (pkT Z Z)<|Zn<|zfa Z<|gSR<|Zb Z<|z0n<|z16<|Ze [] [] Z
 ·refine lKn 6 Z h1<|z1q Zx Z Z (mv Z)<|z1q Zx Z Z (zq7 Z Z tu9)<|z1q Zx Z Z (I.gtr Z Z)<|Zq (pkF Z Z)<|Zj Z (fun h2=>?_) (fun h2=>?_)
  ·refine gKn 10 Z h2<|gSR<|Zb Z<|z0n<|z16<|Ze [] [] Z
  ·refine gKn 10 Z h2<|Zt<|z8x (fun (s3:Unit) aa ww=>Sta (ctx 28 H [] w) [] [] aa ww) ?_ (fun s3=>?_)
   ·refine gSR<|Zb Z<|z23 (fun (s4:Int) aa ww=>Sta (ctx 28 H [] w) [(0,.rd ze5 a0),(3,.rd z0h s4)] [] aa ww) (fun aa ww h=>Zu h []) (fun s4=>?_)
    refine z0t<|gSR<|Zm Z<|Zm Z<|Zq (zq7 Z Z tu9)<|Zq (I.lss Z Z)<|Zj Z (fun h5=>?_) (fun h5=>?_)
    ·refine Zt<|z0t<|z5o<|gSR<|Zm Z<|Zm Z<|z0k fun x6 h7=>Zq (zuq Z Z tu9 (z4x h7).1 (z4x h7).2.1)<|Zq (B.lss Z Z)<|Zm Z<|z1y 22 Z (fun h8=>?_) (fun h8=>?_)
     ·refine lKn 21 Z h8<|Zk Z<|Zk Z<|Zk Z<|Zk Z<|Zq (pkT Z Z)<|Zn<|zfa Z<|gSR<|Zb Z<|z0n<|z4l<|z16<|z81<|z85<|Ze [] [] Z
     ·refine lKn 21 Z h8<|z1q Zx Z Z (mv Z)<|z1q Zx Z Z (mv Z)<|z0k fun x9 h10=>z1q Zx Z Z (zuq Z Z tu9 (z4x h10).1 (z4x h10).2.1)<|z1q Zx Z Z (B.gtr Z Z)<|Zq (pkF Z Z)<|Zj Z (fun h11=>?_) (fun h11=>?_)
      ·refine gKn 26 Z h11<|gSR<|Zb Z<|z0n<|z4l<|z16<|z81<|z85<|Ze [] [] Z
      ·refine gKn 26 Z h11<|z2s<|z2y<|z0l<|z27<|Zm Z<|Zq (I.add Z Z)<|Za Z<|z1w<|z1l (fun aa ww h=>Zu h [])
    ·refine z20<|z0u<|z0v<|z8d (fun aa ww h=>Zu h [])
   ·refine gSR<|Zb Z<|z0n<|Ze [] [] Z
def z5i (a0:UInt64):Option (Int) :=
 some (w64 (((a0 % 9223372036854775808) / 4503599627370496).toNat:Int)) >>= fun y1 =>
 some y1
theorem zb7 (a0:UInt64):z28 Tryz.prog 214 [.rd z2p a0] [] (z5i a0) (fun r nv=>⟨[.rd z0h r],[]⟩):=by
 refine z2o 7 Tryz.func214 Z Z Z fun H w=>?_
 refine gSR<|Zb Z<|gSR<|Zm Z<|Zq (U.rem Z Z (by decide))<|Zq (U.quo Z Z (by decide))<|Zq (U.toI Z tu35 tu3)<|Za Z<|z1k 2 Z fun y1=>Zn<|z0n<|Ze [] [] Z
def z7l (a0:UInt64):Option (UInt64) :=
 some (a0 % 4503599627370496) >>= fun y1 =>
 some y1
theorem zb4 (a0:UInt64):z28 Tryz.prog 215 [.rd z2p a0] [] (z7l a0) (fun r nv=>⟨[.rd z2p r],[]⟩):=by
 refine z2o 5 Tryz.func215 Z Z Z fun H w=>?_
 refine gSR<|Zb Z<|gSR<|Zm Z<|Zq (U.rem Z Z (by decide))<|Za Z<|z1k 2 Z fun y1=>Zn<|z0n<|Ze [] [] Z
def z75 (a0:UInt64):Option (UInt8) :=
 z5i a0 >>= fun r1 =>
 z7l a0 >>= fun r3 =>
 z71 (if r1==0 then
  if r3==0 then
   some (.inl 1)
  else
   some (.inr ())
 else
  some (.inr ())) fun s5 =>
 if r1==0 then
  some 2
 else
  if decide (r1<2047) then
   some 3
  else
   if r3==0 then
    some 4
   else
    some 5
end
section
open Go Go.RowKit
set_option maxRecDepth 100000
theorem zcc (a0:UInt64):z28 Tryz.prog 185 [.rd z2p a0] [] (z75 a0) (fun r nv=>⟨[.rd u8R r],[]⟩):=by
 refine z2o 21 Tryz.func185 Z Z Z fun H w=>?_
 refine gSR<|Zb Z<|gSR<|Zm Z<|Zc [] [] Tryz.func214 Z (zb7 _) fun r1 n2=>Zm Z<|Zc [] [] Tryz.func215 Z (zb4 _) fun r3 n4=>Za Z<|Zb Z<|z8x (fun (s5:Unit) aa ww=>Sta (ctx 21 H [] w) [(3,.rd z0h r1),(4,.rd z2p r3)] [] aa ww) ?_ (fun s5=>?_)
 ·refine gSR<|Zm Z<|Zq (I.eql Z Z)<|Zm Z<|z1y 11 Z (fun h6=>?_) (fun h6=>?_)
  ·refine lKn 10 Z h6<|z1q Zx Z Z (mv Z)<|z1q Zx Z Z (U.eql Z Z)<|Zq (pkT Z Z)<|Zj Z (fun h7=>?_) (fun h7=>?_)
   ·refine gKn 13 Z h7<|gSR<|Zb Z<|z0n<|z85<|Ze [] [] Z
   ·refine gKn 13 Z h7<|z2s<|z8d (fun aa ww h=>Zu h [])
  ·refine lKn 10 Z h6<|Zk Z<|Zk Z<|Zq (pkF Z Z)<|Zn<|zb2 Z<|z2s<|z8d (fun aa ww h=>Zu h [])
 ·refine z0t<|gSR<|Zm Z<|Zq (I.eql Z Z)<|Zj Z (fun h8=>?_) (fun h8=>?_)
  ·refine gSR<|Zb Z<|z0n<|z16<|Ze [] [] Z
  ·refine Zt<|z0t<|gSR<|Zm Z<|Zq (I.lss Z Z)<|Zj Z (fun h9=>?_) (fun h9=>?_)
   ·refine gSR<|Zb Z<|z0n<|z16<|Ze [] [] Z
   ·refine Zt<|z0t<|gSR<|Zm Z<|Zq (U.eql Z Z)<|Zj Z (fun h10=>?_) (fun h10=>?_)
    ·refine gSR<|Zb Z<|z0n<|z16<|Ze [] [] Z
    ·refine Zt<|gSR<|Zb Z<|z0n<|Ze [] [] Z
def z7h (a0:UInt64):Option (UInt64) :=
 z75 a0 >>= fun r1 =>
 if r1==5 then
  some 9221120237041090560
 else
  some a0
theorem zco (a0:UInt64):z28 Tryz.prog 141 [.rd z2p a0] [] (z7h a0) (fun r nv=>⟨[.rd z2p r],[]⟩):=by
 refine z2o 7 Tryz.func141 Z Z Z fun H w=>?_
 refine gSR<|Zb Z<|z0t<|gSR<|Zm Z<|Zc [] [] Tryz.func185 Z (zcc _) fun r1 n2=>Zq (B.eql Z Z)<|Zj Z (fun h3=>?_) (fun h3=>?_)
 ·refine gSR<|Zb Z<|z0n<|z16<|Ze [] [] Z
 ·refine Zt<|gSR<|Zm Z<|Zb Z<|z0n<|Ze [] [] Z
def z2j (a0:List UInt8) (s2:Int):Option (Sum (Sum Bool Unit) Int) :=
 if decide (s2<(a0.length:Int)) then
  idx a0 s2 >>= fun x4 =>
  if decide (x4<32) then
   some (.inl (.inl false))
  else
   idx a0 s2 >>= fun x7 =>
   if decide (126<x7) then
    some (.inl (.inl false))
   else
    some (.inr (w64 (s2+1)))
 else
  some (.inl (.inr ()))
def z54 (a0:List UInt8):Option (Bool) :=
 z71 (iter (z2j a0) 0) fun s1 =>
 some true
theorem zb0 (a0:List UInt8):z28 Tryz.prog 142 [.rd ze5 a0] [] (z54 a0) (fun r nv=>⟨[.rd z09 r],[]⟩):=by
 refine z2o 20 Tryz.func142 Z Z Z fun H w=>?_
 refine gSR<|Zb Z<|z8x (fun (s1:Unit) aa ww=>Sta (ctx 20 H [] w) [] [] aa ww) ?_ (fun s1=>?_)
 ·refine gSR<|Zb Z<|z23 (fun (s2:Int) aa ww=>Sta (ctx 20 H [] w) [(0,.rd ze5 a0),(3,.rd z0h s2)] [] aa ww) (fun aa ww h=>Zu h []) (fun s2=>?_)
  refine z0t<|gSR<|Zm Z<|Zm Z<|Zq (zq7 Z Z tu9)<|Zq (I.lss Z Z)<|Zj Z (fun h3=>?_) (fun h3=>?_)
  ·refine Zt<|z0t<|z5o<|gSR<|Zm Z<|Zm Z<|z0k fun x4 h5=>Zq (zuq Z Z tu9 (z4x h5).1 (z4x h5).2.1)<|Zq (B.lss Z Z)<|Zm Z<|z1y 14 Z (fun h6=>?_) (fun h6=>?_)
   ·refine lKn 13 Z h6<|Zk Z<|Zk Z<|Zk Z<|Zk Z<|Zq (pkT Z Z)<|Zn<|zfa Z<|gSR<|Zb Z<|z0n<|z4l<|z16<|z81<|z85<|Ze [] [] Z
   ·refine lKn 13 Z h6<|z1q Zx Z Z (mv Z)<|z1q Zx Z Z (mv Z)<|z0k fun x7 h8=>z1q Zx Z Z (zuq Z Z tu9 (z4x h8).1 (z4x h8).2.1)<|z1q Zx Z Z (B.gtr Z Z)<|Zq (pkF Z Z)<|Zj Z (fun h9=>?_) (fun h9=>?_)
    ·refine gKn 18 Z h9<|gSR<|Zb Z<|z0n<|z4l<|z16<|z81<|z85<|Ze [] [] Z
    ·refine gKn 18 Z h9<|z2s<|z2y<|z0l<|z27<|Zm Z<|Zq (I.add Z Z)<|Za Z<|z1w<|z1l (fun aa ww h=>Zu h [])
  ·refine z20<|z0u<|z0v<|z8d (fun aa ww h=>Zu h [])
 ·refine gSR<|Zb Z<|z0n<|Ze [] [] Z
def z7a (a0:z04):Option (Int) :=
 if a0.Kind==1 then
  if a0.Bits==0 then
   if a0.Text==[] then
    some 0
   else
    some 8
  else
   some 8
 else
  if a0.Kind==2 then
   (if a0.Num==0 then
    if a0.Text==[] then
     z7h a0.Bits >>= fun r9 =>
     some (r9==a0.Bits)
    else
     some false
   else
    some false) >>= fun s6 =>
   if s6 then
    some 0
   else
    some 8
  else
   if a0.Kind==3 then
    (if a0.Num==0 then
     if a0.Bits==0 then
      if decide ((a0.Text.length:Int)≤30) then
       z54 a0.Text >>= fun r17 =>
       some r17
      else
       some false
     else
      some false
    else
     some false) >>= fun s13 =>
    if s13 then
     some 0
    else
     some 8
   else
    some 8
theorem zcb (a0:z04):z28 Tryz.prog 98 [.rd z13 a0] [] (z7a a0) (fun r nv=>⟨[.rd z0h r],[]⟩):=by
 refine z2o 54 Tryz.func98 Z Z Z fun H w=>?_
 refine gSR<|Eb Z (bx 1 Z) fun v1=>Zb Z<|z0t<|gSR<|Zq (faB 1 Z Z Tryz.underlying37 Z (by exact ti5))<|Zq (ld 1 Z Z (fP (z1t _)) ty5 Z)<|Zn<|z5o<|gSR<|Zq (B.eql Z Z)<|Zb Z<|gIf Z Z (fun h2=>?_) (fun h2=>?_)
 ·refine gKn 6 Z h2<|gSR<|Zq (faB 1 Z Z Tryz.underlying37 Z (by exact zm8))<|Zq (ld 1 Z Z (fP (z2e _)) zlx Z)<|Zq (U.eql Z Z)<|Zm Z<|z1y 10 Z (fun h3=>?_) (fun h3=>?_)
  ·refine lKn 9 Z h3<|z1q Zx Z Z (faB 1 Z Z Tryz.underlying37 Z (by exact ti9))<|z1q Zx Z Z (ld 1 Z Z (fP (z26 _)) ty9 Z)<|z1q Zx Z Z (eqS Z Z)<|Zq (pkT Z Z)<|Zj Z (fun h4=>?_) (fun h4=>?_)
   ·refine gKn 13 Z h4<|gSR<|Zb Z<|z0n<|z4l<|z16<|Ze [] [] Z
   ·refine gKn 13 Z h4<|z2s<|z2y<|z0l<|gSR<|Zb Z<|z0n<|Ze [] [] Z
  ·refine lKn 9 Z h3<|Zk Z<|Zk Z<|Zk Z<|Zq (pkF Z Z)<|Zn<|zb2 Z<|z2s<|z2y<|z0l<|gSR<|Zb Z<|z0n<|Ze [] [] Z
 ·refine gKn 6 Z h2<|gSR<|Zq (B.eql Z Z)<|Zb Z<|gIf Z Z (fun h5=>?_) (fun h5=>?_)
  ·refine gKn 16 Z h5<|z7q (fun (s6:Bool) aa ww=>Sta (ctx 54 H [] w) [(32,.rd z09 s6)] [] aa ww) ?_ (fun s6=>?_)
   ·refine z8s [] mixed Z Z<|hTk 0 Z Z (faB 1 Z Z Tryz.underlying37 Z (by exact ti2))<|hTk 1 Z Z (ld 1 Z Z (fP (z4h _)) ty2 Z)<|hTk 2 Z Z (I.eql Z Z)<|hTk 3 Z Z (mv Z)<|hIf 20 Z Z (fun h7=>?_) (fun h7=>?_)
    ·refine hKn 19 Z Z h7<|Zg 4 Z Z (faB 1 Z Z Tryz.underlying37 Z (by exact ti9))<|Zg 5 Z Z (ld 1 Z Z (fP (z26 _)) ty9 Z)<|Zg 6 Z Z (eqS Z Z)<|hTk 7 Z Z (pkT Z Z)<|hTk 8 Z Z (mv Z)<|hIf 25 Z Z (fun h8=>?_) (fun h8=>?_)
     ·refine hKn 23 Z Z h8<|hKn 24 Z Z h8<|Zg 9 Z Z (faB 1 Z Z Tryz.underlying37 Z (by exact zm8))<|Zg 10 Z Z (ld 1 Z Z (fP (z2e _)) zlx Z)<|Zg 12 Z Z (faB 1 Z Z Tryz.underlying37 Z (by exact zm8))<|Zg 13 Z Z (ld 1 Z Z (fP (z2e _)) zlx Z)<|z5e 11 [] [] Z (by kernel_rfl) Z Zx Z Tryz.func141 Z Z (zco _) (Y1 Z) rN Z (fun _ _=>z42) fun r9 n10=>Zg 14 Z Z (U.eql Z Z)<|hTk 15 Z Z (pkT Z Z)<|z5x (by kernel_rfl)<|z41 (fun aa ww h=>Zu h [])
     ·refine hKn 23 Z Z h8<|hKn 24 Z Z h8<|hSk 9 Z Z<|hSk 10 Z Z<|hSk 11 Z Z<|hSk 12 Z Z<|hSk 13 Z Z<|hSk 14 Z Z<|hTk 15 Z Z (pkF Z Z)<|z5x (by kernel_rfl)<|z41 (fun aa ww h=>Zu h [])
    ·refine hKn 19 Z Z h7<|hSk 4 Z Z<|hSk 5 Z Z<|hSk 6 Z Z<|hTk 7 Z Z (pkF Z Z)<|hTk 8 Z Z (mv Z)<|hSk 9 Z Z<|hSk 10 Z Z<|hSk 11 Z Z<|hSk 12 Z Z<|hSk 13 Z Z<|hSk 14 Z Z<|hTk 15 Z Z (pkF Z Z)<|z5x (by kernel_rfl)<|z41 (fun aa ww h=>Zu h [])
   ·refine gIf Z Z (fun h11=>?_) (fun h11=>?_)
    ·refine gSR<|Zb Z<|z0n<|z4l<|z16<|Ze [] [] Z
    ·refine z2s<|z2y<|z0l<|gSR<|Zb Z<|z0n<|Ze [] [] Z
  ·refine gKn 16 Z h5<|gSR<|Zq (B.eql Z Z)<|Zb Z<|gIf Z Z (fun h12=>?_) (fun h12=>?_)
   ·refine gKn 34 Z h12<|z7q (fun (s13:Bool) aa ww=>Sta (ctx 54 H [] w) [(53,.rd z09 s13)] [] aa ww) ?_ (fun s13=>?_)
    ·refine z27<|Zq (faB 1 Z Z Tryz.underlying37 Z (by exact ti2))<|Zq (ld 1 Z Z (fP (z4h _)) ty2 Z)<|Zq (I.eql Z Z)<|Zm Z<|z1y 38 Z (fun h14=>?_) (fun h14=>?_)
     ·refine lKn 37 Z h14<|z1q Zx Z Z (faB 1 Z Z Tryz.underlying37 Z (by exact zm8))<|z1q Zx Z Z (ld 1 Z Z (fP (z2e _)) zlx Z)<|z1q Zx Z Z (U.eql Z Z)<|Zq (pkT Z Z)<|Zm Z<|z1y 43 Z (fun h15=>?_) (fun h15=>?_)
      ·refine lKn 41 Z h15<|lKn 42 Z h15<|z1q Zx Z Z (faB 1 Z Z Tryz.underlying37 Z (by exact ti9))<|z1q Zx Z Z (ld 1 Z Z (fP (z26 _)) ty9 Z)<|z1q Zx Z Z (zq7 Z Z tu9)<|z1q Zx Z Z (I.leq Z Z)<|Zq (pkT Z Z)<|Zm Z<|z1y 49 Z (fun h16=>?_) (fun h16=>?_)
       ·refine lKn 47 Z h16<|lKn 48 Z h16<|z1q Zx Z Z (faB 1 Z Z Tryz.underlying37 Z (by exact ti9))<|z1q Zx Z Z (ld 1 Z Z (fP (z26 _)) ty9 Z)<|zcd [] [] Zx Z Tryz.func142 Z Z (zb0 _) (Y1 Z) rN fun r17 n18=>Zq (pkT Z Z)<|z1w<|z41 (fun aa ww h=>Zu h [])
       ·refine lKn 47 Z h16<|lKn 48 Z h16<|Zk Z<|Zk Z<|Zk Z<|Zq (pkF Z Z)<|z1w<|z41 (fun aa ww h=>Zu h [])
      ·refine lKn 41 Z h15<|lKn 42 Z h15<|Zk Z<|Zk Z<|Zk Z<|Zk Z<|Zq (pkF Z Z)<|Zm Z<|Zk Z<|Zk Z<|Zk Z<|Zq (pkF Z Z)<|z1w<|z41 (fun aa ww h=>Zu h [])
     ·refine lKn 37 Z h14<|Zk Z<|Zk Z<|Zk Z<|Zq (pkF Z Z)<|Zm Z<|Zk Z<|Zk Z<|Zk Z<|Zk Z<|Zq (pkF Z Z)<|Zm Z<|Zk Z<|Zk Z<|Zk Z<|Zq (pkF Z Z)<|z1w<|z41 (fun aa ww h=>Zu h [])
    ·refine gIf Z Z (fun h19=>?_) (fun h19=>?_)
     ·refine gSR<|Zb Z<|z0n<|z4l<|z16<|Ze [] [] Z
     ·refine z2s<|z2y<|z0l<|gSR<|Zb Z<|z0n<|Ze [] [] Z
   ·refine gKn 34 Z h12<|z2s<|z2y<|z0l<|gSR<|Zb Z<|z0n<|Ze [] [] Z
def z5l (a0:z1b):Option (Int) :=
 some (decide (a0.Value=(⟨0,0,0,[]⟩:z04))) >>= fun y2 =>
 if a0.Kind==1 then
  if a0.Key==[] then
   if y2 then
    some 0
   else
    some 8
  else
   some 8
 else
  (if a0.Kind==2 then
   some true
  else
   some (a0.Kind==3)) >>= fun s6 =>
  if s6 then
   z6d a0.Key >>= fun r9 =>
   if r9 then
    if y2 then
     some 0
    else
     some 8
   else
    some 8
  else
   if a0.Kind==4 then
    z6d a0.Key >>= fun r14 =>
    if r14 then
     z7a a0.Value >>= fun r17 =>
     if r17==0 then
      some 0
     else
      some 8
    else
     some 8
   else
    some 8
theorem zb6 (a0:z1b):z28 Tryz.prog 51 [.rd z15 a0] [] (z5l a0) (fun r nv=>⟨[.rd z0h r],[]⟩):=by
 refine z2o 38 Tryz.func51 Z Z Z fun H w=>?_
 refine gSR<|Eb Z (bx 1 Z) fun v1=>Zb Z<|gSR<|Zq (faB 1 Z Z Tryz.underlying39 Z (by exact ze1))<|Zq (ld 1 Z Z (fP (z3d _)) zkb Z)<|Zq (bld (x':=(⟨0,0,0,[]⟩:z04)) [(0,1),(1,1),(2,1),(3,1)] Tryz.underlying37 ze1 Z zn9 Z (Bld.done Z))<|Zq (eqA Z Z zwa Z Z zx3)<|Za Z<|z1k 3 Z fun y2=>Zn<|z0t<|gSR<|Zq (faB 1 Z Z Tryz.underlying39 Z (by exact ti5))<|Zq (ld 1 Z Z (fP (z2i _)) ty5 Z)<|Zn<|z5o<|gSR<|Zq (B.eql Z Z)<|Zb Z<|gIf Z Z (fun h3=>?_) (fun h3=>?_)
 ·refine gKn 11 Z h3<|gSR<|Zq (faB 1 Z Z Tryz.underlying39 Z (by exact ti9))<|Zq (ld 1 Z Z (fP (z3p _)) ty9 Z)<|Zq (eqS Z Z)<|Zm Z<|z1y 15 Z (fun h4=>?_) (fun h4=>?_)
  ·refine lKn 14 Z h4<|z1q Zx Z Z (mv Z)<|Zq (pkT Z Z)<|Zj Z (fun h5=>?_) (fun h5=>?_)
   ·refine gKn 3 Z h5<|gKn 16 Z h5<|gSR<|Zb Z<|z0n<|z4l<|z16<|Ze [] [] Z
   ·refine gKn 3 Z h5<|gKn 16 Z h5<|z2s<|z2y<|z0l<|gSR<|Zb Z<|z0n<|Ze [] [] Z
  ·refine lKn 14 Z h4<|Zk Z<|Zq (pkF Z Z)<|Zn<|zb2 Z<|z2s<|z2y<|z0l<|gSR<|Zb Z<|z0n<|Ze [] [] Z
 ·refine gKn 11 Z h3<|z7q (fun (s6:Bool) aa ww=>Sta (ctx 38 H [] w) [(1,.val (z0i v1 0)),(3,.rd z09 y2),(9,.rd u8R a0.Kind),(18,.rd z09 s6)] [(1,some (v1,.box 39 [.rd z15 a0]))] aa ww) ?_ (fun s6=>?_)
  ·refine gSR<|Zq (B.eql Z Z)<|Zb Z<|gIf Z Z (fun h7=>?_) (fun h7=>?_)
   ·refine gKn 19 Z h7<|z2s<|z41 (fun aa ww h=>Zu h [1])
   ·refine gKn 19 Z h7<|z27<|Zq (B.eql Z Z)<|Za Z<|z1w<|z41 (fun aa ww h=>Zu h [1])
  ·refine gIf Z Z (fun h8=>?_) (fun h8=>?_)
   ·refine gSR<|Zq (faB 1 Z Z Tryz.underlying39 Z (by exact ti9))<|Zq (ld 1 Z Z (fP (z3p _)) ty9 Z)<|Zc [] [] Tryz.func97 Z (z9y _) fun r9 n10=>Zm Z<|z1y 24 Z (fun h11=>?_) (fun h11=>?_)
    ·refine lKn 23 Z h11<|z1q Zx Z Z (mv Z)<|Zq (pkT Z Z)<|Zj Z (fun h12=>?_) (fun h12=>?_)
     ·refine gKn 3 Z h12<|gKn 25 Z h12<|gSR<|Zb Z<|z0n<|z4l<|z16<|Ze [] [] Z
     ·refine gKn 3 Z h12<|gKn 25 Z h12<|z2s<|z2y<|z0l<|gSR<|Zb Z<|z0n<|Ze [] [] Z
    ·refine lKn 23 Z h11<|Zk Z<|Zq (pkF Z Z)<|Zn<|zb2 Z<|z2s<|z2y<|z0l<|gSR<|Zb Z<|z0n<|Ze [] [] Z
   ·refine gSR<|Zq (B.eql Z Z)<|Zb Z<|gIf Z Z (fun h13=>?_) (fun h13=>?_)
    ·refine gKn 28 Z h13<|gSR<|Zq (faB 1 Z Z Tryz.underlying39 Z (by exact ti9))<|Zq (ld 1 Z Z (fP (z3p _)) ty9 Z)<|Zc [] [] Tryz.func97 Z (z9y _) fun r14 n15=>Zm Z<|z1y 32 Z (fun h16=>?_) (fun h16=>?_)
     ·refine lKn 31 Z h16<|z1q Zx Z Z (faB 1 Z Z Tryz.underlying39 Z (by exact ze1))<|z1q Zx Z Z (ld 1 Z Z (fP (z3d _)) zkb Z)<|zcd [] [] Zx Z Tryz.func98 Z Z (zcb _) (Y1 Z) rN fun r17 n18=>z1q Zx Z Z (I.eql Z Z)<|Zq (pkT Z Z)<|Zj Z (fun h19=>?_) (fun h19=>?_)
      ·refine gKn 36 Z h19<|gSR<|Zb Z<|z0n<|z4l<|z16<|Ze [] [] Z
      ·refine gKn 36 Z h19<|z2s<|z2y<|z0l<|gSR<|Zb Z<|z0n<|Ze [] [] Z
     ·refine lKn 31 Z h16<|Zk Z<|Zk Z<|Zk Z<|Zk Z<|Zq (pkF Z Z)<|Zn<|zb2 Z<|z2s<|z2y<|z0l<|gSR<|Zb Z<|z0n<|Ze [] [] Z
    ·refine gKn 28 Z h13<|z2s<|z2y<|z0l<|gSR<|Zb Z<|z0n<|Ze [] [] Z
def z3y (a0:UInt32):Option (Bool) :=
 some (decide (a0.toUInt64<500000003)) >>= fun y1 =>
 some y1
theorem z8a (a0:UInt32):z28 Tryz.prog 52 [.rd z0o a0] [] (z3y a0) (fun r nv=>⟨[.rd z09 r],[]⟩):=by
 refine z2o 6 Tryz.func52 Z Z Z fun H w=>?_
 refine gSR<|Zb Z<|gSR<|Zm Z<|Zq (W.toU Z tu34 tu35)<|Zq (U.lss Z Z)<|Za Z<|z1k 2 Z fun y1=>Zn<|z0n<|Ze [] [] Z
def z7g (a0:z00):Option (Int) :=
 if decide (4<(a0.Preds.length:Int)) then
  some 4
 else
  z6p a0.Preds >>= fun r3 =>
  if !r3 then
   some 32
  else
   (z96 a0.Author >>= fun r7 =>
   if !r7 then
    some true
   else
    if decide (1000000000000<a0.Stamp) then
     some true
    else
     z5l a0.Act >>= fun r11 =>
     if r11 != 0 then
      some true
     else
      z3y a0.Sig.E >>= fun r14 =>
      if !r14 then
       some true
      else
       z3y a0.Sig.S >>= fun r17 =>
       some (!r17)) >>= fun s6 =>
   if s6 then
    some 8
   else
    some 0
theorem zce (a0:z00):z28 Tryz.prog 15 [.rd z03 a0] [] (z7g a0) (fun r nv=>⟨[.rd z0h r],[]⟩):=by
 refine z2o 40 Tryz.func15 Z Z Z fun H w=>?_
 refine gSR<|Eb Z (bx 1 Z) fun v1=>Zb Z<|z0t<|gSR<|Zq (faB 1 Z Z Tryz.underlying43 Z (by exact zc1))<|Zq (ld 1 Z Z (fP (z0e _)) zdd Z)<|Zq (z4o Z .rd Z tu29)<|Zq (I.gtr Z Z)<|Zj Z (fun h2=>?_) (fun h2=>?_)
 ·refine gSR<|Zb Z<|z0n<|z16<|Ze [] [] Z
 ·refine Zt<|z0t<|gSR<|Zq (faB 1 Z Z Tryz.underlying43 Z (by exact zc1))<|Zq (ld 1 Z Z (fP (z0e _)) zdd Z)<|Zc [] [] Tryz.func14 Z (zc4 _) fun r3 n4=>Zq (zjw Z)<|Zj Z (fun h5=>?_) (fun h5=>?_)
  ·refine gSR<|Zb Z<|z0n<|z16<|Ze [] [] Z
  ·refine Zt<|z0t<|z7q (fun (s6:Bool) aa ww=>Sta (ctx 40 H [] w) [(39,.rd z09 s6)] [] aa ww) ?_ (fun s6=>?_)
   ·refine z27<|Zq (faB 1 Z Z Tryz.underlying43 Z (by exact z67))<|Zq (ld 1 Z Z (fP (z4i _)) z8b Z)<|Zc [] [] Tryz.func50 Z (zen _) fun r7 n8=>Zq (zjw Z)<|Zm Z<|z1y 15 Z (fun h9=>?_) (fun h9=>?_)
    ·refine lKn 14 Z h9<|Zk Z<|Zk Z<|Zk Z<|Zq (pkT Z Z)<|Zm Z<|Zk Z<|Zk Z<|Zk Z<|Zk Z<|Zq (pkT Z Z)<|Zm Z<|Zk Z<|Zk Z<|Zk Z<|Zk Z<|Zk Z<|Zq (pkT Z Z)<|Zm Z<|Zk Z<|Zk Z<|Zk Z<|Zk Z<|Zk Z<|Zq (pkT Z Z)<|z1w<|z41 (fun aa ww h=>Zu h [])
    ·refine lKn 14 Z h9<|z1q Zx Z Z (faB 1 Z Z Tryz.underlying43 Z (by exact zm8))<|z1q Zx Z Z (ld 1 Z Z (fP (z57 _)) zlx Z)<|z1q Zx Z Z (U.gtr Z Z)<|Zq (pkF Z Z)<|Zm Z<|z1y 20 Z (fun h10=>?_) (fun h10=>?_)
     ·refine lKn 18 Z h10<|lKn 19 Z h10<|Zk Z<|Zk Z<|Zk Z<|Zk Z<|Zq (pkT Z Z)<|Zm Z<|Zk Z<|Zk Z<|Zk Z<|Zk Z<|Zk Z<|Zq (pkT Z Z)<|Zm Z<|Zk Z<|Zk Z<|Zk Z<|Zk Z<|Zk Z<|Zq (pkT Z Z)<|z1w<|z41 (fun aa ww h=>Zu h [])
     ·refine lKn 18 Z h10<|lKn 19 Z h10<|z1q Zx Z Z (faB 1 Z Z Tryz.underlying43 Z (by exact zi6))<|z1q Zx Z Z (ld 1 Z Z (fP (z1g _)) zuy Z)<|zcd [] [] Zx Z Tryz.func51 Z Z (zb6 _) (Y1 Z) rN fun r11 n12=>z1q Zx Z Z (I.neq Z Z)<|Zq (pkF Z Z)<|Zm Z<|z1y 26 Z (fun h13=>?_) (fun h13=>?_)
      ·refine lKn 24 Z h13<|lKn 25 Z h13<|Zk Z<|Zk Z<|Zk Z<|Zk Z<|Zk Z<|Zq (pkT Z Z)<|Zm Z<|Zk Z<|Zk Z<|Zk Z<|Zk Z<|Zk Z<|Zq (pkT Z Z)<|z1w<|z41 (fun aa ww h=>Zu h [])
      ·refine lKn 24 Z h13<|lKn 25 Z h13<|z1q Zx Z Z (faB 1 Z Z Tryz.underlying43 Z (by exact zl9))<|z1q Zx Z Z (faB 1 Z Z Tryz.underlying41 Z (by exact z67))<|z1q Zx Z Z (ld 1 Z Z ((fP (z2l _)).part (za1 _)) z8b Z)<|zcd [] [] Zx Z Tryz.func52 Z Z (z8a _) (Y1 Z) rN fun r14 n15=>z1q Zx Z Z (zjw Z)<|Zq (pkF Z Z)<|Zm Z<|z1y 33 Z (fun h16=>?_) (fun h16=>?_)
       ·refine lKn 31 Z h16<|lKn 32 Z h16<|Zk Z<|Zk Z<|Zk Z<|Zk Z<|Zk Z<|Zq (pkT Z Z)<|z1w<|z41 (fun aa ww h=>Zu h [])
       ·refine lKn 31 Z h16<|lKn 32 Z h16<|z1q Zx Z Z (faB 1 Z Z Tryz.underlying43 Z (by exact zl9))<|z1q Zx Z Z (faB 1 Z Z Tryz.underlying41 Z (by exact z67))<|z1q Zx Z Z (ld 1 Z Z ((fP (z2l _)).part (z9v _)) z8b Z)<|zcd [] [] Zx Z Tryz.func52 Z Z (z8a _) (Y1 Z) rN fun r17 n18=>z1q Zx Z Z (zjw Z)<|Zq (pkF Z Z)<|z1w<|z41 (fun aa ww h=>Zu h [])
   ·refine gIf Z Z (fun h19=>?_) (fun h19=>?_)
    ·refine gSR<|Zb Z<|z0n<|z16<|Ze [] [] Z
    ·refine Zt<|gSR<|Zb Z<|z0n<|Ze [] [] Z
end
section
open Go Go.RowKit
set_option maxRecDepth 100000
def z5v (a0:List V3) (a1:V3) (s3:Int):Option (Sum (Sum Int Unit) Int) :=
 if decide (s3<(a0.length:Int)) then
  idx a0 s3 >>= fun x5 =>
  if decide (x5=a1) then
   some (.inl (.inl s3))
  else
   some (.inr (w64 (s3+1)))
 else
  some (.inl (.inr ()))
def z5k (a0:List V3) (a1:V3):Option (Int) :=
 z71 (iter (z5v a0 a1) 0) fun s2 =>
 some (-1)
theorem z78 (a0:List V3) (a1:V3):z28 Tryz.prog 17 [.rd (z01 aZ) a0,.rd aZ a1] [] (z5k a0 a1) (fun r nv=>⟨[.rd z0h r],[]⟩):=by
 refine z2o 19 Tryz.func17 Z Z Z fun H w=>?_
 refine gSR<|Eb Z (bx 1 Z) fun v1=>Zb Z<|z8x (fun (s2:Unit) aa ww=>Sta (ctx 19 H [] w) [] [] aa ww) ?_ (fun s2=>?_)
 ·refine gSR<|Zb Z<|z23 (fun (s3:Int) aa ww=>Sta (ctx 19 H [] w) [(0,.rd (z01 aZ) a0),(3,.val (z0i v1 0)),(5,.rd z0h s3)] [(1,some (v1,.box 45 [.rd aZ a1]))] aa ww) (fun aa ww h=>Zu h [1]) (fun s3=>?_)
  refine z0t<|gSR<|Zm Z<|Zm Z<|Zq (z4o Z .rd Z tu29)<|Zq (I.lss Z Z)<|Zj Z (fun h4=>?_) (fun h4=>?_)
  ·refine Zt<|z0t<|z5o<|z0t<|zdz mixed (by kernel_rfl)<|Rq Z (mv Z)<|Rq Z (mv Z)<|z60 fun x5 h6=>Rq Z (ixR Z Z h6 tu29 z3o Z)<|Rq Z (ldR Z z8h)<|Rq Z (ld 1 Z Z fH z8h Z)<|Rq Z (eqA Z Z zur Z Z zw4)<|zm7<|z0l<|gIf Z Z (fun h7=>?_) (fun h7=>?_)
   ·refine gSR<|Zm Z<|Zb Z<|z0n<|z4l<|z16<|z81<|z85<|Ze [] [] Z
   ·refine z2s<|z2y<|z0l<|z27<|Zm Z<|Zq (I.add Z Z)<|Za Z<|z1w<|z1l (fun aa ww h=>Zu h [1])
  ·refine z20<|z0u<|z0v<|z8d (fun aa ww h=>Zu h [])
 ·refine gSR<|Zb Z<|z0n<|Ze [] [] Z
end
section
open Go Go.Shelf
def zot:Go.Shelf.Ren:=⟨fun | 6=>47 | 15=>94 | 14=>93 | 28=>139 | 29=>105 | 20=>131 | 21=>132 | 22=>133 | 23=>134 | 24=>135 | 25=>136 | 26=>137 | 27=>138 | 46=>180 | 47=>181 | 48=>182 | 49=>183 | 50=>184 | 57=>213 | n=>n, fun | 22=>29 | 24=>45 | 25=>48 | 3=>3 | 39=>143 | 0=>0 | 53=>34 | 55=>35 | 4=>4 | 46=>181 | 45=>180 | 50=>106 | 5=>5 | 9=>9 | 66=>225 | 70=>229 | 76=>260 | 77=>261 | n=>n, fun | n=>n⟩
theorem zw2:Go.Proofs.SlLaysF0.n6 Tryz.prog zot:={
 mixed:=by kernel_rfl
 f6:=⟨Tryz.f47.name, by decide,Tryz.func47.trans (congrArg some (by kernel_rfl))⟩
 f14:=⟨Tryz.f93.name, by decide,Tryz.func93.trans (congrArg some (by kernel_rfl))⟩
 f15:=Tryz.func94.trans (congrArg some (by kernel_rfl))
 f20:=⟨Tryz.f131.name, by decide,Tryz.func131.trans (congrArg some (by kernel_rfl))⟩
 f21:=⟨Tryz.f132.name, by decide,Tryz.func132.trans (congrArg some (by kernel_rfl))⟩
 f22:=⟨Tryz.f133.name, by decide,Tryz.func133.trans (congrArg some (by kernel_rfl))⟩
 f23:=⟨Tryz.f134.name, by decide,Tryz.func134.trans (congrArg some (by kernel_rfl))⟩
 f24:=⟨Tryz.f135.name, by decide,Tryz.func135.trans (congrArg some (by kernel_rfl))⟩
 f25:=⟨Tryz.f136.name, by decide,Tryz.func136.trans (congrArg some (by kernel_rfl))⟩
 f26:=⟨Tryz.f137.name, by decide,Tryz.func137.trans (congrArg some (by kernel_rfl))⟩
 f27:=⟨Tryz.f138.name, by decide,Tryz.func138.trans (congrArg some (by kernel_rfl))⟩
 f28:=Tryz.func139.trans (congrArg some (by kernel_rfl))
 f29:=Tryz.func105.trans (congrArg some (by kernel_rfl))
 f46:=⟨Tryz.f180.name, by decide,Tryz.func180.trans (congrArg some (by kernel_rfl))⟩
 f47:=Tryz.func181.trans (congrArg some (by kernel_rfl))
 f48:=Tryz.func182.trans (congrArg some (by kernel_rfl))
 f49:=⟨Tryz.f183.name, by decide,Tryz.func183.trans (congrArg some (by kernel_rfl))⟩
 f50:=⟨Tryz.f184.name, by decide,Tryz.func184.trans (congrArg some (by kernel_rfl))⟩
 f57:=⟨Tryz.f213.name, by decide,Tryz.func213.trans (congrArg some (by kernel_rfl))⟩
 t0:=Tryz.underlying0
 a0:=Tryz.isAgg0
 z0:=Tryz.sizeOf0
 v0:=Tryz.zeroValue0
 t3:=Tryz.underlying3
 a3:=Tryz.isAgg3
 z3:=Tryz.sizeOf3
 v3:=Tryz.zeroValue3
 t4:=Tryz.underlying4
 a4:=Tryz.isAgg4
 z4:=Tryz.sizeOf4
 v4:=Tryz.zeroValue4
 t5:=Tryz.underlying5
 a5:=Tryz.isAgg5
 z5:=Tryz.sizeOf5
 v5:=Tryz.zeroValue5
 t9:=Tryz.underlying9
 a9:=Tryz.isAgg9
 z9:=Tryz.sizeOf9
 v9:=Tryz.zeroValue9
 t22:=Tryz.underlying29
 a22:=Tryz.isAgg29
 z22:=Tryz.sizeOf29
 v22:=Tryz.zeroValue29
 t25:=Tryz.underlying48
 a25:=Tryz.isAgg48
 z25:=Tryz.sizeOf48
 v25:=Tryz.zeroValue48
 t39:=Tryz.underlying143
 a39:=Tryz.isAgg143
 z39:=Tryz.sizeOf143
 v39:=Tryz.zeroValue143
 t45:=Tryz.underlying180
 a45:=Tryz.isAgg180
 z45:=Tryz.sizeOf180
 v45:=Tryz.zeroValue180
 t46:=Tryz.underlying181
 a46:=Tryz.isAgg181
 z46:=Tryz.sizeOf181
 v46:=Tryz.zeroValue181
 t50:=Tryz.underlying106
 a50:=Tryz.isAgg106
 z50:=Tryz.sizeOf106
 v50:=Tryz.zeroValue106
 t53:=Tryz.underlying34
 a53:=Tryz.isAgg34
 z53:=Tryz.sizeOf34
 v53:=Tryz.zeroValue34
 t55:=Tryz.underlying35
 a55:=Tryz.isAgg35
 z55:=Tryz.sizeOf35
 v55:=Tryz.zeroValue35
 t66:=Tryz.underlying225
 a66:=Tryz.isAgg225
 z66:=Tryz.sizeOf225
 v66:=Tryz.zeroValue225
 t70:=Tryz.underlying229
 a70:=Tryz.isAgg229
 z70:=Tryz.sizeOf229
 v70:=Tryz.zeroValue229
 t76:=Tryz.underlying260
 a76:=Tryz.isAgg260
 z76:=Tryz.sizeOf260
 v76:=Tryz.zeroValue260
 t77:=Tryz.underlying261
 a77:=Tryz.isAgg261
 z77:=Tryz.sizeOf261
 v77:=Tryz.zeroValue261 }
end
section
open Go Go.Shelf Go.RowKit Go.Lib Go.Sort
def z47 (x:V3):List Value:=x.toList.map fun c=>Value.int .u8 (c.toNat:Int)
theorem za7 (x:V3):(z47 x).length=32:=by simp [z47]
theorem zqe (x y:V3) (b c:Nat) (W:World) (hx:∀ j u,(z47 x)[j]? = some u→W.cell? ⟨b,0+j,none⟩=some u) (hy:∀ j u,(z47 y)[j]? = some u→W.cell? ⟨c,0+j,none⟩=some u) :
  (callFunc 140 #[.slice (some ⟨b,0,none⟩) 32 32,.slice (some ⟨c,0,none⟩) 32 32]).run Tryz.prog W=.ok (.value (.int .i64 (Lib.compareBytes x.toList y.toList))) W:=by
 have lx:x.toList.length=32:=by simp
 have ly:y.toList.length=32:=by simp
 have e:=zeh (P:=Tryz.prog) (w:=W) (p:=some ⟨b,0,none⟩) (q:=some ⟨c,0,none⟩) (c:=32) (d:=32) (x:=x.toList) (y:=y.toList) (xs:=z47 x) (ys:=z47 y)
  ⟨by rw [za7,lx],.inr ⟨b,0,none,32, by rfl, by omega, by decide,.inr rfl,hx⟩⟩ rfl ⟨by rw [za7,ly],.inr ⟨c,0,none,32, by rfl, by omega, by decide,.inr rfl,hy⟩⟩ rfl
 rw [lx,ly] at e
 rw [run_callFunc_extern Tryz.func140 rfl rfl (by kernel_rfl) (by kernel_rfl),e]
 rfl
set_option maxHeartbeats 1000000 in
set_option maxRecDepth 100000 in
theorem zhr (x y:V3) (b c:Nat) (W:World) (hx:∀ j u,(z47 x)[j]? = some u→W.cell? ⟨b,0+j,none⟩=some u) (hy:∀ j u,(z47 y)[j]? = some u→W.cell? ⟨c,0+j,none⟩=some u) :
  Calls Tryz.prog 95 #[.slice (some ⟨b,0,none⟩) 32 32,.slice (some ⟨c,0,none⟩) 32 32] W fun e w'=>e=.returned (.int .i64 (Lib.compareBytes x.toList y.toList))∧w'=W:=by
 have e:=zqe x y b c W hx hy
 go_enter Tryz.func95,Tryz.ntmps95
 go_wp2
 go_ret
 exact ⟨rfl,rfl⟩
theorem zkv {w:World} {b j:Nat} {c:Array Value} {T:TypeId} {fr:Nat × Nat} {u:Value} (h:w.heap[b]? = some (.cells c T fr)) (hj:c[j]? = some u):w.cell? ⟨b,0+j,none⟩=some u:=by
 unfold World.cell?
 rw [h]
 simpa using hj
theorem zu8 (W:World) (xs ys:List Value) (n j:Nat) (u:Value) (h:xs[j]? = some u):(((W.alloc (.cells xs.toArray 45)).alloc (.cells ys.toArray 45)).drewN n).cell? ⟨W.heap.size,0+j,none⟩=some u :=
 zkv (c:=xs.toArray) (T:=45) (fr:=(0,0)) (by
  show ((W.heap.push _).push _)[W.heap.size]? = _
  rw [Array.getElem?_push_lt (by simp)]; simp) (by simpa using h)
theorem ztm (W:World) (xs ys:List Value) (n j:Nat) (u:Value) (h:ys[j]? = some u):(((W.alloc (.cells xs.toArray 45)).alloc (.cells ys.toArray 45)).drewN n).cell? ⟨W.heap.size+1,0+j,none⟩=some u :=
 zkv (c:=ys.toArray) (T:=45) (fr:=(0,0)) (by
  show ((W.heap.push _).push _)[W.heap.size+1]? = _
  have:W.heap.size+1=(W.heap.push (Obj.cells xs.toArray 45)).size:=by simp
  rw [this,Array.getElem?_push_size]) (by simpa using h)
set_option maxHeartbeats 1000000 in
set_option maxRecDepth 100000 in
theorem zgz (x y:V3) (W:World):Calls Tryz.prog 48 #[.agg (z47 x).toArray,.agg (z47 y).toArray] W fun e w'=>e=.returned (.int .i64 (Lib.compareBytes x.toList y.toList))∧∃ q os',w'=grow (W.drewN q) os':=by
 have c0:=zu8 W (z47 x) (z47 y)
 have c1:=ztm W (z47 x) (z47 y)
 go_enter Tryz.func48,Tryz.ntmps48
 go_wp2
 go_quiet (first | (go_at_call 95; refine Calls.quiet_of_same (zhr x y _ _ _ (c0 _) (c1 _))))
 go_wp2
 go_ret
 exact ⟨rfl,nq,#[.cells (z47 x).toArray 45,.cells (z47 y).toArray 45],rfl⟩
end
section
open Go Go.RowKit Go.Sort
theorem zsi {α:Type} [Inhabited α] (enc:α→List Value) (k:Nat) (hk:∀ x,(enc x).length=k):∀ (l:List α) (t:Nat),t<l.length * k→(l.flatMap enc)[t]! = (enc l[t / k]!)[t % k]!
 | [],t,h=>by simp at h
 | x::l,t,h=>by
  have hx:=hk x
  have k0:0<k:=by
   rcases Nat.eq_zero_or_pos k with e | e
   ·subst e; simp at h
   ·exact e
  rw [List.flatMap_cons]
  by_cases ht:t<k
  ·rw [List.getElem!_eq_getElem?_getD,List.getElem?_append_left (by omega),Nat.div_eq_of_lt ht,Nat.mod_eq_of_lt ht]
   simp
  ·have hl:t - k<l.length * k:=by
    simp only [List.length_cons,Nat.add_mul,Nat.one_mul] at h; omega
   have ih:=zsi enc k hk l (t - k) hl
   have e1:t / k=(t - k) / k+1:=by
    have h2:=Nat.add_div_right (t - k) k0
    rw [Nat.sub_add_cancel (by omega)] at h2; exact h2
   have e2:t % k=(t - k) % k:=by rw [Nat.mod_eq_sub_mod (by omega)]
   rw [List.getElem!_eq_getElem?_getD,List.getElem?_append_right (by omega),hx,e1,e2,← List.getElem!_eq_getElem?_getD,ih]
   simp
theorem zil {α:Type} (enc:α→List Value) (k:Nat) (hk:∀ x,(enc x).length=k):∀ l:List α,(l.flatMap enc).length=l.length * k
 | []=>by simp
 | x::l=>by rw [List.flatMap_cons,List.length_append,hk,zil enc k hk l,List.length_cons,Nat.add_mul,Nat.one_mul,Nat.add_comm]
theorem znm {α:Type} [Inhabited α] (enc:α→List Value) (k:Nat) (hk:∀ x,(enc x).length=k) (l:List α):flatK enc k l.toArray=(l.flatMap enc).toArray:=by
 refine ext_get! (by rw [size_flatK]; simp only [List.size_toArray,zil enc k hk]) fun t ht=>?_
 rw [size_flatK,List.size_toArray] at ht
 rw [get_flatK _ _ _ _ (by simpa using ht)]
 have:=zsi enc k hk l t ht
 simp at this ⊢
 rw [this]
theorem zea {α:Type} [Inhabited α] (enc:α→List Value) (k:Nat) (hk:∀ x,(enc x).length=k) {w:World} {b:Nat} {C:Array Value} {T:TypeId} (l:List α) (hb:w.heap[b]? = some (.cells C T (0,0))) (hc:C.toList.take (l.length * k)=l.flatMap enc):HoldsK enc k w b 0 l.toArray:=by
 intro j hj
 rw [znm enc k hk] at hj ⊢
 have hj':j<(l.flatMap enc).length:=by simpa using hj
 constructor
 ·refine zkv hb ?_
  have e:(C.toList.take (l.length * k))[j]? = (l.flatMap enc)[j]? := by rw [hc]
  rw [List.getElem?_take_of_lt (by rw [zil enc k hk] at hj'; exact hj'),List.getElem?_eq_getElem hj'] at e
  rw [← Array.getElem?_toList,e]
  have:((l.flatMap enc).toArray)[j]! = (l.flatMap enc)[j]:=by rw [getElem!_pos _ j (by simpa using hj')]; simp
  rw [this]; rfl
 ·simp [World.frozen?,hb]
theorem ze2 {α:Type} [Inhabited α] (enc:α→List Value) (k:Nat) (w:World) (b n:Nat) (d:Array α) (os:Array Obj) {i:Nat} (hi:i<w.heap.size) (hne:i≠b):(sortWorldK enc k w b 0 n d os).heap[i]? = w.heap[i]? := by
 show (w.heap.modify b _++os)[i]? = _
 rw [Array.getElem?_append_left (by simpa using hi),Array.getElem?_modify,if_neg (fun e=>hne e.symm)]
theorem zom {α:Type} [Inhabited α] (enc:α→List Value) (k:Nat) (w:World) {b:Nat} (n:Nat) (d:Array α) (os:Array Obj) {C:Array Value} {T:TypeId} {fr:Nat × Nat} (hb:w.heap[b]? = some (.cells C T fr)):(sortWorldK enc k w b 0 n d os).heap[b]? = some (.cells (putCells id 0 (flatK enc k d) C) T fr):=by
 have hlt:b<w.heap.size:=(Array.getElem?_eq_some_iff.1 hb).1
 show (w.heap.modify b _++os)[b]? = _
 rw [Array.getElem?_append_left (by simpa using hlt),Array.getElem?_modify,if_pos rfl,hb]
 rfl
theorem zl8 {α:Type} [Inhabited α] (enc:α→List Value) (k:Nat) (hk:∀ x,(enc x).length=k) (l:List α) (C:Array Value) (hC:l.length * k≤C.size):(putCells id 0 (flatK enc k l.toArray) C).toList.take (l.length * k)=l.flatMap enc:=by
 rw [znm enc k hk]
 apply List.ext_getElem?
 intro t
 by_cases ht:t<l.length * k
 ·rw [List.getElem?_take_of_lt ht,Array.getElem?_toList]
  have hl:t<(l.flatMap enc).length:=by rw [zil enc k hk]; exact ht
  simp only [putCells,Array.getElem?_mapIdx,Nat.sub_zero,Nat.zero_add,List.size_toArray,Nat.zero_le,true_and]
  rw [Array.getElem?_eq_getElem (by omega),Option.map_some,if_pos hl,List.getElem?_eq_getElem hl]
  have:((l.flatMap enc).toArray)[t]! = (l.flatMap enc)[t]:=by rw [getElem!_pos _ t (by simpa using hl)]; simp
  rw [this]; rfl
 ·rw [List.getElem?_eq_none (by simp; omega),List.getElem?_eq_none (by rw [zil enc k hk]; omega)]
theorem zim {S:Blk} {w:World}:∀ {l:List V3} {cs:List Value},z51 (z2h 32 u8R) S w cs l→cs=l.flatMap z47
 | [],cs,h=>h
 | x::l,cs,h=>by
  obtain ⟨c,d,rfl,h1,h2⟩:=h
  rw [List.flatMap_cons,zim h2,zg3 h1]; rfl
theorem zjm {S:Blk} {w:World}:∀ (l:List V3),z51 (z2h 32 u8R) S w (l.flatMap z47) l
 | []=>rfl
 | x::l=>⟨z47 x,l.flatMap z47,List.flatMap_cons,zfi x.toList,zjm l⟩
theorem zql {P:Program} {f g T:Nat} (srt:List V3→List V3) (hlen:∀ l,(srt l).length=l.length)
  (hnone:∀ (cap:Nat) (w:World),Calls P f #[.slice none 0 cap,.func (.func g) #[] #[]] w fun e w'=>e=.returned (.tuple #[])∧w'=w)
  (hsome:∀ (blk cap:Nat) (d:Array V3) (w:World),HoldsK z47 32 w blk 0 d→blk<w.heap.size→d.size<4611686018427387904 →
   Calls P f #[.slice (some ⟨blk,0,none⟩) d.size cap,.func (.func g) #[] #[]] w fun e w'=>e=.returned (.tuple #[])∧∃ n os,w'=sortWorldK z47 32 w blk 0 n (srt d.toList).toArray os)
  (p0:Value) (c0:List V3):z28 P f [.val p0,.val (.func (.func g) #[] #[])] [(1,some (p0,.list (z2h 32 u8R) T c0))] (chk (c0.length≤1000000) >>= fun _=>some (srt c0))
   (fun r nv=>⟨[],[(1,some (p0,.list (z2h 32 u8R) T r))]⟩):=by
 intro r hr H vs w hvs hres
 have hb:c0.length≤1000000∧r=srt c0:=by
  unfold chk at hr
  split at hr
  ·rename_i h; simp at hr; exact ⟨h,hr.symm⟩
  ·simp at hr
 obtain ⟨hlen0,rfl⟩:=hb
 match vs,hvs with
 | [v0,v1],hvs =>
 obtain ⟨h0,h1,_⟩:=hvs
 have e0:v0=p0:=h0.1
 have e1:v1=.func (.func g) #[] #[]:=h1.1
 subst e0; subst e1
 have hc:=hres.conts 1 v0 _ rfl
 have only:∀ r v c (q:z4d),lr [(1,some (v0,q))] r=some (v,c)→r=1∧v=v0∧c=q:=fun r v c q h=>by
  rw [z29] at h
  split at h
  ·rename_i e; cases h; exact ⟨e.symm,rfl,rfl⟩
  ·simp [lr,lk] at h
 rcases hc with ⟨rfl,rfl⟩ | ⟨b,o,k1,k2,b',cap,C,k3,rfl,k4,k5,k6,k7⟩
 ·refine (hnone 0 w).mono fun e w' ⟨he,hw⟩=>?_
  subst hw
  refine ⟨fun _=>undef,[],he,trivial, fun r v c h=>?_, fun r v c r' v' c' h h' hne=>?_, fun r v c h b hb=>?_,zek.rfl'⟩
  ·obtain ⟨rfl,rfl,rfl⟩:=only _ _ _ _ h
   have:srt []=[]:=List.eq_nil_of_length_eq_zero (by rw [hlen]; rfl)
   exact .inl ⟨rfl,this⟩
  ·exact absurd ((only _ _ _ _ h).1.trans (only _ _ _ _ h').1.symm) hne
  ·obtain ⟨rfl,rfl,rfl⟩:=only _ _ _ _ h; cases hb
 ·subst k3
  simp only [z3s,Option.some.injEq] at k1
  subst k1
  have hlt:b'<w.heap.size:=(Array.getElem?_eq_some_iff.1 k2).1
  have hrow:=zim k7
  have hsz:(z2h 32 u8R).sz=32:=rfl
  rw [hsz] at k6 hrow
  have hC:c0.length * 32≤C.size:=by rw [k6]; exact Nat.mul_le_mul_right _ k4
  refine (hsome b' cap c0.toArray w (zea z47 32 za7 c0 k2 hrow) hlt (by simp; omega)).mono fun e w' ⟨he,n,os,hw⟩=>?_
  subst hw
  refine ⟨fun _=>undef,[],he,trivial, fun r v c h=>?_, fun r v c r' v' c' h h' hne=>?_, fun r v c h b hb=>?_,rfl,rfl,rfl,?_, fun i hi=>?_⟩
  ·obtain ⟨rfl,rfl,rfl⟩:=only _ _ _ _ h
   refine .inr ⟨b',_,rfl,zom z47 32 w n _ os k2,b',cap,_, by rw [hlen],rfl, by rw [hlen]; exact k4,k5,?_,?_⟩
   ·rw [hsz,← k6]; simp [putCells]
   ·rw [hsz,zl8 z47 32 za7 (srt c0) C (by rw [hlen]; exact hC)]
    exact zjm _
  ·exact absurd ((only _ _ _ _ h).1.trans (only _ _ _ _ h').1.symm) hne
  ·obtain ⟨rfl,rfl,rfl⟩:=only _ _ _ _ h
   exact .inr ⟨1,_,_,rfl,hb⟩
  ·show w.heap.size≤(w.heap.modify b' _++os).size
   simp
  ·exact ze2 z47 32 w b' n _ os hi.1 fun e=>hi.2 ⟨1,_,_,rfl, by rw [e]; rfl⟩
end
section
open Go
section
variable {σ β α ρ τ:Type}
theorem bs (x:α) (f:α→Option β):(some x >>= f)=f x:=rfl
theorem bS (x:α) (f:α→Option β):(some x >>= f)=f x:=Eq.trans (rfl:(some x >>= f)=f x) rfl
theorem zsv (r:ρ) (k:τ→Option ρ):z71 (some (.inl r)) k=some r:=rfl
theorem zs2 (t:τ) (k:τ→Option ρ):z71 (some (.inr t)) k=k t:=rfl
theorem z1e {F:σ→Option (Sum β σ)} {s:σ} {b:β} (h:F s=some (.inl b)):iter F s=some b:=by rw [iter,h]; rfl
theorem z1u {F:σ→Option (Sum β σ)} {s s':σ} (h:F s=some (.inr s')):iter F s=iter F s':=by rw [iter,h]; rfl
theorem zri {F:σ→Option (Sum β σ)} (I:σ→Prop) (μ:σ→Nat) (Q:β→Prop) (h:∀ s,I s→(∃ b,F s=some (.inl b)∧Q b)∨∃ s',F s=some (.inr s')∧I s'∧μ s'<μ s) (s:σ) (hs:I s):∃ b,iter F s=some b∧Q b:=by
 have key:∀ n s,μ s=n→I s→∃ b,iter F s=some b∧Q b:=by
  intro n
  induction n using Nat.strongRecOn with
  | _ n ih =>
   intro s hn hs
   rcases h s hs with ⟨b,h1,h2⟩ | ⟨s',h1,h2,h3⟩
   ·exact ⟨b,z1e h1,h2⟩
   ·rw [z1u h1]; exact ih (μ s') (hn ▸ h3) s' rfl h2
 exact key _ s rfl hs
theorem z8u {F:σ→Option (Sum β σ)} (n:Nat) (I:Nat→σ→Prop) (Q:β→Prop) (h1:∀ i s,i<n→I i s→∃ s',F s=some (.inr s')∧I (i+1) s') (h2:∀ s,I n s→∃ b,F s=some (.inl b)∧Q b) (s:σ) (i:Nat) (hi:i≤n) (hs:I i s):∃ b,iter F s=some b∧Q b:=by
 have key:∀ k i s,n - i=k→i≤n→I i s→∃ b,iter F s=some b∧Q b:=by
  intro k
  induction k with
  | zero =>
   intro i s hk hi hs
   have:i=n:=by omega
   subst this
   obtain ⟨b,h3,h4⟩:=h2 s hs
   exact ⟨b,z1e h3,h4⟩
  | succ k ih =>
   intro i s hk hi hs
   obtain ⟨s',h3,h4⟩:=h1 i s (by omega) hs
   rw [z1u h3]; exact ih (i+1) s' (by omega) (by omega) h4
 exact key _ i s rfl hi hs
theorem z44 {F:σ→Option (Sum β σ)} (n:Nat) (g:Nat→σ) {b:β} (h1:∀ i,i<n→F (g i)=some (.inr (g (i+1)))) (h2:F (g n)=some (.inl b)):iter F (g 0)=some b:=by
 obtain ⟨b',h3,rfl⟩:=z8u n (fun i s=>s=g i) (fun x=>x=b) (fun i s hi hs=>⟨_, by rw [hs]; exact h1 i hi,rfl⟩) (fun s hs=>⟨_, by rw [hs]; exact h2,rfl⟩) (g 0) 0 (Nat.zero_le _) rfl
 exact h3
theorem z0b {l:List α} {i:Nat} (h:i<l.length):idx l (i:Int)=some l[i]:=by simp [idx,h]
theorem zsy {l:List α} {i:Int} (h0:0≤i) (h:i.toNat<l.length):idx l i=some l[i.toNat]:=by simp [idx,h0,h]
theorem z7i {n:Nat} {v:Vector α n} {i:Nat} (h:i<n):z5f v (i:Int)=some v[i]:=by unfold z5f; rw [z0b (by simpa using h)]; simp
theorem zd6 {n:Nat} {v:Vector α n} {i:Int} {x:α} {j:Nat} (hj:j<n):(zcr v i x)[j]=if i.toNat=j then x else v[j]:=by
 unfold zcr; rw [Vector.getElem_setIfInBounds hj]
theorem z2b {p:Prop} [Decidable p] (h:p):chk p=some ():=by simp [chk,h]
theorem z17 {by_:Nat} {b c:List α} (h:(b.length+c.length) * by_≤140737488355328):app by_ b c=some (b++c):=by simp [app,h]
theorem zln {by_:Nat} {x:α} {n:Nat} (h:by_ * n≤281474976710656) (h2:n≤9223372036854775807):mkn by_ x (n:Int)=some (List.replicate n x):=by
 unfold mkn; rw [if_pos ⟨by omega, by simpa using h, by omega⟩]; simp
theorem zd4 {b:List α} {i j:Nat} (h:i≤j) (hj:j≤b.length):cut b (i:Int) (j:Int)=some ((b.drop i).take (j - i)):=by
 unfold cut; rw [if_pos ⟨by omega, by omega, by omega⟩]; simp
end
theorem z0q {x:Int} (h1:-9223372036854775808≤x) (h2:x≤9223372036854775807):w64 x=x:=zbd h1 h2
theorem z0f {n:Nat} (h:n<9223372036854775807):w64 ((n:Int)+1)=((n+1:Nat):Int):=by rw [z0q (by omega) (by omega)]; omega
theorem zai (a:UInt64) (n:Nat):(z5q a n).toNat=a.toNat / 2 ^ (min n 64):=by
 unfold z5q
 have h1:=UInt64.toNat_lt a
 have h2:a.toNat / 2 ^ (min n 64)≤a.toNat:=Nat.div_le_self _ _
 simp; omega
theorem zkl (a:UInt64) (n:Nat):(zkh a n).toNat=a.toNat * 2 ^ (min n 64) % 18446744073709551616:=by
 unfold zkh; simp
theorem zxm (a:UInt64) (k:Nat) (hk:k<64):((z5q a k &&& 1)==1)=a.toNat.testBit k:=by
 rw [Bool.eq_iff_iff,beq_iff_eq,← UInt64.toNat_inj,UInt64.toNat_and,zai,Nat.min_eq_left (by omega)]
 have:(1:UInt64).toNat=1:=rfl
 rw [this,Nat.and_one_is_mod,Nat.testBit_eq_decide_div_mod_eq]
 simp
end
section
open Go
def bitLen (n:Nat):Nat:=if n=0 then 0 else n.log2+1
theorem z9u (n k:Nat) (h:2 ^ k≤n):bitLen n=k+bitLen (n / 2 ^ k):=by
 have hp:0<2 ^ k:=Nat.pow_pos (by decide)
 have h1:n / 2 ^ k≠0:=by
  have:1≤n / 2 ^ k:=(Nat.le_div_iff_mul_le hp).2 (by rw [Nat.one_mul]; exact h)
  omega
 have h2:n≠0:=by omega
 unfold bitLen
 rw [if_neg h1,if_neg h2]
 have h3:n.log2=k+(n / 2 ^ k).log2:=by
  rw [Nat.log2_eq_iff h2]
  have h4:=(Nat.log2_eq_iff h1).1 rfl
  refine ⟨?_,?_⟩
  ·rw [Nat.pow_add,Nat.mul_comm]; exact (Nat.le_div_iff_mul_le hp).1 h4.1
  ·rw [Nat.add_assoc,Nat.pow_add,Nat.mul_comm]; exact (Nat.div_lt_iff_lt_mul hp).1 h4.2
 omega
theorem zcz (n k:Nat) (h:n<2 ^ k):bitLen n≤k:=by
 unfold bitLen; split
 ·omega
 ·rename_i h0; have:=(Nat.log2_lt h0).2 h; omega
def zpt:ByteArray:=⟨#[0,1,2,2,3,3,3,3,4,4,4,4,4,4,4,4,5,5,5,5,5,5,5,5,5,5,5,5,5,5,5,5,6,6,6,6,6,6,6,6,6,6,6,6,6,6,6,6,6,6,6,6,6,6,6,6,6,6,6,6,6,6,6,6,7,7,7,7,7,7,7,7,7,7,7,7,7,7,7,7,7,7,7,7,7,7,7,7,7,7,7,7,7,7,7,7,7,7,7,7,7,7,7,7,7,7,7,7,7,7,7,7,7,7,7,7,7,7,7,7,7,7,7,7,7,7,7,7,8,8,8,8,8,8,8,8,8,8,8,8,8,8,8,8,8,8,8,8,8,8,8,8,8,8,8,8,8,8,8,8,8,8,8,8,8,8,8,8,8,8,8,8,8,8,8,8,8,8,8,8,8,8,8,8,8,8,8,8,8,8,8,8,8,8,8,8,8,8,8,8,8,8,8,8,8,8,8,8,8,8,8,8,8,8,8,8,8,8,8,8,8,8,8,8,8,8,8,8,8,8,8,8,8,8,8,8,8,8,8,8,8,8,8,8,8,8,8,8,8,8,8,8,8,8,8,8]⟩
set_option maxRecDepth 100000 in
theorem zqo:∀ x:Fin 256,zpt.data[x.val]? = some (UInt8.ofNat (bitLen x.val)):=by decide +kernel
def z21 (n:Nat):List UInt8:=if h:n=0 then [] else UInt8.ofNat n::z21 (n / 256)
termination_by n
theorem zcn:z21 0=[]:=by rw [z21]; simp
theorem ze0 (n:Nat) (h:n≠0):z21 n=UInt8.ofNat n::z21 (n / 256):=by rw [z21]; simp [h]
def z0w (n:Nat):List UInt8:=if n≤247 then [UInt8.ofNat n] else UInt8.ofNat (247+(z21 n).length)::(z21 n).reverse
theorem zh0 (n:Nat):(z21 n).length=(bitLen n+7) / 8:=by
 induction n using Nat.strongRecOn with
 | _ n ih =>
  by_cases h:n=0
  ·subst h; rw [zcn]; simp [bitLen]
  ·rw [ze0 n h,List.length_cons,ih (n / 256) (by omega)]
   by_cases h2:n<256
   ·have:n / 256=0:=by omega
    rw [this]
    have h3:bitLen n≤8:=zcz n 8 h2
    have h4:1≤bitLen n:=by unfold bitLen; rw [if_neg h]; omega
    simp [bitLen] at h3 h4 ⊢
    rw [if_neg h] at h3 h4 ⊢; omega
   ·have:=z9u n 8 (by omega)
    rw [show (2:Nat) ^ 8=256 from rfl] at this
    omega
theorem zmp (n:Nat):∀ (i:Nat),i<(z21 n).length→(z21 n)[i]? = some (UInt8.ofNat (n / 256 ^ i)):=by
 induction n using Nat.strongRecOn with
 | _ n ih =>
  intro i hi
  by_cases h:n=0
  ·subst h; rw [zcn] at hi; simp at hi
  ·rw [ze0 n h] at hi ⊢
   cases i with
   | zero=>simp
   | succ i =>
    simp only [List.length_cons] at hi
    rw [List.getElem?_cons_succ,ih (n / 256) (by omega) i (by omega),Nat.div_div_eq_div_mul]
    congr 3
    rw [Nat.pow_succ,Nat.mul_comm]
theorem zft (n:Nat) (h:n<18446744073709551616):(z21 n).length≤8:=by
 rw [zh0]; have:=zcz n 64 (by simpa using h); omega
theorem z08 (n:Nat) (h:n<18446744073709551616):1≤(z0w n).length∧(z0w n).length≤9:=by
 unfold z0w; have:=zft n h; split <;> simp <;> omega
def z8y (n i:Nat):List UInt8:=UInt8.ofNat (247+(z21 n).length)::(List.replicate ((z21 n).length - i) 0++((z21 n).take i).reverse)
theorem zky (n i:Nat) (h:i≤(z21 n).length):(z8y n i).length=(z21 n).length+1:=by simp [z8y]; omega
theorem zj8 (n:Nat):(List.replicate ((z21 n).length+1) (0:UInt8)).set 0 (UInt8.ofNat (247+(z21 n).length))=z8y n 0:=by
 simp [z8y,List.replicate_succ]
theorem zjh (n i:Nat) (h:i<(z21 n).length):(z8y n i).set ((z21 n).length - i) (UInt8.ofNat (n / 2 ^ (8 * i)))=z8y n (i+1):=by
 have hg:=zmp n i h
 have he:n / 2 ^ (8 * i)=n / 256 ^ i:=by rw [Nat.pow_mul]
 rw [he]
 unfold z8y
 obtain ⟨m,hm⟩:∃ m,(z21 n).length - i=m+1:=⟨(z21 n).length - i - 1, by omega⟩
 have hm2:(z21 n).length - (i+1)=m:=by omega
 rw [hm,hm2,List.set_cons_succ,List.take_succ_eq_append_getElem h,List.reverse_append,List.reverse_singleton,List.replicate_succ']
 rw [List.getElem?_eq_getElem h,Option.some.injEq] at hg
 rw [hg,List.append_assoc,List.set_append_right _ _ (by simp)]
 simp
theorem zjt (n:Nat) (h:247<n):z8y n (z21 n).length=z0w n:=by
 unfold z8y z0w; rw [if_neg (by omega)]; simp
theorem zit (n m:Nat) (ds:List UInt8) (hm:m≠0) (h:z21 n=ds++z21 m):z21 n=(ds++[UInt8.ofNat (m % 256)])++z21 (m / 256):=by
 rw [h,ze0 m hm,List.append_assoc]
 have:UInt8.ofNat (m % 256)=UInt8.ofNat m:=by
  apply UInt8.toNat_inj.1; simp
 rw [this]; rfl
theorem zgc {α} {l a b:List α} (h:l=a++b):a.length≤l.length:=by rw [h]; simp
def zig (n:Int):Nat:=if 0≤n then (2 * n).toNat else (-2 * n - 1).toNat
theorem zvx {n:Int} (h1:-9223372036854775808≤n) (h2:n≤9223372036854775807):zig n<18446744073709551616:=by unfold zig; split <;> omega
end
section
open Go Go.RowKit
def zeg (x:z04):Prop:=(fun _=>True) x.Kind∧inI x.Num∧(fun _=>True) x.Bits∧(fun s:List UInt8=>s.length≤9223372036854775807) x.Text∧True
def zh2 (x:z1b):Prop:=(fun _=>True) x.Kind∧(fun s:List UInt8=>s.length≤9223372036854775807) x.Key∧zeg x.Value∧True
def zh6 (x:z0r):Prop:=(fun _=>True) x.E∧(fun _=>True) x.S∧True
def zct (x:z00):Prop:=(fun _=>True) x.Author∧(fun l:List V3=>(∀ x∈l,(fun v:V3=>∀ x∈v.toList,(fun _=>True) x) x)∧l.length≤9223372036854775807) x.Preds∧(fun _=>True) x.Stamp∧zh2 x.Act∧zh6 x.Sig∧True
end
section
open Go
theorem zqp {n k:Nat} (hn:n<9223372036854775808) (hk:k<9223372036854775808):zxg (n:Int) (k:Int)=((n &&& k:Nat):Int):=by
 show IntKind.i64.wrap (BitVec.toNat (BitVec.ofInt 64 (n:Int) &&& BitVec.ofInt 64 (k:Int)):Int)=_
 rw [BitVec.ofInt_natCast,BitVec.ofInt_natCast,BitVec.toNat_and,BitVec.toNat_ofNat,BitVec.toNat_ofNat,Nat.mod_eq_of_lt (by omega),Nat.mod_eq_of_lt (by omega)]
 have:=Nat.and_le_left (n:=n) (m:=k)
 exact zbd (by omega) (by omega)
def okb (c:UInt8):Bool:=decide (32≤c.toNat)&&decide (c.toNat≤126)
theorem zhs {b:List UInt8} {q:Nat} (h:q<b.length) (ha:(b[q]).toNat<128):z6w b q=((b[q]).toNat,1):=by
 unfold z6w
 exact decode_ascii ⟨b.toArray⟩ q (by show q<b.toArray.size; simpa using h) ha
theorem zns {b:List UInt8} {q:Nat} (h:q<b.length) (ha:128≤(b[q]).toNat):128≤(z6w b q).1:=by
 unfold z6w
 have e:((ByteArray.mk b.toArray).get! (q+0)).toNat=(b[q]).toNat:=by
  show ((ByteArray.mk b.toArray).get! q).toNat=_
  simp [ByteArray.get!,h]
 simp only [Utf8.decode,e]
 rw [if_neg (by omega)]
 repeat' split
 all_goals (first | (simp only [Utf8.runeError]; omega) | (rename_i h1; simp at h1; omega) | omega)
theorem zrh (x:Int):z9w x=some (decide (x<32) || decide (126<x)):=by
 unfold z9w
 cases decide (x<32) <;> rfl
theorem zll (b:List UInt8):∀ (rest pre:List UInt8),b=pre++rest →
  (rest.all okb=true→iter (z0x b true) pre.length=some (.inr ()))∧(rest.all okb=false→∃ i:Nat,iter (z0x b true) pre.length=some (.inl (i:Int)))
 | [],pre,e=>by
  refine ⟨fun _=>z1e ?_, fun h=>by simp at h⟩
  subst e
  unfold z0x
  simp
 | c::rest,pre,e=>by
  have hlen:pre.length<b.length:=by rw [e]; simp
  have hget:b[pre.length]'hlen=c:=by subst e; simp
  have hF:z0x b true pre.length=if ((decide (((z6w b pre.length).1:Int)<32) || decide (126<((z6w b pre.length).1:Int)))==true) then some (.inl (.inl (pre.length:Int))) else some (.inr (pre.length+(z6w b pre.length).2)):=by
   unfold z0x
   rw [if_pos hlen]
   simp only [bs,zrh]
  cases hc:okb c with
  | false =>
   refine ⟨fun h=>by simp [hc] at h, fun _=>⟨pre.length,z1e ?_⟩⟩
   rw [hF,if_pos]
   by_cases h8:c.toNat<128
   ·rw [zhs hlen (by rw [hget]; exact h8),hget]
    simp only [okb,Bool.and_eq_false_iff,decide_eq_false_iff_not] at hc
    simp; omega
   ·have:=zns hlen (by rw [hget]; omega)
    simp; omega
  | true =>
   simp only [okb,Bool.and_eq_true,decide_eq_true_eq] at hc
   rw [zhs hlen (by rw [hget]; omega),hget,if_neg (by simp; omega)] at hF
   have ih:=zll b rest (pre++[c]) (by simp [e])
   simp only [List.length_append,List.length_cons,List.length_nil,Nat.zero_add] at ih
   rw [z1u hF]
   have hc':okb c=true:=by simp [okb,hc]
   simpa [hc'] using ih
theorem ze9 (b:List UInt8) (hb:b.length≤9223372036854775807):∀ (rest pre:List UInt8),b=pre++rest→iter (z2j b) (pre.length:Int)=some (if rest.all okb then .inr () else .inl false)
 | [],pre,e=>by
  refine z1e ?_
  subst e
  unfold z2j
  simp
 | c::rest,pre,e=>by
  have hlen:pre.length<b.length:=by rw [e]; simp
  have hget:b[pre.length]'hlen=c:=by subst e; simp
  have hF:z2j b (pre.length:Int)=if okb c then some (.inr ((pre.length+1:Nat):Int)) else some (.inl (.inl false)):=by
   unfold z2j
   rw [if_pos (by simp <;> omega)]
   simp only [z0b hlen,hget,bs,z0f (show pre.length<9223372036854775807 by omega)]
   simp only [okb,UInt8.lt_iff_toNat_lt,UInt8.reduceToNat]
   by_cases h1:c.toNat<32
   ·have:¬ 32≤c.toNat:=by omega
    simp [h1,this]
   ·by_cases h2:126<c.toNat
    ·have:¬ c.toNat≤126:=by omega
     simp [h1,h2,this]
    ·have h3:32≤c.toNat:=by omega
     have h4:c.toNat≤126:=by omega
     simp [h1,h2,h3,h4]
  cases hc:okb c with
  | false=>rw [hc] at hF; rw [z1e hF]; simp [hc]
  | true =>
   rw [hc] at hF
   rw [z1u hF]
   have ih:=ze9 b hb rest (pre++[c]) (by simp [e])
   simp only [List.length_append,List.length_cons,List.length_nil,Nat.zero_add] at ih
   rw [ih]; simp [hc]
theorem ziw (b:List UInt8) (hb:b.length≤9223372036854775807):z54 b=some (b.all okb):=by
 have h:=ze9 b hb b [] rfl
 unfold z54
 rw [show (0:Int)=(([]:List UInt8).length:Int) from rfl,h]
 cases b.all okb <;> rfl
theorem zrb (b:List UInt8) (hb:b.length≤9223372036854775807):zbt b=some (if decide (30<(b.length:Int)) then (⟨0,0,0,[]⟩,4) else if b.all okb then (⟨3,0,0,b⟩,0) else (⟨0,0,0,[]⟩,8)):=by
 unfold zbt z35 z31
 cases decide (30<(b.length:Int))
 ·simp only [Bool.false_eq_true,if_false]
  obtain ⟨h1,h2⟩:=zll b b [] rfl
  simp only [List.length_nil] at h1 h2
  cases h:b.all okb
  ·obtain ⟨i,hi⟩:=h2 h
   rw [hi]
   simp only [zsv,bs]
   rw [if_pos (by simp)]; rfl
  ·rw [h1 h]; rfl
 ·rfl
theorem zqc (a:UInt64):zas a=some (((a.toNat / 4503599627370496 % 2048:Nat):Int),a % 4503599627370496):=by
 unfold zas
 simp only [bs]
 have h0:=UInt64.toNat_lt a
 rw [zai]
 have e1:(2:Nat) ^ (min 52 64)=4503599627370496:=by decide
 rw [e1,z0q (by omega) (by omega), show (2047:Int)=((2047:Nat):Int) from rfl,zqp (by omega) (by omega)]
 congr 2
 ·congr 1
  exact Nat.and_two_pow_sub_one_eq_mod _ 11
 ·apply UInt64.toNat_inj.1
  rw [UInt64.toNat_and,UInt64.toNat_mod]
  exact Nat.and_two_pow_sub_one_eq_mod _ 52
theorem zux (a:UInt64):z5i a=some ((a.toNat / 4503599627370496 % 2048:Nat):Int):=by
 unfold z5i
 have h0:=UInt64.toNat_lt a
 simp only [bs,UInt64.toNat_div,UInt64.toNat_mod,UInt64.reduceToNat]
 rw [z0q (by omega) (by omega)]
 congr 2
 omega
def zl1 (a:UInt64):Nat:=a.toNat / 4503599627370496 % 2048
def zq5 (a:UInt64):Nat:=a.toNat % 4503599627370496
theorem zth (a:UInt64):zl1 a<2048:=Nat.mod_lt _ (by omega)
def zsq (a:UInt64):UInt8:=if zl1 a=2047 then (if zq5 a=0 then 4 else 5) else if zl1 a=0 then (if zq5 a=0 then 1 else 2) else 3
theorem zsb (a:UInt64):(a % 4503599627370496==0)=decide (zq5 a=0):=by
 rw [Bool.eq_iff_iff]
 simp only [beq_iff_eq,decide_eq_true_eq,← UInt64.toNat_inj,UInt64.toNat_mod]
 rfl
theorem zo3 (a:UInt64):zaq a=some (zsq a):=by
 unfold zaq zsq
 rw [zqc]
 simp only [bs]
 have hm:=zsb a
 have hne:(a % 4503599627370496 != 0)=!decide (zq5 a=0):=by rw [← hm]; rfl
 have he:((a.toNat / 4503599627370496 % 2048:Nat):Int)=(zl1 a:Int):=rfl
 rw [hne,he]
 by_cases h1:zl1 a=2047
 ·rw [h1]
  by_cases h2:zq5 a=0
  ·rw [decide_eq_true h2,if_pos h2]; rfl
  ·rw [decide_eq_false h2,if_neg h2]; rfl
 ·have e1:((zl1 a:Int)==2047)=false:=by simp; omega
  rw [if_neg h1,e1]
  simp only [Bool.false_eq_true,if_false,bs]
  by_cases h0:zl1 a=0
  ·rw [h0]
   by_cases h2:zq5 a=0
   ·rw [decide_eq_true h2,if_pos h2]; rfl
   ·rw [decide_eq_false h2,if_neg h2]; rfl
  ·have e0:((zl1 a:Int) != 0)=true:=by simp; omega
   rw [e0,if_neg h0]; rfl
theorem zo5 (a:UInt64):z75 a=some (zsq a):=by
 unfold z75 z7l zsq
 rw [zux]
 simp only [bs]
 rw [zsb a]
 have hx:=zth a
 show z71 (if ((zl1 a:Int)==0)=true then if decide (zq5 a=0)=true then some (.inl 1) else some (.inr ()) else some (.inr ())) (fun s5=>if ((zl1 a:Int)==0)=true then some 2 else if decide ((zl1 a:Int)<2047)=true then some 3 else if decide (zq5 a=0)=true then some 4 else some 5)=_
 by_cases h1:zl1 a=2047
 ·rw [h1]
  by_cases h2:zq5 a=0 <;> simp [h2,zs2,zsv]
 ·by_cases h0:zl1 a=0
  ·rw [h0]
   by_cases h2:zq5 a=0 <;> simp [h2,zs2,zsv]
  ·have e0:((zl1 a:Int)==0)=false:=by simp; omega
   have e2:decide ((zl1 a:Int)<2047)=true:=by simp; omega
   rw [e0,e2,if_neg h1,if_neg h0]; rfl
def zds (a:UInt64):UInt64:=if zsq a=5 then 9221120237041090560 else a
theorem zpd (a:UInt64):zat a=some (zds a):=by
 unfold zat zds
 rw [zo3]
 simp only [bs]
 by_cases h:zsq a=5 <;> simp [h]
theorem zpc (a:UInt64):z7h a=some (zds a):=by
 unfold z7h zds
 rw [zo5]
 simp only [bs]
 by_cases h:zsq a=5 <;> simp [h]
theorem zop (a:UInt64):zaz a=some ⟨2,0,zds a,[]⟩:=by
 unfold zaz; rw [zpd]; rfl
def okV (v:z04):Bool :=
 if v.Kind=1 then decide (v.Bits=0)&&decide (v.Text=[])
 else if v.Kind=2 then decide (v.Num=0)&&decide (v.Text=[])&&decide (zds v.Bits=v.Bits)
 else if v.Kind=3 then decide (v.Num=0)&&decide (v.Bits=0)&&decide (v.Text.length≤30)&&v.Text.all okb
 else false
theorem zoa (v:z04) (hb:v.Text.length≤9223372036854775807):z7a v=some (if okV v then 0 else 8):=by
 obtain ⟨K,n,f,t⟩:=v
 unfold z7a okV
 simp only at hb ⊢
 rw [zpc,ziw t hb]
 by_cases h1:K=1
 ·subst h1
  by_cases hf:f=0 <;> by_cases ht:t=[] <;> simp [hf,ht]
 by_cases h2:K=2
 ·subst h2
  by_cases hn:n=0 <;> by_cases ht:t=[] <;> by_cases hc:zds f=f <;> simp [hn,ht,hc,bs]
 by_cases h3:K=3
 ·subst h3
  by_cases hl:t.length≤30
  ·have hl':(t.length:Int)≤30:=by omega
   by_cases hn:n=0 <;> by_cases hf:f=0 <;> cases t.all okb <;> simp [hn,hf,hl,hl',bs]
  ·have hl':¬ (t.length:Int)≤30:=by omega
   by_cases hn:n=0 <;> by_cases hf:f=0 <;> simp [hn,hf,hl,hl',bs]
 ·simp [h1,h2,h3]
theorem zjg (v:z04) (hb:v.Text.length≤9223372036854775807):z9l v=some (if okV v then 0 else 8):=by
 obtain ⟨K,n,f,t⟩:=v
 unfold z9l zbi okV
 simp only at hb ⊢
 rw [zop,zrb t hb]
 by_cases h1:K=1
 ·subst h1
  by_cases hf:f=0 <;> by_cases ht:t=[] <;> simp [hf,ht,bs]
 by_cases h2:K=2
 ·subst h2
  by_cases hc:zds f=f
  ·by_cases hn:n=0 <;> by_cases ht:t=[] <;> simp [hn,ht,hc,bs]
  ·have hc':¬ f=zds f:=fun e=>hc e.symm
   by_cases hn:n=0 <;> by_cases ht:t=[] <;> simp [hn,ht,hc,hc',bs]
 by_cases h3:K=3
 ·subst h3
  by_cases hl:30<(t.length:Int)
  ·have h4:¬ t.length≤30:=by omega
   rw [decide_eq_true hl,decide_eq_false h4]
   simp [bs]
  ·have h4:t.length≤30:=by omega
   rw [decide_eq_false hl,decide_eq_true h4]
   cases t.all okb <;> by_cases hn:n=0 <;> by_cases hf:f=0 <;> simp [hn,hf,bs]
 ·have e1:(K==1)=false:=by simpa using h1
  have e2:(K==2)=false:=by simpa using h2
  have e3:(K==3)=false:=by simpa using h3
  simp only [e1,e2,e3,Bool.false_eq_true,if_false,bs,h1,h2,h3]
  by_cases h0:K=0
  ·subst h0
   split <;> rfl
  ·simp [h0]
end
section
open Go
theorem zp4:∀ (n:Nat) (a:UInt64) (ds:List UInt8) (N:Nat),a.toNat=n→z21 N=ds++z21 n→(z21 N).length≤8→iter z3l (a,ds)=some (z21 N):=by
 intro n
 induction n using Nat.strongRecOn with
 | _ n ih =>
  intro a ds N ha hd hl
  by_cases h0:n=0
  ·subst h0
   refine z1e ?_
   unfold z3l
   rw [if_neg (by simp [UInt64.lt_iff_toNat_lt,ha])]
   rw [zcn,List.append_nil] at hd
   rw [hd]
  ·have hF:z3l (a,ds)=some (.inr (a / 256,ds++[(a % 256).toUInt8])):=by
    unfold z3l
    rw [if_pos (by simp [UInt64.lt_iff_toNat_lt,ha]; omega)]
    have:ds.length≤8:=Nat.le_trans (zgc hd) hl
    simp only [z17 (show (ds.length+[(a % 256).toUInt8].length) * 1≤140737488355328 by simp; omega),bs]
   rw [z1u hF]
   have hd2:=zit N n ds h0 hd
   refine ih (n / 256) (Nat.div_lt_self (by omega) (by omega)) _ _ N ?_ ?_ hl
   ·simp [ha]
   ·rw [hd2]
    congr 2
    congr 1
    apply UInt8.toNat_inj.1
    simp [ha]
theorem ziy (s:List UInt8) (hl:s.length≤8):∀ (i:Nat) (acc:List UInt8),i≤s.length→acc.length+i≤100→iter (z3e s) (acc,(i:Int) - 1)=some (acc++(s.take i).reverse)
 | 0,acc,_,_=>by
  refine z1e ?_
  unfold z3e
  rw [if_neg (by simp)]; simp
 | i+1,acc,hi,ha=>by
  have hlt:i<s.length:=by omega
  have e:((i+1:Nat):Int) - 1=(i:Int):=by omega
  have hF:z3e s (acc,((i+1:Nat):Int) - 1)=some (.inr (acc++[s[i]],(i:Int) - 1)):=by
   unfold z3e
   rw [e,if_pos (by simp)]
   simp only [z0b hlt,bs]
   rw [z17 (by simp; omega)]
   simp only [bs,z0q (show -9223372036854775808≤(i:Int) - 1 by omega) (by omega)]
  rw [z1u hF,ziy s hl i _ (by omega) (by simp; omega)]
  have:List.take (i+1) s=List.take i s++[s[i]]:=by rw [List.take_add_one,List.getElem?_eq_getElem hlt]; rfl
  rw [this]; simp only [List.reverse_append,List.reverse_cons,List.reverse_nil,List.nil_append,List.append_assoc]
theorem z34 (a:UInt64):z0y a=some (z0w a.toNat):=by
 unfold z0y z0w
 have h0:=UInt64.toNat_lt a
 by_cases h:a.toNat≤247
 ·have h':decide (a≤247)=true:=by simpa [UInt64.le_iff_toNat_le] using h
  rw [if_pos h',if_pos h]
  congr 2
 ·have h':¬ decide (a≤247)=true:=by simpa [UInt64.le_iff_toNat_le] using h
  rw [if_neg h',if_neg h]
  have hd:=zft a.toNat h0
  rw [zp4 a.toNat a [] a.toNat rfl rfl hd]
  simp only [bs]
  rw [z0q (show -9223372036854775808≤((z21 a.toNat).length:Int) - 1 by omega) (by omega),z0q (show -9223372036854775808≤247+((z21 a.toNat).length:Int) by omega) (by omega)]
  rw [ziy _ hd _ _ (Nat.le_refl _) (by simp; omega)]
  simp only [bs,List.take_length]
  rw [show (247+((z21 a.toNat).length:Int))=((247+(z21 a.toNat).length:Nat):Int) by omega]
  congr 1
  show _::_=_
  congr 1
  apply UInt8.toNat_inj.1
  simp [UInt8.ofInt]
  omega
theorem zmo (a:UInt64) (k:Nat) (hk:k=(z21 a.toNat).length) (hk8:k≤8):iter (z8l a (k:Int)) (z8y a.toNat 0,0)=some (z8y a.toNat k):=by
 refine z44 k (fun i=>(z8y a.toNat i,(i:Int))) (fun i hi=>?_) ?_
 ·have hf:=zky a.toNat i (by omega)
  unfold z8l
  rw [if_pos (by simp; omega)]
  simp only [z0q (show -9223372036854775808≤8 * (i:Int) by omega) (by omega),z2b (show (0:Int)≤8 * (i:Int) by omega),bs,z0q (show -9223372036854775808≤(k:Int) - (i:Int) by omega) (by omega),z0f (show i<9223372036854775807 by omega)]
  rw [zsy (by omega) (by omega)]
  simp only [bs]
  have:=zjh a.toNat i (by omega)
  rw [← this]
  have e1:((k:Int) - (i:Int)).toNat=(z21 a.toNat).length - i:=by omega
  have e2:(z5q a (8 * (i:Int)).toNat).toUInt8=UInt8.ofNat (a.toNat / 2 ^ (8 * i)):=by
   apply UInt8.toNat_inj.1
   have e3:(8 * (i:Int)).toNat=8 * i:=by omega
   rw [e3]
   simp only [UInt64.toNat_toUInt8,zai,Nat.min_eq_left (show 8 * i≤64 by omega)]
   simp
  rw [e1,e2]
 ·unfold z8l
  rw [if_neg (by simp)]
theorem zbo (a:UInt64) (k:Nat) (hk:k<64):(z5q a k).toNat=a.toNat / 2 ^ k:=by rw [zai,Nat.min_eq_left (by omega)]
set_option maxRecDepth 100000 in
theorem zrf (a:UInt64):z89 a=some (bitLen a.toNat:Int):=by
 unfold z89
 have h0:=UInt64.toNat_lt a
 have s1:∃ (y:UInt64) (n:Nat),(if decide (4294967296≤a) then some (z5q a 32,(32:Int)) else some (a,0))=some (y,(n:Int))∧y.toNat<2 ^ 32∧n≤32∧bitLen a.toNat=n+bitLen y.toNat:=by
  by_cases h:4294967296≤a.toNat
  ·refine ⟨z5q a 32,32, by rw [if_pos (by simpa [UInt64.le_iff_toNat_le] using h)]; rfl,?_, by omega,?_⟩
   ·rw [zbo a 32 (by omega)]; omega
   ·rw [zbo a 32 (by omega)]; exact z9u _ 32 (by omega)
  ·exact ⟨a,0, by rw [if_neg (by simpa [UInt64.le_iff_toNat_le] using h)]; rfl, by omega, by omega, by omega⟩
 obtain ⟨y,n,e1,hy,hn,hb⟩:=s1
 rw [e1]; simp only [bs]
 have s2:∃ (z:UInt64) (k:Nat),(if decide (65536≤y) then some (z5q y 16) >>= fun y5=>some (w64 ((n:Int)+16)) >>= fun y6=>some (y5,y6) else some (y,(n:Int)))=some (z,(k:Int))∧z.toNat<2 ^ 16∧k≤48∧bitLen a.toNat=k+bitLen z.toNat:=by
  by_cases h:65536≤y.toNat
  ·refine ⟨z5q y 16,n+16, by rw [if_pos (by simpa [UInt64.le_iff_toNat_le] using h)]; simp only [bs,z0q (show -9223372036854775808≤(n:Int)+16 by omega) (by omega)]; rfl,?_, by omega,?_⟩
   ·rw [zbo y 16 (by omega)]; omega
   ·rw [zbo y 16 (by omega),hb,z9u y.toNat 16 (by omega)]; omega
  ·exact ⟨y,n, by rw [if_neg (by simpa [UInt64.le_iff_toNat_le] using h)], by omega, by omega,hb⟩
 obtain ⟨z,k,e2,hz,hk,hb2⟩:=s2
 simp only [bs] at e2
 rw [e2]; simp only [bs]
 have s3:∃ (x:UInt64) (j:Nat),(if decide (256≤z) then some (w64 ((k:Int)+8)) >>= fun y9=>some (z5q z 8,y9) else some (z,(k:Int)))=some (x,(j:Int))∧x.toNat<256∧j≤56∧bitLen a.toNat=j+bitLen x.toNat:=by
  by_cases h:256≤z.toNat
  ·refine ⟨z5q z 8,k+8, by rw [if_pos (by simpa [UInt64.le_iff_toNat_le] using h)]; simp only [bs,z0q (show -9223372036854775808≤(k:Int)+8 by omega) (by omega)]; rfl,?_, by omega,?_⟩
   ·rw [zbo z 8 (by omega)]; omega
   ·rw [zbo z 8 (by omega),hb2,z9u z.toNat 8 (by omega)]; omega
  ·exact ⟨z,k, by rw [if_neg (by simpa [UInt64.le_iff_toNat_le] using h)], by omega, by omega,hb2⟩
 obtain ⟨x,j,e3,hx,hj,hb3⟩:=s3
 simp only [bs] at e3
 rw [e3]; simp only [bs]
 have ht:=zqo ⟨x.toNat,hx⟩
 have hx8:(x.toUInt8.toNat:Int)=((x.toNat:Nat):Int):=by simp; omega
 have hle:bitLen x.toNat≤8:=zcz _ 8 (by omega)
 rw [hx8]
 have hlist:∀ (l:List UInt8),l=zpt.data.toList→idx l ((x.toNat:Nat):Int)=some (UInt8.ofNat (bitLen x.toNat)):=fun l hl=>by
  subst hl
  unfold idx
  rw [if_pos (by omega)]
  simpa using ht
 refine Eq.trans (congrArg (fun o:Option UInt8=>o >>= fun x10=>some (w64 ((j:Int)+(x10.toNat:Int)))) (hlist _ ?hh)) ?_
 case hh=>rfl
 simp only [bs]
 have e4:((UInt8.ofNat (bitLen x.toNat)).toNat:Int)=(bitLen x.toNat:Int):=by simp; omega
 rw [e4,z0q (by omega) (by omega),hb3]
 simp
theorem z30 (a:UInt64):z2x a=some (z0w a.toNat):=by
 unfold z2x
 have h0:=UInt64.toNat_lt a
 by_cases h:a.toNat≤247
 ·have h':decide (a≤247)=true:=by simpa [UInt64.le_iff_toNat_le] using h
  unfold z0w
  rw [if_pos h',if_pos h]
  congr 2
 ·have h':¬ decide (a≤247)=true:=by simpa [UInt64.le_iff_toNat_le] using h
  rw [if_neg h',zrf]
  have hd:=zft a.toNat h0
  have hl:=zh0 a.toNat
  have hb:bitLen a.toNat≤64:=zcz _ 64 h0
  simp only [bs]
  rw [z0q (show -9223372036854775808≤(bitLen a.toNat:Int)+7 by omega) (by omega)]
  have e1:Int.tdiv ((bitLen a.toNat:Int)+7) 8=((z21 a.toNat).length:Int):=by
   rw [hl, show ((bitLen a.toNat:Int)+7)=((bitLen a.toNat+7:Nat):Int) by omega]
   rfl
  rw [e1,z0q (show -9223372036854775808≤((z21 a.toNat).length:Int) by omega) (by omega),z0f (by omega),zln (by omega) (by omega)]
  simp only [bs]
  rw [show (0:Int)=((0:Nat):Int) from rfl,z0b (by simp)]
  simp only [bs,Int.toNat_natCast]
  rw [z0q (show -9223372036854775808≤247+((z21 a.toNat).length:Int) by omega) (by omega)]
  have e2:UInt8.ofInt (247+((z21 a.toNat).length:Int))=UInt8.ofNat (247+(z21 a.toNat).length):=by
   apply UInt8.toNat_inj.1
   rw [show (247+((z21 a.toNat).length:Int))=((247+(z21 a.toNat).length:Nat):Int) by omega]
   simp [UInt8.ofInt]
   omega
  have:=zj8 a.toNat
  rw [e2,this]
  have:=zmo a (z21 a.toNat).length rfl hd
  rw [show (0:Int)=((0:Nat):Int) from rfl] at this
  rw [this]
  simp only [bs]
  rw [zjt a.toNat (by omega)]
end
section
open Go
theorem zxi {v:z04} (h:okV v=true) (k:v.Kind=3):v.Num=0∧v.Bits=0∧v.Text.length≤30∧v.Text.all okb=true:=by
 unfold okV at h; rw [if_neg (by rw [k]; decide),if_neg (by rw [k]; decide),if_pos k] at h
 simp only [Bool.and_eq_true,decide_eq_true_eq] at h
 exact ⟨h.1.1.1,h.1.1.2,h.1.2,h.2⟩
theorem zhl {v:z04} (h:okV v=true):v.Kind=1∨v.Kind=2∨v.Kind=3:=by
 by_cases h1:v.Kind=1
 ·exact .inl h1
 by_cases h2:v.Kind=2
 ·exact .inr (.inl h2)
 by_cases h3:v.Kind=3
 ·exact .inr (.inr h3)
 ·unfold okV at h; simp [h1,h2,h3] at h
theorem zrg (x:UInt64):(x ^^^ 18446744073709551615).toNat=18446744073709551615 - x.toNat:=by
 have e:x ^^^ 18446744073709551615 = ~~~x:=by
  apply UInt64.eq_of_toBitVec_eq
  rw [UInt64.toBitVec_xor,UInt64.toBitVec_not]
  exact BitVec.xor_allOnes
 rw [e,UInt64.toNat_not]; rfl
theorem z9n (n:Int):(UInt64.ofInt n).toNat=(n % 18446744073709551616).toNat:=by
 simp [UInt64.ofInt]; omega
theorem zxa (n:Int) (h:inI n):((zkh (UInt64.ofInt n) 1) ^^^ (UInt64.ofInt (ztw n 63))).toNat=zig n:=by
 obtain ⟨h1,h2⟩:=h
 have es:(zkh (UInt64.ofInt n) 1).toNat=(n % 18446744073709551616).toNat * 2 % 18446744073709551616:=by
  rw [zkl,z9n]; rfl
 by_cases h0:0≤n
 ·have e:ztw n 63=0:=by
   unfold ztw
   rw [show (2:Int) ^ (min 63 64)=9223372036854775808 from rfl,Int.fdiv_eq_ediv_of_nonneg _ (by omega)]; omega
  rw [e, show UInt64.ofInt 0=0 from rfl,UInt64.xor_zero,es]
  unfold zig; rw [if_pos h0]; omega
 ·have e:ztw n 63 = -1:=by
   unfold ztw
   rw [show (2:Int) ^ (min 63 64)=9223372036854775808 from rfl,Int.fdiv_eq_ediv_of_nonneg _ (by omega)]; omega
  rw [e, show UInt64.ofInt (-1)=18446744073709551615 from rfl,zrg,es]
  unfold zig; rw [if_neg h0]; omega
theorem znk (n:Int) (h:inI n):zar n=some (z0w (zig n)):=by
 unfold zar
 rw [z30,zxa n h]; rfl
theorem zfz (s:List UInt8) (h:s.length≤10000):z8i s=some (z0w s.length++s,0):=by
 unfold z8i
 rw [if_neg (by simp; omega),z30]
 have e:(UInt64.ofInt (s.length:Int)).toNat=s.length:=by rw [z9n]; omega
 have:=z08 s.length (by omega)
 simp only [bs,e]
 rw [z17 (by omega)]; rfl
def be8 (b:UInt64):List UInt8:=[(z5q b 56).toUInt8,(z5q b 48).toUInt8,(z5q b 40).toUInt8,(z5q b 32).toUInt8,(z5q b 24).toUInt8,(z5q b 16).toUInt8,(z5q b 8).toUInt8,(z5q b 0).toUInt8]
theorem zpf (v:z04) (l:List UInt8) (k:Nat) (hl:l.length≤100) (hk:k≤56):z6a v (l,(k:Int))=some (.inr (l++[(z5q v.Bits k).toUInt8],(k:Int) - 8)):=by
 unfold z6a
 rw [if_pos (by simp)]
 simp only
 rw [z2b (by omega)]
 simp only [bs,Int.toNat_natCast]
 rw [z17 (by simp; omega)]
 simp only [bs]
 rw [z0q (by omega) (by omega)]
theorem zqd (v:z04):iter (z6a v) ([v.Kind],56)=some (v.Kind::be8 v.Bits):=by
 have hs:=fun l k h1 h2=>zpf v l k h1 h2
 rw [show (56:Int)=((56:Nat):Int) from rfl,z1u (hs [v.Kind] 56 (by simp) (by omega))]
 simp only [List.cons_append,List.nil_append, show ((56:Nat):Int) - 8=((48:Nat):Int) from rfl]
 rw [z1u (hs _ 48 (by simp) (by omega))]
 simp only [List.cons_append,List.nil_append, show ((48:Nat):Int) - 8=((40:Nat):Int) from rfl]
 rw [z1u (hs _ 40 (by simp) (by omega))]
 simp only [List.cons_append,List.nil_append, show ((40:Nat):Int) - 8=((32:Nat):Int) from rfl]
 rw [z1u (hs _ 32 (by simp) (by omega))]
 simp only [List.cons_append,List.nil_append, show ((32:Nat):Int) - 8=((24:Nat):Int) from rfl]
 rw [z1u (hs _ 24 (by simp) (by omega))]
 simp only [List.cons_append,List.nil_append, show ((24:Nat):Int) - 8=((16:Nat):Int) from rfl]
 rw [z1u (hs _ 16 (by simp) (by omega))]
 simp only [List.cons_append,List.nil_append, show ((16:Nat):Int) - 8=((8:Nat):Int) from rfl]
 rw [z1u (hs _ 8 (by simp) (by omega))]
 simp only [List.cons_append,List.nil_append, show ((8:Nat):Int) - 8=((0:Nat):Int) from rfl]
 rw [z1u (hs _ 0 (by simp) (by omega))]
 simp only [List.cons_append,List.nil_append]
 refine z1e ?_
 unfold z6a
 rw [if_neg (by simp)]; rfl
def zu5 (v:z04):List UInt8:=v.Kind::(if v.Kind=1 then z0w (zig v.Num) else if v.Kind=2 then be8 v.Bits else z0w v.Text.length++v.Text)
theorem zp0 {n:Int} (h:inI n):zig n<18446744073709551616:=zvx h.1 h.2
theorem zvd (v:z04) (hI:inI v.Num) (hl:v.Text.length≤9223372036854775807):z9x v=some (if okV v then (zu5 v,0) else ([],8)):=by
 unfold z9x
 rw [zjg v hl]
 cases hv:okV v
 ·rfl
 simp only [bs,if_true]
 rw [if_neg (by simp)]
 unfold zu5
 rcases zhl hv with k | k | k
 ·have h1:=z08 (zig v.Num) (zp0 hI)
  rw [k,znk v.Num hI]
  simp only [bs]
  rw [if_pos (by decide),z17 (by simp; omega)]; simp [bs]
 ·rw [k,if_neg (by decide),if_pos (by decide),if_neg (by decide),if_pos rfl,← k,zqd]; rfl
 ·have h3:=(zxi hv k).2.2.1
  have h1:=z08 v.Text.length (by omega)
  rw [k,zfz v.Text (by omega)]
  rw [if_neg (by decide),if_neg (by decide),if_pos (by decide),if_neg (by decide),if_neg (by decide),z2b (by omega)]
  simp only [bs]
  rw [z17 (by simp; omega)]; rfl
theorem zj3 (n:Int) (h:inI n):z6n n=some (z0w (zig n)):=by
 obtain ⟨h1,h2⟩:=h
 unfold z6n
 by_cases h0:0≤n
 ·rw [if_pos (by simpa using h0),z34]
  have e:(2 * UInt64.ofInt n).toNat=zig n:=by
   rw [UInt64.toNat_mul,z9n, show (2:UInt64).toNat=2 from rfl]
   unfold zig; rw [if_pos h0]; omega
  rw [e]; rfl
 ·rw [if_neg (by simpa using h0),z34]
  have e:((2 * UInt64.ofInt (w64 (0 - (w64 (n+1)))))+1).toNat=zig n:=by
   rw [z0q (x:=n+1) (by omega) (by omega),z0q (by omega) (by omega),UInt64.toNat_add,UInt64.toNat_mul,z9n, show (2:UInt64).toNat=2 from rfl, show (1:UInt64).toNat=1 from rfl]
   unfold zig; rw [if_neg h0]; omega
  rw [e]; rfl
theorem ze3 (s:List UInt8) (h:s.length≤100000):z3r s=some (z0w s.length++s):=by
 unfold z3r
 rw [z34]
 have e:(UInt64.ofInt (s.length:Int)).toNat=s.length:=by rw [z9n]; omega
 have:=z08 s.length (by omega)
 rw [e]
 simp only [bs]
 rw [z17 (by omega)]; rfl
theorem zp5 (v:z04) (l:List UInt8) (k:Nat) (hl:l.length≤100) (hk:k≤7):z3t v (l,(k:Int))=some (.inr (l++[(z5q v.Bits (8 * k)).toUInt8],(k:Int) - 1)):=by
 unfold z3t
 rw [if_pos (by simp)]
 simp only
 have e:w64 (8 * (k:Int))=((8 * k:Nat):Int):=by rw [z0q (by omega) (by omega)]; omega
 rw [e,z2b (by omega)]
 simp only [bs,Int.toNat_natCast]
 rw [z17 (by simp; omega)]
 simp only [bs]
 rw [z0q (by omega) (by omega)]
theorem zrj (v:z04):iter (z3t v) ([v.Kind],7)=some (v.Kind::be8 v.Bits):=by
 have hs:=fun l k h1 h2=>zp5 v l k h1 h2
 rw [show (7:Int)=((7:Nat):Int) from rfl,z1u (hs [v.Kind] 7 (by simp) (by omega))]
 simp only [List.cons_append,List.nil_append, show ((7:Nat):Int) - 1=((6:Nat):Int) from rfl]
 rw [z1u (hs _ 6 (by simp) (by omega))]
 simp only [List.cons_append,List.nil_append, show ((6:Nat):Int) - 1=((5:Nat):Int) from rfl]
 rw [z1u (hs _ 5 (by simp) (by omega))]
 simp only [List.cons_append,List.nil_append, show ((5:Nat):Int) - 1=((4:Nat):Int) from rfl]
 rw [z1u (hs _ 4 (by simp) (by omega))]
 simp only [List.cons_append,List.nil_append, show ((4:Nat):Int) - 1=((3:Nat):Int) from rfl]
 rw [z1u (hs _ 3 (by simp) (by omega))]
 simp only [List.cons_append,List.nil_append, show ((3:Nat):Int) - 1=((2:Nat):Int) from rfl]
 rw [z1u (hs _ 2 (by simp) (by omega))]
 simp only [List.cons_append,List.nil_append, show ((2:Nat):Int) - 1=((1:Nat):Int) from rfl]
 rw [z1u (hs _ 1 (by simp) (by omega))]
 simp only [List.cons_append,List.nil_append, show ((1:Nat):Int) - 1=((0:Nat):Int) from rfl]
 rw [z1u (hs _ 0 (by simp) (by omega))]
 simp only [List.cons_append,List.nil_append]
 refine z1e ?_
 unfold z3t
 rw [if_neg (by simp)]; rfl
theorem zpv (v:z04) (hI:inI v.Num) (hv:okV v=true):z7k v=some (zu5 v):=by
 unfold zu5 z7k
 rcases zhl hv with k | k | k
 ·have h1:=z08 (zig v.Num) (zp0 hI)
  rw [k,zj3 v.Num hI]
  simp only [bs]
  rw [if_pos (by decide),z17 (by simp; omega)]; simp [bs]
 ·rw [k,if_neg (by decide),if_pos (by decide),if_neg (by decide),if_pos rfl,← k,zrj]; rfl
 ·have h3:=(zxi hv k).2.2.1
  have h1:=z08 v.Text.length (by omega)
  rw [k,ze3 v.Text (by omega)]
  rw [if_neg (by decide),if_neg (by decide),if_neg (by decide),if_neg (by decide),z2b (by omega)]
  simp only [bs]
  rw [z17 (by simp; omega)]; rfl
end
section
open Go
theorem zqt (a b:V3):∀ (n i:Nat),32 - i=n→i≤32→∃ r:Sum Int Unit,iter (z5d a b) (i:Int)=some r∧(z71 (some r) (fun _=>some 0)=some (Lib.compareBytes (a.toList.drop i) (b.toList.drop i))):=by
 intro n
 induction n with
 | zero =>
  intro i hn hi
  have:i=32:=by omega
  subst this
  refine ⟨.inr (),z1e ?_,?_⟩
  ·unfold z5d; rw [if_neg (by simp)]
  ·rw [List.drop_eq_nil_of_le (by simp),List.drop_eq_nil_of_le (by simp)]; rfl
 | succ n ih =>
  intro i hn hi
  have hlt:i<32:=by omega
  have da:a.toList.drop i=a[i]::a.toList.drop (i+1):=by rw [List.drop_eq_getElem_cons (by simpa using hlt)]; simp
  have db:b.toList.drop i=b[i]::b.toList.drop (i+1):=by rw [List.drop_eq_getElem_cons (by simpa using hlt)]; simp
  have hF:z5d a b (i:Int)=if decide (a[i]<b[i]) then some (.inl (.inl (-1))) else if decide (b[i]<a[i]) then some (.inl (.inl 1)) else some (.inr ((i+1:Nat):Int)):=by
   unfold z5d
   rw [if_pos (by simp; omega)]
   simp only [z7i hlt,bs,z0f (show i<9223372036854775807 by omega)]
  rw [da,db,Lib.compareBytes]
  by_cases h1:a[i]<b[i]
  ·rw [decide_eq_true h1] at hF
   exact ⟨_,z1e hF, by rw [if_pos h1]; rfl⟩
  ·rw [decide_eq_false h1] at hF
   by_cases h2:b[i]<a[i]
   ·rw [decide_eq_true h2] at hF
    exact ⟨_,z1e hF, by rw [if_neg h1,if_pos h2]; rfl⟩
   ·rw [decide_eq_false h2] at hF
    obtain ⟨r,k1,k2⟩:=ih (i+1) (by omega) (by omega)
    exact ⟨r, by rw [z1u hF]; exact k1, by rw [if_neg h1,if_neg h2]; exact k2⟩
theorem zid (a b:V3):z4s a b=some (Lib.compareBytes a.toList b.toList):=by
 obtain ⟨r,h1,h2⟩:=zqt a b 32 0 rfl (by omega)
 unfold z4s
 rw [show (0:Int)=((0:Nat):Int) from rfl,h1]
 simpa using h2
theorem zoc (a b:V3):z9e a b=some (Lib.compareBytes a.toList b.toList):=by
 unfold z9e zax; rfl
def z9d:List V3→Bool
 | a::b::l=>!decide (0≤Lib.compareBytes a.toList b.toList)&&z9d (b::l)
 | _=>true
theorem zke (l:List V3) (hl:l.length≤9223372036854775807):∀ (n i:Nat),l.length - i=n→1≤i→i≤l.length→iter (z2m l) (i:Int)=some (if z9d (l.drop (i - 1)) then .inr () else .inl false):=by
 intro n
 induction n with
 | zero =>
  intro i hn h1 hi
  have:i=l.length:=by omega
  refine z1e ?_
  have e:l.drop (i - 1)=[l[i - 1]'(by omega)]:=by
   rw [List.drop_eq_getElem_cons (by omega),List.drop_eq_nil_of_le (by omega)]
  rw [e]
  unfold z2m
  rw [if_neg (by simp; omega)]
  simp [z9d]
 | succ n ih =>
  intro i hn h1 hi
  have hlt:i<l.length:=by omega
  have e:l.drop (i - 1)=l[i - 1]::l[i]::l.drop (i+1):=by
   rw [List.drop_eq_getElem_cons (by omega), show i - 1+1=i by omega,List.drop_eq_getElem_cons hlt]
  have e':l.drop (i+1 - 1)=l[i]::l.drop (i+1):=by rw [Nat.add_sub_cancel,List.drop_eq_getElem_cons hlt]
  have hF:z2m l (i:Int)=if decide (0≤Lib.compareBytes (l[i - 1]).toList (l[i]).toList) then some (.inl (.inl false)) else some (.inr ((i+1:Nat):Int)):=by
   unfold z2m
   rw [if_pos (by simp; omega),z0q (by omega) (by omega), show ((i:Int) - 1)=((i - 1:Nat):Int) by omega]
   simp only [z0b hlt,z0b (show i - 1<l.length by omega),bs,zid,z0f (show i<9223372036854775807 by omega)]
  rw [e,z9d]
  cases hc:decide (0≤Lib.compareBytes (l[i - 1]).toList (l[i]).toList) with
  | true=>rw [hc] at hF; rw [z1e hF]; rfl
  | false =>
   rw [hc] at hF
   rw [z1u hF,ih (i+1) (by omega) (by omega) (by omega),e']; simp
theorem zo9 (l:List V3) (hl:l.length≤9223372036854775807):z6p l=some (z9d l):=by
 unfold z6p
 cases l with
 | nil =>
  rw [z1e (b:=.inr ()) (by unfold z2m; rw [if_neg (by simp)])]; rfl
 | cons x l =>
  have:=zke (x::l) hl _ 1 rfl (by omega) (by simp)
  rw [show (1:Int)=((1:Nat):Int) from rfl,this]
  simp only [Nat.sub_self,List.drop_zero]
  cases z9d (x::l) <;> rfl
theorem zjv (l:List V3) (hl:l.length≤9223372036854775806):∀ (n i:Nat),l.length - i=n→i≤l.length→∃ r,iter (z07 l l) ((i:Int),(i:Int))=some r∧(z9d (l.drop i)=true→∃ c,r=.inr c)∧(z9d (l.drop i)=false→∃ (k:Nat) (c:Int),r=.inl ((k:Int),c)):=by
 intro n
 induction n with
 | zero =>
  intro i hn hi
  have:i=l.length:=by omega
  refine ⟨.inr (i:Int),z1e ?_, fun _=>⟨_,rfl⟩, fun h=>?_⟩
  ·unfold z07
   rw [if_neg (by simp; omega)]
  ·rw [List.drop_eq_nil_of_le (by omega)] at h; simp [z9d] at h
 | succ n ih =>
  intro i hn hi
  have hlt:i<l.length:=by omega
  by_cases h2:i+1<l.length
  ·have e:l.drop i=l[i]::l[i+1]::l.drop (i+2):=by rw [List.drop_eq_getElem_cons hlt,List.drop_eq_getElem_cons h2]
   have e':l.drop (i+1)=l[i+1]::l.drop (i+2):=by rw [List.drop_eq_getElem_cons h2]
   have hF:z07 l l ((i:Int),(i:Int))=if decide (0≤Lib.compareBytes (l[i]).toList (l[i+1]).toList) then some (.inl (.inl ((i:Int),((i+1:Nat):Int)))) else some (.inr (((i+1:Nat):Int),((i+1:Nat):Int))):=by
    unfold z07 z9a
    rw [if_pos (by simp; omega)]
    simp only [z0b hlt,bs,z0f (show i<9223372036854775807 by omega)]
    rw [if_pos (by simp; omega),z0q (by omega) (by omega), show ((i+1:Nat):Int) - 1=(i:Int) by omega]
    simp only [z0b hlt,z0b h2,bs,zoc]
   rw [e,z9d]
   cases hc:decide (0≤Lib.compareBytes (l[i]).toList (l[i+1]).toList) with
   | true =>
    rw [hc] at hF
    exact ⟨_,z1e hF, fun h=>by simp at h, fun _=>⟨i,_,rfl⟩⟩
   | false =>
    rw [hc] at hF
    obtain ⟨r,k1,k2,k3⟩:=ih (i+1) (by omega) (by omega)
    rw [e'] at k2 k3
    exact ⟨r, by rw [z1u hF]; exact k1, fun h=>k2 (by simpa using h), fun h=>k3 (by simpa using h)⟩
  ·have e:l.drop i=[l[i]]:=by rw [List.drop_eq_getElem_cons hlt,List.drop_eq_nil_of_le (by omega)]
   have hF:z07 l l ((i:Int),(i:Int))=some (.inr (((i+1:Nat):Int),((i+1:Nat):Int))):=by
    unfold z07 z9a
    rw [if_pos (by simp; omega)]
    simp only [z0b hlt,bs,z0f (show i<9223372036854775807 by omega)]
    rw [if_neg (by simp; omega)]
    simp only [bs]; rfl
   obtain ⟨r,k1,k2,k3⟩:=ih (i+1) (by omega) (by omega)
   rw [List.drop_eq_nil_of_le (by omega)] at k2 k3
   exact ⟨r, by rw [z1u hF]; exact k1, fun _=>k2 rfl, fun h=>by rw [e] at h; simp [z9d] at h⟩
theorem zmy (l:List V3) (hl:l.length≤9223372036854775806):zal l=some (z9d l):=by
 obtain ⟨r,k1,k2,k3⟩:=zjv l hl _ 0 rfl (by omega)
 unfold zal z1d z1m
 rw [show ((0:Int),(0:Int))=(((0:Nat):Int),((0:Nat):Int)) from rfl,k1]
 simp only [List.drop_zero] at k2 k3
 cases h:z9d l with
 | true=>obtain ⟨c,rfl⟩:=k2 h; rfl
 | false =>
  obtain ⟨k,c,rfl⟩:=k3 h
  simp only [zsv,bs]
  rw [decide_eq_true (by omega)]; rfl
def zi5 (l:List V3):List UInt8:=l.flatMap Vector.toList
theorem zd2 (l:List V3):(zi5 l).length=32 * l.length:=by
 induction l with
 | nil=>rfl
 | cons x l ih=>unfold zi5 at ih ⊢; rw [List.flatMap_cons,List.length_append,ih]; simp; omega
theorem zjp (l:List V3) (i:Nat) (hi:i<l.length):zi5 (l.take (i+1))=zi5 (l.take i)++(l[i]).toList:=by
 rw [List.take_add_one,List.getElem?_eq_getElem hi]; unfold zi5; rw [List.flatMap_append,Option.toList_some,List.flatMap_cons,List.flatMap_nil,List.append_nil]
theorem zti (l:List V3) (h:l.length≤1000) (s:List UInt8) (hs:s.length≤9):iter (z4j l) (s,0)=some (s++zi5 l):=by
 have:=z44 (F:=z4j l) (b:=s++zi5 l) l.length (fun i=>(s++zi5 (l.take i),(i:Int))) (fun i hi=>?_) ?_
 ·simpa [zi5] using this
 ·unfold z4j
  have hf:=zd2 (l.take i)
  rw [if_pos (by simp; omega)]
  simp only [z0b hi,bs]
  rw [z17 (by simp at hf ⊢; omega)]
  simp only [bs,z0f (show i<9223372036854775807 by omega),zjp l i hi,List.append_assoc]
 ·unfold z4j
  rw [if_neg (by simp)]
  simp
theorem zvl (l:List V3) (h:l.length≤1000) (s:List UInt8) (hs:s.length≤9):iter (z9j l) (s,0)=some (s++zi5 l):=by
 have:=z44 (F:=z9j l) (b:=s++zi5 l) l.length (fun i=>(s++zi5 (l.take i),(i:Int))) (fun i hi=>?_) ?_
 ·simpa [zi5] using this
 ·unfold z9j
  have hf:=zd2 (l.take i)
  rw [if_pos (by simp; omega)]
  simp only [z0b hi,bs]
  rw [z17 (by simp at hf ⊢; omega)]
  simp only [bs,z0f (show i<9223372036854775807 by omega),zjp l i hi,List.append_assoc]
 ·unfold z9j
  rw [if_neg (by simp)]
  simp
theorem z9k {n:Nat} (h:n<18446744073709551616):(UInt64.ofInt (n:Int)).toNat=n:=by
 simp [UInt64.ofInt]; omega
theorem zrx (l:List V3) (h:l.length≤1000):z7z l=some (z0w l.length++zi5 l):=by
 unfold z7z
 have hn:=z08 l.length (by omega)
 rw [z34,z9k (by omega)]
 simp only [bs]
 rw [zti l h _ (by omega)]; rfl
theorem ztr (l:List V3) (h:l.length≤60) (hi:z9d l=true):zey l=some (z0w l.length++zi5 l,0):=by
 unfold zey
 have hn:=z08 l.length (by omega)
 rw [if_neg (by simp; omega),zmy l (by omega),hi,z30,z9k (by omega)]
 simp only [bs,Bool.not_true,Bool.false_eq_true,if_false]
 rw [zvl l (by omega) _ (by omega)]; rfl
end
section
open Go
def nk:List UInt8→Nat
 | []=>0
 | a::l=>a.toNat * 256 ^ l.length+nk l
theorem ztl:∀ l:List UInt8,nk l<256 ^ l.length
 | []=>by simp [nk]
 | a::l=>by
  have ih:=ztl l
  have ha:=UInt8.toNat_lt a
  simp only [nk,List.length_cons,Nat.pow_succ]
  have h1:(a.toNat+1) * 256 ^ l.length≤256 * 256 ^ l.length:=Nat.mul_le_mul_right _ (by omega)
  rw [Nat.add_mul,Nat.one_mul] at h1
  omega
theorem znq:∀ a b:List UInt8,a.length=b.length→Lib.compareBytes a b=(if nk a<nk b then -1 else if nk b<nk a then 1 else 0)∧(nk a=nk b→a=b)
 | [],[],_=>by simp [Lib.compareBytes,nk]
 | [],_::_,h=>by simp at h
 | _::_,[],h=>by simp at h
 | a::x,b::y,h=>by
  have hl:x.length=y.length:=by simpa using h
  obtain ⟨i1,i2⟩:=znq x y hl
  have lx:=ztl x
  have ly:=ztl y
  simp only [Lib.compareBytes,nk,hl] at *
  have e:∀ u v:UInt8,u.toNat<v.toNat→u.toNat * 256 ^ y.length+256 ^ y.length≤v.toNat * 256 ^ y.length:=fun u v huv=>by
   have:=Nat.mul_le_mul_right (256 ^ y.length) (show u.toNat+1≤v.toNat from huv)
   rwa [Nat.add_mul,Nat.one_mul] at this
  by_cases h1:a<b
  ·have h1':a.toNat<b.toNat:=UInt8.lt_iff_toNat_lt.1 h1
   have:=e a b h1'
   rw [if_pos h1,if_pos (by omega)]
   exact ⟨rfl, fun h=>by omega⟩
  ·by_cases h2:b<a
   ·have h2':b.toNat<a.toNat:=UInt8.lt_iff_toNat_lt.1 h2
    have:=e b a h2'
    rw [if_neg h1,if_pos h2,if_neg (by omega),if_pos (by omega)]
    exact ⟨rfl, fun h=>by omega⟩
   ·have h3:a=b:=UInt8.toNat_inj.1 (by rw [UInt8.lt_iff_toNat_lt] at h1 h2; omega)
    subst h3
    rw [if_neg h1,if_neg h1,i1]
    refine ⟨?_, fun h=>by rw [i2 (by omega)]⟩
    by_cases c1:nk x<nk y
    ·rw [if_pos c1,if_pos (by omega)]
    ·by_cases c2:nk y<nk x
     ·rw [if_neg c1,if_pos c2,if_neg (by omega),if_pos (by omega)]
     ·rw [if_neg c1,if_neg c2,if_neg (by omega),if_neg (by omega)]
def kd (d:V3):Nat:=nk d.toList
theorem zn2 (a b:V3):Lib.compareBytes a.toList b.toList=if kd a<kd b then -1 else if kd b<kd a then 1 else 0:=(znq a.toList b.toList (by simp)).1
theorem zgx {a b:V3} (h:kd a=kd b):a=b:=by
 have:=(znq a.toList b.toList (by simp)).2 h
 exact Vector.toList_inj.1 this
theorem zv7 (a b:V3):z9e a b=some (if kd a<kd b then -1 else if kd b<kd a then 1 else 0):=by rw [zoc,zn2]
theorem zq2 (a b:V3):z4s a b=some (if kd a<kd b then -1 else if kd b<kd a then 1 else 0):=by rw [zid,zn2]
theorem zju (a b:V3):decide ((if kd a<kd b then (-1:Int) else if kd b<kd a then 1 else 0)<0)=decide (kd a<kd b):=by
 by_cases h:kd a<kd b
 ·simp [h]
 ·by_cases h2:kd b<kd a <;> simp [h,h2]
theorem zsa (a b:V3):decide (0≤(if kd a<kd b then (-1:Int) else if kd b<kd a then 1 else 0))=decide (kd b≤kd a):=by
 by_cases h:kd a<kd b
 ·have:¬ kd b≤kd a:=by omega
  simp [h,this]
 ·have h3:kd b≤kd a:=by omega
  by_cases h2:kd b<kd a <;> simp [h,h2,h3]
theorem zm3:∀ l:List V3,z9d l=true↔∀ i (h:i+1<l.length),kd (l[i]'(by omega))<kd l[i+1]
 | []=>by simp [z9d]
 | [a]=>by simp [z9d]
 | a::b::l=>by
  have ih:=zm3 (b::l)
  rw [z9d,Bool.and_eq_true,ih,zn2,zsa]
  constructor
  ·rintro ⟨h1,h2⟩ i hi
   cases i with
   | zero=>simpa using h1
   | succ i=>exact h2 i (by simpa using hi)
  ·intro h
   refine ⟨?_, fun i hi=>h (i+1) (by simpa using hi)⟩
   have:=h 0 (by simp)
   simpa using this
theorem zbj:∀ l:List V3,z9d l=true↔l.Pairwise (fun a b=>kd a<kd b)
 | []=>by simp [z9d]
 | [a]=>by simp [z9d]
 | a::b::l=>by
  have ih:=zbj (b::l)
  rw [z9d,Bool.and_eq_true,ih,zn2,zsa]
  constructor
  ·rintro ⟨h1,h2⟩
   have h1':kd a<kd b:=by simpa using h1
   refine List.pairwise_cons.2 ⟨fun c hc=>?_,h2⟩
   rcases List.mem_cons.1 hc with rfl | hc
   ·exact h1'
   ·have:=(List.pairwise_cons.1 h2).1 c hc; omega
  ·intro h
   obtain ⟨h1,h2⟩:=List.pairwise_cons.1 h
   have:=h1 b (by simp)
   exact ⟨by simp; omega,h2⟩
theorem zq3 (l:List V3) (hl:l.length≤9223372036854775807):∃ b,z0p l=some b∧(b=true↔∀ i (h:i+1<l.length),kd (l[i]'(by omega))≤kd l[i+1]):=by
 have key:∀ n,n<l.length→∃ r:Sum Bool Unit,iter (z0a l) (n:Int)=some r∧((r=.inr ()∧∀ i (h:i+1<l.length),i+1≤n→kd (l[i]'(by omega))≤kd l[i+1])∨(r=.inl false∧∃ i,∃ h:i+1<l.length,¬ kd (l[i]'(by omega))≤kd l[i+1])):=by
  intro n
  induction n with
  | zero =>
   intro h
   refine ⟨_,z1e ?_,.inl ⟨rfl, fun i _ h=>by omega⟩⟩
   unfold z0a
   rw [if_neg (by simp)]
  | succ n ih =>
   intro h
   have hF:z0a l ((n+1:Nat):Int)=if decide (kd l[n+1]<kd l[n]) then some (.inl (.inl false)) else some (.inr (n:Int)):=by
    unfold z0a
    rw [if_pos (by simp <;> omega),z0b h,z0q (by omega) (by omega), show (((n+1:Nat):Int) - 1)=(n:Int) by omega,z0b (by omega)]
    simp only [bS]
    rw [zv7]
    simp only [bS]
    rw [zju]
   by_cases hc:kd l[n+1]<kd l[n]
   ·rw [decide_eq_true hc,if_pos rfl] at hF
    exact ⟨_,z1e hF,.inr ⟨rfl,n,h, by omega⟩⟩
   ·rw [decide_eq_false hc,if_neg (by simp)] at hF
    obtain ⟨r,h1,h2⟩:=ih (by omega)
    refine ⟨r, by rw [z1u hF]; exact h1,?_⟩
    rcases h2 with ⟨h2,h3⟩ | h2
    ·refine .inl ⟨h2, fun i hi hn=>?_⟩
     by_cases hin:i=n
     ·subst hin; omega
     ·exact h3 i hi (by omega)
    ·exact .inr h2
 unfold z0p
 simp only [bS]
 by_cases h0:l.length=0
 ·refine ⟨true,?_, by simp; intro i hi; omega⟩
  rw [h0,z0q (by omega) (by omega),z1e (b:=.inr ())]
  ·rfl
  ·unfold z0a
   rw [if_neg (by simp)]
 ·obtain ⟨r,h1,h2⟩:=key (l.length - 1) (by omega)
  rw [z0q (by omega) (by omega), show ((l.length:Int) - 1)=((l.length - 1:Nat):Int) by omega,h1]
  rcases h2 with ⟨rfl,h3⟩ | ⟨rfl,i,hi,h3⟩
  ·exact ⟨true,rfl, by simp; exact fun i hi=>h3 i hi (by omega)⟩
  ·exact ⟨false,rfl, by simp; exact ⟨i,hi, by omega⟩⟩
theorem zhk {k n j:Nat} (h:j<n):zu6 k n (j:Int)=some (k+j):=by unfold zu6; rw [if_pos (by omega)]; simp
theorem znt {α:Type} (b:List α) (k n:Nat) (x:α) (h:k+n≤b.length):(clr b k n x).length=b.length:=by
 unfold clr
 simp only [List.length_append,List.length_take,List.length_replicate,List.length_drop]; omega
theorem zkt (l:List V3) (s:Nat) (h1:1≤s) (hs:s<l.length) (hl:l.length≤9223372036854775806):∃ b:List V3 × Int,iter (z0g l s) (l,(s:Int),1)=some b∧b.1.length=l.length∧∃ j:Nat,b.2=(j:Int)∧j<l.length:=by
 refine z8u (F:=z0g l s) (l.length - s) (fun i st=>st.1.length=l.length∧st.2.2=(i:Int)∧1≤i∧∃ j:Nat,st.2.1=(j:Int)∧j+1≤s+i) _ ?_ ?_ _ 1 (by omega) ⟨rfl,rfl, by omega,s,rfl, by omega⟩
 ·rintro i ⟨c,j',i'⟩ hi ⟨e1,e2,e0,j,e3,e4⟩
  simp only at e1 e2 e3
  subst e2 e3
  unfold z0g
  rw [if_pos (by simp; omega)]
  simp only [Int.toNat_natCast]
  rw [zhk (by omega),z0q (x:=(i:Int) - 1) (by omega) (by omega), show ((i:Int) - 1)=((i - 1:Nat):Int) by omega,zhk (by omega)]
  simp only [bS]
  rw [z0b (by omega),z0b (by omega)]
  simp only [bS]
  by_cases hc:c[s+i]'(by omega)=c[s+(i - 1)]'(by omega)
  ·rw [decide_eq_true hc,if_neg (by simp)]
   exact ⟨_,rfl,e1,z0f (by omega), by omega,j,rfl, by omega⟩
  ·rw [decide_eq_false hc,if_pos (by simp),z0b (by omega)]
   simp only [bS]
   exact ⟨_,rfl, by simpa using e1,z0f (by omega), by omega,j+1,z0f (by omega), by omega⟩
 ·rintro ⟨c,j',i'⟩ ⟨e1,e2,e0,j,e3,e4⟩
  simp only at e1 e2 e3
  subst e2 e3
  unfold z0g
  rw [if_neg (by simp <;> omega)]
  exact ⟨_,rfl,e1,j,rfl, by omega⟩
theorem zmb (l:List V3) (hl:l.length≤9223372036854775806):∃ c,z0s l=some c∧(c.length=l.length↔∀ i (h:i+1<l.length),l[i]'(by omega)≠l[i+1]):=by
 have key:∀ k n,l.length - n=k→1≤n→n≤l.length→∃ r:Sum (List V3) Unit,iter (z06 l) (n:Int)=some r∧((r=.inr ()∧∀ i (h:i+1<l.length),n≤i+1→l[i]'(by omega)≠l[i+1])∨(∃ c,r=.inl c∧c.length≠l.length∧∃ i,∃ h:i+1<l.length,l[i]'(by omega)=l[i+1])):=by
  intro k
  induction k with
  | zero =>
   intro n hk h1 hn
   refine ⟨_,z1e ?_,.inl ⟨rfl, fun i _ h=>by omega⟩⟩
   unfold z06
   rw [if_neg (by simp; omega)]
  | succ k ih =>
   intro n hk h1 hn
   have hlt:n<l.length:=by omega
   by_cases hc:l[n]=l[n - 1]
   ·obtain ⟨⟨c,j'⟩,e1,e2,j,e3,e4⟩:=zkt l n h1 hlt hl
    simp only at e2 e3
    subst e3
    have hF:z06 l (n:Int)=some (.inl (.inl ((clr c j (c.length - j) (Vector.replicate 32 0)).take j))):=by
     unfold z06
     rw [if_pos (by simp; omega),z0b hlt,z0q (by omega) (by omega), show ((n:Int) - 1)=((n - 1:Nat):Int) by omega,z0b (by omega)]
     simp only [bS]
     rw [decide_eq_true hc,if_pos rfl,z2b (by omega)]
     simp only [bS]
     rw [e1]
     simp only [bS]
     rw [z2b (by omega),z2b (by simp; omega)]
     simp only [bS,Int.toNat_natCast]
     rw [show (0:Int)=((0:Nat):Int) from rfl,zd4 (by omega) (by rw [znt _ _ _ _ (by omega)]; omega)]
     simp
    refine ⟨_,z1e hF,.inr ⟨_,rfl,?_,n - 1, by omega,?_⟩⟩
    ·rw [List.length_take]; omega
    ·have:n - 1+1=n:=by omega
     simp only [this]; exact hc.symm
   ·have hF:z06 l (n:Int)=some (.inr ((n+1:Nat):Int)):=by
     unfold z06
     rw [if_pos (by simp; omega),z0b hlt,z0q (x:=(n:Int) - 1) (by omega) (by omega), show ((n:Int) - 1)=((n - 1:Nat):Int) by omega,z0b (by omega)]
     simp only [bS]
     rw [decide_eq_false hc,if_neg (by simp),z0f (by omega)]
    obtain ⟨r,h2,h3⟩:=ih (n+1) (by omega) (by omega) (by omega)
    refine ⟨r, by rw [z1u hF]; exact h2,?_⟩
    rcases h3 with ⟨h3,h4⟩ | h3
    ·refine .inl ⟨h3, fun i hi hni=>?_⟩
     by_cases hin:i+1=n
     ·subst hin; exact fun e=>hc e.symm
     ·exact h4 i hi (by omega)
    ·exact .inr h3
 unfold z0s
 by_cases h2:l.length<2
 ·rw [if_pos (by simp; omega)]
  exact ⟨l,rfl, by simp; intro i hi; omega⟩
 ·rw [if_neg (by simp; omega)]
  obtain ⟨r,e1,e2⟩:=key (l.length - 1) 1 rfl (by omega) (by omega)
  rw [show (1:Int)=((1:Nat):Int) from rfl,e1]
  rcases e2 with ⟨rfl,h3⟩ | ⟨c,rfl,h3,i,hi,h4⟩
  ·exact ⟨l,rfl, by simp; exact fun i hi=>h3 i hi (by omega)⟩
  ·exact ⟨c,rfl,⟨fun h=>absurd h h3, fun h=>absurd h4 (h i hi)⟩⟩
theorem zr4 (l:List V3):z9d l=true↔(∀ i (h:i+1<l.length),kd (l[i]'(by omega))≤kd l[i+1])∧∀ i (h:i+1<l.length),l[i]'(by omega)≠l[i+1]:=by
 rw [zm3]
 constructor
 ·intro h
  refine ⟨fun i hi=>Nat.le_of_lt (h i hi), fun i hi e=>?_⟩
  have:=h i hi
  rw [e] at this; omega
 ·rintro ⟨h1,h2⟩ i hi
  have:=h1 i hi
  rcases Nat.lt_or_eq_of_le this with h | h
  ·exact h
  ·exact absurd (zgx h) (h2 i hi)
end
section
open Go Go.Shelf Go.RowKit Go.Lib Go.Sort
def zuc (x y:V3):Int:=Lib.compareBytes x.toList y.toList
theorem zs8 (x y:V3):ltOf zuc x y=decide (kd x<kd y):=by
 unfold ltOf zuc
 rw [zn2,zju]
theorem zxe:SWO (ltOf zuc) where
 irrefl x:=by rw [zs8]; simp
 trans x y z h1 h2:=by rw [zs8] at *; simp at *; omega
 ntrans x y z h1 h2:=by rw [zs8] at *; simp at *; omega
def zml (l:List V3):List V3:=l.mergeSort fun x y=>!(ltOf zuc) y x
theorem zjs (l:List V3):(zml l).length=l.length:=List.length_mergeSort l
theorem zpi (l:List V3) (x:V3):x∈zml l↔x∈l:=List.mem_mergeSort
theorem zij (l:List V3):(zml l).Pairwise fun x y=>kd x≤kd y:=by
 have h:=List.pairwise_mergeSort (le:=fun x y=>!(ltOf zuc) y x) (fun a b c h1 h2=>by
  rw [zs8] at *; simp at *; omega) (fun a b=>by rw [zs8,zs8]; simp; omega) l
 exact h.imp fun {a b} hab=>by rw [zs8] at hab; simp at hab; omega
def ztj (l:List V3):Option (List V3):=chk (l.length≤1000000) >>= fun _=>some (zml l)
theorem zrd (p0:Value) (c0:List V3):z28 Tryz.prog 47 [.val p0,.val (.func (.func 48) #[] #[])] [(1,some (p0,.list (z2h 32 u8R) 45 c0))] (ztj c0) (fun r nv=>⟨[],[(1,some (p0,.list (z2h 32 u8R) 45 r))]⟩):=by
 refine zql zml zjs (fun cap w=>?_) (fun blk cap d w hH hb hs=>?_) p0 c0
 ·exact AnyF.slices_SortFunc_none zw2 none cap _ w
 ·have eg:∀ args w,(callFunc 48 args).run Tryz.prog w=.ok (.enter 48 args) w:=enters_of Tryz.func48 (by kernel_rfl) rfl
  exact AnyQ.slices_SortFunc_total zw2 32 Tryz.isAgg45 Tryz.sizeOf45 z47 za7 (fun x v hv=>by
   unfold z47 at hv
   obtain ⟨c,_,rfl⟩:=List.mem_map.1 hv
   rfl) zuc zxe 48 #[] blk 0 cap d w eg (fun m os dk _ x y=>zgz x y _) hH hb hs (fun x y h1 h2=>by
   rw [zs8] at h1 h2
   simp at h1 h2
   exact zgx (by omega))
end
section
open Go Go.RowKit
set_option maxRecDepth 100000
def z69 (a0:List V3) (a1:List V3) (s3:Int):Option (Sum (Sum Bool Unit) Int) :=
 if decide (s3<(a0.length:Int)) then
  idx a0 s3 >>= fun x5 =>
  idx a1 s3 >>= fun x7 =>
  if !decide (x5=x7) then
   some (.inl (.inl false))
  else
   some (.inr (w64 (s3+1)))
 else
  some (.inl (.inr ()))
def z38 (a0:List V3) (a1:List V3):Option (Bool) :=
 if (a0.length:Int) != (a1.length:Int) then
  some false
 else
  z71 (iter (z69 a0 a1) 0) fun s2 =>
  some true
theorem z8r (a0:List V3) (a1:List V3):z28 Tryz.prog 27 [.rd (z01 aZ) a0,.rd (z01 aZ) a1] [] (z38 a0 a1) (fun r nv=>⟨[.rd z09 r],[]⟩):=by
 refine z2o 26 Tryz.func27 Z Z Z fun H w=>?_
 refine gSR<|Zb Z<|z0t<|gSR<|Zm Z<|Zq (z4o Z .rd Z tu29)<|Zm Z<|Zq (z4o Z .rd Z tu29)<|Zq (I.neq Z Z)<|Zj Z (fun h1=>?_) (fun h1=>?_)
 ·refine gSR<|Zb Z<|z0n<|z16<|Ze [] [] Z
 ·refine Zt<|z8x (fun (s2:Unit) aa ww=>Sta (ctx 26 H [] w) [] [] aa ww) ?_ (fun s2=>?_)
  ·refine gSR<|Zb Z<|z23 (fun (s3:Int) aa ww=>Sta (ctx 26 H [] w) [(0,.rd (z01 aZ) a0),(1,.rd (z01 aZ) a1),(5,.rd z0h s3)] [] aa ww) (fun aa ww h=>Zu h []) (fun s3=>?_)
   refine z0t<|gSR<|Zm Z<|Zm Z<|Zq (z4o Z .rd Z tu29)<|Zq (I.lss Z Z)<|Zj Z (fun h4=>?_) (fun h4=>?_)
   ·refine Zt<|z0t<|z5o<|z0t<|zdz mixed (by kernel_rfl)<|Rq Z (mv Z)<|Rq Z (mv Z)<|z60 fun x5 h6=>Rq Z (ixR Z Z h6 tu29 z3o Z)<|Rq Z (ldR Z z8h)<|Rq Z (mv Z)<|Rq Z (mv Z)<|z60 fun x7 h8=>Rq Z (ixR Z Z h8 tu29 z3o Z)<|Rq Z (ldR Z z8h)<|Rq Z (neA Z Z zur Z Z zw4)<|zm7<|z0l<|gIf Z Z (fun h9=>?_) (fun h9=>?_)
    ·refine gSR<|Zb Z<|z0n<|z4l<|z16<|z81<|z85<|Ze [] [] Z
    ·refine z2s<|z2y<|z0l<|z27<|Zm Z<|Zq (I.add Z Z)<|Za Z<|z1w<|z1l (fun aa ww h=>Zu h [])
   ·refine z20<|z0u<|z0v<|z8d (fun aa ww h=>Zu h [])
  ·refine gSR<|Zb Z<|z0n<|Ze [] [] Z
def z83 (a0:z00) (a1:z00):Option (Bool) :=
 if a0.Author==a1.Author then
  z38 a0.Preds a1.Preds >>= fun r4 =>
  if r4 then
   if a0.Stamp==a1.Stamp then
    if decide (a0.Act=a1.Act) then
     some (decide (a0.Sig=a1.Sig)) >>= fun y9 =>
     some y9
    else
     some false
   else
    some false
  else
   some false
 else
  some false
theorem zcx (a0:z00) (a1:z00):z28 Tryz.prog 62 [.rd z03 a0,.rd z03 a1] [] (z83 a0 a1) (fun r nv=>⟨[.rd z09 r],[]⟩):=by
 refine z2o 38 Tryz.func62 Z Z Z fun H w=>?_
 refine gSR<|Eb Z (bx 1 Z) fun v1=>Eb Z (bx 2 Z) fun v2=>Zb Z<|gSR<|Zq (faB 1 Z Z Tryz.underlying43 Z (by exact z67))<|Zq (ld 1 Z Z (fP (z4i _)) z8b Z)<|Zq (faB 2 Z Z Tryz.underlying43 Z (by exact z67))<|Zq (ld 2 Z Z (fP (z4i _)) z8b Z)<|Zq (W.eql Z Z)<|Zm Z<|z1y 10 Z (fun h3=>?_) (fun h3=>?_)
 ·refine lKn 9 Z h3<|z1q Zx Z Z (faB 1 Z Z Tryz.underlying43 Z (by exact zc1))<|z1q Zx Z Z (ld 1 Z Z (fP (z0e _)) zdd Z)<|z1q Zx Z Z (faB 2 Z Z Tryz.underlying43 Z (by exact zc1))<|z1q Zx Z Z (ld 2 Z Z (fP (z0e _)) zdd Z)<|zcd [] [] Zx Z Tryz.func27 Z Z (z8r _ _) (Y2 Z Z) rN fun r4 n5=>Zq (pkT Z Z)<|Zm Z<|z1y 17 Z (fun h6=>?_) (fun h6=>?_)
  ·refine lKn 15 Z h6<|lKn 16 Z h6<|z1q Zx Z Z (faB 1 Z Z Tryz.underlying43 Z (by exact zm8))<|z1q Zx Z Z (ld 1 Z Z (fP (z57 _)) zlx Z)<|z1q Zx Z Z (faB 2 Z Z Tryz.underlying43 Z (by exact zm8))<|z1q Zx Z Z (ld 2 Z Z (fP (z57 _)) zlx Z)<|z1q Zx Z Z (U.eql Z Z)<|Zq (pkT Z Z)<|Zm Z<|z1y 24 Z (fun h7=>?_) (fun h7=>?_)
   ·refine lKn 22 Z h7<|lKn 23 Z h7<|z1q Zx Z Z (faB 1 Z Z Tryz.underlying43 Z (by exact zi6))<|z1q Zx Z Z (ld 1 Z Z (fP (z1g _)) zuy Z)<|z1q Zx Z Z (faB 2 Z Z Tryz.underlying43 Z (by exact zi6))<|z1q Zx Z Z (ld 2 Z Z (fP (z1g _)) zuy Z)<|z1q Zx Z Z (eqA Z Z zy1 Z Z zy0)<|Zq (pkT Z Z)<|Zm Z<|z1y 31 Z (fun h8=>?_) (fun h8=>?_)
    ·refine lKn 29 Z h8<|lKn 30 Z h8<|z1q Zx Z Z (faB 1 Z Z Tryz.underlying43 Z (by exact zl9))<|z1q Zx Z Z (ld 1 Z Z (fP (z2l _)) zxu Z)<|z1q Zx Z Z (faB 2 Z Z Tryz.underlying43 Z (by exact zl9))<|z1q Zx Z Z (ld 2 Z Z (fP (z2l _)) zxu Z)<|z1q Zx Z Z (eqA Z Z zyh Z Z zyx)<|Zq (pkT Z Z)<|Za Z<|z1k 4 Z fun y9=>Zn<|z0n<|Ze [] [] Z
    ·refine lKn 29 Z h8<|lKn 30 Z h8<|Zk Z<|Zk Z<|Zk Z<|Zk Z<|Zk Z<|Zq (pkF Z Z)<|Zb Z<|z0n<|Ze [] [] Z
   ·refine lKn 22 Z h7<|lKn 23 Z h7<|Zk Z<|Zk Z<|Zk Z<|Zk Z<|Zk Z<|Zq (pkF Z Z)<|Zm Z<|Zk Z<|Zk Z<|Zk Z<|Zk Z<|Zk Z<|Zq (pkF Z Z)<|Zb Z<|z0n<|Ze [] [] Z
  ·refine lKn 15 Z h6<|lKn 16 Z h6<|Zk Z<|Zk Z<|Zk Z<|Zk Z<|Zk Z<|Zq (pkF Z Z)<|Zm Z<|Zk Z<|Zk Z<|Zk Z<|Zk Z<|Zk Z<|Zq (pkF Z Z)<|Zm Z<|Zk Z<|Zk Z<|Zk Z<|Zk Z<|Zk Z<|Zq (pkF Z Z)<|Zb Z<|z0n<|Ze [] [] Z
 ·refine lKn 9 Z h3<|Zk Z<|Zk Z<|Zk Z<|Zk Z<|Zk Z<|Zq (pkF Z Z)<|Zm Z<|Zk Z<|Zk Z<|Zk Z<|Zk Z<|Zk Z<|Zq (pkF Z Z)<|Zm Z<|Zk Z<|Zk Z<|Zk Z<|Zk Z<|Zk Z<|Zq (pkF Z Z)<|Zm Z<|Zk Z<|Zk Z<|Zk Z<|Zk Z<|Zk Z<|Zq (pkF Z Z)<|Zb Z<|z0n<|Ze [] [] Z
def z4f (a0:z00):Option (Bool) :=
 if decide (20<(a0.Preds.length:Int)) then
  some true
 else
  if decide (100<(a0.Act.Key.length:Int)) then
   some true
  else
   some (decide (100<(a0.Act.Value.Text.length:Int))) >>= fun y4 =>
   some y4
theorem zcp (a0:z00):z28 Tryz.prog 67 [.rd z03 a0] [] (z4f a0) (fun r nv=>⟨[.rd z09 r],[]⟩):=by
 refine z2o 22 Tryz.func67 Z Z Z fun H w=>?_
 refine gSR<|Eb Z (bx 1 Z) fun v1=>Zb Z<|gSR<|Zq (faB 1 Z Z Tryz.underlying43 Z (by exact zc1))<|Zq (ld 1 Z Z (fP (z0e _)) zdd Z)<|Zq (z4o Z .rd Z tu29)<|Zq (I.gtr Z Z)<|Zm Z<|z1y 7 Z (fun h2=>?_) (fun h2=>?_)
 ·refine lKn 6 Z h2<|Zk Z<|Zk Z<|Zk Z<|Zk Z<|Zk Z<|Zq (pkT Z Z)<|Zm Z<|Zk Z<|Zk Z<|Zk Z<|Zk Z<|Zk Z<|Zk Z<|Zq (pkT Z Z)<|Zb Z<|z0n<|Ze [] [] Z
 ·refine lKn 6 Z h2<|z1q Zx Z Z (faB 1 Z Z Tryz.underlying43 Z (by exact zi6))<|z1q Zx Z Z (faB 1 Z Z Tryz.underlying39 Z (by exact ti9))<|z1q Zx Z Z (ld 1 Z Z ((fP (z1g _)).part (z3p _)) ty9 Z)<|z1q Zx Z Z (zq7 Z Z tu9)<|z1q Zx Z Z (I.gtr Z Z)<|Zq (pkF Z Z)<|Zm Z<|z1y 14 Z (fun h3=>?_) (fun h3=>?_)
  ·refine lKn 12 Z h3<|lKn 13 Z h3<|Zk Z<|Zk Z<|Zk Z<|Zk Z<|Zk Z<|Zk Z<|Zq (pkT Z Z)<|Zb Z<|z0n<|Ze [] [] Z
  ·refine lKn 12 Z h3<|lKn 13 Z h3<|z1q Zx Z Z (faB 1 Z Z Tryz.underlying43 Z (by exact zi6))<|z1q Zx Z Z (faB 1 Z Z Tryz.underlying39 Z (by exact ze1))<|z1q Zx Z Z (faB 1 Z Z Tryz.underlying37 Z (by exact ti9))<|z1q Zx Z Z (ld 1 Z Z (((fP (z1g _)).part (z3d _)).part (z26 _)) ty9 Z)<|z1q Zx Z Z (zq7 Z Z tu9)<|z1q Zx Z Z (I.gtr Z Z)<|Zq (pkF Z Z)<|Za Z<|z1k 2 Z fun y4=>Zn<|z0n<|Ze [] [] Z
def z2u (a0:z2d) (s3:Int):Option (Sum (Sum Bool Unit) Int) :=
 if decide (s3<(a0.Ops.length:Int)) then
  if decide (s3≤70) then
   idx a0.Ops s3 >>= fun x6 =>
   z4f x6 >>= fun r8 =>
   if r8 then
    some (.inl (.inl true))
   else
    some (.inr (w64 (s3+1)))
  else
   some (.inl (.inr ()))
 else
  some (.inl (.inr ()))
def z7f (a0:z2d):Option (Bool) :=
 z71 (iter (z2u a0) 0) fun s2 =>
 if decide (16<(a0.Ops.length:Int)) then
  if decide ((a0.Ops.length:Int)≤60) then
   some true
  else
   if decide (70<(a0.Ops.length:Int)) then
    some true
   else
    some (decide (70<(a0.IDs.length:Int))) >>= fun y14 =>
    some y14
 else
  if decide (70<(a0.Ops.length:Int)) then
   some true
  else
   some (decide (70<(a0.IDs.length:Int))) >>= fun y16 =>
   some y16
theorem zcg (a0:z2d):z28 Tryz.prog 29 [.rd z8e a0] [] (z7f a0) (fun r nv=>⟨[.rd z09 r],[]⟩):=by
 refine z2o 43 Tryz.func29 Z Z Z fun H w=>?_
 refine gSR<|Eb Z (bx 1 Z) fun v1=>Zb Z<|z8x (fun (s2:Unit) aa ww=>Sta (ctx 43 H [] w) [(1,.val (z0i v1 0))] [(1,some (v1,.box 66 [.rd z8e a0]))] aa ww) ?_ (fun s2=>?_)
 ·refine gSR<|Zb Z<|z23 (fun (s3:Int) aa ww=>Sta (ctx 43 H [] w) [(1,.val (z0i v1 0)),(3,.rd z0h s3)] [(1,some (v1,.box 66 [.rd z8e a0]))] aa ww) (fun aa ww h=>Zu h [1]) (fun s3=>?_)
  refine z0t<|gSR<|Zm Z<|Zq (faB 1 Z Z Tryz.underlying66 Z (by exact zue))<|Zq (ld 1 Z Z (fP (z3b _)) zui Z)<|Zq (z4o Z .rd Z tu22)<|Zq (I.lss Z Z)<|Zm Z<|z1y 9 Z (fun h4=>?_) (fun h4=>?_)
  ·refine lKn 8 Z h4<|z1q Zx Z Z (mv Z)<|z1q Zx Z Z (I.leq Z Z)<|Zq (pkT Z Z)<|Zj Z (fun h5=>?_) (fun h5=>?_)
   ·refine gKn 11 Z h5<|Zt<|z0t<|z5o<|gSR<|Zq (faB 1 Z Z Tryz.underlying66 Z (by exact zue))<|Zq (ld 1 Z Z (fP (z3b _)) zui Z)<|Zm Z<|z0k fun x6 h7=>Zq (ixR Z Z h7 tu22 zb9 Z)<|Zq (ldR Z zez)<|Zc [] [] Tryz.func67 Z (zcp _) fun r8 n9=>Zj Z (fun h10=>?_) (fun h10=>?_)
    ·refine gSR<|Zb Z<|z0n<|z4l<|z16<|z81<|z85<|Ze [] [] Z
    ·refine z2s<|z2y<|z0l<|z27<|Zm Z<|Zq (I.add Z Z)<|Za Z<|z1w<|z1l (fun aa ww h=>Zu h [1])
   ·refine gKn 11 Z h5<|z20<|z0u<|z0v<|z8d (fun aa ww h=>Zu h [1])
  ·refine lKn 8 Z h4<|Zk Z<|Zk Z<|Zq (pkF Z Z)<|Zn<|zb2 Z<|z20<|z0u<|z0v<|z8d (fun aa ww h=>Zu h [1])
 ·refine gSR<|Zq (faB 1 Z Z Tryz.underlying66 Z (by exact zue))<|Zq (ld 1 Z Z (fP (z3b _)) zui Z)<|Zq (z4o Z .rd Z tu22)<|Zq (I.gtr Z Z)<|Zm Z<|z1y 25 Z (fun h11=>?_) (fun h11=>?_)
  ·refine lKn 24 Z h11<|z1q Zx Z Z (faB 1 Z Z Tryz.underlying66 Z (by exact zue))<|z1q Zx Z Z (ld 1 Z Z (fP (z3b _)) zui Z)<|z1q Zx Z Z (z4o Z .rd Z tu22)<|z1q Zx Z Z (I.leq Z Z)<|Zq (pkT Z Z)<|Zm Z<|z1y 31 Z (fun h12=>?_) (fun h12=>?_)
   ·refine lKn 29 Z h12<|lKn 30 Z h12<|Zk Z<|Zk Z<|Zk Z<|Zk Z<|Zq (pkT Z Z)<|Zm Z<|Zk Z<|Zk Z<|Zk Z<|Zk Z<|Zq (pkT Z Z)<|Zb Z<|z0n<|Ze [] [] Z
   ·refine lKn 29 Z h12<|lKn 30 Z h12<|z1q Zx Z Z (faB 1 Z Z Tryz.underlying66 Z (by exact zue))<|z1q Zx Z Z (ld 1 Z Z (fP (z3b _)) zui Z)<|z1q Zx Z Z (z4o Z .rd Z tu22)<|z1q Zx Z Z (I.gtr Z Z)<|Zq (pkF Z Z)<|Zm Z<|z1y 37 Z (fun h13=>?_) (fun h13=>?_)
    ·refine lKn 35 Z h13<|lKn 36 Z h13<|Zk Z<|Zk Z<|Zk Z<|Zk Z<|Zq (pkT Z Z)<|Zb Z<|z0n<|Ze [] [] Z
    ·refine lKn 35 Z h13<|lKn 36 Z h13<|z1q Zx Z Z (faB 1 Z Z Tryz.underlying66 Z (by exact zc1))<|z1q Zx Z Z (ld 1 Z Z (fP (zb1 _)) zdd Z)<|z1q Zx Z Z (z4o Z .rd Z tu29)<|z1q Zx Z Z (I.gtr Z Z)<|Zq (pkF Z Z)<|Za Z<|z1k 2 Z fun y14=>Zn<|z0n<|Ze [] [] Z
  ·refine lKn 24 Z h11<|Zk Z<|Zk Z<|Zk Z<|Zk Z<|Zq (pkF Z Z)<|Zm Z<|z1q Zx Z Z (faB 1 Z Z Tryz.underlying66 Z (by exact zue))<|z1q Zx Z Z (ld 1 Z Z (fP (z3b _)) zui Z)<|z1q Zx Z Z (z4o Z .rd Z tu22)<|z1q Zx Z Z (I.gtr Z Z)<|Zq (pkF Z Z)<|Zm Z<|z1y 37 Z (fun h15=>?_) (fun h15=>?_)
   ·refine lKn 35 Z h15<|lKn 36 Z h15<|Zk Z<|Zk Z<|Zk Z<|Zk Z<|Zq (pkT Z Z)<|Zb Z<|z0n<|Ze [] [] Z
   ·refine lKn 35 Z h15<|lKn 36 Z h15<|z1q Zx Z Z (faB 1 Z Z Tryz.underlying66 Z (by exact zc1))<|z1q Zx Z Z (ld 1 Z Z (fP (zb1 _)) zdd Z)<|z1q Zx Z Z (z4o Z .rd Z tu29)<|z1q Zx Z Z (I.gtr Z Z)<|Zq (pkF Z Z)<|Za Z<|z1k 2 Z fun y16=>Zn<|z0n<|Ze [] [] Z
def z7e (a0:List z00):Option (Bool) :=
 z7f (⟨[],a0⟩:z2d) >>= fun r1 =>
 some r1
theorem zca (a0:List z00):z28 Tryz.prog 10 [.rd (z01 z03) a0] [] (z7e a0) (fun r nv=>⟨[.rd z09 r],[]⟩):=by
 refine z2o 6 Tryz.func10 Z Z Z fun H w=>?_
 refine gSR<|Zb Z<|gSR<|Zm Z<|Zq (bld (x':=(⟨[],a0⟩:z2d)) [(0,1),(1,1)] Tryz.underlying66 zyj Z zya Z (Bld.cons (z3b _) Z Z<|Bld.done Z))<|Zc [] [] Tryz.func29 Z (zcg _) fun r1 n2=>Zb Z<|z0n<|Ze [] [] Z
def z2n (a0:List V3) (s2:(List V3) × Int) (s6:Int):Option (Sum Int Int) :=
 if decide (s6<(s2.1.length:Int)) then
  idx s2.1 s6 >>= fun x8 =>
  idx a0 s2.2 >>= fun x10 =>
  z4s x8 x10 >>= fun r12 =>
  if decide (r12<0) then
   some (.inr (w64 (s6+1)))
  else
   some (.inl s6)
 else
  some (.inl s6)
def z3f (a0:List V3) (s2:(List V3) × Int):Option (Sum ((List V3)) ((List V3) × Int)) :=
 if decide (s2.2<(a0.length:Int)) then
  (iter (z2n a0 s2) 0) >>= fun s5 =>
  (if s5==(s2.1.length:Int) then
   some true
  else
   idx s2.1 s5 >>= fun x17 =>
   idx a0 s2.2 >>= fun x19 =>
   some (!decide (x17=x19))) >>= fun s15 =>
  if s15 then
   cut s2.1 0 s5 >>= fun x22 =>
   idx a0 s2.2 >>= fun x24 =>
   cut s2.1 s5 (s2.1.length:Int) >>= fun x26 =>
   app 32 ([]:List V3) x22 >>= fun x29 =>
   app 32 x29 [x24] >>= fun x33 =>
   app 32 x33 x26 >>= fun x36 =>
   some (w64 (s2.2+1)) >>= fun y39 =>
   some (.inr (x36,y39))
  else
   some (w64 (s2.2+1)) >>= fun y63 =>
   some (.inr (s2.1,y63))
 else
  some (.inl s2.1)
def z6k (a0:List V3):Option ((List V3)) :=
 (iter (z3f a0) ([],0)) >>= fun s1 =>
 some s1
theorem zc3 (a0:List V3):z28 Tryz.prog 110 [.rd (z01 aZ) a0] [] (z6k a0) (fun r nv=>⟨[.val (nv 0)],[(100,some (nv 0,.list aZ 45 r))]⟩):=by
 refine z2o 61 Tryz.func110 Z Z Z fun H w=>?_
 refine gSR<|Zb Z<|gSR<|Zb Z<|z7q (fun (s1:(List V3)) aa ww=>∃ nv:Nat→Value,Sta (ctx 61 H [] w) [(3,.val (nv 0))] [(53,some ((nv 0),.list aZ 45 s1))] aa ww) ?_ (fun s1=>?_)
 ·refine gSR<|Zb Z<|zmw aZ 45 107<|z23 (fun (s2:(List V3) × Int) aa ww=>∃ nv:Nat→Value,Sta (ctx 61 H [] w) [(0,.rd (z01 aZ) a0),(3,.val (nv 0)),(4,.rd z0h s2.2)] [(106,some ((nv 0),.list aZ 45 s2.1))] aa ww) (fun aa ww h=>⟨nvl [(.slice none 0 0)],Zu h [107]⟩) (fun s2=>?_)
  refine gEx fun n3=>z0t<|gSR<|Zm Z<|Zm Z<|Zq (z4o Z .rd Z tu29)<|Zq (I.lss Z Z)<|Zj Z (fun h4=>?_) (fun h4=>?_)
  ·refine Zt<|z0t<|z5o<|gSR<|Zb Z<|z7q (fun (s5:Int) aa ww=>Sta (ctx 61 H [] w) [(0,.rd (z01 aZ) a0),(3,.val (n3 0)),(4,.rd z0h s2.2),(5,.rd z0h s5)] [(106,some ((n3 0),.list aZ 45 s2.1))] aa ww) ?_ (fun s5=>?_)
   ·refine z23 (fun (s6:Int) aa ww=>Sta (ctx 61 H [] w) [(0,.rd (z01 aZ) a0),(3,.val (n3 0)),(4,.rd z0h s2.2),(5,.rd z0h s6)] [(106,some ((n3 0),.list aZ 45 s2.1))] aa ww) (fun aa ww h=>Zu h [106]) (fun s6=>?_)
    refine z0t<|z0t<|z8s [] mixed Z Z<|hTk 0 Z Z (mv Z)<|hTk 1 Z Z (mv Z)<|hTk 2 Z Z (z4o Z (.own 106 Z) Z tu29)<|hTk 3 Z Z (I.lss Z Z)<|hTk 4 Z Z (mv Z)<|hIf 16 Z Z (fun h7=>?_) (fun h7=>?_)
    ·refine hKn 15 Z Z h7<|Zg 5 Z Z (mv Z)<|Zg 6 Z Z (mv Z)<|z2r fun x8 h9=>Zg 7 Z Z (ixO 106 Z Z Z h9 tu29 z3o)<|Zg 8 Z Z (ld 106 Z Z (Foc.el h9) z8h Z)<|Zg 9 Z Z (mv Z)<|Zg 10 Z Z (mv Z)<|z2r fun x10 h11=>Zg 11 Z Z (ixR Z Z h11 tu29 z3o Z)<|Zg 12 Z Z (ldR Z z8h)<|z5e 13 [] [] Z (by kernel_rfl) Z Zx Z Tryz.func18 Z Z (z6r _ _) (Y2 Z Z) rN Z (fun _ _=>z42) fun r12 n13=>Zg 14 Z Z (I.lss Z Z)<|hTk 15 Z Z (pkT Z Z)<|z5x (by kernel_rfl)<|z0l<|gIf Z Z (fun h14=>?_) (fun h14=>?_)
     ·refine gKn 26 Z h14<|Zt<|z5o<|z27<|Zm Z<|Zq (I.add Z Z)<|Za Z<|z1w<|z2y<|z1l (fun aa ww h=>Zu h [106])
     ·refine gKn 26 Z h14<|z20<|z0u<|z0v<|z41 (fun aa ww h=>Zu h [106])
    ·refine hKn 15 Z Z h7<|hSk 5 Z Z<|hSk 6 Z Z<|hSk 7 Z Z<|hSk 8 Z Z<|hSk 9 Z Z<|hSk 10 Z Z<|hSk 11 Z Z<|hSk 12 Z Z<|hSk 13 Z Z<|hSk 14 Z Z<|hTk 15 Z Z (pkF Z Z)<|z5x (by kernel_rfl)<|z0l<|zb2 Z<|z20<|z0u<|z0v<|z41 (fun aa ww h=>Zu h [106])
   ·refine z7q (fun (s15:Bool) aa ww=>Sta (ctx 61 H [] w) [(0,.rd (z01 aZ) a0),(3,.val (n3 0)),(4,.rd z0h s2.2),(5,.rd z0h s5),(44,.rd z09 s15)] [(106,some ((n3 0),.list aZ 45 s2.1))] aa ww) ?_ (fun s15=>?_)
    ·refine zdz mixed (by kernel_rfl)<|Rq Z (mv Z)<|Rq Z (mv Z)<|Rq Z (z4o Z (.own 106 Z) Z tu29)<|Rq Z (I.eql Z Z)<|Rq Z (mv Z)<|zvs 34 Z (fun h16=>?_) (fun h16=>?_)
     ·refine qKn 33 Z h16<|zhw Zx Z Z<|zhw Zx Z Z<|zhw Zx Z Z<|zhw Zx Z Z<|zhw Zx Z Z<|zhw Zx Z Z<|zhw Zx Z Z<|zhw Zx Z Z<|zhw Zx Z Z<|Rq Z (pkT Z Z)<|zm7<|z41 (fun aa ww h=>Zu h [106])
     ·refine qKn 33 Z h16<|zqb Zx Z Z (mv Z)<|zqb Zx Z Z (mv Z)<|z60 fun x17 h18=>zqb Zx Z Z (ixO 106 Z Z Z h18 tu29 z3o)<|zqb Zx Z Z (ld 106 Z Z (Foc.el h18) z8h Z)<|zqb Zx Z Z (mv Z)<|zqb Zx Z Z (mv Z)<|z60 fun x19 h20=>zqb Zx Z Z (ixR Z Z h20 tu29 z3o Z)<|zqb Zx Z Z (ldR Z z8h)<|zqb Zx Z Z (neA Z Z zur Z Z zw4)<|Rq Z (pkF Z Z)<|zm7<|z41 (fun aa ww h=>Zu h [106])
    ·refine gIf Z Z (fun h21=>?_) (fun h21=>?_)
     ·refine z8s [159,186] mixed Z Z<|hTk 1 Z Z (mv Z)<|hTk 2 Z Z (mv Z)<|zs6 106 [3,46] Z (fS Z<|fS Z<|fN)<|z2r fun x22 h23=>zpl 3 Z (by kernel_rfl) (by kernel_rfl) (by kernel_rfl) (gd0 Z) Z Z (zv8 Z .no (.to Z) h23 tu29 z3o)<|hTk 5 Z Z (mv Z)<|hTk 6 Z Z (mv Z)<|z2r fun x24 h25=>hTk 7 Z Z (ixR Z Z h25 tu29 z3o Z)<|hTk 8 Z Z (ldR Z z8h)<|zpl 11 Z (by kernel_rfl) (by kernel_rfl) (by kernel_rfl) (gd0 Z) Z Z (mv Z)<|hTk 12 Z Z (mv Z)<|z2r fun x26 h27=>zpl 13 Z (by kernel_rfl) (by kernel_rfl) (by kernel_rfl) (gd0 Z) Z Z (zv8 Z (.to Z) .no h27 tu29 z3o)<|zwg [0,9] (by kernel_rfl) Z ⟨?_,?_,trivial⟩
      ·refine oDo 0 Z (gd0 Z) Z Z Z (lit (R:=aZ) (([]:List V3):List V3) 159 (pN) Z tu29 z3o Z Z) (fun _=>rfl) fun v28=>zwg [4,9] (by kernel_rfl) Z ⟨?_,?_,trivial⟩
       ·refine zxk fun x29 h30=>oDo 4 Z (gd0 Z) Z Z Z (apn 159 Z Z Z .rd h30 tu29 z3o Z Z Z) (fun _=>rfl) fun v31=>Zo 9 Z Z Z (lit (R:=aZ) ([x24]:List V3) 186 (pP Z Z<|pN) Z tu29 z3o Z Z) fun v32=>zs6 186 [54] Z (fS Z<|fN)<|z2r fun x33 h34=>Zo 10 Z Z Z (apn 159 Z Z Z .rd h34 tu29 z3o Z Z Z) fun v35=>z2r fun x36 h37=>Zo 14 Z Z Z (apn 159 Z Z Z .rd h37 tu29 z3o Z Z Z) fun v38=>Zf 15 Z Z z2c (asg Z)<|z5x (by kernel_rfl)<|z2y<|z0l<|z27<|Zm Z<|Zq (I.add Z Z)<|Za Z<|z1k 4 Z fun y39=>z1w<|z1l (fun aa ww h=>⟨nvl [v38],Zu h [159]⟩)
       ·refine oDo 9 Z (gd0 Z) Z Z Z (lit (R:=aZ) ([x24]:List V3) 186 (pP Z Z<|pN) Z tu29 z3o Z Z) (fun _=>rfl) fun v40=>z2r fun x41 h42=>Zo 4 Z Z Z (apn 159 Z Z Z .rd h42 tu29 z3o Z Z Z) fun v43=>zs6 186 [54] Z (fS Z<|fN)<|z2r fun x44 h45=>Zo 10 Z Z Z (apn 159 Z Z Z .rd h45 tu29 z3o Z Z Z) fun v46=>z2r fun x47 h48=>Zo 14 Z Z Z (apn 159 Z Z Z .rd h48 tu29 z3o Z Z Z) fun v49=>Zf 15 Z Z z2c (asg Z)<|z5x (by kernel_rfl)<|z2y<|z0l<|z27<|Zm Z<|Zq (I.add Z Z)<|Za Z<|z1k 4 Z fun y50=>z1w<|z1l (fun aa ww h=>⟨nvl [v49],Zu h [159]⟩)
      ·refine oDo 9 Z (gd0 Z) Z Z Z (lit (R:=aZ) ([x24]:List V3) 186 (pP Z Z<|pN) Z tu29 z3o Z Z) (fun _=>rfl) fun v51=>Zo 0 Z Z Z (lit (R:=aZ) (([]:List V3):List V3) 159 (pN) Z tu29 z3o Z Z) fun v52=>z2r fun x53 h54=>Zo 4 Z Z Z (apn 159 Z Z Z .rd h54 tu29 z3o Z Z Z) fun v55=>zs6 186 [54] Z (fS Z<|fN)<|z2r fun x56 h57=>Zo 10 Z Z Z (apn 159 Z Z Z .rd h57 tu29 z3o Z Z Z) fun v58=>z2r fun x59 h60=>Zo 14 Z Z Z (apn 159 Z Z Z .rd h60 tu29 z3o Z Z Z) fun v61=>Zf 15 Z Z z2c (asg Z)<|z5x (by kernel_rfl)<|z2y<|z0l<|z27<|Zm Z<|Zq (I.add Z Z)<|Za Z<|z1k 4 Z fun y62=>z1w<|z1l (fun aa ww h=>⟨nvl [v61],Zu h [159]⟩)
     ·refine z2s<|z2y<|z0l<|z27<|Zm Z<|Zq (I.add Z Z)<|Za Z<|z1k 4 Z fun y63=>z1w<|z1l (fun aa ww h=>⟨nvl [(n3 0)],Zu h [106]⟩)
  ·refine z20<|z0u<|z0v<|z41 (fun aa ww h=>⟨nvl [(n3 0)],Zu h [106]⟩)
 ·refine gEx fun n64=>gSR<|Zm Z<|Zb Z<|z0n<|Ze [(n64 0)] [53] Z
def z52 (a0:List V3) (a1:List V3) (s2:(List V3) × Int):Option (Sum ((List V3)) ((List V3) × Int)) :=
 if decide (s2.2<(a1.length:Int)) then
  idx a1 s2.2 >>= fun x5 =>
  z5k a0 x5 >>= fun r7 =>
  if decide (r7<0) then
   idx a1 s2.2 >>= fun x10 =>
   app 32 s2.1 [x10] >>= fun x13 =>
   some (w64 (s2.2+1)) >>= fun y16 =>
   some (.inr (x13,y16))
  else
   some (w64 (s2.2+1)) >>= fun y17 =>
   some (.inr (s2.1,y17))
 else
  some (.inl s2.1)
def z6j (a0:List V3) (a1:List V3):Option ((List V3)) :=
 (iter (z52 a0 a1) ([],0)) >>= fun s1 =>
 z6k s1 >>= fun r19 =>
 some r19
theorem zbv (a0:List V3) (a1:List V3):z28 Tryz.prog 61 [.rd (z01 aZ) a0,.rd (z01 aZ) a1] [] (z6j a0 a1) (fun r nv=>⟨[.val (nv 0)],[(100,some (nv 0,.list aZ 45 r))]⟩):=by
 refine z2o 29 Tryz.func61 Z Z Z fun H w=>?_
 refine gSR<|Zb Z<|gSR<|Zb Z<|z7q (fun (s1:(List V3)) aa ww=>∃ nv:Nat→Value,Sta (ctx 29 H [] w) [(5,.val (nv 0))] [(2,some ((nv 0),.list aZ 45 s1))] aa ww) ?_ (fun s1=>?_)
 ·refine gSR<|Zb Z<|zmw aZ 45 5<|z23 (fun (s2:(List V3) × Int) aa ww=>∃ nv:Nat→Value,Sta (ctx 29 H [] w) [(0,.rd (z01 aZ) a0),(1,.rd (z01 aZ) a1),(5,.val (nv 0)),(6,.rd z0h s2.2)] [(4,some ((nv 0),.list aZ 45 s2.1))] aa ww) (fun aa ww h=>⟨nvl [(.slice none 0 0)],Zu h [5]⟩) (fun s2=>?_)
  refine gEx fun n3=>z0t<|gSR<|Zm Z<|Zm Z<|Zq (z4o Z .rd Z tu29)<|Zq (I.lss Z Z)<|Zj Z (fun h4=>?_) (fun h4=>?_)
  ·refine Zt<|z0t<|z5o<|gSR<|Zm Z<|Zm Z<|Zm Z<|z0k fun x5 h6=>Zq (ixR Z Z h6 tu29 z3o Z)<|Zq (ldR Z z8h)<|Zc [] [] Tryz.func17 Z (z78 _ _) fun r7 n8=>Zq (I.lss Z Z)<|Zj Z (fun h9=>?_) (fun h9=>?_)
   ·refine z27<|Zm Z<|Zm Z<|Zm Z<|z0k fun x10 h11=>Zq (ixR Z Z h11 tu29 z3o Z)<|Zq (ldR Z z8h)<|Ef Z (lit (R:=aZ) ([x10]:List V3) 6 (pP Z Z<|pN) Z tu29 z3o Z Z) fun v12=>zcq 6 [25] Z (fS Z<|fN)<|z0k fun x13 h14=>Ef Z (apn 4 Z Z Z .rd h14 tu29 z3o Z Z Z) fun v15=>Za Z<|z1w<|z2y<|z0l<|z27<|Zm Z<|Zq (I.add Z Z)<|Za Z<|z1k 6 Z fun y16=>z1w<|z1l (fun aa ww h=>⟨nvl [v15],Zu h [4]⟩)
   ·refine z2s<|z2y<|z0l<|z27<|Zm Z<|Zq (I.add Z Z)<|Za Z<|z1k 6 Z fun y17=>z1w<|z1l (fun aa ww h=>⟨nvl [(n3 0)],Zu h [4]⟩)
  ·refine z20<|z0u<|z0v<|z41 (fun aa ww h=>⟨nvl [(n3 0)],Zu h [4]⟩)
 ·refine gEx fun n18=>gSR<|Zm Z<|zcq 2 [5,27] Z (fS Z<|fS Z<|fN)<|Zc [] [(100,7)] Tryz.func110 Z (zc3 _) fun r19 n20=>Zb Z<|z0n<|Ze [(n20 0)] [7] Z
end
section
open Go Go.Shelf
def zmm:Go.Shelf.Ren:=⟨fun | 6=>87 | 15=>94 | 14=>130 | 28=>139 | 29=>105 | 20=>172 | 21=>173 | 22=>174 | 23=>175 | 24=>176 | 25=>177 | 26=>178 | 27=>179 | 46=>210 | 47=>181 | 48=>182 | 49=>211 | 50=>212 | 57=>231 | n=>n, fun | 22=>88 | 24=>94 | 25=>137 | 3=>3 | 39=>143 | 0=>0 | 53=>34 | 55=>35 | 4=>4 | 46=>181 | 45=>180 | 50=>106 | 5=>5 | 9=>9 | 66=>225 | 70=>229 | 76=>260 | 77=>261 | n=>n, fun | n=>n⟩
theorem zs4:Go.Proofs.SlLaysF0.n6 Tryz.prog zmm:={
 mixed:=by kernel_rfl
 f6:=⟨Tryz.f87.name, by decide,Tryz.func87.trans (congrArg some (by kernel_rfl))⟩
 f14:=⟨Tryz.f130.name, by decide,Tryz.func130.trans (congrArg some (by kernel_rfl))⟩
 f15:=Tryz.func94.trans (congrArg some (by kernel_rfl))
 f20:=⟨Tryz.f172.name, by decide,Tryz.func172.trans (congrArg some (by kernel_rfl))⟩
 f21:=⟨Tryz.f173.name, by decide,Tryz.func173.trans (congrArg some (by kernel_rfl))⟩
 f22:=⟨Tryz.f174.name, by decide,Tryz.func174.trans (congrArg some (by kernel_rfl))⟩
 f23:=⟨Tryz.f175.name, by decide,Tryz.func175.trans (congrArg some (by kernel_rfl))⟩
 f24:=⟨Tryz.f176.name, by decide,Tryz.func176.trans (congrArg some (by kernel_rfl))⟩
 f25:=⟨Tryz.f177.name, by decide,Tryz.func177.trans (congrArg some (by kernel_rfl))⟩
 f26:=⟨Tryz.f178.name, by decide,Tryz.func178.trans (congrArg some (by kernel_rfl))⟩
 f27:=⟨Tryz.f179.name, by decide,Tryz.func179.trans (congrArg some (by kernel_rfl))⟩
 f28:=Tryz.func139.trans (congrArg some (by kernel_rfl))
 f29:=Tryz.func105.trans (congrArg some (by kernel_rfl))
 f46:=⟨Tryz.f210.name, by decide,Tryz.func210.trans (congrArg some (by kernel_rfl))⟩
 f47:=Tryz.func181.trans (congrArg some (by kernel_rfl))
 f48:=Tryz.func182.trans (congrArg some (by kernel_rfl))
 f49:=⟨Tryz.f211.name, by decide,Tryz.func211.trans (congrArg some (by kernel_rfl))⟩
 f50:=⟨Tryz.f212.name, by decide,Tryz.func212.trans (congrArg some (by kernel_rfl))⟩
 f57:=⟨Tryz.f231.name, by decide,Tryz.func231.trans (congrArg some (by kernel_rfl))⟩
 t0:=Tryz.underlying0
 a0:=Tryz.isAgg0
 z0:=Tryz.sizeOf0
 v0:=Tryz.zeroValue0
 t3:=Tryz.underlying3
 a3:=Tryz.isAgg3
 z3:=Tryz.sizeOf3
 v3:=Tryz.zeroValue3
 t4:=Tryz.underlying4
 a4:=Tryz.isAgg4
 z4:=Tryz.sizeOf4
 v4:=Tryz.zeroValue4
 t5:=Tryz.underlying5
 a5:=Tryz.isAgg5
 z5:=Tryz.sizeOf5
 v5:=Tryz.zeroValue5
 t9:=Tryz.underlying9
 a9:=Tryz.isAgg9
 z9:=Tryz.sizeOf9
 v9:=Tryz.zeroValue9
 t22:=Tryz.underlying88
 a22:=Tryz.isAgg88
 z22:=Tryz.sizeOf88
 v22:=Tryz.zeroValue88
 t25:=Tryz.underlying137
 a25:=Tryz.isAgg137
 z25:=Tryz.sizeOf137
 v25:=Tryz.zeroValue137
 t39:=Tryz.underlying143
 a39:=Tryz.isAgg143
 z39:=Tryz.sizeOf143
 v39:=Tryz.zeroValue143
 t45:=Tryz.underlying180
 a45:=Tryz.isAgg180
 z45:=Tryz.sizeOf180
 v45:=Tryz.zeroValue180
 t46:=Tryz.underlying181
 a46:=Tryz.isAgg181
 z46:=Tryz.sizeOf181
 v46:=Tryz.zeroValue181
 t50:=Tryz.underlying106
 a50:=Tryz.isAgg106
 z50:=Tryz.sizeOf106
 v50:=Tryz.zeroValue106
 t53:=Tryz.underlying34
 a53:=Tryz.isAgg34
 z53:=Tryz.sizeOf34
 v53:=Tryz.zeroValue34
 t55:=Tryz.underlying35
 a55:=Tryz.isAgg35
 z55:=Tryz.sizeOf35
 v55:=Tryz.zeroValue35
 t66:=Tryz.underlying225
 a66:=Tryz.isAgg225
 z66:=Tryz.sizeOf225
 v66:=Tryz.zeroValue225
 t70:=Tryz.underlying229
 a70:=Tryz.isAgg229
 z70:=Tryz.sizeOf229
 v70:=Tryz.zeroValue229
 t76:=Tryz.underlying260
 a76:=Tryz.isAgg260
 z76:=Tryz.sizeOf260
 v76:=Tryz.zeroValue260
 t77:=Tryz.underlying261
 a77:=Tryz.isAgg261
 z77:=Tryz.sizeOf261
 v77:=Tryz.zeroValue261 }
end
section
open Go Go.Shelf Go.RowKit Go.Sort
section
variable {α:Type} (x0:α) (cf:α→α→Int)
def ltI (l:List α) (i j:Nat):Int:=cf (l.getD i x0) (l.getD j x0)
def zq9 (l:List α):List α:=(pdq (ltOf (ltI x0 cf l)) (Array.range l.length) 0 l.length (Lib.bitLen l.length) true true).toList.map fun i=>l.getD i x0
theorem zxq (hO:SWO (ltOf cf)) (l:List α):SWO (ltOf (ltI x0 cf l)) where
 irrefl x:=hO.irrefl _
 trans x y z h1 h2:=hO.trans _ _ _ h1 h2
 ntrans x y z h1 h2:=hO.ntrans _ _ _ h1 h2
theorem zy8 (hO:SWO (ltOf cf)) (l:List α):∃ d:List Nat,d.Perm (List.range l.length)∧zq9 x0 cf l=d.map (fun i=>l.getD i x0)∧d.Pairwise fun i j=>¬ cf (l.getD j x0) (l.getD i x0)<0:=by
 have h:=pdq_sorts (ltOf (ltI x0 cf l)) (zxq x0 cf hO l) (Array.range l.length) 0 l.length (Lib.bitLen l.length) true true (Nat.zero_le _) (by simp) (Or.inl rfl)
 have hs:(pdq (ltOf (ltI x0 cf l)) (Array.range l.length) 0 l.length (Lib.bitLen l.length) true true).size=l.length:=by rw [h.1.1]; simp
 refine ⟨_,?_,rfl,?_⟩
 ·have p:=h.1.2.2
  rw [Array.extract_eq_self_of_le (by omega),Array.extract_eq_self_of_le (by simp)] at p
  simpa using p
 ·rw [List.pairwise_iff_getElem]
  intro i j hi hj hij
  have q:=h.2 i j (Nat.zero_le _) hij (by simpa [hs] using hj)
  rw [getElem!_pos _ i (by simpa using hi),getElem!_pos _ j (by simpa using hj)] at q
  simpa [ltOf,ltI] using q
theorem zj7 (hO:SWO (ltOf cf)) (l:List α):(zq9 x0 cf l).Perm l:=by
 obtain ⟨d,h1,h2,_⟩:=zy8 x0 cf hO l
 rw [h2]
 refine (h1.map _).trans (List.Perm.of_eq ?_)
 apply List.ext_getElem (by simp)
 intro i h1 h2
 simp [List.getD_eq_getElem?_getD,h2]
theorem zki (hO:SWO (ltOf cf)) (l:List α):(zq9 x0 cf l).Pairwise fun x y=>¬ cf y x<0:=by
 obtain ⟨d,_,h2,h3⟩:=zy8 x0 cf hO l
 rw [h2,List.pairwise_map]
 exact h3
theorem zqn (hO:SWO (ltOf cf)) (l:List α):(zq9 x0 cf l).length=l.length:=(zj7 x0 cf hO l).length_eq
end
theorem zlb {α:Type} {R:Rep α} {S:Blk} {w:World}:∀ {l:List α} {cs:List Value} (i:Nat) (hi:i<l.length),z51 R S w cs l→R.rel S w ((cs.drop (i * R.sz)).take R.sz) l[i]
 | x::l,cs,0,hi,h=>by
  obtain ⟨c,d,rfl,h1,h2⟩:=h
  have:=R.len h1
  simp [← this,h1]
 | x::l,cs,i+1,hi,h=>by
  obtain ⟨c,d,rfl,h1,h2⟩:=h
  have hc:=R.len h1
  have:=zlb i (by simpa using hi) h2
  rw [show (i+1) * R.sz=c.length+i * R.sz by rw [hc,Nat.add_mul]; omega]
  simpa using this
theorem zjf (k:Nat):∀ (n:Nat) (cs:List Value),cs.length=n * k→(List.range n).flatMap (fun i=>(cs.drop (i * k)).take k)=cs
 | 0,cs,h=>by simp at h; simp [h]
 | n+1,cs,h=>by
  have ih:=zjf k n (cs.take (n * k)) (by rw [List.length_take,h,Nat.add_mul]; omega)
  rw [List.range_succ,List.flatMap_append]
  have e:(List.range n).flatMap (fun i=>(cs.drop (i * k)).take k)=(List.range n).flatMap (fun i=>((cs.take (n * k)).drop (i * k)).take k):=by
   simp only [List.flatMap_def]
   congr 1
   apply List.map_congr_left
   intro i hi
   have hi':i<n:=by simpa using hi
   rw [List.drop_take,List.take_take]
   have:k≤n * k - i * k:=by
    rw [← Nat.sub_mul]
    exact Nat.le_mul_of_pos_left k (by omega)
   rw [Nat.min_eq_left this]
  rw [e,ih]
  simp only [List.flatMap_cons,List.flatMap_nil,List.append_nil]
  rw [List.take_of_length_le (l:=cs.drop (n * k)) (by rw [List.length_drop,h,Nat.add_mul]; omega),List.take_append_drop]
theorem zou {α:Type} {R:Rep α} {S:Blk} {w:World} {enc:Nat→List Value} {g:Nat→α} (h:∀ i,R.rel S w (enc i) (g i)):∀ is:List Nat,z51 R S w (is.flatMap enc) (is.map g)
 | []=>rfl
 | i::is=>⟨enc i,is.flatMap enc,List.flatMap_cons,h i,zou h is⟩
theorem znx {α:Type} {R:Rep α} (hagg:R.agg=true) (x0:α) (r0:List Value) (hz:∀ S w,R.rel S w r0 x0) (cf:α→α→Int) (hO:SWO (ltOf cf)) {P:Program} {f g T:Nat}
  (hnone:∀ (cap:Nat) (w:World),Calls P f #[.slice none 0 cap,.func (.func g) #[] #[]] w fun e w'=>e=.returned (.tuple #[])∧w'=w)
  (hsome:∀ (enc:Nat→List Value) (hk:∀ x,(enc x).length=R.sz) (h1:∀ x,∀ v∈enc x,v.oneCell'=true) (cf':Nat→Nat→Int) (hO:SWO (ltOf cf')) (blk cap:Nat) (d:Array Nat) (w:World),
   CmpLays P g #[] enc R.sz cf' blk 0 d.size w→HoldsK enc R.sz w blk 0 d→blk<w.heap.size→d.size<4611686018427387904 →
   Calls P f #[.slice (some ⟨blk,0,none⟩) d.size cap,.func (.func g) #[] #[]] w fun e w'=>e=.returned (.tuple #[])∧∃ n os,w'=sortWorldK enc R.sz w blk 0 n (pdq (ltOf cf') d 0 d.size (Lib.bitLen d.size) true true) os)
  (hcmp:∀ (x y:α) (c d:List Value) (S:Blk) (w W:World),R.rel S w c x→R.rel S w d y→Calls P g #[.agg c.toArray,.agg d.toArray] W fun e w'=>e=.returned (.int .i64 (cf x y))∧∃ q os',w'=grow (W.drewN q) os')
  (p0:Value) (c0:List α):z28 P f [.val p0,.val (.func (.func g) #[] #[])] [(1,some (p0,.list R T c0))] (chk (c0.length≤1000000) >>= fun _=>some (zq9 x0 cf c0))
   (fun r nv=>⟨[],[(1,some (p0,.list R T r))]⟩):=by
 intro r hr H vs w hvs hres
 have hb:c0.length≤1000000∧r=zq9 x0 cf c0:=by
  unfold chk at hr
  split at hr
  ·rename_i h; simp at hr; exact ⟨h,hr.symm⟩
  ·simp at hr
 obtain ⟨hlen0,rfl⟩:=hb
 match vs,hvs with
 | [v0,v1],hvs =>
 obtain ⟨h0,h1,_⟩:=hvs
 have e0:v0=p0:=h0.1
 have e1:v1=.func (.func g) #[] #[]:=h1.1
 subst e0; subst e1
 have hc:=hres.conts 1 v0 _ rfl
 have only:∀ r v c (q:z4d),lr [(1,some (v0,q))] r=some (v,c)→r=1∧v=v0∧c=q:=fun r v c q h=>by
  rw [z29] at h
  split at h
  ·rename_i e; cases h; exact ⟨e.symm,rfl,rfl⟩
  ·simp [lr,lk] at h
 have hlen:=zqn x0 cf hO
 rcases hc with ⟨rfl,rfl⟩ | ⟨b,o,k1,k2,b',cap,C,k3,rfl,k4,k5,k6,k7⟩
 ·refine (hnone 0 w).mono fun e w' ⟨he,hw⟩=>?_
  subst hw
  refine ⟨fun _=>undef,[],he,trivial, fun r v c h=>?_, fun r v c r' v' c' h h' hne=>?_, fun r v c h b hb=>?_,zek.rfl'⟩
  ·obtain ⟨rfl,rfl,rfl⟩:=only _ _ _ _ h
   have:zq9 x0 cf ([]:List α)=[]:=List.eq_nil_of_length_eq_zero (by rw [hlen]; rfl)
   exact .inl ⟨rfl,this⟩
  ·exact absurd ((only _ _ _ _ h).1.trans (only _ _ _ _ h').1.symm) hne
  ·obtain ⟨rfl,rfl,rfl⟩:=only _ _ _ _ h; cases hb
 ·subst k3
  simp only [z3s,Option.some.injEq] at k1
  subst k1
  have hlt:b'<w.heap.size:=(Array.getElem?_eq_some_iff.1 k2).1
  have hC:c0.length * R.sz≤C.size:=by rw [k6]; exact Nat.mul_le_mul_right _ k4
  let cs:=C.toList.take (c0.length * R.sz)
  have hcs:z51 R (Shr H [(1,some (.slice (some ⟨b',0,none⟩) c0.length cap,.list R T c0))] w) w cs c0:=k7
  let enc:Nat→List Value:=fun i=>if i<c0.length then (cs.drop (i * R.sz)).take R.sz else r0
  have henc:∀ i,R.rel (Shr H [(1,some (.slice (some ⟨b',0,none⟩) c0.length cap,.list R T c0))] w) w (enc i) (c0.getD i x0):=fun i=>by
   by_cases hi:i<c0.length
   ·have:=zlb i hi hcs
    simp only [enc,if_pos hi,List.getD_eq_getElem?_getD,List.getElem?_eq_getElem hi,Option.getD_some]; exact this
   ·simp only [enc,if_neg hi,List.getD_eq_getElem?_getD,List.getElem?_eq_none (Nat.le_of_not_lt hi),Option.getD_none]; exact hz _ _
  have hk:∀ i,(enc i).length=R.sz:=fun i=>R.len (henc i)
  have hflat:(List.range c0.length).flatMap enc=cs:=by
   have:=zjf R.sz c0.length cs (hcs.len)
   rw [← this]
   simp only [List.flatMap_def]
   congr 1
   apply List.map_congr_left
   intro i hi
   have hi':i<c0.length:=by simpa using hi
   simp only [enc,if_pos hi']
  have hH:HoldsK enc R.sz w b' 0 (Array.range c0.length):=by
   have:=zea enc R.sz hk (List.range c0.length) k2 (by rw [List.length_range,hflat])
   rwa [show (List.range c0.length).toArray=Array.range c0.length from by simp] at this
  have hso:=hsome enc hk (fun i v hv=>R.one (henc i) v hv) (ltI x0 cf c0) (zxq x0 cf hO c0) b' cap (Array.range c0.length) w
   (fun m os dk hdk x y=>hcmp _ _ _ _ _ w _ (henc x) (henc y)) hH hlt (by simp; omega)
  rw [Array.size_range] at hso
  refine hso.mono fun e w' ⟨he,n,os,hw⟩=>?_
  obtain ⟨d,d1,d2,-⟩:=(⟨_,rfl,rfl,trivial⟩:∃ d:List Nat,d=(pdq (ltOf (ltI x0 cf c0)) (Array.range c0.length) 0 c0.length (Lib.bitLen c0.length) true true).toList∧zq9 x0 cf c0=d.map (fun i=>c0.getD i x0)∧True)
  have dl:d.length=c0.length:=by have:=hlen c0; rw [d2] at this; simpa using this
  have da:pdq (ltOf (ltI x0 cf c0)) (Array.range c0.length) 0 c0.length (Lib.bitLen c0.length) true true=d.toArray:=by rw [d1]
  rw [da] at hw
  rw [d2]
  subst hw
  have only':=only
  have hst:z7m (Shr H [(1,some (.slice (some ⟨b',0,none⟩) c0.length cap,.list R T c0))] w) (Shr H [(1,some (.slice (some ⟨b',0,none⟩) c0.length cap,.list R T (d.map fun i=>c0.getD i x0)))] (sortWorldK enc R.sz w b' 0 n d.toArray os)) w (sortWorldK enc R.sz w b' 0 n d.toArray os):=fun i hi=>by
   have hne:i≠b':=fun e=>hi.2.1 1 _ _ rfl (by rw [e]; rfl)
   refine ⟨⟨?_, fun r v c h=>?_,hi.2.2⟩,ze2 enc R.sz w b' n _ os hi.1 hne⟩
   ·show i<(w.heap.modify b' _++os).size
    have:=hi.1
    simp; omega
   ·obtain ⟨rfl,rfl,rfl⟩:=only _ _ _ _ h
    exact hi.2.1 1 _ _ rfl
  refine ⟨fun _=>undef,[],he,trivial, fun r v c h=>?_, fun r v c r' v' c' h h' hne=>?_, fun r v c h b hb=>?_,rfl,rfl,rfl,?_, fun i hi=>?_⟩
  ·obtain ⟨rfl,rfl,rfl⟩:=only _ _ _ _ h
   refine .inr ⟨b',_,rfl,zom enc R.sz w n _ os k2,b',cap,_, by rw [List.length_map,dl],rfl, by rw [List.length_map,dl]; exact k4,k5,?_,?_⟩
   ·rw [← k6]; simp [putCells]
   ·rw [List.length_map,zl8 enc R.sz hk d C (by rw [dl]; exact hC)]
    exact zou (fun i=>R.mono hst (henc i)) d
  ·exact absurd ((only _ _ _ _ h).1.trans (only _ _ _ _ h').1.symm) hne
  ·obtain ⟨rfl,rfl,rfl⟩:=only _ _ _ _ h
   exact .inr ⟨1,_,_,rfl,hb⟩
  ·show w.heap.size≤(w.heap.modify b' _++os).size
   simp
  ·exact ze2 enc R.sz w b' n _ os hi.1 fun e=>hi.2 ⟨1,_,_,rfl, by rw [e]; rfl⟩
end
section
open Go Go.Shelf Go.RowKit Go.Lib Go.Sort
theorem zrp (W:World) (o1 o2:Obj) (q:Nat) (os':Array Obj):grow (((W.alloc o1).alloc o2).drewN q) os'=grow (W.drewN q) (#[o1,o2]++os'):=by
 have:(W.heap.push o1).push o2++os'=W.heap++(#[o1,o2]++os'):=by apply Array.toList_inj.1; simp
 show ({ W with drawn:=W.drawn+q,heap:=(W.heap.push o1).push o2++os' }:World) = { W with drawn:=W.drawn+q,heap:=W.heap++(#[o1,o2]++os') }
 rw [this]
theorem zxp {S:Blk} {w:World} {c:List Value} {x:z02} (h:(z05).rel S w c x):∃ c1:List Value,c1.length=11∧c=c1++z47 x.id:=by
 obtain ⟨c1,c2,rfl,h1,c3,c4,rfl,h2,h3⟩:=h
 refine ⟨c1,z03.len h1,?_⟩
 have h3:c4=[]:=h3
 rw [h3,List.append_nil,zg3 h2]; rfl
theorem zw5 {w:World} {b:Nat} {c1:List Value} {x:V3} {T:TypeId} {fr:Nat × Nat} (h:w.heap[b]? = some (.cells (c1++z47 x).toArray T fr)) (hl:c1.length=11):(loadVar 45 ⟨b,11,none⟩).run Tryz.prog w=.ok (.agg (z47 x).toArray) w:=by
 refine zfu zxs z3o (za7 x) fun j u hu=>?_
 rw [z40]
 unfold World.cell?
 rw [h]
 have:(c1++z47 x)[11+j]? = some u:=by rw [← hl,List.getElem?_append_right (by omega),Nat.add_sub_cancel_left]; exact hu
 simpa using this
set_option maxHeartbeats 1000000 in
set_option maxRecDepth 100000 in
theorem zz8 (c1 d1:List Value) (hc:c1.length=11) (hd:d1.length=11) (x y:V3) (W:World) :
  Calls Tryz.prog 88 #[.agg (c1++z47 x).toArray,.agg (d1++z47 y).toArray] W fun e w'=>e=.returned (.int .i64 (Lib.compareBytes x.toList y.toList))∧∃ q os',w'=grow (W.drewN q) os':=by
 obtain ⟨W1,hW1⟩:∃ W1,W1=W.alloc (.cells (c1++z47 x).toArray 94):=⟨_,rfl⟩
 obtain ⟨W2,hW2⟩:∃ W2,W2=W1.alloc (.cells (d1++z47 y).toArray 94):=⟨_,rfl⟩
 have l0:(loadVar 45 ⟨W.heap.size,11,none⟩).run Tryz.prog W2=.ok (.agg (z47 x).toArray) W2:=zw5 (c1:=c1) (T:=94) (fr:=(0,0)) (by
  rw [hW2,hW1]; show ((W.heap.push _).push _)[W.heap.size]? = _
  rw [Array.getElem?_push_lt (by simp)]; simp) hc
 have l1:(loadVar 45 ⟨W1.heap.size,11,none⟩).run Tryz.prog W2=.ok (.agg (z47 y).toArray) W2:=zw5 (c1:=d1) (T:=94) (fr:=(0,0)) (by
  rw [hW2]; show (W1.heap.push _)[W1.heap.size]? = _
  rw [Array.getElem?_push_size]) hd
 go_enter Tryz.func88,Tryz.ntmps88
 refine wp_seq (wp_region_lit ?_)
 refine st (z8c rfl) (v:=.pointer (some ⟨W.heap.size,0,none⟩)) (w':=W1) (by rw [hW1]; simp [execOp,Act.eval,Act.put]; rfl) ?_
 refine st (z8c rfl) (v:=.pointer (some ⟨W1.heap.size,0,none⟩)) (w':=W2) (by rw [hW2]; simp [execOp,Act.eval,Act.put]; rfl) ?_
 refine st (z8c rfl) (v:=.int .i64 0) (w':=W2) (by simp [execOp,Act.eval]) ?_
 refine wp_seq (wp_region_lit ?_)
 refine st (z8c rfl) (v:=.pointer (some ⟨W.heap.size,11,none⟩)) (w':=W2) (by simp [execOp,Act.eval,Act.put]; rfl) ?_
 refine st (z8c rfl) (v:=.agg (z47 x).toArray) (w':=W2) (by simp [execOp,Act.eval,Act.put,Instr.loadAt,Instr.sureAddr,l0]) ?_
 refine st (z8c rfl) (v:=.pointer (some ⟨W1.heap.size,11,none⟩)) (w':=W2) (by simp [execOp,Act.eval,Act.put]; rfl) ?_
 refine st (z8c rfl) (v:=.agg (z47 y).toArray) (w':=W2) (by simp [execOp,Act.eval,Act.put,Instr.loadAt,Instr.sureAddr,l1]) ?_
 refine wpList_step fun K hK=>?_
 rw [if_pos (z8c rfl)]
 unfold Oper.wp
 rw [show ∀ a:Act,a.eval (.tmp 6)=.agg (z47 x).toArray→a.eval (.tmp 8)=.agg (z47 y).toArray→∀ o:Oper,o.op=Op.call { callee:=Callee.value (Operand.func 48),args:=#[Operand.tmp 6,Operand.tmp 8],argTypes:=#[45,45] }→(execOp a.eval o).run Tryz.prog W2=.ok (.enter 48 #[.agg (z47 x).toArray,.agg (z47 y).toArray]) W2 from fun a h6 h8 o ho=>by
  have e0:a.eval (.func 48)=.func (.func 48) #[] #[]:=rfl
  simp [execOp,ho,resolve,e0,Deferred.ofValue,invoke,z8o Tryz.func48 rfl (by rfl),h6,h8]]
 rotate_left
 ·simp [Act.eval,Act.put]
 ·simp [Act.eval,Act.put]
 ·rfl
 simp only [Oper.upon]
 refine (zgz x y W2).mono fun e w' ⟨he,q,os',hw⟩=>?_
 subst he
 refine hK _ _ ?_
 refine st (z8c rfl) (v:=.int .i64 (Lib.compareBytes x.toList y.toList)) (w':=w') (by simp [execOp,Act.eval,Act.put]) ?_
 go_wp2
 go_ret
 refine ⟨rfl,q,#[.cells (c1++z47 x).toArray 94,.cells (d1++z47 y).toArray 94]++os',?_⟩
 exact zrp _ _ _ _ _
def zpa:z02:=(⟨(⟨0,[],0,(⟨0,[],(⟨0,0,0,[]⟩:z04)⟩:z1b),(⟨0,0⟩:z0r)⟩:z00),(Vector.replicate 32 0)⟩:z02)
def cfN (x y:z02):Int:=Lib.compareBytes x.id.toList y.id.toList
theorem ltN (x y:z02):ltOf cfN x y=decide (kd x.id<kd y.id):=by
 unfold ltOf cfN
 rw [zn2,zju]
theorem zx8:SWO (ltOf cfN) where
 irrefl x:=by rw [ltN]; simp
 trans x y z h1 h2:=by rw [ltN] at *; simp at *; omega
 ntrans x y z h1 h2:=by rw [ltN] at *; simp at *; omega
def zrc (l:List (z02)):Option (List (z02)):=chk (l.length≤1000000) >>= fun _=>some (zq9 zpa cfN l)
theorem zr1 (p0:Value) (c0:List (z02)):z28 Tryz.prog 87 [.val p0,.val (.func (.func 88) #[] #[])] [(1,some (p0,.list z05 94 c0))] (zrc c0) (fun r nv=>⟨[],[(1,some (p0,.list z05 94 r))]⟩):=by
 refine znx rfl zpa _ ztg cfN zx8 (fun cap w=>?_) (fun enc hk h1 cf' hO blk cap d w hc hH hb hs=>?_) (fun x y c d S w W hx hy=>?_) p0 c0
 ·exact AnyF.slices_SortFunc_none zs4 none cap _ w
 ·have eg:∀ args w,(callFunc 88 args).run Tryz.prog w=.ok (.enter 88 args) w:=enters_of Tryz.func88 (by kernel_rfl) rfl
  exact AnyQ.slices_SortFunc_eq zs4 43 Tryz.isAgg94 Tryz.sizeOf94 enc hk h1 cf' hO 88 #[] blk 0 cap d w eg hc hH hb hs
 ·obtain ⟨c1,h1,rfl⟩:=zxp hx
  obtain ⟨d1,h2,rfl⟩:=zxp hy
  exact zz8 c1 d1 h1 h2 x.id y.id W
end
section
open Go Go.Shelf Go.RowKit Go.Lib
theorem zpw {P:Program} {ops:Array Oper} {o:Oper} {a:Act} {w:World} {K:Act→World→Prop} {Q:Exit→Act→World→Prop} {E:Prop}
  (hg:o.guard=none) (d x:Operand) (dT sT:TypeId) (hop:o.op=Op.call { callee:=Callee.builtin Builtin.append,args:=#[d,x],argTypes:=#[dT,sT] })
  (v u:Value) (hd:a.eval d=v) (hx:a.eval x=u) {v':Value} {w':World} (hr:(Builtin.append_ #[dT,sT] o.type #[v,u]).run P w=.ok v' w') (hK:K (a.put o.dst v') w') :
  if Region.wanted o (yielded ops a.tmps)=true then Oper.wp P o a w K Q else E:=by
 have hw:Region.wanted o (yielded ops a.tmps)=true:=by simp [Region.wanted,hg]
 rw [if_pos hw]
 unfold Oper.wp
 simp [execOp,hop,resolve,invoke,builtin,hd,hx,hr,Result.andThen]
 exact hK
theorem zvr {P:Program} {k by_:Nat} {z:Value} (w:World) (T e:TypeId) (hT:P.underlying T=some (.slice e)) (hE:TI P e z k by_) (hzl:z.cells.size=k) (h0:0<k) (hone:∀ u∈z.cells.toList,u.oneCell'=true)
  (g o n:Nat) (cur:Array Value) (t:TypeId) (hg:w.heap[g]? = some (.cells cur t (0,0))) (hn:0<n) (hfit:o+n * k≤cur.size) :
  ∃ D:Array Value,(∀ ty c,(Builtin.clear_ #[T] ty #[.slice (some ⟨g,o,none⟩) n c]).run P w=.ok (.tuple #[]) (w.setRow g D))∧D.size=cur.size∧D.toList.take o=cur.toList.take o:=by
 have hfl:=zbb (n:=n) (z:=z.cells) (by omega)
 have hll:((List.replicate n z.cells.toList).flatten).length=n * k:=by simp [hzl]
 have hz1:∀ u∈(Builtin.zeroCells z.cells n).toList,u.oneCell'=true:=fun u hu=>by
  rw [hfl] at hu
  simp only [List.mem_flatten,List.mem_replicate] at hu
  obtain ⟨q,⟨-,rfl⟩,hu⟩:=hu
  exact hone u hu
 have hzn:(Builtin.zeroCells z.cells n).toList.length=n * k:=by rw [hfl,hll]
 have hst:=run_storeCells_at P g o t (Builtin.zeroCells z.cells n).toList 0 cur w hg (by rw [hzn]; simpa using hfit) hz1
 simp only [Nat.add_zero] at hst
 refine ⟨(cur.toList.take o++(Builtin.zeroCells z.cells n).toList++cur.toList.drop (o+(Builtin.zeroCells z.cells n).toList.length)).toArray, fun ty c=>?_,?_,?_⟩
 ·obtain ⟨n',rfl⟩:∃ n',n=n'+1:=⟨n - 1, by omega⟩
  simp only [Builtin.clear_,Sem.run_bind,run_underlying hT,Result.andThen,z99 hE,hst,Sem.run_pure,List.getElem?_toArray,List.getElem?_cons_zero]
 ·simp only [List.size_toArray,List.length_append,List.length_take,List.length_drop,Array.length_toList,hzn]; omega
 ·simp only [List.append_assoc]
  rw [List.take_append_of_le_length (by rw [List.length_take,Array.length_toList]; omega),List.take_take,Nat.min_self]
section
variable (b n c i j:Nat) (xs:List Value) (C:Array Value) (w:World)
set_option maxHeartbeats 4000000 in
set_option maxRecDepth 100000 in
theorem zlj (p:Option Addr) (hi:i≤n) (hnc:n≤c) (hc63:c≤9223372036854775807) :
  Calls Tryz.prog 92 #[.slice p n c,.int .i64 i,.int .i64 i] w fun e w'=>e=.returned (.slice p n c)∧w'=w:=by
 have hn63:n≤9223372036854775807:=by omega
 go_enter Tryz.func92,Tryz.ntmps92
 go_wp2
 all_goals (go_ret; exact ⟨rfl,rfl⟩)
set_option maxHeartbeats 4000000 in
set_option maxRecDepth 100000 in
theorem zru (hij:i<j) (hj:j≤n) (hnc:n≤c) (hc63:c≤9223372036854775807) (hC:w.heap[b]? = some (.cells C 94 (0,0)))
  (hCs:C.size=c * 43) (hxs:C.toList.take (n * 43)=xs) (h1x:∀ v∈xs,v.oneCell'=true) :
  Calls Tryz.prog 92 #[.slice (some ⟨b,0,none⟩) n c,.int .i64 i,.int .i64 j] w fun e w' =>
   e=.returned (.slice (some ⟨b,0,none⟩) (i+(n - j)) c)∧∃ D,w'=w.drew.setRow b D∧D.size=C.size∧D.toList.take ((i+(n - j)) * 43)=xs.take (i * 43)++xs.drop (j * 43):=by
 have u22:Tryz.prog.underlying 88=some (.slice 94):=Tryz.underlying88
 have hcc:∀ j v,C.toList[j]? = some v→w.cell? ⟨b,j,none⟩=some v:=fun j v hj=>by
  rw [Array.getElem?_toList] at hj; unfold World.cell?; rw [hC]; exact hj
 have hxl:xs.length=n * 43:=by rw [← hxs,List.length_take,Array.length_toList]; omega
 have hxg:∀ j v,xs[j]? = some v→C.toList[j]? = some v:=fun j v hj=>by
  rw [← hxs,List.getElem?_take] at hj; split at hj
  ·exact hj
  ·cases hj
 obtain ⟨i0,hi0,hz0,hzs,hzb⟩:=(zee:TI Tryz.prog 94 _ _ _)
 have hnl:(xs.drop (j * 43)).length=(n - j) * 43:=by rw [List.length_drop,hxl,Nat.sub_mul]
 obtain ⟨Ad,hA,hsrc⟩:∃ Ad:Addr,(if c=j then some (⟨b,0,none⟩:Addr) else some ⟨b,j * 43,none⟩)=some Ad∧∀ t u,(xs.drop (j * 43))[t]? = some u→w.drew.cell? (Ad.add t)=some u:=by
  by_cases h:c=j
  ·refine ⟨⟨b,0,none⟩, by simp [h], fun t u hu=>?_⟩
   have h0:(xs.drop (j * 43)).length=0:=by rw [hnl, show n - j=0 by omega,Nat.zero_mul]
   rw [List.length_eq_zero_iff.1 h0] at hu
   simp at hu
  ·refine ⟨⟨b,j * 43,none⟩, by simp [h], fun t u hu=>?_⟩
   rw [Addr.add_lit]
   rw [List.getElem?_drop] at hu
   exact hcc _ _ (hxg _ _ hu)
 obtain ⟨D1,hD1⟩:∃ D1,D1=(C.toList.take (i * 43)++xs.drop (j * 43)++C.toList.drop (i * 43+(xs.drop (j * 43)).length)).toArray:=⟨_,rfl⟩
 have hap:∀ ty,(Builtin.append_ #[88,88] ty #[.slice (some ⟨b,0,none⟩) i c,.slice (some Ad) (n - j) (c - j)]).run Tryz.prog w.drew=.ok (.slice (some ⟨b,0,none⟩) (i+(n - j)) c) (w.drew.setRow b D1):=fun ty=>by
  have e:=run_append_room (P:=Tryz.prog) (w:=w.drew) 88 ty 94 i0 u22 hi0 b i c C hC Ad (n - j) (c - j) (xs.drop (j * 43)) (by rw [hzs,hnl]) hsrc (fun v hv=>h1x v (List.mem_of_mem_drop hv)) (by omega) (by rw [hzs,hnl,hCs]; omega)
  rw [hzs] at e
  rw [hD1]; exact e
 have hD1s:D1.size=C.size:=by
  rw [hD1]; simp only [List.size_toArray,List.length_append,List.length_take,List.length_drop,Array.length_toList,hxl]; omega
 have hD1t:D1.toList.take ((i+(n - j)) * 43)=xs.take (i * 43)++xs.drop (j * 43):=by
  have el:(C.toList.take (i * 43)).length=i * 43:=by rw [List.length_take,Array.length_toList]; omega
  have e2:C.toList.take (i * 43)=xs.take (i * 43):=by rw [← hxs,List.take_take]; congr 1; omega
  rw [hD1,List.take_append_of_le_length (by rw [List.length_append,el,hnl]; omega),List.take_of_length_le (by rw [List.length_append,el,hnl]; omega),e2]
 have hB1:(w.drew.setRow b D1).heap[b]? = some (.cells D1 94 (0,0)):=setRow_heap w.drew b C D1 94 (0,0) hC
 obtain ⟨D2,hcl,hD2s,hD2t⟩:=zvr (P:=Tryz.prog) (w.drew.setRow b D1) 88 94 u22 zee (by rfl) (by decide) (by decide) b ((i+(n - j)) * 43) (n - (i+(n - j))) D1 94 hB1 (by omega) (by rw [hD1s,hCs]; omega)
 obtain ⟨W1,hW1⟩:∃ W1,W1=w.drew.setRow b D1:=⟨_,rfl⟩
 have hfin:w.drew.setRow b D2=W1.setRow b D2:=by rw [hW1,setRow_setRow]
 rw [← hW1] at hcl hap
 have hic:i≤c:=by omega
 have hjc:j≤c:=by omega
 have hres:D2.size=C.size∧D2.toList.take ((i+(n - j)) * 43)=xs.take (i * 43)++xs.drop (j * 43):=⟨hD2s.trans hD1s,hD2t.trans hD1t⟩
 clear hcc hxg hD1 hxs hC hB1 h1x hnl hxl hsrc hD1s hD1t hD2s hD2t hz0 hzb hW1
 have hmix:Tryz.prog.follows .mixedOrders=true:=mixed
 go_enter Tryz.func92,Tryz.ntmps92
 go_wp2_with fail
 go_region_law_o (refine zpw rfl (.tmp 22) (.tmp 25) 88 88 rfl (.slice (some ⟨b,0,none⟩) i c) (.slice (some Ad) (n - j) (c - j)) (by simp [Act.eval,Act.put]) (by simp [Act.eval,Act.put,hA]) (hap _) ?_)
 go_wp2_with (simp only [hcl])
 go_ret
 exact ⟨rfl,D2,hfin.symm,hres⟩
end
end
section
open Go Go.RowKit
def zw9 {α:Type} (c0:List α) (i j:Int):Option (List α):=chk ((0≤i∧i≤j)∧j.toNat≤c0.length∧c0.length≤1000000) >>= fun _=>some (c0.take i.toNat++c0.drop j.toNat)
theorem ztb {α:Type} {R:Rep α} (hR:R.sz=43) (p0:Value) (c0:List α) (i j:Int):z28 Tryz.prog 92 [.val p0,.rd z0h i,.rd z0h j] [(1,some (p0,.list R 94 c0))] (zw9 c0 i j)
  (fun r nv=>⟨[.val (nv 0)],[(100,some (nv 0,.list R 94 r))]⟩):=by
 intro r hr H vs w hvs hres
 have hb:((0≤i∧i≤j)∧j.toNat≤c0.length∧c0.length≤1000000)∧r=c0.take i.toNat++c0.drop j.toNat:=by
  unfold zw9 chk at hr
  split at hr
  ·rename_i h; simp at hr; exact ⟨h,hr.symm⟩
  ·simp at hr
 obtain ⟨⟨⟨hi0,hij⟩,hj,hn⟩,rfl⟩:=hb
 match vs,hvs with
 | [v0,v1,v2],hvs =>
 obtain ⟨h0,h1,h2,_⟩:=hvs
 have e0:v0=p0:=h0.1
 have e1:v1=.int .i64 i:=z2z h1
 have e2:v2=.int .i64 j:=z2z h2
 subst e0; subst e1; subst e2
 obtain ⟨i,rfl⟩:∃ k:Nat,i=(k:Int):=⟨i.toNat, by omega⟩
 obtain ⟨j,rfl⟩:∃ k:Nat,j=(k:Int):=⟨j.toNat, by omega⟩
 simp only [Int.toNat_natCast] at hj ⊢
 have hij:i≤j:=by omega
 have only:∀ v' r v c (q:z4d),lr [(100,some (v',q))] r=some (v,c)→r=100∧v=v'∧c=q:=fun v' r v c q h=>by
  rw [z29] at h
  split at h
  ·rename_i e; cases h; exact ⟨e.symm,rfl,rfl⟩
  ·simp [lr,lk] at h
 have hlen:(c0.take i++c0.drop j).length=i+(c0.length - j):=by
  simp only [List.length_append,List.length_take,List.length_drop]; omega
 rcases hres.conts 1 v0 _ rfl with ⟨rfl,rfl⟩ | ⟨b,o,k1,k2,b',cap,C,k3,rfl,k4,k5,k6,k7⟩
 ·simp only [List.length_nil,Nat.le_zero] at hj
  have hi:i=0:=by omega
  subst hj; subst hi
  refine (zlj 0 0 0 w none (Nat.le_refl _) (Nat.le_refl _) (by omega)).mono fun e w' ⟨he,hw⟩=>?_
  subst hw
  refine ⟨fun _=>.slice none 0 0,[.slice none 0 0],he,⟨⟨rfl,rfl⟩,trivial⟩, fun r v c h=>?_, fun r v c r' v' c' h h' hne=>?_, fun r v c h b hb=>?_,zek.rfl'⟩
  ·obtain ⟨rfl,rfl,rfl⟩:=only _ _ _ _ _ h
   exact .inl ⟨rfl,rfl⟩
  ·exact absurd ((only _ _ _ _ _ h).1.trans (only _ _ _ _ _ h').1.symm) hne
  ·obtain ⟨rfl,rfl,rfl⟩:=only _ _ _ _ _ h; cases hb
 ·subst k3
  simp only [z3s,Option.some.injEq] at k1
  subst k1
  have hlt:b'<w.heap.size:=(Array.getElem?_eq_some_iff.1 k2).1
  have hcm:cap≤9223372036854775807:=by unfold maxLen at k5; omega
  rw [hR] at k6 k7
  have main:Calls Tryz.prog 92 #[.slice (some ⟨b',0,none⟩) c0.length cap,.int .i64 i,.int .i64 j] w fun e w'=>e=.returned (.slice (some ⟨b',0,none⟩) (i+(c0.length - j)) cap) ∧
    ∃ D,w'.heap[b']? = some (.cells D 94 (0,0))∧w.grownBy w' (some b')∧D.size=C.size∧D.toList.take ((i+(c0.length - j)) * 43)=(C.toList.take (c0.length * 43)).take (i * 43)++(C.toList.take (c0.length * 43)).drop (j * 43):=by
   rcases Nat.lt_or_ge i j with h | h
   ·refine (zru b' c0.length cap i j _ C w h hj k4 hcm k2 k6 rfl (fun v hv=>k7.one v hv)).mono fun e w' ⟨he,D,hw,hD,hT⟩=>⟨he,D,?_,?_,hD,hT⟩
    ·rw [hw]; exact setRow_heap w.drew b' C D 94 (0,0) k2
    ·rw [hw]
     refine ⟨rfl,rfl,rfl,?_, fun k hk hne=>?_⟩
     ·rw [setRow_size]; exact Nat.le_refl _
     ·rw [setRow_other w.drew b' k D (fun e=>hne (by rw [e]))]; rfl
   ·have e:j=i:=by omega
    subst e
    refine (zlj c0.length cap j w _ hj k4 hcm).mono fun e w' ⟨he,hw⟩=>⟨by rw [he, show j+(c0.length - j)=c0.length by omega],C, by rw [hw]; exact k2, by rw [hw]; exact ⟨rfl,rfl,rfl,Nat.le_refl _, fun _ _ _=>rfl⟩,rfl,?_⟩
    rw [show j+(c0.length - j)=c0.length by omega,List.take_append_drop]
  refine main.mono fun e w' ⟨he,D,hD,hg,hs,ht⟩=>?_
  have hst:z7m (Shr H [(1,some (.slice (some ⟨b',0,none⟩) c0.length cap,.list R 94 c0))] w) (Shr H [(100,some (.slice (some ⟨b',0,none⟩) (i+(c0.length - j)) cap,.list R 94 (c0.take i++c0.drop j)))] w') w w':=fun k hk=>by
   have hne:k≠b':=fun e=>hk.2.1 1 _ _ rfl (by rw [e]; rfl)
   refine ⟨⟨Nat.lt_of_lt_of_le hk.1 hg.size, fun r v c h=>?_,hk.2.2⟩,hg.block k hk.1 (fun e=>hne (Option.some.inj e))⟩
   obtain ⟨rfl,rfl,rfl⟩:=only _ _ _ _ _ h
   exact fun e=>hne (Option.some.inj e).symm
  refine ⟨fun _=>.slice (some ⟨b',0,none⟩) (i+(c0.length - j)) cap,[.slice (some ⟨b',0,none⟩) (i+(c0.length - j)) cap],he,⟨⟨rfl,rfl⟩,trivial⟩, fun r v c h=>?_, fun r v c r' v' c' h h' hne=>?_, fun r v c h b hb=>?_,hg.os,hg.tape,hg.output,hg.size, fun k hk=>?_⟩
  ·obtain ⟨rfl,rfl,rfl⟩:=only _ _ _ _ _ h
   refine .inr ⟨b',_,rfl,hD,b',cap,D, by rw [hlen],rfl, by rw [hlen]; omega,k5, by rw [hs,k6,hR],?_⟩
   rw [hlen,hR,ht]
   have x2:=k7.mono hst
   have a1:=x2.take i
   have a2:=x2.drop j
   rw [hR] at a1 a2
   exact a1.append a2
  ·exact absurd ((only _ _ _ _ _ h).1.trans (only _ _ _ _ _ h').1.symm) hne
  ·obtain ⟨rfl,rfl,rfl⟩:=only _ _ _ _ _ h
   exact .inr ⟨1,_,_,rfl,hb⟩
  ·refine hg.block k hk.1 fun e=>hk.2 ⟨1,_,_,rfl,?_⟩
   rw [Option.some.inj e]; rfl
end
section
open Go Go.RowKit
set_option maxRecDepth 100000
def z5c (a0:V3) (c1_0:List (V3 × Bool)):Option (Bool) :=
 some ((z9s c1_0 a0).getD false) >>= fun y2 =>
 some y2
theorem zbw (a0:V3) (p1_0:Value) (q1_0:Value) (c1_0:List (V3 × Bool)):z28 Tryz.prog 91 [.rd aZ a0,.val (z0i p1_0 0)] [(1,some (p1_0,.box 92 [.val q1_0])),(2,some (q1_0,.map aZ z09 c1_0))] (z5c a0 c1_0) (fun r nv=>⟨[.rd z09 r],[(1,some (p1_0,.box 92 [.val q1_0])),(2,some (q1_0,.map aZ z09 c1_0))]⟩):=by
 refine z2o 7 Tryz.func91 Z Z Z fun H w=>?_
 refine gSR<|Eb Z (bx 3 Z) fun v1=>Zb Z<|gSR<|Zq (ldV 1 Z Z .here zw8 Z)<|Zq (ld 3 Z Z fH z8h Z)<|Zq (mlk Z (.own 2 Z Z) Z zsc Tryz.underlying92 ti4 Zr.bool Z)<|Za Z<|z1k 3 Z fun y2=>Zn<|z0n<|Ze [] [1,2] Z
def z1z (a0:List V3) (c1_0:List (V3 × Bool)) (s2:Int):Option (Sum (Sum Int Unit) Int) :=
 if decide (s2<(a0.length:Int)) then
  idx a0 s2 >>= fun x4 =>
  z5c x4 c1_0 >>= fun r6 =>
  if r6 then
   some (.inl (.inl s2))
  else
   some (.inr (w64 (s2+1)))
 else
  some (.inl (.inr ()))
def z1a (a0:List V3) (c1_0:List (V3 × Bool)):Option (Int) :=
 z71 (iter (z1z a0 c1_0) 0) fun s1 =>
 some (-1)
theorem z3u (a0:List V3) (p1_0:Value) (q1_0:Value) (c1_0:List (V3 × Bool)):z28 Tryz.prog 125 [.rd (z01 aZ) a0,.val (.func (.func 91) #[] #[z0i p1_0 0])] [(1,some (p1_0,.box 92 [.val q1_0])),(2,some (q1_0,.map aZ z09 c1_0))] (z1a a0 c1_0) (fun r nv=>⟨[.rd z0h r],[(1,some (p1_0,.box 92 [.val q1_0])),(2,some (q1_0,.map aZ z09 c1_0))]⟩):=by
 refine z2o 19 Tryz.func125 Z Z Z fun H w=>?_
 refine gSR<|Zb Z<|z8x (fun (s1:Unit) aa ww=>Sta (ctx 19 H [(1,some (p1_0,.box 92 [.val q1_0])),(2,some (q1_0,.map aZ z09 c1_0))] w) [] [(2,some (q1_0,.map aZ z09 c1_0)),(1,some (p1_0,.box 92 [.val q1_0]))] aa ww) ?_ (fun s1=>?_)
 ·refine gSR<|Zm Z<|Zq (z4o Z .rd Z tu29)<|Zm Z<|Zn<|z23 (fun (s2:Int) aa ww=>Sta (ctx 19 H [(1,some (p1_0,.box 92 [.val q1_0])),(2,some (q1_0,.map aZ z09 c1_0))] w) [(0,.rd (z01 aZ) a0),(1,.val (.func (.func 91) #[] #[z0i p1_0 0])),(7,.rd z0h (a0.length:Int)),(8,.rd z0h s2)] [(2,some (q1_0,.map aZ z09 c1_0)),(1,some (p1_0,.box 92 [.val q1_0]))] aa ww) (fun aa ww h=>Zu h [2,1]) (fun s2=>?_)
  refine gSR<|Zq (I.lss Z Z)<|Zn<|z0t<|gIf Z Z (fun h3=>?_) (fun h3=>?_)
  ·refine Zt<|z0t<|z5o<|gSR<|Zm Z<|Zb Z<|gSR<|Zm Z<|Zm Z<|Zm Z<|z0k fun x4 h5=>Zq (ixR Z Z h5 tu29 z3o Z)<|Zq (ldR Z z8h)<|zk5 [1,2] [(1,1),(2,2)] (gd0 Z) Z Z Tryz.func91 Z Z (zbw _ _ _ _) (Y1 Z) (cQ 1 Z<|cN) (Zi Z<|Zi Z<|rN) fun r6 n7=>Zj Z (fun h8=>?_) (fun h8=>?_)
   ·refine gSR<|Zm Z<|Zb Z<|z0n<|z4l<|z16<|z81<|z85<|Ze [] [1,2] Z
   ·refine z2s<|z2y<|z0l<|z27<|Zq (I.add Z Z)<|Zm Z<|z1w<|z1l (fun aa ww h=>Zu h [2,1])
  ·refine z20<|z0u<|z0v<|z8d (fun aa ww h=>Zu h [2,1])
 ·refine gSR<|Zb Z<|z0n<|Ze [] [1,2] Z
def z14 (a0:List V3) (c1_0:List (V3 × Bool)):Option (Bool) :=
 z1a a0 c1_0 >>= fun r1 =>
 some (decide (0≤r1)) >>= fun y3 =>
 some y3
theorem z3n (a0:List V3) (p1_0:Value) (q1_0:Value) (c1_0:List (V3 × Bool)):z28 Tryz.prog 79 [.rd (z01 aZ) a0,.val (.func (.func 91) #[] #[z0i p1_0 0])] [(1,some (p1_0,.box 92 [.val q1_0])),(2,some (q1_0,.map aZ z09 c1_0))] (z14 a0 c1_0) (fun r nv=>⟨[.rd z09 r],[(1,some (p1_0,.box 92 [.val q1_0])),(2,some (q1_0,.map aZ z09 c1_0))]⟩):=by
 refine z2o 9 Tryz.func79 Z Z Z fun H w=>?_
 refine gSR<|Zb Z<|gSR<|Zm Z<|Zm Z<|Zc [1,2] [(1,1),(2,2)] Tryz.func125 Z (z3u _ _ _ _) fun r1 n2=>Zq (I.geq Z Z)<|Za Z<|z1k 4 Z fun y3=>Zn<|z0n<|Ze [] [1,2] Z
def z56 (a0:z02) (c1_0:List (V3 × Bool)):Option (Bool) :=
 z14 a0.o.Preds c1_0 >>= fun r2 =>
 some (!r2)
theorem zdb (a0:z02) (p1_0:Value) (q1_0:Value) (c1_0:List (V3 × Bool)):z28 Tryz.prog 90 [.rd z05 a0,.val (z0i p1_0 0)] [(1,some (p1_0,.box 92 [.val q1_0])),(2,some (q1_0,.map aZ z09 c1_0))] (z56 a0 c1_0) (fun r nv=>⟨[.rd z09 r],[(1,some (p1_0,.box 92 [.val q1_0])),(2,some (q1_0,.map aZ z09 c1_0))]⟩):=by
 refine z2o 10 Tryz.func90 Z Z Z fun H w=>?_
 refine gSR<|Eb Z (bx 3 Z) fun v1=>Zb Z<|gSR<|Zq (faB 3 Z Z Tryz.underlying94 Z (by exact zb9))<|Zq (faB 3 Z Z Tryz.underlying43 Z (by exact zc1))<|Zq (ld 3 Z Z ((fP (z3x _)).part (z0e _)) zdd Z)<|Zq (mkf mp0 (mp1 Z))<|Zc [1,2] [(1,1),(2,2)] Tryz.func79 Z (z3n _ _ _ _) fun r2 n3=>Zq (zjw Z)<|Zb Z<|z0n<|Ze [] [1,2] Z
def z1f (a0:List z02) (c1_0:List (V3 × Bool)) (s2:Int):Option (Sum (Sum Int Unit) Int) :=
 if decide (s2<(a0.length:Int)) then
  idx a0 s2 >>= fun x4 =>
  z56 x4 c1_0 >>= fun r6 =>
  if r6 then
   some (.inl (.inl s2))
  else
   some (.inr (w64 (s2+1)))
 else
  some (.inl (.inr ()))
def z0j (a0:List z02) (c1_0:List (V3 × Bool)):Option (Int) :=
 z71 (iter (z1f a0 c1_0) 0) fun s1 =>
 some (-1)
theorem z2q (a0:List z02) (q0:Value) (l0:List z02) (p1_0:Value) (q1_0:Value) (c1_0:List (V3 × Bool)):z28 Tryz.prog 89 [.vw z05 q0 l0 a0,.val (.func (.func 90) #[] #[z0i p1_0 0])] [(1,some (q0,.list z05 94 l0)),(2,some (p1_0,.box 92 [.val q1_0])),(3,some (q1_0,.map aZ z09 c1_0))] (z0j a0 c1_0) (fun r nv=>⟨[.rd z0h r],[(1,some (q0,.list z05 94 l0)),(2,some (p1_0,.box 92 [.val q1_0])),(3,some (q1_0,.map aZ z09 c1_0))]⟩):=by
 refine z2o 19 Tryz.func89 Z Z Z fun H w=>?_
 refine gSR<|Zb Z<|z8x (fun (s1:Unit) aa ww=>Sta (ctx 19 H [(1,some (q0,.list z05 94 l0)),(2,some (p1_0,.box 92 [.val q1_0])),(3,some (q1_0,.map aZ z09 c1_0))] w) [] [(1,some (q0,.list z05 94 l0)),(3,some (q1_0,.map aZ z09 c1_0)),(2,some (p1_0,.box 92 [.val q1_0]))] aa ww) ?_ (fun s1=>?_)
 ·refine gSR<|Zm Z<|Zq (z4o Z (.vw 1 Z) Z tu88)<|Zm Z<|Zn<|z23 (fun (s2:Int) aa ww=>Sta (ctx 19 H [(1,some (q0,.list z05 94 l0)),(2,some (p1_0,.box 92 [.val q1_0])),(3,some (q1_0,.map aZ z09 c1_0))] w) [(0,.vw z05 q0 l0 a0),(1,.val (.func (.func 90) #[] #[z0i p1_0 0])),(7,.rd z0h (a0.length:Int)),(8,.rd z0h s2)] [(1,some (q0,.list z05 94 l0)),(3,some (q1_0,.map aZ z09 c1_0)),(2,some (p1_0,.box 92 [.val q1_0]))] aa ww) (fun aa ww h=>Zu h [1,3,2]) (fun s2=>?_)
  refine gSR<|Zq (I.lss Z Z)<|Zn<|z0t<|gIf Z Z (fun h3=>?_) (fun h3=>?_)
  ·refine Zt<|z0t<|z5o<|gSR<|Zm Z<|Zb Z<|gSR<|Zm Z<|Zm Z<|Zm Z<|z0k fun x4 h5=>Zq (ixQ 1 Z Z Z h5 tu88 zee)<|Zq (ldQ 1 Z Z zto Z)<|zk5 [2,3] [(1,2),(2,3)] (gd0 Z) Z Z Tryz.func90 Z Z (zdb _ _ _ _) (Y1 Z) (cQ 2 Z<|cN) (Zi Z<|Zi Z<|rN) fun r6 n7=>Zj Z (fun h8=>?_) (fun h8=>?_)
   ·refine gSR<|Zm Z<|Zb Z<|z0n<|z4l<|z16<|z81<|z85<|Ze [] [1,2,3] Z
   ·refine z2s<|z2y<|z0l<|z27<|Zq (I.add Z Z)<|Zm Z<|z1w<|z1l (fun aa ww h=>Zu h [1,3,2])
  ·refine z20<|z0u<|z0v<|z8d (fun aa ww h=>Zu h [1,3,2])
 ·refine gSR<|Zb Z<|z0n<|Ze [] [1,2,3] Z
def z5r (a0:List z00) (s3:(List z02) × Int):Option (Sum (Sum ((List z02) × Int) ((List z02))) ((List z02) × Int)) :=
 if decide (s3.2<(a0.length:Int)) then
  idx a0 s3.2 >>= fun x6 =>
  zrl x6 >>= fun r9 =>
  if r9.2 != 0 then
   some (.inl (.inl ([],r9.2)))
  else
   z1p x6.Preds >>= fun r13 =>
   app 144 s3.1 [(⟨(⟨x6.Author,r13,x6.Stamp,x6.Act,x6.Sig⟩:z00),r9.1⟩:z02)] >>= fun x16 =>
   some (.inr (x16,w64 (s3.2+1)))
 else
  some (.inl (.inr s3.1))
def z5w (r20:List z02) (s25:(List (V3 × Bool)) × Int):Option (Sum (Sum ((List z02) × Int) ((List (V3 × Bool)))) ((List (V3 × Bool)) × Int)) :=
 if decide (s25.2<(r20.length:Int)) then
  idx r20 s25.2 >>= fun x27 =>
  if (z9s s25.1 x27.id).getD false then
   some (.inl (.inl ([],14)))
  else
   some (.inr (zew s25.1 x27.id true,w64 (s25.2+1)))
 else
  some (.inl (.inr s25.1))
def z4g (s32:(List z02) × (List (V3 × Bool)) × (List z02)):Option (Sum (Sum ((List z02) × Int) ((List z02))) ((List z02) × (List (V3 × Bool)) × (List z02))) :=
 if decide (0<(s32.1.length:Int)) then
  z0j s32.1 s32.2.1 >>= fun r35 =>
  if decide (r35<0) then
   some (.inl (.inl ([],36)))
  else
   idx s32.1 r35 >>= fun x38 =>
   app 144 s32.2.2 [x38] >>= fun x41 =>
   idx s32.1 r35 >>= fun x44 =>
   zw9 s32.1 r35 (w64 (r35+1)) >>= fun r46 =>
   some (.inr (r46,zi8 s32.2.1 x44.id,x41))
 else
  some (.inl (.inr s32.2.2))
def z5j (a0:List z00):Option ((List z02) × Int) :=
 if decide (60<(a0.length:Int)) then
  some ([],4)
 else
  z71 (iter (z5r a0) ([],0)) fun s2 =>
  zrc s2 >>= fun r20 =>
  z71 (iter (z5w r20) (([]:List (V3 × Bool)),0)) fun s24 =>
  z71 (iter (z4g) (r20,s24,[])) fun s31 =>
  some (s31,0)
theorem z7c (a0:List z00):z28 Tryz.prog 45 [.rd (z01 z03) a0] [zG1] (z5j a0) (fun r nv=>⟨[.val (nv 0),.rd z0h r.2],[(1001,some (.bool true,.glob 1 (z2h 64 z0o) z8g)),(100,some (nv 0,.list z05 94 r.1))]⟩):=by
 refine z2o 86 Tryz.func45 Z Z Z fun H w=>?_
 refine gSR<|Za Z<|Zb Z<|z0t<|gSR<|Zm Z<|Zq (z4o Z .rd Z tu22)<|Zq (I.gtr Z Z)<|Zj Z (fun h1=>?_) (fun h1=>?_)
 ·refine gSR<|Za Z<|Zb Z<|z0n<|z16<|zgh z05 94 1<|Ze [(.slice none 0 0)] [1001,1] Z
 ·refine Zt<|gSR<|Zb Z<|z8x (fun (s2:(List z02)) aa ww=>∃ nv:Nat→Value,Sta (ctx 86 H [zG1] w) [(4,.val (nv 0))] [(6,some ((nv 0),.list z05 94 s2)),zG1] aa ww) ?_ (fun s2=>?_)
  ·refine gSR<|Zm Z<|Zq (z4o Z .rd Z tu22)<|Zm Z<|Zn<|zmw z05 94 1106<|z23 (fun (s3:(List z02) × Int) aa ww=>∃ nv:Nat→Value,Sta (ctx 86 H [zG1] w) [(4,.val (nv 0)),(17,.rd (z01 z03) a0),(18,.rd z0h (a0.length:Int)),(19,.rd z0h s3.2)] [(1105,some ((nv 0),.list z05 94 s3.1)),zG1] aa ww) (fun aa ww h=>⟨nvl [(.slice none 0 0)],Zu h [1106,1001]⟩) (fun s3=>?_)
   refine gEx fun n4=>gSR<|Zq (I.lss Z Z)<|Zn<|z0t<|gIf Z Z (fun h5=>?_) (fun h5=>?_)
   ·refine Zt<|z0t<|z5o<|gSR<|z0k fun x6 h7=>Zq (ixR Z Z h7 tu22 zb9 Z)<|Zq (ldR Z zez)<|Eb Z (zb8 1107 zb9 (ZrE.rd (R:=z0o) (x:=0) (Zr.num Z) (ZrE.nilS (ZrE.rd (R:=z2p) (x:=0) (Zr.num Z) (ZrE.rd (R:=z15) (x:=(⟨0,[],(⟨0,0,0,[]⟩:z04)⟩:z1b)) zuf (ZrE.rd (R:=z1n) (x:=(⟨0,0⟩:z0r)) zuk ZrE.nil Z) Z) Z)) Z)) fun v8=>zr2 aZ [.rd z0o 0,.rd (z01 aZ) [],.rd z2p 0,.rd z15 (⟨0,[],(⟨0,0,0,[]⟩:z04)⟩:z1b),.rd z1n (⟨0,0⟩:z0r)] 1107 [.rd z0o 0] [.rd z2p 0,.rd z15 (⟨0,[],(⟨0,0,0,[]⟩:z04)⟩:z1b),.rd z1n (⟨0,0⟩:z0r)] Z Z Z<|zn3 (R:=z03) (⟨0,[],0,(⟨0,[],(⟨0,0,0,[]⟩:z04)⟩:z1b),(⟨0,0⟩:z0r)⟩:z00) 1107 Z (Sp.via (Sp.prod (Sp.prod (Sp.prod (Sp.prod (Sp.prod Sp.unit))))))<|Es (sto 1107 Z Z fH Z zb9)<|Zn<|gSR<|Zq (ld 1107 Z Z fH zez Z)<|Zc [1001] [] Tryz.func65 Z (zrw _) fun r9 n10=>Zm Z<|Zq (ext Z Z)<|Zq (ext Z Z)<|Eb Z (zb8 1108 z3o (.zr (R:=aZ) (x:=(Vector.replicate 32 0)) zjz)) fun v11=>Es (sto 1108 Z Z fH Z z3o)<|Zb Z<|z0t<|gSR<|Zm Z<|Zq (I.neq Z Z)<|Zj Z (fun h12=>?_) (fun h12=>?_)
    ·refine gSR<|Zm Z<|Za Z<|Zb Z<|z0n<|z16<|z4l<|z16<|z81<|z85<|zgh z05 94 1109<|Ze [(.slice none 0 0)] [1001,1109] Z
    ·refine Zt<|gSR<|Zq (faB 1107 Z Z Tryz.underlying43 Z (by exact zc1))<|Zq (ld 1107 Z Z (fP (z0e _)) zdd Z)<|Zc [] [(100,1110)] Tryz.func83 Z (z5s _) fun r13 n14=>Zq (faB 1107 Z Z Tryz.underlying43 Z (by exact zc1))<|zwh (R:=z03) 1107 Z (Sp.via (Sp.prod (Sp.prod (Sp.prod (Sp.prod (Sp.prod Sp.unit))))))<|Es (zt1 1107 Z Z (zb5.cast (zb5.next z43 (zb5.here z43)) Z) Z z9z z72 zc1)<|Zn<|z27<|Zm Z<|zw7 [.rd z0o x6.Author,.rd (z01 aZ) r13,.rd z2p x6.Stamp,.rd z15 x6.Act,.rd z1n x6.Sig] 1107 1110 [.rd z0o x6.Author] [.rd z2p x6.Stamp,.rd z15 x6.Act,.rd z1n x6.Sig] Z Z Z Z Z<|zn3 (R:=z03) (⟨x6.Author,r13,x6.Stamp,x6.Act,x6.Sig⟩:z00) 1107 Z (Sp.via (Sp.prod (Sp.prod (Sp.prod (Sp.prod (Sp.prod Sp.unit))))))<|Zq (ld 1107 Z Z fH zez Z)<|Zq (ld 1108 Z Z fH z8h Z)<|Zq (bld (x':=(⟨(⟨x6.Author,r13,x6.Stamp,x6.Act,x6.Sig⟩:z00),r9.1⟩:z02)) [(0,11),(11,32)] Tryz.underlying94 zee Z ztg Z (Bld.cons (z3x _) Z Z<|Bld.cons (z4e _) Z Z<|Bld.done Z))<|Ef Z (lit (R:=z05) ([(⟨(⟨x6.Author,r13,x6.Stamp,x6.Act,x6.Sig⟩:z00),r9.1⟩:z02)]:List z02) 1111 (pP Z Z<|pN) Z tu88 zee Z Z) fun v15=>zcq 1111 [39] Z (fS Z<|fN)<|z0k fun x16 h17=>Ef Z (apn 1105 Z Z Z .rd h17 tu88 zee Z Z Z) fun v18=>Za Z<|z1w<|z2y<|z0l<|z27<|Zq (I.add Z Z)<|Zm Z<|z1w<|z1l (fun aa ww h=>⟨nvl [v18],Zu h [1105,1001]⟩)
   ·refine z20<|z0u<|z0v<|z8d (fun aa ww h=>⟨nvl [(n4 0)],Zu h [1105,1001]⟩)
  ·refine gEx fun n19=>gSR<|Zm Z<|Zc [6] [(1,6)] Tryz.func87 Z (zr1 _ _) fun r20 n21=>Zn<|gSR<|Ef Z (mkm aZ z09 1112 (Or.inl Z) Tryz.underlying92) fun v22=>Eb Z (zb8 1113 zxw (.val Z)) fun v23=>Es (zt1 1113 Z Z (.here z72) Z z9z z72 zxw)<|Zn<|z8x (fun (s24:(List (V3 × Bool))) aa ww=>Sta (ctx 86 H [zG1] w) [(4,.val (n19 0)),(9,.val (z0i v23 0))] [(6,some ((n19 0),.list z05 94 r20)),(1112,some (v22,.map aZ z09 s24)),(1113,some (v23,.box 92 [.val v22])),zG1] aa ww) ?_ (fun s24=>?_)
   ·refine gSR<|Zm Z<|Zq (z4o Z (.own 6 Z) Z tu88)<|Zm Z<|Zn<|z23 (fun (s25:(List (V3 × Bool)) × Int) aa ww=>Sta (ctx 86 H [zG1] w) [(4,.val (n19 0)),(9,.val (z0i v23 0)),(45,.val (n19 0)),(46,.rd z0h (r20.length:Int)),(47,.rd z0h s25.2)] [(6,some ((n19 0),.list z05 94 r20)),(1112,some (v22,.map aZ z09 s25.1)),(1113,some (v23,.box 92 [.val v22])),zG1] aa ww) (fun aa ww h=>Zu h [6,1112,1113,1001]) (fun s25=>?_)
    refine gSR<|Zq (I.lss Z Z)<|Zn<|z0t<|gIf Z Z (fun h26=>?_) (fun h26=>?_)
    ·refine Zt<|z0t<|z5o<|gSR<|z0k fun x27 h28=>Zq (ixO 6 Z Z Z h28 tu88 zee)<|Zq (ld 6 Z Z (Foc.el h28) zto Z)<|Eb Z (zb8 1114 zee (.zr (R:=z05) (x:=(⟨(⟨0,[],0,(⟨0,[],(⟨0,0,0,[]⟩:z04)⟩:z1b),(⟨0,0⟩:z0r)⟩:z00),(Vector.replicate 32 0)⟩:z02)) ztg)) fun v29=>Es (sto 1114 Z Z fH Z zee)<|Zn<|z0t<|gSR<|Zq (ldV 1113 Z Z .here zw8 Z)<|Zq (faB 1114 Z Z Tryz.underlying94 Z (by exact z3o))<|Zq (ld 1114 Z Z (fP (z4e _)) z8h Z)<|Zq (mlk Z (.own 1112 Z Z) Z zsc Tryz.underlying92 ti4 Zr.bool Z)<|Zj Z (fun h30=>?_) (fun h30=>?_)
     ·refine gSR<|Za Z<|Zb Z<|z0n<|z16<|z4l<|z16<|z81<|z85<|zgh z05 94 1115<|Ze [(.slice none 0 0)] [1001,1115] Z
     ·refine Zt<|z27<|Zq (ldV 1113 Z Z .here zw8 Z)<|Zq (faB 1114 Z Z Tryz.underlying94 Z (by exact z3o))<|Zq (ld 1114 Z Z (fP (z4e _)) z8h Z)<|Es (mup 1112 Z Z Z Z zsc Tryz.underlying92)<|z1w<|z2y<|z0l<|z27<|Zq (I.add Z Z)<|Zm Z<|z1w<|z1l (fun aa ww h=>Zu h [6,1112,1113,1001])
    ·refine z20<|z0u<|z0v<|z8d (fun aa ww h=>Zu h [6,1112,1113,1001])
   ·refine gSR<|Zb Z<|z8x (fun (s31:(List z02)) aa ww=>∃ nv:Nat→Value,Sta (ctx 86 H [zG1] w) [(12,.val (nv 0))] [(1117,some ((nv 0),.list z05 94 s31)),zG1] aa ww) ?_ (fun s31=>?_)
    ·refine zmw z05 94 1121<|z23 (fun (s32:(List z02) × (List (V3 × Bool)) × (List z02)) aa ww=>∃ nv:Nat→Value,Sta (ctx 86 H [zG1] w) [(4,.val (nv 0)),(9,.val (z0i v23 0)),(12,.val (nv 1))] [(6,some ((nv 0),.list z05 94 s32.1)),(1112,some (v22,.map aZ z09 s32.2.1)),(1113,some (v23,.box 92 [.val v22])),(1120,some ((nv 1),.list z05 94 s32.2.2)),zG1] aa ww) (fun aa ww h=>⟨nvl [(n19 0),(.slice none 0 0)],Zu h [6,1112,1113,1121,1001]⟩) (fun s32=>?_)
     refine gEx fun n33=>z0t<|gSR<|Zm Z<|Zq (z4o Z (.own 6 Z) Z tu88)<|Zq (I.gtr Z Z)<|Zj Z (fun h34=>?_) (fun h34=>?_)
     ·refine Zt<|z5o<|gSR<|Zm Z<|Zq (mkf mp0 (mp1 Z))<|call [6,1113,1112] [(1,6),(2,1113),(3,1112)] Z Tryz.func89 Z Z (z2q _ _ _ _ _ _) (aW Z<|aQ Z<|aN) (Zi Z<|Zi Z<|Zi Z<|rN) fun r35 n36=>Zb Z<|z0t<|gSR<|Zm Z<|Zq (I.lss Z Z)<|Zj Z (fun h37=>?_) (fun h37=>?_)
      ·refine gSR<|Za Z<|Zb Z<|z0n<|z16<|z4l<|z81<|z85<|zgh z05 94 1122<|Ze [(.slice none 0 0)] [1001,1122] Z
      ·refine Zt<|gSR<|Zm Z<|Zm Z<|Zm Z<|z0k fun x38 h39=>Zq (ixO 6 Z Z Z h39 tu88 zee)<|Zq (ld 6 Z Z (Foc.el h39) zto Z)<|Ef Z (lit (R:=z05) ([x38]:List z02) 1123 (pP Z Z<|pN) Z tu88 zee Z Z) fun v40=>zcq 1123 [72] Z (fS Z<|fN)<|z0k fun x41 h42=>Ef Z (apn 1120 Z Z Z .rd h42 tu88 zee Z Z Z) fun v43=>Zb Z<|z0t<|z8s [1112] mixed Z Z<|hTk 0 Z Z (ldV 1113 Z Z .here zw8 Z)<|hTk 1 Z Z (mv Z)<|hTk 2 Z Z (mv Z)<|z2r fun x44 h45=>hTk 3 Z Z (ixO 6 Z Z Z h45 tu88 zee)<|hTk 4 Z Z (fa 6 Z Z zpk (zwy h45) Tryz.underlying94 Z (by exact z3o))<|hTk 5 Z Z (ld 6 Z Z ((Foc.el h45).part (z4e _)) z8h Z)<|zz7 6 Z (by kernel_rfl) (gd0 Z) Z Z Z Z (zz2 1112 Z Z Z zsc Z Tryz.underlying92)<|z5x (by kernel_rfl)<|z0l<|z27<|Zm Z<|Zm Z<|Zm Z<|Zq (I.add Z Z)<|call [6] [(100,1148)] Z Tryz.func92 Z Z (ztb (R:=z05) Z _ _ _ _) (aQ Z<|aQ Z<|aQ Z<|aN) (y1 Z) fun r46 n47=>Za Z<|z1w<|z2y<|z1l (fun aa ww h=>⟨nvl [(n47 0),v43],Zu h [1148,1112,1113,1120,1001]⟩)
     ·refine z20<|z0u<|z0v<|z8d (fun aa ww h=>⟨nvl [(n33 1)],Zu h [1120,1001]⟩)
    ·refine gEx fun n48=>gSR<|Zm Z<|Za Z<|Zb Z<|z0n<|Ze [(n48 0)] [1001,1117] Z
def z94 (s12:(List UInt8) × (List (V3 × Int)) × Int) (x15:z02) (s34:(List UInt8) × Int):Option (Sum ((List UInt8)) ((List UInt8) × Int)) :=
 if decide (s34.2<(x15.o.Preds.length:Int)) then
  idx x15.o.Preds s34.2 >>= fun x37 =>
  some ((z9s s12.2.1 x37).getD 0) >>= fun y40 =>
  some ((z9s s12.2.1 x37).isSome) >>= fun y41 =>
  if y41 then
   z2x (UInt64.ofInt (w64 (s12.2.2 - y40))) >>= fun r43 =>
   app 1 s34.1 r43 >>= fun x45 =>
   some (.inr (x45,w64 (s34.2+1)))
  else
   app 1 s34.1 [0] >>= fun x49 =>
   app 1 x49 x37.toList >>= fun x52 =>
   some (.inr (x52,w64 (s34.2+1)))
 else
  some (.inl s34.1)
def z95 (r1:(List z02) × Int) (s12:(List UInt8) × (List (V3 × Int)) × Int):Option (Sum (Sum ((List UInt8) × Int) ((List UInt8))) ((List UInt8) × (List (V3 × Int)) × Int)) :=
 if decide (s12.2.2<(r1.1.length:Int)) then
  idx r1.1 s12.2.2 >>= fun x15 =>
  z9f (⟨x15.o.Author,[],x15.o.Stamp,x15.o.Act,x15.o.Sig⟩:z00) >>= fun r19 =>
  if r19.2 != 0 then
   some (.inl (.inl ([],r19.2)))
  else
   z8i r19.1 >>= fun r22 =>
   if r22.2 != 0 then
    some (.inl (.inl ([],r22.2)))
   else
    app 1 s12.1 r22.1 >>= fun x25 =>
    z2x (UInt64.ofInt (x15.o.Preds.length:Int)) >>= fun r28 =>
    app 1 x25 r28 >>= fun x30 =>
    (iter (z94 s12 x15) (x30,0)) >>= fun s33 =>
    some (.inr (s33,zew s12.2.1 x15.id s12.2.2,w64 (s12.2.2+1)))
 else
  some (.inl (.inr s12.1))
def zaa (a0:List z00):Option ((List UInt8) × Int) :=
 z5j a0 >>= fun r1 =>
 if r1.2 != 0 then
  some ([],r1.2)
 else
  z2x (UInt64.ofInt (r1.1.length:Int)) >>= fun r5 =>
  app 1 [112] r5 >>= fun x7 =>
  z71 (iter (z95 r1) (x7,([]:List (V3 × Int)),0)) fun s11 =>
  some (s11,0)
theorem zi3 (a0:List z00):z28 Tryz.prog 21 [.rd (z01 z03) a0] [zG1] (zaa a0) (fun r nv=>⟨[.val (nv 0),.rd z0h r.2],[(1001,some (.bool true,.glob 1 (z2h 64 z0o) z8g)),(100,some (nv 0,.list u8R 5 r.1))]⟩):=by
 refine z2o 103 Tryz.func21 Z Z Z fun H w=>?_
 refine gSR<|Za Z<|Zb Z<|gSR<|Zm Z<|Zc [1001] [(100,1)] Tryz.func45 Z (z7c _) fun r1 n2=>Zm Z<|Zq (ext Z Z)<|Zq (ext Z Z)<|Za Z<|Zb Z<|z0t<|gSR<|Zm Z<|Zq (I.neq Z Z)<|Zj Z (fun h3=>?_) (fun h3=>?_)
 ·refine gSR<|Zm Z<|Za Z<|Zb Z<|z0n<|z16<|zgh u8R 5 2<|Ze [(.slice none 0 0)] [1001,2] Z
 ·refine Zt<|gSR<|Ef Z (lit (R:=u8R) ([112]:List UInt8) 3 (pP Z Z<|pN) Z tu52 ti5 Z Z) fun v4=>Zm Z<|Zq (z4o Z (.own 1 Z) Z tu88)<|Zq (I.toU Z tu3 tu35)<|Zc [] [(100,4)] Tryz.func57 Z (z2g _) fun r5 n6=>z0k fun x7 h8=>Ef Z (apn 3 Z Z Z (.own 4 Z) h8 tu52 ti5 Z Z Z) fun v9=>Zb Z<|gSR<|Ef Z (mkm aZ z0h 5 (Or.inl Z) Tryz.underlying103) fun v10=>Zb Z<|z8x (fun (s11:(List UInt8)) aa ww=>∃ nv:Nat→Value,Sta (ctx 103 H [zG1] w) [(6,.val (nv 0))] [(3,some ((nv 0),.list u8R 5 s11)),zG1] aa ww) ?_ (fun s11=>?_)
  ·refine gSR<|Zm Z<|Zq (z4o Z (.own 1 Z) Z tu88)<|Zm Z<|Zn<|z23 (fun (s12:(List UInt8) × (List (V3 × Int)) × Int) aa ww=>∃ nv:Nat→Value,Sta (ctx 103 H [zG1] w) [(6,.val (nv 0)),(7,.val v10),(33,.val (n2 0)),(34,.rd z0h (r1.1.length:Int)),(35,.rd z0h s12.2.2)] [(3,some ((nv 0),.list u8R 5 s12.1)),(5,some (v10,.map aZ z0h s12.2.1)),(1,some ((n2 0),.list z05 94 r1.1)),zG1] aa ww) (fun aa ww h=>⟨nvl [v9],Zu h [3,5,1,1001]⟩) (fun s12=>?_)
   refine gEx fun n13=>gSR<|Zq (I.lss Z Z)<|Zn<|z0t<|gIf Z Z (fun h14=>?_) (fun h14=>?_)
   ·refine Zt<|z0t<|z5o<|gSR<|Zm Z<|z0k fun x15 h16=>Zq (ixO 1 Z Z Z h16 tu88 zee)<|Zq (ld 1 Z Z (Foc.el h16) zto Z)<|Eb Z (zb8 1100 zee (.zr (R:=z05) (x:=(⟨(⟨0,[],0,(⟨0,[],(⟨0,0,0,[]⟩:z04)⟩:z1b),(⟨0,0⟩:z0r)⟩:z00),(Vector.replicate 32 0)⟩:z02)) ztg)) fun v17=>Za Z<|Es (sto 1100 Z Z fH Z zee)<|Zn<|gSR<|Zq (faB 1100 Z Z Tryz.underlying94 Z (by exact zb9))<|Zq (ld 1100 Z Z (fP (z3x _)) zez Z)<|Eb Z (zb8 1101 zb9 (ZrE.rd (R:=z0o) (x:=0) (Zr.num Z) (ZrE.nilS (ZrE.rd (R:=z2p) (x:=0) (Zr.num Z) (ZrE.rd (R:=z15) (x:=(⟨0,[],(⟨0,0,0,[]⟩:z04)⟩:z1b)) zuf (ZrE.rd (R:=z1n) (x:=(⟨0,0⟩:z0r)) zuk ZrE.nil Z) Z) Z)) Z)) fun v18=>zr2 aZ [.rd z0o 0,.rd (z01 aZ) [],.rd z2p 0,.rd z15 (⟨0,[],(⟨0,0,0,[]⟩:z04)⟩:z1b),.rd z1n (⟨0,0⟩:z0r)] 1101 [.rd z0o 0] [.rd z2p 0,.rd z15 (⟨0,[],(⟨0,0,0,[]⟩:z04)⟩:z1b),.rd z1n (⟨0,0⟩:z0r)] Z Z Z<|zn3 (R:=z03) (⟨0,[],0,(⟨0,[],(⟨0,0,0,[]⟩:z04)⟩:z1b),(⟨0,0⟩:z0r)⟩:z00) 1101 Z (Sp.via (Sp.prod (Sp.prod (Sp.prod (Sp.prod (Sp.prod Sp.unit))))))<|Es (sto 1101 Z Z fH Z zb9)<|Zn<|gSR<|Zq (faB 1101 Z Z Tryz.underlying43 Z (by exact zc1))<|zwh (R:=z03) 1101 Z (Sp.via (Sp.prod (Sp.prod (Sp.prod (Sp.prod (Sp.prod Sp.unit))))))<|Es (zt1 1101 Z Z (zb5.cast (zb5.next z43 (zb5.here z43)) Z) Z z9z z72 zc1)<|Zn<|gSR<|zr2 aZ [.rd z0o x15.o.Author,.rd (z01 aZ) [],.rd z2p x15.o.Stamp,.rd z15 x15.o.Act,.rd z1n x15.o.Sig] 1101 [.rd z0o x15.o.Author] [.rd z2p x15.o.Stamp,.rd z15 x15.o.Act,.rd z1n x15.o.Sig] Z Z Z<|zn3 (R:=z03) (⟨x15.o.Author,[],x15.o.Stamp,x15.o.Act,x15.o.Sig⟩:z00) 1101 Z (Sp.via (Sp.prod (Sp.prod (Sp.prod (Sp.prod (Sp.prod Sp.unit))))))<|Zq (ld 1101 Z Z fH zez Z)<|Zc [] [(100,1102)] Tryz.func58 Z (zei _) fun r19 n20=>Zm Z<|Zq (ext Z Z)<|Zq (ext Z Z)<|Za Z<|Zb Z<|z0t<|gSR<|Zm Z<|Zq (I.neq Z Z)<|Zj Z (fun h21=>?_) (fun h21=>?_)
    ·refine gSR<|Zm Z<|Za Z<|Zb Z<|z0n<|z16<|z4l<|z16<|z81<|z85<|zgh u8R 5 1103<|Ze [(.slice none 0 0)] [1001,1103] Z
    ·refine Zt<|gSR<|Zm Z<|zcq 1102 [46,11,52] Z (fS Z<|fS Z<|fS Z<|fN)<|Zc [] [(100,1104)] Tryz.func59 Z (zav _) fun r22 n23=>Zm Z<|Zq (ext Z Z)<|Zq (ext Z Z)<|Za Z<|Zb Z<|z0t<|gSR<|Zm Z<|Zq (I.neq Z Z)<|Zj Z (fun h24=>?_) (fun h24=>?_)
     ·refine gSR<|Zm Z<|Za Z<|Zb Z<|z0n<|z16<|z4l<|z16<|z81<|z85<|zgh u8R 5 1105<|Ze [(.slice none 0 0)] [1001,1105] Z
     ·refine Zt<|z0t<|z8s [3,1130] mixed Z Z<|hTk 0 Z Z (mv Z)<|hTk 1 Z Z (mv Z)<|hTk 3 Z Z (faB 1100 Z Z Tryz.underlying94 Z (by exact zb9))<|hTk 4 Z Z (faB 1100 Z Z Tryz.underlying43 Z (by exact zc1))<|hTk 5 Z Z (ld 1100 Z Z ((fP (z3x _)).part (z0e _)) zdd Z)<|hTk 6 Z Z (z4o Z .rd Z tu29)<|hTk 7 Z Z (I.toU Z tu3 tu35)<|z2r fun x25 h26=>Zo 2 Z Z Z (apn 3 Z Z Z (.own 1104 Z) h26 tu52 ti5 Z Z Z) fun v27=>z5e 8 [] [(100,1130)] Z (by kernel_rfl) Z (gd0 Z) Z Tryz.func57 Z Z (z2g _) (Y1 Z) rN Z (fun _ _=>z2c) fun r28 n29=>z2r fun x30 h31=>Zo 9 Z Z Z (apn 3 Z Z Z (.own 1130 Z) h31 tu52 ti5 Z Z Z) fun v32=>Zf 10 Z Z z2c (asg Z)<|z5x (by kernel_rfl)<|z0l<|z7q (fun (s33:(List UInt8)) aa ww=>∃ nv:Nat→Value,Sta (ctx 103 H [zG1] w) [(6,.val (nv 0)),(7,.val v10),(8,.rd z0h s12.2.2),(9,.val (z0i v17 0)),(33,.val (n2 0)),(34,.rd z0h (r1.1.length:Int)),(35,.rd z0h s12.2.2)] [(3,some ((nv 0),.list u8R 5 s33)),(5,some (v10,.map aZ z0h s12.2.1)),(1100,some (v17,.box 94 [.rd z05 x15])),(1,some ((n2 0),.list z05 94 r1.1)),zG1] aa ww) ?_ (fun s33=>?_)
      ·refine gSR<|Zq (faB 1100 Z Z Tryz.underlying94 Z (by exact zb9))<|Zq (faB 1100 Z Z Tryz.underlying43 Z (by exact zc1))<|Zq (ld 1100 Z Z ((fP (z3x _)).part (z0e _)) zdd Z)<|Zq (z4o Z .rd Z tu29)<|Zm Z<|Zn<|z23 (fun (s34:(List UInt8) × Int) aa ww=>∃ nv:Nat→Value,Sta (ctx 103 H [zG1] w) [(6,.val (nv 0)),(7,.val v10),(8,.rd z0h s12.2.2),(9,.val (z0i v17 0)),(33,.val (n2 0)),(34,.rd z0h (r1.1.length:Int)),(35,.rd z0h s12.2.2),(71,.rd (z01 aZ) x15.o.Preds),(72,.rd z0h (x15.o.Preds.length:Int)),(73,.rd z0h s34.2)] [(3,some ((nv 0),.list u8R 5 s34.1)),(5,some (v10,.map aZ z0h s12.2.1)),(1100,some (v17,.box 94 [.rd z05 x15])),(1,some ((n2 0),.list z05 94 r1.1)),zG1] aa ww) (fun aa ww h=>⟨nvl [v32],Zu h [3,5,1100,1,1001]⟩) (fun s34=>?_)
       refine gEx fun n35=>gSR<|Zq (I.lss Z Z)<|Zn<|z0t<|gIf Z Z (fun h36=>?_) (fun h36=>?_)
       ·refine Zt<|z0t<|z5o<|gSR<|z0k fun x37 h38=>Zq (ixR Z Z h38 tu29 z3o Z)<|Zq (ldR Z z8h)<|Eb Z (zb8 1142 z3o (.zr (R:=aZ) (x:=(Vector.replicate 32 0)) zjz)) fun v39=>Es (sto 1142 Z Z fH Z z3o)<|Zn<|gSR<|Zm Z<|Zq (ld 1142 Z Z fH z8h Z)<|Zq (zzg Z (.own 5 Z Z) Z zsc Tryz.underlying103 ti3 (Zr.num Z) Z)<|Zm Z<|Zq (ext Z Z)<|Zq (ext Z Z)<|Za Z<|z1k 16 Z fun y40=>Za Z<|z1k 17 Z fun y41=>Zn<|gSR<|Zm Z<|Zj Z (fun h42=>?_) (fun h42=>?_)
        ·refine gKn 17 Z h42<|z27<|Zm Z<|Zm Z<|Zm Z<|Zq (I.sub Z Z)<|Zq (I.toU Z tu3 tu35)<|Zc [] [(100,1143)] Tryz.func57 Z (z2g _) fun r43 n44=>z0k fun x45 h46=>Ef Z (apn 3 Z Z Z (.own 1143 Z) h46 tu52 ti5 Z Z Z) fun v47=>Za Z<|z1w<|z2y<|z0l<|z27<|Zq (I.add Z Z)<|Zm Z<|z1w<|z1l (fun aa ww h=>⟨nvl [v47],Zu h [3,5,1100,1,1001]⟩)
        ·refine gKn 17 Z h42<|ztn 1142 15 Z Z<|z8s [3,1147] mixed Z Z<|hTk 0 Z Z (mv Z)<|hTk 3 Z Z (zud Z tu45 ti5 Z Z Z)<|Zo 1 Z Z Z (lit (R:=u8R) ([0]:List UInt8) 1147 (pP Z Z<|pN) Z tu52 ti5 Z Z) fun v48=>z2r fun x49 h50=>Zo 2 Z Z Z (apn 3 Z Z Z (.own 1147 Z) h50 tu52 ti5 Z Z Z) fun v51=>z2r fun x52 h53=>Zo 4 Z Z Z (apn 3 Z Z Z .rd h53 tu52 ti5 Z Z Z) fun v54=>Zf 5 Z Z z2c (asg Z)<|z5x (by kernel_rfl)<|z2y<|z0l<|z27<|Zq (I.add Z Z)<|Zm Z<|z1w<|z1l (fun aa ww h=>⟨nvl [v54],Zu h [3,5,1100,1,1001]⟩)
       ·refine z20<|z0u<|z0v<|z41 (fun aa ww h=>⟨nvl [(n35 0)],Zu h [3,5,1100,1,1001]⟩)
      ·refine gEx fun n55=>z27<|Zm Z<|Zq (faB 1100 Z Z Tryz.underlying94 Z (by exact z3o))<|Zq (ld 1100 Z Z (fP (z4e _)) z8h Z)<|Zm Z<|Es (mup 5 Z Z Z Z zsc Tryz.underlying103)<|z1w<|z2y<|z0l<|z27<|Zq (I.add Z Z)<|Zm Z<|z1w<|z1l (fun aa ww h=>⟨nvl [(n55 0)],Zu h [3,5,1,1001]⟩)
   ·refine z20<|z0u<|z0v<|z8d (fun aa ww h=>⟨nvl [(n13 0)],Zu h [3,1001]⟩)
  ·refine gEx fun n56=>gSR<|Zm Z<|Za Z<|Zb Z<|z0n<|Ze [(n56 0)] [1001,3] Z
def z5n (a0:List UInt8) (a1:List UInt8) (s3:Int):Option (Sum (Sum Bool Unit) Int) :=
 if decide (s3<(a0.length:Int)) then
  idx a0 s3 >>= fun x5 =>
  idx a1 s3 >>= fun x7 =>
  if x5 != x7 then
   some (.inl (.inl false))
  else
   some (.inr (w64 (s3+1)))
 else
  some (.inl (.inr ()))
def z3j (a0:List UInt8) (a1:List UInt8):Option (Bool) :=
 if (a0.length:Int) != (a1.length:Int) then
  some false
 else
  z71 (iter (z5n a0 a1) 0) fun s2 =>
  some true
theorem zaj (a0:List UInt8) (a1:List UInt8):z28 Tryz.prog 26 [.rd (z01 u8R) a0,.rd (z01 u8R) a1] [] (z3j a0 a1) (fun r nv=>⟨[.rd z09 r],[]⟩):=by
 refine z2o 26 Tryz.func26 Z Z Z fun H w=>?_
 refine gSR<|Zb Z<|z0t<|gSR<|Zm Z<|Zq (z4o Z .rd Z tu52)<|Zm Z<|Zq (z4o Z .rd Z tu52)<|Zq (I.neq Z Z)<|Zj Z (fun h1=>?_) (fun h1=>?_)
 ·refine gSR<|Zb Z<|z0n<|z16<|Ze [] [] Z
 ·refine Zt<|z8x (fun (s2:Unit) aa ww=>Sta (ctx 26 H [] w) [] [] aa ww) ?_ (fun s2=>?_)
  ·refine gSR<|Zb Z<|z23 (fun (s3:Int) aa ww=>Sta (ctx 26 H [] w) [(0,.rd (z01 u8R) a0),(1,.rd (z01 u8R) a1),(5,.rd z0h s3)] [] aa ww) (fun aa ww h=>Zu h []) (fun s3=>?_)
   refine z0t<|gSR<|Zm Z<|Zm Z<|Zq (z4o Z .rd Z tu52)<|Zq (I.lss Z Z)<|Zj Z (fun h4=>?_) (fun h4=>?_)
   ·refine Zt<|z0t<|z5o<|z0t<|zdz mixed (by kernel_rfl)<|Rq Z (mv Z)<|Rq Z (mv Z)<|z60 fun x5 h6=>Rq Z (ixR Z Z h6 tu52 ti5 Z)<|Rq Z (ldR Z ty5)<|Rq Z (mv Z)<|Rq Z (mv Z)<|z60 fun x7 h8=>Rq Z (ixR Z Z h8 tu52 ti5 Z)<|Rq Z (ldR Z ty5)<|Rq Z (B.neq Z Z)<|zm7<|z0l<|gIf Z Z (fun h9=>?_) (fun h9=>?_)
    ·refine gSR<|Zb Z<|z0n<|z4l<|z16<|z81<|z85<|Ze [] [] Z
    ·refine z2s<|z2y<|z0l<|z27<|Zm Z<|Zq (I.add Z Z)<|Za Z<|z1w<|z1l (fun aa ww h=>Zu h [])
   ·refine z20<|z0u<|z0v<|z8d (fun aa ww h=>Zu h [])
  ·refine gSR<|Zb Z<|z0n<|Ze [] [] Z
def z6s (a0:List z00) (s2:(List V3) × Int):Option (Sum ((List V3)) ((List V3) × Int)) :=
 if decide (s2.2<(a0.length:Int)) then
  idx a0 s2.2 >>= fun x5 =>
  z9b x5 >>= fun r7 =>
  app 32 s2.1 [r7] >>= fun x10 =>
  some (w64 (s2.2+1)) >>= fun y13 =>
  some (.inr (x10,y13))
 else
  some (.inl s2.1)
def z4t (a0:List z00):Option ((List V3)) :=
 (iter (z6s a0) ([],0)) >>= fun s1 =>
 some s1
theorem z6u (a0:List z00):z28 Tryz.prog 43 [.rd (z01 z03) a0] [] (z4t a0) (fun r nv=>⟨[.val (nv 0)],[(100,some (nv 0,.list aZ 45 r))]⟩):=by
 refine z2o 20 Tryz.func43 Z Z Z fun H w=>?_
 refine gSR<|Zb Z<|gSR<|Zb Z<|z7q (fun (s1:(List V3)) aa ww=>∃ nv:Nat→Value,Sta (ctx 20 H [] w) [(3,.val (nv 0))] [(2,some ((nv 0),.list aZ 45 s1))] aa ww) ?_ (fun s1=>?_)
 ·refine gSR<|Zb Z<|zmw aZ 45 5<|z23 (fun (s2:(List V3) × Int) aa ww=>∃ nv:Nat→Value,Sta (ctx 20 H [] w) [(0,.rd (z01 z03) a0),(3,.val (nv 0)),(4,.rd z0h s2.2)] [(4,some ((nv 0),.list aZ 45 s2.1))] aa ww) (fun aa ww h=>⟨nvl [(.slice none 0 0)],Zu h [5]⟩) (fun s2=>?_)
  refine gEx fun n3=>z0t<|gSR<|Zm Z<|Zm Z<|Zq (z4o Z .rd Z tu22)<|Zq (I.lss Z Z)<|Zj Z (fun h4=>?_) (fun h4=>?_)
  ·refine Zt<|z0t<|z5o<|z27<|Zm Z<|Zm Z<|Zm Z<|z0k fun x5 h6=>Zq (ixR Z Z h6 tu22 zb9 Z)<|Zq (ldR Z zez)<|Zc [] [] Tryz.func16 Z (zeo _) fun r7 n8=>Ef Z (lit (R:=aZ) ([r7]:List V3) 6 (pP Z Z<|pN) Z tu29 z3o Z Z) fun v9=>zcq 6 [17] Z (fS Z<|fN)<|z0k fun x10 h11=>Ef Z (apn 4 Z Z Z .rd h11 tu29 z3o Z Z Z) fun v12=>Za Z<|z1w<|z2y<|z0l<|z27<|Zm Z<|Zq (I.add Z Z)<|Za Z<|z1k 4 Z fun y13=>z1w<|z1l (fun aa ww h=>⟨nvl [v12],Zu h [4]⟩)
  ·refine z20<|z0u<|z0v<|z41 (fun aa ww h=>⟨nvl [(n3 0)],Zu h [4]⟩)
 ·refine gEx fun n14=>gSR<|Zm Z<|Zb Z<|z0n<|Ze [(n14 0)] [2] Z
def z63 (a0:z00) (a1:List V3) (a2:List Bool) (s3:Int):Option (Sum (Sum Bool Unit) Int) :=
 if decide (s3<(a1.length:Int)) then
  idx a2 s3 >>= fun x5 =>
  if x5 then
   idx a1 s3 >>= fun x8 =>
   z5k a0.Preds x8 >>= fun r10 =>
   if decide (0≤r10) then
    some (.inl (.inl false))
   else
    some (.inr (w64 (s3+1)))
  else
   some (.inr (w64 (s3+1)))
 else
  some (.inl (.inr ()))
def z7t (a0:z00) (a1:List V3) (a2:List Bool):Option (Bool) :=
 z71 (iter (z63 a0 a1 a2) 0) fun s2 =>
 some true
theorem zaw (a0:z00) (a1:List V3) (q1:Value) (l1:List V3) (a2:List Bool) (q2:Value) (l2:List Bool):z28 Tryz.prog 86 [.rd z03 a0,.vw aZ q1 l1 a1,.vw z09 q2 l2 a2] [(1,some (q1,.list aZ 45 l1)),(2,some (q2,.list z09 4 l2))] (z7t a0 a1 a2) (fun r nv=>⟨[.rd z09 r],[(1,some (q1,.list aZ 45 l1)),(2,some (q2,.list z09 4 l2))]⟩):=by
 refine z2o 28 Tryz.func86 Z Z Z fun H w=>?_
 refine gSR<|Eb Z (bx 3 Z) fun v1=>Zb Z<|z8x (fun (s2:Unit) aa ww=>Sta (ctx 28 H [(1,some (q1,.list aZ 45 l1)),(2,some (q2,.list z09 4 l2))] w) [] [(1,some (q1,.list aZ 45 l1)),(2,some (q2,.list z09 4 l2))] aa ww) ?_ (fun s2=>?_)
 ·refine gSR<|Zb Z<|z23 (fun (s3:Int) aa ww=>Sta (ctx 28 H [(1,some (q1,.list aZ 45 l1)),(2,some (q2,.list z09 4 l2))] w) [(1,.vw aZ q1 l1 a1),(2,.vw z09 q2 l2 a2),(3,.val (z0i v1 0)),(7,.rd z0h s3)] [(1,some (q1,.list aZ 45 l1)),(2,some (q2,.list z09 4 l2)),(3,some (v1,.box 43 [.rd z03 a0]))] aa ww) (fun aa ww h=>Zu h [1,2,3]) (fun s3=>?_)
  refine z0t<|gSR<|Zm Z<|Zm Z<|Zq (z4o Z (.vw 1 Z) Z tu29)<|Zq (I.lss Z Z)<|Zj Z (fun h4=>?_) (fun h4=>?_)
  ·refine Zt<|z0t<|z5o<|z0t<|z8s [] mixed Z Z<|hTk 0 Z Z (mv Z)<|hTk 1 Z Z (mv Z)<|z2r fun x5 h6=>hTk 2 Z Z (ixQ 2 Z Z Z h6 tu128 ti4)<|hTk 3 Z Z (ldQ 2 Z Z ty4 Z)<|hTk 4 Z Z (mv Z)<|hIf 18 Z Z (fun h7=>?_) (fun h7=>?_)
   ·refine hKn 17 Z Z h7<|Zg 5 Z Z (faB 3 Z Z Tryz.underlying43 Z (by exact zc1))<|Zg 6 Z Z (ld 3 Z Z (fP (z0e _)) zdd Z)<|Zg 7 Z Z (mv Z)<|Zg 8 Z Z (mv Z)<|z2r fun x8 h9=>Zg 9 Z Z (ixQ 1 Z Z Z h9 tu29 z3o)<|Zg 10 Z Z (ldQ 1 Z Z z8h Z)<|z5e 11 [] [] Z (by kernel_rfl) Z Zx Z Tryz.func17 Z Z (z78 _ _) (Y2 Z Z) rN Z (fun _ _=>z42) fun r10 n11=>Zg 12 Z Z (I.geq Z Z)<|hTk 13 Z Z (pkT Z Z)<|z5x (by kernel_rfl)<|z0l<|gIf Z Z (fun h12=>?_) (fun h12=>?_)
    ·refine gKn 26 Z h12<|gSR<|Zb Z<|z0n<|z4l<|z16<|z81<|z85<|Ze [] [1,2] Z
    ·refine gKn 26 Z h12<|z2s<|z2y<|z0l<|z27<|Zm Z<|Zq (I.add Z Z)<|Za Z<|z1w<|z1l (fun aa ww h=>Zu h [1,2,3])
   ·refine hKn 17 Z Z h7<|hSk 5 Z Z<|hSk 6 Z Z<|hSk 7 Z Z<|hSk 8 Z Z<|hSk 9 Z Z<|hSk 10 Z Z<|hSk 11 Z Z<|hSk 12 Z Z<|hTk 13 Z Z (pkF Z Z)<|z5x (by kernel_rfl)<|z0l<|zb2 Z<|z2s<|z2y<|z0l<|z27<|Zm Z<|Zq (I.add Z Z)<|Za Z<|z1w<|z1l (fun aa ww h=>Zu h [1,2,3])
  ·refine z20<|z0u<|z0v<|z8d (fun aa ww h=>Zu h [1,2])
 ·refine gSR<|Zb Z<|z0n<|Ze [] [1,2] Z
def z3v (a0:List z00) (s7:(List Bool) × Int):Option (Sum ((List Bool)) ((List Bool) × Int)) :=
 if decide (s7.2<(a0.length:Int)) then
  idx s7.1 s7.2 >>= fun x9 =>
  some (w64 (s7.2+1)) >>= fun y11 =>
  some (.inr (s7.1.set (s7.2:Int).toNat true,y11))
 else
  some (.inl s7.1)
def z2v (a0:List z00) (r1:(List V3)) (s12:(List Bool) × (List Int)) (s15:Int × Int):Option (Sum Int (Int × Int)) :=
 if decide (s15.2<(a0.length:Int)) then
  (idx s12.1 s15.2 >>= fun x18 =>
  if x18 then
   idx a0 s15.2 >>= fun x21 =>
   z7t x21 r1 s12.1 >>= fun r23 =>
   if r23 then
    if decide (s15.1<0) then
     some true
    else
     idx r1 s15.2 >>= fun x27 =>
     idx r1 s15.1 >>= fun x29 =>
     z4s x27 x29 >>= fun r31 =>
     some (decide (r31<0))
   else
    some false
  else
   some false) >>= fun s17 =>
  if s17 then
   some (w64 (s15.2+1)) >>= fun y36 =>
   some (.inr (s15.2,y36))
  else
   some (w64 (s15.2+1)) >>= fun y37 =>
   some (.inr (s15.1,y37))
 else
  some (.inl s15.1)
def z2t (a0:List z00) (r1:(List V3)) (s12:(List Bool) × (List Int)):Option (Sum ((List Int)) ((List Bool) × (List Int))) :=
 (iter (z2v a0 r1 s12) ((-1),0)) >>= fun s14 =>
 if decide (s14<0) then
  some (.inl s12.2)
 else
  app 8 s12.2 [s14] >>= fun x40 =>
  idx s12.1 s14 >>= fun x43 =>
  some (.inr (s12.1.set (s14:Int).toNat false,x40))
def z5t (a0:List z00):Option ((List Int)) :=
 z4t a0 >>= fun r1 =>
 mkn 1 false (a0.length:Int) >>= fun x3 =>
 (iter (z3v a0) (x3,0)) >>= fun s6 =>
 iter (z2t a0 r1) (s6,[])
theorem z9m (a0:List z00):z28 Tryz.prog 44 [.rd (z01 z03) a0] [] (z5t a0) (fun r nv=>⟨[.val (nv 0)],[(100,some (nv 0,.list z0h 3 r))]⟩):=by
 refine z2o 69 Tryz.func44 Z Z Z fun H w=>?_
 refine gSR<|Zb Z<|gSR<|Zm Z<|Zc [] [(100,1)] Tryz.func43 Z (z6u _) fun r1 n2=>Zb Z<|gSR<|Zm Z<|Zq (z4o Z .rd Z tu22)<|z0k fun x3 h4=>Ef Z (mks (R:=z09) 2 Z Z h4 tu128 ti4 Zr.bool Z) fun v5=>Zb Z<|z7q (fun (s6:(List Bool)) aa ww=>Sta (ctx 69 H [] w) [(0,.rd (z01 z03) a0),(3,.val (n2 0)),(4,.val v5)] [(1,some ((n2 0),.list aZ 45 r1)),(2,some (v5,.list z09 4 s6))] aa ww) ?_ (fun s6=>?_)
 ·refine gSR<|Zb Z<|z23 (fun (s7:(List Bool) × Int) aa ww=>Sta (ctx 69 H [] w) [(0,.rd (z01 z03) a0),(3,.val (n2 0)),(4,.val v5),(5,.rd z0h s7.2)] [(1,some ((n2 0),.list aZ 45 r1)),(2,some (v5,.list z09 4 s7.1))] aa ww) (fun aa ww h=>Zu h [1,2]) (fun s7=>?_)
  refine z0t<|gSR<|Zm Z<|Zm Z<|Zq (z4o Z .rd Z tu22)<|Zq (I.lss Z Z)<|Zj Z (fun h8=>?_) (fun h8=>?_)
  ·refine Zt<|z0t<|z5o<|z27<|Zm Z<|Zm Z<|z0k fun x9 h10=>Zq (ixO 2 Z Z Z h10 tu128 ti4)<|Es (sto 2 Z Z (Foc.el h10) Z ti4)<|z1w<|z2y<|z0l<|z27<|Zm Z<|Zq (I.add Z Z)<|Za Z<|z1k 5 Z fun y11=>z1w<|z1l (fun aa ww h=>Zu h [1,2])
  ·refine z20<|z0u<|z0v<|z41 (fun aa ww h=>Zu h [1,2])
 ·refine gSR<|Zb Z<|zmw z0h 3 96<|z23 (fun (s12:(List Bool) × (List Int)) aa ww=>∃ nv:Nat→Value,Sta (ctx 69 H [] w) [(0,.rd (z01 z03) a0),(3,.val (n2 0)),(4,.val v5),(6,.val (nv 0))] [(1,some ((n2 0),.list aZ 45 r1)),(2,some (v5,.list z09 4 s12.1)),(95,some ((nv 0),.list z0h 3 s12.2))] aa ww) (fun aa ww h=>⟨nvl [(.slice none 0 0)],Zu h [1,2,96]⟩) (fun s12=>?_)
  refine gEx fun n13=>z5o<|gSR<|Zb Z<|z7q (fun (s14:Int) aa ww=>Sta (ctx 69 H [] w) [(0,.rd (z01 z03) a0),(3,.val (n2 0)),(4,.val v5),(6,.val (n13 0)),(7,.rd z0h s14)] [(1,some ((n2 0),.list aZ 45 r1)),(2,some (v5,.list z09 4 s12.1)),(95,some ((n13 0),.list z0h 3 s12.2))] aa ww) ?_ (fun s14=>?_)
  ·refine gSR<|Zb Z<|z23 (fun (s15:Int × Int) aa ww=>Sta (ctx 69 H [] w) [(0,.rd (z01 z03) a0),(3,.val (n2 0)),(4,.val v5),(6,.val (n13 0)),(7,.rd z0h s15.1),(8,.rd z0h s15.2)] [(1,some ((n2 0),.list aZ 45 r1)),(2,some (v5,.list z09 4 s12.1)),(95,some ((n13 0),.list z0h 3 s12.2))] aa ww) (fun aa ww h=>Zu h [1,2,95]) (fun s15=>?_)
   refine z0t<|gSR<|Zm Z<|Zm Z<|Zq (z4o Z .rd Z tu22)<|Zq (I.lss Z Z)<|Zj Z (fun h16=>?_) (fun h16=>?_)
   ·refine Zt<|z0t<|z5o<|z7q (fun (s17:Bool) aa ww=>Sta (ctx 69 H [] w) [(0,.rd (z01 z03) a0),(3,.val (n2 0)),(4,.val v5),(6,.val (n13 0)),(7,.rd z0h s15.1),(8,.rd z0h s15.2),(57,.rd z09 s17)] [(1,some ((n2 0),.list aZ 45 r1)),(2,some (v5,.list z09 4 s12.1)),(95,some ((n13 0),.list z0h 3 s12.2))] aa ww) ?_ (fun s17=>?_)
    ·refine z8s [1,2] mixed Z Z<|hTk 0 Z Z (mv Z)<|hTk 1 Z Z (mv Z)<|z2r fun x18 h19=>hTk 2 Z Z (ixO 2 Z Z Z h19 tu128 ti4)<|zu1 3 Z (by kernel_rfl) (gd0 Z) Z Z zcy (ld 2 Z Z (Foc.el h19) ty4 Z)<|hTk 4 Z Z (mv Z)<|hIf 33 Z Z (fun h20=>?_) (fun h20=>?_)
     ·refine hKn 32 Z Z h20<|Zg 5 Z Z (mv Z)<|Zg 6 Z Z (mv Z)<|z2r fun x21 h22=>Zg 7 Z Z (ixR Z Z h22 tu22 zb9 Z)<|Zg 8 Z Z (ldR Z zez)<|Zg 9 Z Z (mv Z)<|Zg 10 Z Z (mv Z)<|z5e 11 [1,2] [(1,1),(2,2)] Z (by kernel_rfl) Z Zx Z Tryz.func86 Z Z (zaw _ _ _ _ _ _ _) (aQ Z<|aW Z<|aW Z<|aN) (Zi Z<|Zi Z<|rN) Z (fun _ _=>zcy) fun r23 n24=>hTk 12 Z Z (pkT Z Z)<|hTk 13 Z Z (mv Z)<|hIf 42 Z Z (fun h25=>?_) (fun h25=>?_)
      ·refine hKn 40 Z Z h25<|hKn 41 Z Z h25<|Zg 14 Z Z (mv Z)<|Zg 15 Z Z (I.lss Z Z)<|Zg 16 Z Z (mv Z)<|hIf 45 Z Z (fun h26=>?_) (fun h26=>?_)
       ·refine hKn 44 Z Z h26<|hSk 17 Z Z<|hSk 18 Z Z<|hSk 19 Z Z<|hSk 20 Z Z<|hSk 21 Z Z<|hSk 22 Z Z<|hSk 23 Z Z<|hSk 24 Z Z<|hSk 25 Z Z<|hSk 26 Z Z<|Zg 27 Z Z (pkT Z Z)<|hTk 28 Z Z (pkT Z Z)<|z5x (by kernel_rfl)<|z41 (fun aa ww h=>Zu h [1,2,95])
       ·refine hKn 44 Z Z h26<|Zg 17 Z Z (mv Z)<|Zg 18 Z Z (mv Z)<|z2r fun x27 h28=>Zg 19 Z Z (ixO 1 Z Z Z h28 tu29 z3o)<|Zg 21 Z Z (mv Z)<|Zg 22 Z Z (mv Z)<|z2r fun x29 h30=>Zg 23 Z Z (ixO 1 Z Z Z h30 tu29 z3o)<|zwg [20,24] (by kernel_rfl) Z ⟨?_,?_,trivial⟩
        ·refine zx0 20 Z Zx Z Z zuz (ld 1 Z Z (Foc.el h28) z8h Z)<|zu1 24 Z (by kernel_rfl) Zx Z Z zuz (ld 1 Z Z (Foc.el h30) z8h Z)<|z5e 25 [] [] Z (by kernel_rfl) Z Zx Z Tryz.func18 Z Z (z6r _ _) (Y2 Z Z) rN Z (fun _ _=>z42) fun r31 n32=>Zg 26 Z Z (I.lss Z Z)<|Zg 27 Z Z (pkF Z Z)<|hTk 28 Z Z (pkT Z Z)<|z5x (by kernel_rfl)<|z41 (fun aa ww h=>Zu h [1,2,95])
        ·refine zx0 24 Z Zx Z Z zuz (ld 1 Z Z (Foc.el h30) z8h Z)<|zu1 20 Z (by kernel_rfl) Zx Z Z zuz (ld 1 Z Z (Foc.el h28) z8h Z)<|z5e 25 [] [] Z (by kernel_rfl) Z Zx Z Tryz.func18 Z Z (z6r _ _) (Y2 Z Z) rN Z (fun _ _=>z42) fun r33 n34=>Zg 26 Z Z (I.lss Z Z)<|Zg 27 Z Z (pkF Z Z)<|hTk 28 Z Z (pkT Z Z)<|z5x (by kernel_rfl)<|z41 (fun aa ww h=>Zu h [1,2,95])
      ·refine hKn 40 Z Z h25<|hKn 41 Z Z h25<|hSk 14 Z Z<|hSk 15 Z Z<|hSk 16 Z Z<|za6 17 Z (by kernel_rfl) (by kernel_rfl) (by kernel_rfl) (gdU Z Z Z) Z Z<|za6 18 Z (by kernel_rfl) (by kernel_rfl) (by kernel_rfl) (gdU Z Z Z) Z Z<|za6 19 Z (by kernel_rfl) (by kernel_rfl) (by kernel_rfl) (gdU Z Z Z) Z Z<|za6 20 Z (by kernel_rfl) (by kernel_rfl) (by kernel_rfl) (gdU Z Z Z) Z Z<|za6 21 Z (by kernel_rfl) (by kernel_rfl) (by kernel_rfl) (gdU Z Z Z) Z Z<|za6 22 Z (by kernel_rfl) (by kernel_rfl) (by kernel_rfl) (gdU Z Z Z) Z Z<|za6 23 Z (by kernel_rfl) (by kernel_rfl) (by kernel_rfl) (gdU Z Z Z) Z Z<|za6 24 Z (by kernel_rfl) (by kernel_rfl) (by kernel_rfl) (gdU Z Z Z) Z Z<|za6 25 Z (by kernel_rfl) (by kernel_rfl) (by kernel_rfl) (gdU Z Z Z) Z Z<|za6 26 Z (by kernel_rfl) (by kernel_rfl) (by kernel_rfl) (gdU Z Z Z) Z Z<|hSk 27 Z Z<|hTk 28 Z Z (pkF Z Z)<|z5x (by kernel_rfl)<|z41 (fun aa ww h=>Zu h [1,2,95])
     ·refine hKn 32 Z Z h20<|hSk 5 Z Z<|hSk 6 Z Z<|hSk 7 Z Z<|hSk 8 Z Z<|hSk 9 Z Z<|hSk 10 Z Z<|hSk 11 Z Z<|hTk 12 Z Z (pkF Z Z)<|hTk 13 Z Z (mv Z)<|hSk 14 Z Z<|hSk 15 Z Z<|hSk 16 Z Z<|za6 17 Z (by kernel_rfl) (by kernel_rfl) (by kernel_rfl) (gdU Z Z Z) Z Z<|za6 18 Z (by kernel_rfl) (by kernel_rfl) (by kernel_rfl) (gdU Z Z Z) Z Z<|za6 19 Z (by kernel_rfl) (by kernel_rfl) (by kernel_rfl) (gdU Z Z Z) Z Z<|za6 20 Z (by kernel_rfl) (by kernel_rfl) (by kernel_rfl) (gdU Z Z Z) Z Z<|za6 21 Z (by kernel_rfl) (by kernel_rfl) (by kernel_rfl) (gdU Z Z Z) Z Z<|za6 22 Z (by kernel_rfl) (by kernel_rfl) (by kernel_rfl) (gdU Z Z Z) Z Z<|za6 23 Z (by kernel_rfl) (by kernel_rfl) (by kernel_rfl) (gdU Z Z Z) Z Z<|za6 24 Z (by kernel_rfl) (by kernel_rfl) (by kernel_rfl) (gdU Z Z Z) Z Z<|za6 25 Z (by kernel_rfl) (by kernel_rfl) (by kernel_rfl) (gdU Z Z Z) Z Z<|za6 26 Z (by kernel_rfl) (by kernel_rfl) (by kernel_rfl) (gdU Z Z Z) Z Z<|hSk 27 Z Z<|hTk 28 Z Z (pkF Z Z)<|z5x (by kernel_rfl)<|z41 (fun aa ww h=>Zu h [1,2,95])
    ·refine gIf Z Z (fun h35=>?_) (fun h35=>?_)
     ·refine z27<|Zm Z<|Za Z<|z1w<|z2y<|z0l<|z27<|Zm Z<|Zq (I.add Z Z)<|Za Z<|z1k 8 Z fun y36=>z1w<|z1l (fun aa ww h=>Zu h [1,2,95])
     ·refine z2s<|z2y<|z0l<|z27<|Zm Z<|Zq (I.add Z Z)<|Za Z<|z1k 8 Z fun y37=>z1w<|z1l (fun aa ww h=>Zu h [1,2,95])
   ·refine z20<|z0u<|z0v<|z41 (fun aa ww h=>Zu h [1,2,95])
  ·refine z0t<|gSR<|Zm Z<|Zq (I.lss Z Z)<|Zj Z (fun h38=>?_) (fun h38=>?_)
   ·refine gSR<|Zm Z<|Zb Z<|z0n<|z16<|z4l<|z81<|Ze [(n13 0)] [95] Z
   ·refine Zt<|gSR<|Zm Z<|Zm Z<|Ef Z (lit (R:=z0h) ([s14]:List Int) 187 (pP Z Z<|pN) Z tu86 ti3 Z Z) fun v39=>z0k fun x40 h41=>Ef Z (apn 95 Z Z Z (.own 187 Z) h41 tu86 ti3 Z Z Z) fun v42=>Zb Z<|z27<|Zm Z<|Zm Z<|z0k fun x43 h44=>Zq (ixO 2 Z Z Z h44 tu128 ti4)<|Es (sto 2 Z Z (Foc.el h44) Z ti4)<|z1w<|z2y<|z1l (fun aa ww h=>⟨nvl [v42],Zu h [1,2,95]⟩)
def z3q (a0:List z00) (s3:Int):Option (Sum (Sum Int Unit) Int) :=
 if decide (s3<(a0.length:Int)) then
  idx a0 s3 >>= fun x5 =>
  z7g x5 >>= fun r7 =>
  if r7 != 0 then
   some (.inl (.inl r7))
  else
   some (.inr (w64 (s3+1)))
 else
  some (.inl (.inr ()))
def z2w (s13:(List V3) × Int):Option (Sum (Sum Int Unit) ((List V3) × Int)) :=
 if decide (s13.2<(s13.1.length:Int)) then
  idx s13.1 s13.2 >>= fun x15 =>
  z5k s13.1 x15 >>= fun r17 =>
  if decide (r17<s13.2) then
   some (.inl (.inl 14))
  else
   some (w64 (s13.2+1)) >>= fun y20 =>
   some (.inr (s13.1,y20))
 else
  some (.inl (.inr ()))
def z3a (a0:List z00):Option (Int) :=
 if decide (60<(a0.length:Int)) then
  some 4
 else
  z71 (iter (z3q a0) 0) fun s2 =>
  z4t a0 >>= fun r10 =>
  z71 (iter (z2w) (r10,0)) fun s12 =>
  z5t a0 >>= fun r21 =>
  if decide ((r21.length:Int)<(a0.length:Int)) then
   some 36
  else
   some 0
theorem z5h (a0:List z00):z28 Tryz.prog 11 [.rd (z01 z03) a0] [] (z3a a0) (fun r nv=>⟨[.rd z0h r],[]⟩):=by
 refine z2o 46 Tryz.func11 Z Z Z fun H w=>?_
 refine gSR<|Zb Z<|z0t<|gSR<|Zm Z<|Zq (z4o Z .rd Z tu22)<|Zq (I.gtr Z Z)<|Zj Z (fun h1=>?_) (fun h1=>?_)
 ·refine gSR<|Zb Z<|z0n<|z16<|Ze [] [] Z
 ·refine Zt<|z8x (fun (s2:Unit) aa ww=>Sta (ctx 46 H [] w) [(0,.rd (z01 z03) a0)] [] aa ww) ?_ (fun s2=>?_)
  ·refine gSR<|Zb Z<|z23 (fun (s3:Int) aa ww=>Sta (ctx 46 H [] w) [(0,.rd (z01 z03) a0),(3,.rd z0h s3)] [] aa ww) (fun aa ww h=>Zu h []) (fun s3=>?_)
   refine z0t<|gSR<|Zm Z<|Zm Z<|Zq (z4o Z .rd Z tu22)<|Zq (I.lss Z Z)<|Zj Z (fun h4=>?_) (fun h4=>?_)
   ·refine Zt<|z0t<|z5o<|gSR<|Zm Z<|Zm Z<|z0k fun x5 h6=>Zq (ixR Z Z h6 tu22 zb9 Z)<|Zq (ldR Z zez)<|Zc [] [] Tryz.func15 Z (zce _) fun r7 n8=>Zb Z<|gSR<|Zm Z<|Zq (I.neq Z Z)<|Zj Z (fun h9=>?_) (fun h9=>?_)
    ·refine gSR<|Zm Z<|Zb Z<|z0n<|z4l<|z16<|z81<|z85<|Ze [] [] Z
    ·refine z2s<|z2y<|z0l<|z27<|Zm Z<|Zq (I.add Z Z)<|Za Z<|z1w<|z1l (fun aa ww h=>Zu h [])
   ·refine z20<|z0u<|z0v<|z8d (fun aa ww h=>Zu h [])
  ·refine gSR<|Zm Z<|Zc [] [(100,1)] Tryz.func43 Z (z6u _) fun r10 n11=>Zb Z<|z8x (fun (s12:Unit) aa ww=>Sta (ctx 46 H [] w) [(0,.rd (z01 z03) a0)] [] aa ww) ?_ (fun s12=>?_)
   ·refine gSR<|Zb Z<|zwn 1 [25,5] Z (fS Z<|fS Z<|fN)<|z23 (fun (s13:(List V3) × Int) aa ww=>Sta (ctx 46 H [] w) [(0,.rd (z01 z03) a0),(5,.rd (z01 aZ) s13.1),(6,.rd z0h s13.2)] [] aa ww) (fun aa ww h=>Zu h []) (fun s13=>?_)
    refine z0t<|gSR<|Zm Z<|Zm Z<|Zq (z4o Z .rd Z tu29)<|Zq (I.lss Z Z)<|Zj Z (fun h14=>?_) (fun h14=>?_)
    ·refine Zt<|z0t<|z5o<|gSR<|Zm Z<|Zm Z<|Zm Z<|z0k fun x15 h16=>Zq (ixR Z Z h16 tu29 z3o Z)<|Zq (ldR Z z8h)<|Zc [] [] Tryz.func17 Z (z78 _ _) fun r17 n18=>Zm Z<|Zq (I.lss Z Z)<|Zj Z (fun h19=>?_) (fun h19=>?_)
     ·refine gSR<|Zb Z<|z0n<|z4l<|z16<|z81<|z85<|Ze [] [] Z
     ·refine z2s<|z2y<|z0l<|z27<|Zm Z<|Zq (I.add Z Z)<|Za Z<|z1k 6 Z fun y20=>z1w<|z1l (fun aa ww h=>Zu h [])
    ·refine z20<|z0u<|z0v<|z8d (fun aa ww h=>Zu h [])
   ·refine z0t<|gSR<|Zm Z<|Zc [] [(100,2)] Tryz.func44 Z (z9m _) fun r21 n22=>Zq (z4o Z (.own 2 Z) Z tu86)<|Zm Z<|Zq (z4o Z .rd Z tu22)<|Zq (I.lss Z Z)<|Zj Z (fun h23=>?_) (fun h23=>?_)
    ·refine gSR<|Zb Z<|z0n<|z16<|Ze [] [] Z
    ·refine Zt<|gSR<|Zb Z<|z0n<|Ze [] [] Z
def z64 (a0:List z02) (s2:(List z00) × Int):Option (Sum ((List z00)) ((List z00) × Int)) :=
 if decide (s2.2<(a0.length:Int)) then
  idx a0 s2.2 >>= fun x5 =>
  app 112 s2.1 [x5.o] >>= fun x9 =>
  some (.inr (x9,w64 (s2.2+1)))
 else
  some (.inl s2.1)
def z7s (a0:List z02):Option ((List z00)) :=
 (iter (z64 a0) ([],0)) >>= fun s1 =>
 some s1
theorem zdn (a0:List z02):z28 Tryz.prog 46 [.rd (z01 z05) a0] [] (z7s a0) (fun r nv=>⟨[.val (nv 0)],[(100,some (nv 0,.list z03 43 r))]⟩):=by
 refine z2o 19 Tryz.func46 Z Z Z fun H w=>?_
 refine gSR<|Zb Z<|gSR<|Zb Z<|z7q (fun (s1:(List z00)) aa ww=>∃ nv:Nat→Value,Sta (ctx 19 H [] w) [(3,.val (nv 0))] [(3,some ((nv 0),.list z03 43 s1))] aa ww) ?_ (fun s1=>?_)
 ·refine gSR<|Zm Z<|Zq (z4o Z .rd Z tu88)<|Zm Z<|Zn<|zmw z03 43 7<|z23 (fun (s2:(List z00) × Int) aa ww=>∃ nv:Nat→Value,Sta (ctx 19 H [] w) [(3,.val (nv 0)),(6,.rd (z01 z05) a0),(7,.rd z0h (a0.length:Int)),(8,.rd z0h s2.2)] [(6,some ((nv 0),.list z03 43 s2.1))] aa ww) (fun aa ww h=>⟨nvl [(.slice none 0 0)],Zu h [7]⟩) (fun s2=>?_)
  refine gEx fun n3=>gSR<|Zq (I.lss Z Z)<|Zn<|z0t<|gIf Z Z (fun h4=>?_) (fun h4=>?_)
  ·refine Zt<|z0t<|z5o<|gSR<|z0k fun x5 h6=>Zq (ixR Z Z h6 tu88 zee Z)<|Zq (ldR Z zto)<|Eb Z (zb8 8 zee (.zr (R:=z05) (x:=(⟨(⟨0,[],0,(⟨0,[],(⟨0,0,0,[]⟩:z04)⟩:z1b),(⟨0,0⟩:z0r)⟩:z00),(Vector.replicate 32 0)⟩:z02)) ztg)) fun v7=>Es (sto 8 Z Z fH Z zee)<|Zn<|z27<|Zm Z<|Zq (faB 8 Z Z Tryz.underlying94 Z (by exact zb9))<|Zq (ld 8 Z Z (fP (z3x _)) zez Z)<|Ef Z (lit (R:=z03) ([x5.o]:List z00) 9 (pP Z Z<|pN) Z tu22 zb9 Z Z) fun v8=>zcq 9 [15] Z (fS Z<|fN)<|z0k fun x9 h10=>Ef Z (apn 6 Z Z Z .rd h10 tu22 zb9 Z Z Z) fun v11=>Za Z<|z1w<|z2y<|z0l<|z27<|Zq (I.add Z Z)<|Zm Z<|z1w<|z1l (fun aa ww h=>⟨nvl [v11],Zu h [6]⟩)
  ·refine z20<|z0u<|z0v<|z41 (fun aa ww h=>⟨nvl [(n3 0)],Zu h [6]⟩)
 ·refine gEx fun n12=>gSR<|Zm Z<|Zb Z<|z0n<|Ze [(n12 0)] [3] Z
def zd0 (a0:List z00):Option ((List z00) × Int) :=
 z5j a0 >>= fun r1 =>
 if r1.2 != 0 then
  some ([],r1.2)
 else
  z7s r1.1 >>= fun r4 =>
  some (r4,0)
theorem zjk (a0:List z00):z28 Tryz.prog 12 [.rd (z01 z03) a0] [zG1] (zd0 a0) (fun r nv=>⟨[.val (nv 0),.rd z0h r.2],[(1001,some (.bool true,.glob 1 (z2h 64 z0o) z8g)),(100,some (nv 0,.list z03 43 r.1))]⟩):=by
 refine z2o 16 Tryz.func12 Z Z Z fun H w=>?_
 refine gSR<|Za Z<|Zb Z<|gSR<|Zm Z<|Zc [1001] [(100,1)] Tryz.func45 Z (z7c _) fun r1 n2=>Zm Z<|Zq (ext Z Z)<|Zq (ext Z Z)<|Za Z<|Zb Z<|z0t<|gSR<|Zm Z<|Zq (I.neq Z Z)<|Zj Z (fun h3=>?_) (fun h3=>?_)
 ·refine gSR<|Zm Z<|Za Z<|Zb Z<|z0n<|z16<|zgh z03 43 2<|Ze [(.slice none 0 0)] [1001,2] Z
 ·refine Zt<|gSR<|Zm Z<|zcq 1 [9,4,14] Z (fS Z<|fS Z<|fS Z<|fN)<|Zc [] [(100,3)] Tryz.func46 Z (zdn _) fun r4 n5=>Za Z<|Zb Z<|z0n<|Ze [(n5 0)] [1001,3] Z
def z7v (r1:(List z02) × Int) (s6:(List (V3 × Bool)) × Int):Option (Sum ((List (V3 × Bool))) ((List (V3 × Bool)) × Int)) :=
 if decide (s6.2<(r1.1.length:Int)) then
  idx r1.1 s6.2 >>= fun x8 =>
  some (.inr (zew s6.1 x8.id true,w64 (s6.2+1)))
 else
  some (.inl s6.1)
def z6e (s5:(List (V3 × Bool))) (x16:z02) (s19:(List V3) × Int):Option (Sum ((List V3)) ((List V3) × Int)) :=
 if decide (s19.2<(x16.o.Preds.length:Int)) then
  idx x16.o.Preds s19.2 >>= fun x22 =>
  if !((z9s s5 x22).getD false) then
   app 32 s19.1 [x22] >>= fun x27 =>
   some (.inr (x27,w64 (s19.2+1)))
  else
   some (.inr (s19.1,w64 (s19.2+1)))
 else
  some (.inl s19.1)
def z88 (r1:(List z02) × Int) (s5:(List (V3 × Bool))) (s12:(List V3) × Int):Option (Sum ((List V3)) ((List V3) × Int)) :=
 if decide (s12.2<(r1.1.length:Int)) then
  (idx r1.1 s12.2 >>= fun x16 =>
  iter (z6e s5 x16) (s12.1,0)) >>= fun s15 =>
  some (.inr (s15,w64 (s12.2+1)))
 else
  some (.inl s12.1)
def z6g (a0:List z00):Option ((List V3) × Int) :=
 z5j a0 >>= fun r1 =>
 if r1.2 != 0 then
  some ([],r1.2)
 else
  (iter (z7v r1) (([]:List (V3 × Bool)),0)) >>= fun s5 =>
  (iter (z88 r1 s5) ([],0)) >>= fun s11 =>
  ztj s11 >>= fun r32 =>
  z0s r32 >>= fun r34 =>
  some (r34,0)
end
section
open Go Go.RowKit
set_option maxRecDepth 100000
theorem zg5 (a0:List z00):z28 Tryz.prog 13 [.rd (z01 z03) a0] [zG1] (z6g a0) (fun r nv=>⟨[.val (nv 0),.rd z0h r.2],[(1001,some (.bool true,.glob 1 (z2h 64 z0o) z8g)),(100,some (nv 0,.list aZ 45 r.1))]⟩):=by
 refine z2o 61 Tryz.func13 Z Z Z fun H w=>?_
 refine gSR<|Za Z<|Zb Z<|gSR<|Zm Z<|Zc [1001] [(100,1)] Tryz.func45 Z (z7c _) fun r1 n2=>Zm Z<|Zq (ext Z Z)<|Zq (ext Z Z)<|Za Z<|Zb Z<|z0t<|gSR<|Zm Z<|Zq (I.neq Z Z)<|Zj Z (fun h3=>?_) (fun h3=>?_)
 ·refine gSR<|Zm Z<|Za Z<|Zb Z<|z0n<|z16<|zgh aZ 45 2<|Ze [(.slice none 0 0)] [1001,2] Z
 ·refine Zt<|gSR<|Ef Z (mkm aZ z09 3 (Or.inl Z) Tryz.underlying92) fun v4=>Zb Z<|gSR<|Zb Z<|z7q (fun (s5:(List (V3 × Bool))) aa ww=>Sta (ctx 61 H [zG1] w) [(4,.val (n2 0)),(6,.val v4),(7,.val (.slice none 0 0))] [(1,some ((n2 0),.list z05 94 r1.1)),(3,some (v4,.map aZ z09 s5)),zG1] aa ww) ?_ (fun s5=>?_)
  ·refine gSR<|Zm Z<|Zq (z4o Z (.own 1 Z) Z tu88)<|Zm Z<|Zn<|z23 (fun (s6:(List (V3 × Bool)) × Int) aa ww=>Sta (ctx 61 H [zG1] w) [(4,.val (n2 0)),(6,.val v4),(7,.val (.slice none 0 0)),(23,.val (n2 0)),(24,.rd z0h (r1.1.length:Int)),(25,.rd z0h s6.2)] [(1,some ((n2 0),.list z05 94 r1.1)),(3,some (v4,.map aZ z09 s6.1)),zG1] aa ww) (fun aa ww h=>Zu h [1,3,1001]) (fun s6=>?_)
   refine gSR<|Zq (I.lss Z Z)<|Zn<|z0t<|gIf Z Z (fun h7=>?_) (fun h7=>?_)
   ·refine Zt<|z0t<|z5o<|gSR<|z0k fun x8 h9=>Zq (ixO 1 Z Z Z h9 tu88 zee)<|Zq (ld 1 Z Z (Foc.el h9) zto Z)<|Eb Z (zb8 1100 zee (.zr (R:=z05) (x:=(⟨(⟨0,[],0,(⟨0,[],(⟨0,0,0,[]⟩:z04)⟩:z1b),(⟨0,0⟩:z0r)⟩:z00),(Vector.replicate 32 0)⟩:z02)) ztg)) fun v10=>Es (sto 1100 Z Z fH Z zee)<|Zn<|z27<|Zm Z<|Zq (faB 1100 Z Z Tryz.underlying94 Z (by exact z3o))<|Zq (ld 1100 Z Z (fP (z4e _)) z8h Z)<|Es (mup 3 Z Z Z Z zsc Tryz.underlying92)<|z1w<|z2y<|z0l<|z27<|Zq (I.add Z Z)<|Zm Z<|z1w<|z1l (fun aa ww h=>Zu h [1,3,1001])
   ·refine z20<|z0u<|z0v<|z41 (fun aa ww h=>Zu h [1,3,1001])
  ·refine z7q (fun (s11:(List V3)) aa ww=>∃ nv:Nat→Value,Sta (ctx 61 H [zG1] w) [(7,.val (nv 0))] [(1104,some ((nv 0),.list aZ 45 s11)),zG1] aa ww) ?_ (fun s11=>?_)
   ·refine gSR<|Zm Z<|Zq (z4o Z (.own 1 Z) Z tu88)<|Zm Z<|Zn<|zmw aZ 45 1109<|z23 (fun (s12:(List V3) × Int) aa ww=>∃ nv:Nat→Value,Sta (ctx 61 H [zG1] w) [(6,.val v4),(7,.val (nv 0)),(33,.val (n2 0)),(34,.rd z0h (r1.1.length:Int)),(35,.rd z0h s12.2)] [(3,some (v4,.map aZ z09 s5)),(1108,some ((nv 0),.list aZ 45 s12.1)),(1,some ((n2 0),.list z05 94 r1.1)),zG1] aa ww) (fun aa ww h=>⟨nvl [(.slice none 0 0)],Zu h [3,1109,1,1001]⟩) (fun s12=>?_)
    refine gEx fun n13=>gSR<|Zq (I.lss Z Z)<|Zn<|z0t<|gIf Z Z (fun h14=>?_) (fun h14=>?_)
    ·refine Zt<|z7q (fun (s15:(List V3)) aa ww=>∃ nv:Nat→Value,Sta (ctx 61 H [zG1] w) [(6,.val v4),(7,.val (nv 0)),(33,.val (n2 0)),(34,.rd z0h (r1.1.length:Int)),(35,.rd z0h s12.2)] [(3,some (v4,.map aZ z09 s5)),(1108,some ((nv 0),.list aZ 45 s15)),(1,some ((n2 0),.list z05 94 r1.1)),zG1] aa ww) ?_ (fun s15=>?_)
     ·refine z5o<|gSR<|z0k fun x16 h17=>Zq (ixO 1 Z Z Z h17 tu88 zee)<|Zq (ld 1 Z Z (Foc.el h17) zto Z)<|Eb Z (zb8 1110 zee (.zr (R:=z05) (x:=(⟨(⟨0,[],0,(⟨0,[],(⟨0,0,0,[]⟩:z04)⟩:z1b),(⟨0,0⟩:z0r)⟩:z00),(Vector.replicate 32 0)⟩:z02)) ztg)) fun v18=>Es (sto 1110 Z Z fH Z zee)<|Zn<|gSR<|Zq (faB 1110 Z Z Tryz.underlying94 Z (by exact zb9))<|Zq (faB 1110 Z Z Tryz.underlying43 Z (by exact zc1))<|Zq (ld 1110 Z Z ((fP (z3x _)).part (z0e _)) zdd Z)<|Zq (z4o Z .rd Z tu29)<|Zm Z<|Zn<|z23 (fun (s19:(List V3) × Int) aa ww=>∃ nv:Nat→Value,Sta (ctx 61 H [zG1] w) [(6,.val v4),(7,.val (nv 0)),(33,.val (n2 0)),(34,.rd z0h (r1.1.length:Int)),(35,.rd z0h s12.2),(41,.rd (z01 aZ) x16.o.Preds),(42,.rd z0h (x16.o.Preds.length:Int)),(43,.rd z0h s19.2)] [(3,some (v4,.map aZ z09 s5)),(1108,some ((nv 0),.list aZ 45 s19.1)),(1,some ((n2 0),.list z05 94 r1.1)),zG1] aa ww) (fun aa ww h=>⟨nvl [(n13 0)],Zu h [3,1108,1,1001]⟩) (fun s19=>?_)
      refine gEx fun n20=>gSR<|Zq (I.lss Z Z)<|Zn<|z0t<|gIf Z Z (fun h21=>?_) (fun h21=>?_)
      ·refine Zt<|z0t<|z5o<|gSR<|z0k fun x22 h23=>Zq (ixR Z Z h23 tu29 z3o Z)<|Zq (ldR Z z8h)<|Eb Z (zb8 1111 z3o (.zr (R:=aZ) (x:=(Vector.replicate 32 0)) zjz)) fun v24=>Es (sto 1111 Z Z fH Z z3o)<|Zn<|gSR<|Zm Z<|Zq (ld 1111 Z Z fH z8h Z)<|Zq (mlk Z (.own 3 Z Z) Z zsc Tryz.underlying92 ti4 Zr.bool Z)<|Zq (zjw Z)<|Zj Z (fun h25=>?_) (fun h25=>?_)
       ·refine z27<|Zm Z<|Zq (ld 1111 Z Z fH z8h Z)<|Ef Z (lit (R:=aZ) ([x22]:List V3) 1112 (pP Z Z<|pN) Z tu29 z3o Z Z) fun v26=>zcq 1112 [53] Z (fS Z<|fN)<|z0k fun x27 h28=>Ef Z (apn 1108 Z Z Z .rd h28 tu29 z3o Z Z Z) fun v29=>Za Z<|z1w<|z2y<|z0l<|z27<|Zq (I.add Z Z)<|Zm Z<|z1w<|z1l (fun aa ww h=>⟨nvl [v29],Zu h [3,1108,1,1001]⟩)
       ·refine z2s<|z2y<|z0l<|z27<|Zq (I.add Z Z)<|Zm Z<|z1w<|z1l (fun aa ww h=>⟨nvl [(n20 0)],Zu h [3,1108,1,1001]⟩)
      ·refine z20<|z0u<|z0v<|z2y<|z41 (fun aa ww h=>⟨nvl [(n20 0)],Zu h [3,1108,1,1001]⟩)
     ·refine gEx fun n30=>z27<|Zq (I.add Z Z)<|Zm Z<|z1w<|z1l (fun aa ww h=>⟨nvl [(n30 0)],Zu h [3,1108,1,1001]⟩)
    ·refine z20<|z0u<|z0v<|z41 (fun aa ww h=>⟨nvl [(n13 0)],Zu h [1108,1001]⟩)
   ·refine gEx fun n31=>gSR<|Zm Z<|Zc [1104] [(1,1104)] Tryz.func47 Z (zrd _ _) fun r32 n33=>Zn<|gSR<|Zm Z<|Zc [1104] [(100,1113)] Tryz.func49 Z (z59 _ _) fun r34 n35=>Za Z<|Zb Z<|z0n<|Ze [(n35 0)] [1001,1113] Z
def z6b (a0:z00):Option (z00) :=
 app 32 ([]:List V3) a0.Preds >>= fun x4 =>
 some (⟨a0.Author,x4,a0.Stamp,a0.Act,a0.Sig⟩:z00)
theorem za2 (a0:z00):z28 Tryz.prog 55 [.rd z03 a0] [] (z6b a0) (fun r nv=>⟨[.rd z03 r],[]⟩):=by
 refine z2o 9 Tryz.func55 Z Z Z fun H w=>?_
 refine gSR<|Eb Z (bx 1 Z) fun v1=>Eb Z (zb8 2 zb9 (ZrE.rd (R:=z0o) (x:=0) (Zr.num Z) (ZrE.nilS (ZrE.rd (R:=z2p) (x:=0) (Zr.num Z) (ZrE.rd (R:=z15) (x:=(⟨0,[],(⟨0,0,0,[]⟩:z04)⟩:z1b)) zuf (ZrE.rd (R:=z1n) (x:=(⟨0,0⟩:z0r)) zuk ZrE.nil Z) Z) Z)) Z)) fun v2=>Zn<|gSR<|Ef Z (lit (R:=aZ) (([]:List V3):List V3) 3 (pN) Z tu29 z3o Z Z) fun v3=>Zq (faB 1 Z Z Tryz.underlying43 Z (by exact zc1))<|Zq (ld 1 Z Z (fP (z0e _)) zdd Z)<|z0k fun x4 h5=>Ef Z (apn 3 Z Z Z .rd h5 tu29 z3o Z Z Z) fun v6=>Zq (faB 1 Z Z Tryz.underlying43 Z (by exact zc1))<|zwh (R:=z03) 1 Z (Sp.via (Sp.prod (Sp.prod (Sp.prod (Sp.prod (Sp.prod Sp.unit))))))<|Es (zt1 1 Z Z (zb5.cast (zb5.next z43 (zb5.here z43)) Z) Z z9z z72 zc1)<|Zn<|gSR<|zw7 [.rd z0o a0.Author,.rd (z01 aZ) x4,.rd z2p a0.Stamp,.rd z15 a0.Act,.rd z1n a0.Sig] 1 3 [.rd z0o a0.Author] [.rd z2p a0.Stamp,.rd z15 a0.Act,.rd z1n a0.Sig] Z Z Z Z Z<|zn3 (R:=z03) (⟨a0.Author,x4,a0.Stamp,a0.Act,a0.Sig⟩:z00) 1 Z (Sp.via (Sp.prod (Sp.prod (Sp.prod (Sp.prod (Sp.prod Sp.unit))))))<|Zq (ld 1 Z Z fH zez Z)<|zr2 aZ [.rd z0o 0,.rd (z01 aZ) [],.rd z2p 0,.rd z15 (⟨0,[],(⟨0,0,0,[]⟩:z04)⟩:z1b),.rd z1n (⟨0,0⟩:z0r)] 2 [.rd z0o 0] [.rd z2p 0,.rd z15 (⟨0,[],(⟨0,0,0,[]⟩:z04)⟩:z1b),.rd z1n (⟨0,0⟩:z0r)] Z Z Z<|zn3 (R:=z03) (⟨0,[],0,(⟨0,[],(⟨0,0,0,[]⟩:z04)⟩:z1b),(⟨0,0⟩:z0r)⟩:z00) 2 Z (Sp.via (Sp.prod (Sp.prod (Sp.prod (Sp.prod (Sp.prod Sp.unit))))))<|Es (sto 2 Z Z fH Z zb9)<|Zn<|z0n<|zfk [] [] Z (eC 2 Z Z zez<|eN) (rN)
def z62 (a0:List z00) (s2:(List z00) × Int):Option (Sum ((List z00)) ((List z00) × Int)) :=
 if decide (s2.2<(a0.length:Int)) then
  idx a0 s2.2 >>= fun x5 =>
  z6b x5 >>= fun r7 =>
  app 112 s2.1 [r7] >>= fun x10 =>
  some (w64 (s2.2+1)) >>= fun y13 =>
  some (.inr (x10,y13))
 else
  some (.inl s2.1)
def z86 (a0:List z00):Option ((List z00)) :=
 (iter (z62 a0) ([],0)) >>= fun s1 =>
 some s1
theorem zdu (a0:List z00):z28 Tryz.prog 19 [.rd (z01 z03) a0] [] (z86 a0) (fun r nv=>⟨[.val (nv 0)],[(100,some (nv 0,.list z03 43 r))]⟩):=by
 refine z2o 20 Tryz.func19 Z Z Z fun H w=>?_
 refine gSR<|Zb Z<|gSR<|Zb Z<|z7q (fun (s1:(List z00)) aa ww=>∃ nv:Nat→Value,Sta (ctx 20 H [] w) [(3,.val (nv 0))] [(2,some ((nv 0),.list z03 43 s1))] aa ww) ?_ (fun s1=>?_)
 ·refine gSR<|Zb Z<|zmw z03 43 5<|z23 (fun (s2:(List z00) × Int) aa ww=>∃ nv:Nat→Value,Sta (ctx 20 H [] w) [(0,.rd (z01 z03) a0),(3,.val (nv 0)),(4,.rd z0h s2.2)] [(4,some ((nv 0),.list z03 43 s2.1))] aa ww) (fun aa ww h=>⟨nvl [(.slice none 0 0)],Zu h [5]⟩) (fun s2=>?_)
  refine gEx fun n3=>z0t<|gSR<|Zm Z<|Zm Z<|Zq (z4o Z .rd Z tu22)<|Zq (I.lss Z Z)<|Zj Z (fun h4=>?_) (fun h4=>?_)
  ·refine Zt<|z0t<|z5o<|z27<|Zm Z<|Zm Z<|Zm Z<|z0k fun x5 h6=>Zq (ixR Z Z h6 tu22 zb9 Z)<|Zq (ldR Z zez)<|Zc [] [] Tryz.func55 Z (za2 _) fun r7 n8=>Ef Z (lit (R:=z03) ([r7]:List z00) 6 (pP Z Z<|pN) Z tu22 zb9 Z Z) fun v9=>zcq 6 [17] Z (fS Z<|fN)<|z0k fun x10 h11=>Ef Z (apn 4 Z Z Z .rd h11 tu22 zb9 Z Z Z) fun v12=>Za Z<|z1w<|z2y<|z0l<|z27<|Zm Z<|Zq (I.add Z Z)<|Za Z<|z1k 4 Z fun y13=>z1w<|z1l (fun aa ww h=>⟨nvl [v12],Zu h [4]⟩)
  ·refine z20<|z0u<|z0v<|z41 (fun aa ww h=>⟨nvl [(n3 0)],Zu h [4]⟩)
 ·refine gEx fun n14=>gSR<|Zm Z<|Zb Z<|z0n<|Ze [(n14 0)] [2] Z
def z4z (a0:List z00) (r1:(List Int)) (s4:(List z00) × Int):Option (Sum ((List z00)) ((List z00) × Int)) :=
 if decide (s4.2<(r1.length:Int)) then
  idx r1 s4.2 >>= fun x7 =>
  idx a0 x7 >>= fun x9 =>
  z6b x9 >>= fun r11 =>
  app 112 s4.1 [r11] >>= fun x14 =>
  some (w64 (s4.2+1)) >>= fun y17 =>
  some (.inr (x14,y17))
 else
  some (.inl s4.1)
def z5b (a0:List z00):Option ((List z00)) :=
 z5t a0 >>= fun r1 =>
 (iter (z4z a0 r1) ([],0)) >>= fun s3 =>
 some s3
theorem z91 (a0:List z00):z28 Tryz.prog 56 [.rd (z01 z03) a0] [] (z5b a0) (fun r nv=>⟨[.val (nv 0)],[(100,some (nv 0,.list z03 43 r))]⟩):=by
 refine z2o 26 Tryz.func56 Z Z Z fun H w=>?_
 refine gSR<|Zb Z<|gSR<|Zb Z<|gSR<|Zm Z<|Zc [] [(100,1)] Tryz.func44 Z (z9m _) fun r1 n2=>Zb Z<|z7q (fun (s3:(List z00)) aa ww=>∃ nv:Nat→Value,Sta (ctx 26 H [] w) [(3,.val (nv 0))] [(3,some ((nv 0),.list z03 43 s3))] aa ww) ?_ (fun s3=>?_)
 ·refine gSR<|Zb Z<|zmw z03 43 6<|z23 (fun (s4:(List z00) × Int) aa ww=>∃ nv:Nat→Value,Sta (ctx 26 H [] w) [(0,.rd (z01 z03) a0),(3,.val (nv 0)),(4,.val (n2 0)),(5,.rd z0h s4.2)] [(5,some ((nv 0),.list z03 43 s4.1)),(1,some ((n2 0),.list z0h 3 r1))] aa ww) (fun aa ww h=>⟨nvl [(.slice none 0 0)],Zu h [6,1]⟩) (fun s4=>?_)
  refine gEx fun n5=>z0t<|gSR<|Zm Z<|Zm Z<|Zq (z4o Z (.own 1 Z) Z tu86)<|Zq (I.lss Z Z)<|Zj Z (fun h6=>?_) (fun h6=>?_)
  ·refine Zt<|z0t<|z5o<|z27<|Zm Z<|Zm Z<|Zm Z<|Zm Z<|z0k fun x7 h8=>Zq (ixO 1 Z Z Z h8 tu86 ti3)<|Zq (ld 1 Z Z (Foc.el h8) ty3 Z)<|z0k fun x9 h10=>Zq (ixR Z Z h10 tu22 zb9 Z)<|Zq (ldR Z zez)<|Zc [] [] Tryz.func55 Z (za2 _) fun r11 n12=>Ef Z (lit (R:=z03) ([r11]:List z00) 7 (pP Z Z<|pN) Z tu22 zb9 Z Z) fun v13=>zcq 7 [23] Z (fS Z<|fN)<|z0k fun x14 h15=>Ef Z (apn 5 Z Z Z .rd h15 tu22 zb9 Z Z Z) fun v16=>Za Z<|z1w<|z2y<|z0l<|z27<|Zm Z<|Zq (I.add Z Z)<|Za Z<|z1k 5 Z fun y17=>z1w<|z1l (fun aa ww h=>⟨nvl [v16],Zu h [5,1]⟩)
  ·refine z20<|z0u<|z0v<|z41 (fun aa ww h=>⟨nvl [(n5 0)],Zu h [5]⟩)
 ·refine gEx fun n18=>gSR<|Zm Z<|Zb Z<|z0n<|Ze [(n18 0)] [3] Z
def z7w (a0:List z00):Option ((List z00) × Int) :=
 z3a a0 >>= fun r1 =>
 if r1 != 0 then
  some ([],r1)
 else
  z5b a0 >>= fun r4 =>
  some (r4,0)
theorem zdi (a0:List z00):z28 Tryz.prog 20 [.rd (z01 z03) a0] [] (z7w a0) (fun r nv=>⟨[.val (nv 0),.rd z0h r.2],[(100,some (nv 0,.list z03 43 r.1))]⟩):=by
 refine z2o 12 Tryz.func20 Z Z Z fun H w=>?_
 refine gSR<|Za Z<|Zb Z<|z0t<|gSR<|Zm Z<|Zc [] [] Tryz.func11 Z (z5h _) fun r1 n2=>Zb Z<|gSR<|Zm Z<|Zq (I.neq Z Z)<|Zj Z (fun h3=>?_) (fun h3=>?_)
 ·refine gSR<|Zm Z<|Za Z<|Zb Z<|z0n<|z16<|zgh z03 43 1<|Ze [(.slice none 0 0)] [1] Z
 ·refine Zt<|gSR<|Zm Z<|Zc [] [(100,2)] Tryz.func56 Z (z91 _) fun r4 n5=>Za Z<|Zb Z<|z0n<|Ze [(n5 0)] [2] Z
def z5m (a0:List z00) (s10:(List V3) × (List UInt8) × Int) (s31:(List UInt8) × Int):Option (Sum ((List UInt8)) ((List UInt8) × Int)) :=
 idx a0 s10.2.2 >>= fun x33 =>
 if decide (s31.2<(x33.Preds.length:Int)) then
  idx a0 s10.2.2 >>= fun x36 =>
  idx x36.Preds s31.2 >>= fun x38 =>
  z5k s10.1 x38 >>= fun r40 =>
  if decide (0≤r40) then
   z0y (UInt64.ofInt (w64 (s10.2.2 - r40))) >>= fun r43 =>
   app 1 s31.1 r43 >>= fun x45 =>
   some (w64 (s31.2+1)) >>= fun y48 =>
   some (.inr (x45,y48))
  else
   idx a0 s10.2.2 >>= fun x49 =>
   idx x49.Preds s31.2 >>= fun x51 =>
   app 1 s31.1 [0] >>= fun x54 =>
   app 1 x54 x51.toList >>= fun x57 =>
   some (w64 (s31.2+1)) >>= fun y60 =>
   some (.inr (x57,y60))
 else
  some (.inl s31.1)
def z5g (a0:List z00) (s10:(List V3) × (List UInt8) × Int):Option (Sum ((List UInt8)) ((List V3) × (List UInt8) × Int)) :=
 if decide (s10.2.2<(a0.length:Int)) then
  (idx a0 s10.2.2 >>= fun x14 =>
  z5u (⟨x14.Author,[],x14.Stamp,x14.Act,x14.Sig⟩:z00) >>= fun r17 =>
  z3r r17 >>= fun r19 =>
  app 1 s10.2.1 r19 >>= fun x21 =>
  idx a0 s10.2.2 >>= fun x24 =>
  z0y (UInt64.ofInt (x24.Preds.length:Int)) >>= fun r26 =>
  app 1 x21 r26 >>= fun x28 =>
  iter (z5m a0 s10) (x28,0)) >>= fun s13 =>
  some (w64 (s10.2.2+1)) >>= fun y62 =>
  some (.inr (s10.1,s13,y62))
 else
  some (.inl s10.2.1)
def z7b (a0:List z00):Option ((List UInt8)) :=
 z4t a0 >>= fun r1 =>
 z0y (UInt64.ofInt (a0.length:Int)) >>= fun r4 =>
 app 1 [112] r4 >>= fun x6 =>
 (iter (z5g a0) (r1,x6,0)) >>= fun s9 =>
 some s9
theorem zcm (a0:List z00):z28 Tryz.prog 60 [.rd (z01 z03) a0] [] (z7b a0) (fun r nv=>⟨[.val (nv 0)],[(100,some (nv 0,.list u8R 5 r))]⟩):=by
 refine z2o 85 Tryz.func60 Z Z Z fun H w=>?_
 refine gSR<|Zb Z<|gSR<|Zm Z<|Zc [] [(100,1)] Tryz.func43 Z (z6u _) fun r1 n2=>Zb Z<|gSR<|Ef Z (lit (R:=u8R) ([112]:List UInt8) 2 (pP Z Z<|pN) Z tu52 ti5 Z Z) fun v3=>Zm Z<|Zq (z4o Z .rd Z tu22)<|Zq (I.toU Z tu3 tu35)<|Zc [] [(100,3)] Tryz.func104 Z (z12 _) fun r4 n5=>z0k fun x6 h7=>Ef Z (apn 2 Z Z Z (.own 3 Z) h7 tu52 ti5 Z Z Z) fun v8=>Zb Z<|z7q (fun (s9:(List UInt8)) aa ww=>∃ nv:Nat→Value,Sta (ctx 85 H [] w) [(4,.val (nv 0))] [(2,some ((nv 0),.list u8R 5 s9))] aa ww) ?_ (fun s9=>?_)
 ·refine gSR<|Zb Z<|zwn 1 [10,3] Z (fS Z<|fS Z<|fN)<|z23 (fun (s10:(List V3) × (List UInt8) × Int) aa ww=>∃ nv:Nat→Value,Sta (ctx 85 H [] w) [(0,.rd (z01 z03) a0),(3,.rd (z01 aZ) s10.1),(4,.val (nv 0)),(5,.rd z0h s10.2.2)] [(2,some ((nv 0),.list u8R 5 s10.2.1))] aa ww) (fun aa ww h=>⟨nvl [v8],Zu h [2]⟩) (fun s10=>?_)
  refine gEx fun n11=>z0t<|gSR<|Zm Z<|Zm Z<|Zq (z4o Z .rd Z tu22)<|Zq (I.lss Z Z)<|Zj Z (fun h12=>?_) (fun h12=>?_)
  ·refine Zt<|z7q (fun (s13:(List UInt8)) aa ww=>∃ nv:Nat→Value,Sta (ctx 85 H [] w) [(0,.rd (z01 z03) a0),(3,.rd (z01 aZ) s10.1),(4,.val (nv 0)),(5,.rd z0h s10.2.2)] [(2,some ((nv 0),.list u8R 5 s13))] aa ww) ?_ (fun s13=>?_)
   ·refine z5o<|gSR<|Zm Z<|Zm Z<|z0k fun x14 h15=>Zq (ixR Z Z h15 tu22 zb9 Z)<|Zq (ldR Z zez)<|Eb Z (zb8 4 zb9 (ZrE.rd (R:=z0o) (x:=0) (Zr.num Z) (ZrE.nilS (ZrE.rd (R:=z2p) (x:=0) (Zr.num Z) (ZrE.rd (R:=z15) (x:=(⟨0,[],(⟨0,0,0,[]⟩:z04)⟩:z1b)) zuf (ZrE.rd (R:=z1n) (x:=(⟨0,0⟩:z0r)) zuk ZrE.nil Z) Z) Z)) Z)) fun v16=>zr2 aZ [.rd z0o 0,.rd (z01 aZ) [],.rd z2p 0,.rd z15 (⟨0,[],(⟨0,0,0,[]⟩:z04)⟩:z1b),.rd z1n (⟨0,0⟩:z0r)] 4 [.rd z0o 0] [.rd z2p 0,.rd z15 (⟨0,[],(⟨0,0,0,[]⟩:z04)⟩:z1b),.rd z1n (⟨0,0⟩:z0r)] Z Z Z<|zn3 (R:=z03) (⟨0,[],0,(⟨0,[],(⟨0,0,0,[]⟩:z04)⟩:z1b),(⟨0,0⟩:z0r)⟩:z00) 4 Z (Sp.via (Sp.prod (Sp.prod (Sp.prod (Sp.prod (Sp.prod Sp.unit))))))<|Es (sto 4 Z Z fH Z zb9)<|Zn<|gSR<|Zq (faB 4 Z Z Tryz.underlying43 Z (by exact zc1))<|zwh (R:=z03) 4 Z (Sp.via (Sp.prod (Sp.prod (Sp.prod (Sp.prod (Sp.prod Sp.unit))))))<|Es (zt1 4 Z Z (zb5.cast (zb5.next z43 (zb5.here z43)) Z) Z z9z z72 zc1)<|Zn<|gSR<|Zm Z<|zr2 aZ [.rd z0o x14.Author,.rd (z01 aZ) [],.rd z2p x14.Stamp,.rd z15 x14.Act,.rd z1n x14.Sig] 4 [.rd z0o x14.Author] [.rd z2p x14.Stamp,.rd z15 x14.Act,.rd z1n x14.Sig] Z Z Z<|zn3 (R:=z03) (⟨x14.Author,[],x14.Stamp,x14.Act,x14.Sig⟩:z00) 4 Z (Sp.via (Sp.prod (Sp.prod (Sp.prod (Sp.prod (Sp.prod Sp.unit))))))<|Zq (ld 4 Z Z fH zez Z)<|Zc [] [(100,5)] Tryz.func54 Z (z9r _) fun r17 n18=>zcq 5 [30] Z (fS Z<|fN)<|Zc [] [(100,6)] Tryz.func109 Z (z87 _) fun r19 n20=>z0k fun x21 h22=>Ef Z (apn 2 Z Z Z (.own 6 Z) h22 tu52 ti5 Z Z Z) fun v23=>Zb Z<|gSR<|Zm Z<|Zm Z<|Zm Z<|z0k fun x24 h25=>Zq (ixR Z Z h25 tu22 zb9 Z)<|Zq (faR Z (z0e _) Tryz.underlying43 Z Z (by exact zc1))<|Zq (ldR Z zdd)<|Zq (z4o Z .rd Z tu29)<|Zq (I.toU Z tu3 tu35)<|Zc [] [(100,7)] Tryz.func104 Z (z12 _) fun r26 n27=>z0k fun x28 h29=>Ef Z (apn 2 Z Z Z (.own 7 Z) h29 tu52 ti5 Z Z Z) fun v30=>Zb Z<|gSR<|Zb Z<|z23 (fun (s31:(List UInt8) × Int) aa ww=>∃ nv:Nat→Value,Sta (ctx 85 H [] w) [(0,.rd (z01 z03) a0),(3,.rd (z01 aZ) s10.1),(4,.val (nv 0)),(5,.rd z0h s10.2.2),(7,.rd z0h s31.2)] [(2,some ((nv 0),.list u8R 5 s31.1))] aa ww) (fun aa ww h=>⟨nvl [v30],Zu h [2]⟩) (fun s31=>?_)
    refine gEx fun n32=>z0t<|gSR<|Zm Z<|Zm Z<|Zm Z<|z0k fun x33 h34=>Zq (ixR Z Z h34 tu22 zb9 Z)<|Zq (faR Z (z0e _) Tryz.underlying43 Z Z (by exact zc1))<|Zq (ldR Z zdd)<|Zq (z4o Z .rd Z tu29)<|Zq (I.lss Z Z)<|Zj Z (fun h35=>?_) (fun h35=>?_)
    ·refine Zt<|z0t<|z5o<|gSR<|Zm Z<|Zm Z<|Zm Z<|z0k fun x36 h37=>Zq (ixR Z Z h37 tu22 zb9 Z)<|Zq (faR Z (z0e _) Tryz.underlying43 Z Z (by exact zc1))<|Zq (ldR Z zdd)<|Zm Z<|z0k fun x38 h39=>Zq (ixR Z Z h39 tu29 z3o Z)<|Zq (ldR Z z8h)<|Zc [] [] Tryz.func17 Z (z78 _ _) fun r40 n41=>Zb Z<|gSR<|Zm Z<|Zq (I.geq Z Z)<|Zj Z (fun h42=>?_) (fun h42=>?_)
     ·refine z27<|Zm Z<|Zm Z<|Zm Z<|Zq (I.sub Z Z)<|Zq (I.toU Z tu3 tu35)<|Zc [] [(100,8)] Tryz.func104 Z (z12 _) fun r43 n44=>z0k fun x45 h46=>Ef Z (apn 2 Z Z Z (.own 8 Z) h46 tu52 ti5 Z Z Z) fun v47=>Za Z<|z1w<|z2y<|z0l<|z27<|Zm Z<|Zq (I.add Z Z)<|Za Z<|z1k 7 Z fun y48=>z1w<|z1l (fun aa ww h=>⟨nvl [v47],Zu h [2]⟩)
     ·refine z8s [2,12] mixed Z Z<|hTk 0 Z Z (mv Z)<|hTk 3 Z Z (mv Z)<|hTk 4 Z Z (mv Z)<|z2r fun x49 h50=>hTk 5 Z Z (ixR Z Z h50 tu22 zb9 Z)<|hTk 6 Z Z (faR Z (z0e _) Tryz.underlying43 Z Z (by exact zc1))<|hTk 7 Z Z (ldR Z zdd)<|hTk 8 Z Z (mv Z)<|z2r fun x51 h52=>hTk 9 Z Z (ixR Z Z h52 tu29 z3o Z)<|hTk 10 Z Z (zud Z tu45 ti5 Z Z Z)<|Zo 1 Z Z Z (lit (R:=u8R) ([0]:List UInt8) 12 (pP Z Z<|pN) Z tu52 ti5 Z Z) fun v53=>z2r fun x54 h55=>Zo 2 Z Z Z (apn 2 Z Z Z (.own 12 Z) h55 tu52 ti5 Z Z Z) fun v56=>z2r fun x57 h58=>Zo 11 Z Z Z (apn 2 Z Z Z .rd h58 tu52 ti5 Z Z Z) fun v59=>Zf 12 Z Z z2c (asg Z)<|z5x (by kernel_rfl)<|z2y<|z0l<|z27<|Zm Z<|Zq (I.add Z Z)<|Za Z<|z1k 7 Z fun y60=>z1w<|z1l (fun aa ww h=>⟨nvl [v59],Zu h [2]⟩)
    ·refine z20<|z0u<|z0v<|z2y<|z41 (fun aa ww h=>⟨nvl [(n32 0)],Zu h [2]⟩)
   ·refine gEx fun n61=>z27<|Zm Z<|Zq (I.add Z Z)<|Za Z<|z1k 5 Z fun y62=>z1w<|z1l (fun aa ww h=>⟨nvl [(n61 0)],Zu h [2]⟩)
  ·refine z20<|z0u<|z0v<|z41 (fun aa ww h=>⟨nvl [(n11 0)],Zu h [2]⟩)
 ·refine gEx fun n63=>gSR<|Zm Z<|Zb Z<|z0n<|Ze [(n63 0)] [2] Z
def z7d (a0:List z00):Option ((List UInt8) × Int) :=
 z3a a0 >>= fun r1 =>
 if r1 != 0 then
  some ([],r1)
 else
  z5b a0 >>= fun r4 =>
  z7b r4 >>= fun r6 =>
  some (r6,0)
theorem zcj (a0:List z00):z28 Tryz.prog 22 [.rd (z01 z03) a0] [] (z7d a0) (fun r nv=>⟨[.val (nv 0),.rd z0h r.2],[(100,some (nv 0,.list u8R 5 r.1))]⟩):=by
 refine z2o 13 Tryz.func22 Z Z Z fun H w=>?_
 refine gSR<|Za Z<|Zb Z<|z0t<|gSR<|Zm Z<|Zc [] [] Tryz.func11 Z (z5h _) fun r1 n2=>Zb Z<|gSR<|Zm Z<|Zq (I.neq Z Z)<|Zj Z (fun h3=>?_) (fun h3=>?_)
 ·refine gSR<|Zm Z<|Za Z<|Zb Z<|z0n<|z16<|zgh u8R 5 1<|Ze [(.slice none 0 0)] [1] Z
 ·refine Zt<|gSR<|Zm Z<|Zc [] [(100,2)] Tryz.func56 Z (z91 _) fun r4 n5=>zcq 2 [11] Z (fS Z<|fN)<|Zc [] [(100,3)] Tryz.func60 Z (zcm _) fun r6 n7=>Za Z<|Zb Z<|z0n<|Ze [(n7 0)] [3] Z
def z4n (a0:List z00) (s5:(List V3) × Int):Option (Sum ((List V3)) ((List V3) × Int)) :=
 if decide (s5.2<(a0.length:Int)) then
  idx a0 s5.2 >>= fun x8 =>
  app 32 s5.1 x8.Preds >>= fun x10 =>
  some (w64 (s5.2+1)) >>= fun y13 =>
  some (.inr (x10,y13))
 else
  some (.inl s5.1)
def z2k (a0:List z00):Option ((List V3) × Int) :=
 z3a a0 >>= fun r1 =>
 if r1 != 0 then
  some ([],r1)
 else
  (iter (z4n a0) ([],0)) >>= fun s4 =>
  z4t a0 >>= fun r15 =>
  z6j r15 s4 >>= fun r17 =>
  some (r17,0)
theorem zbc (a0:List z00):z28 Tryz.prog 23 [.rd (z01 z03) a0] [] (z2k a0) (fun r nv=>⟨[.val (nv 0),.rd z0h r.2],[(100,some (nv 0,.list aZ 45 r.1))]⟩):=by
 refine z2o 29 Tryz.func23 Z Z Z fun H w=>?_
 refine gSR<|Za Z<|Zb Z<|z0t<|gSR<|Zm Z<|Zc [] [] Tryz.func11 Z (z5h _) fun r1 n2=>Zb Z<|gSR<|Zm Z<|Zq (I.neq Z Z)<|Zj Z (fun h3=>?_) (fun h3=>?_)
 ·refine gSR<|Zm Z<|Za Z<|Zb Z<|z0n<|z16<|zgh aZ 45 1<|Ze [(.slice none 0 0)] [1] Z
 ·refine Zt<|gSR<|Zb Z<|z7q (fun (s4:(List V3)) aa ww=>∃ nv:Nat→Value,Sta (ctx 29 H [] w) [(0,.rd (z01 z03) a0),(5,.val (nv 0))] [(2,some ((nv 0),.list aZ 45 s4))] aa ww) ?_ (fun s4=>?_)
  ·refine gSR<|Zb Z<|zmw aZ 45 4<|z23 (fun (s5:(List V3) × Int) aa ww=>∃ nv:Nat→Value,Sta (ctx 29 H [] w) [(0,.rd (z01 z03) a0),(5,.val (nv 0)),(6,.rd z0h s5.2)] [(3,some ((nv 0),.list aZ 45 s5.1))] aa ww) (fun aa ww h=>⟨nvl [(.slice none 0 0)],Zu h [4]⟩) (fun s5=>?_)
   refine gEx fun n6=>z0t<|gSR<|Zm Z<|Zm Z<|Zq (z4o Z .rd Z tu22)<|Zq (I.lss Z Z)<|Zj Z (fun h7=>?_) (fun h7=>?_)
   ·refine Zt<|z0t<|z5o<|z27<|Zm Z<|Zm Z<|Zm Z<|z0k fun x8 h9=>Zq (ixR Z Z h9 tu22 zb9 Z)<|Zq (faR Z (z0e _) Tryz.underlying43 Z Z (by exact zc1))<|Zq (ldR Z zdd)<|z0k fun x10 h11=>Ef Z (apn 3 Z Z Z .rd h11 tu29 z3o Z Z Z) fun v12=>Za Z<|z1w<|z2y<|z0l<|z27<|Zm Z<|Zq (I.add Z Z)<|Za Z<|z1k 6 Z fun y13=>z1w<|z1l (fun aa ww h=>⟨nvl [v12],Zu h [3]⟩)
   ·refine z20<|z0u<|z0v<|z41 (fun aa ww h=>⟨nvl [(n6 0)],Zu h [3]⟩)
  ·refine gEx fun n14=>gSR<|Zm Z<|Zc [] [(100,5)] Tryz.func43 Z (z6u _) fun r15 n16=>Zm Z<|zcq 5 [26] Z (fS Z<|fN)<|zcq 2 [5,27] Z (fS Z<|fS Z<|fN)<|Zc [] [(100,6)] Tryz.func61 Z (zbv _ _) fun r17 n18=>Za Z<|Zb Z<|z0n<|Ze [(n18 0)] [6] Z
def zbr (a0:List z00):Option (Int) :=
 z5j a0 >>= fun r1 =>
 some r1.2
theorem zi2 (a0:List z00):z28 Tryz.prog 24 [.rd (z01 z03) a0] [zG1] (zbr a0) (fun r nv=>⟨[.rd z0h r],[(1001,some (.bool true,.glob 1 (z2h 64 z0o) z8g))]⟩):=by
 refine z2o 11 Tryz.func24 Z Z Z fun H w=>?_
 refine gSR<|Zb Z<|gSR<|Zm Z<|Zc [1001] [(100,1)] Tryz.func45 Z (z7c _) fun r1 n2=>Zm Z<|Zq (ext Z Z)<|Zq (ext Z Z)<|Za Z<|Zb Z<|gSR<|Zm Z<|Zb Z<|z0n<|Ze [] [1001] Z
def z6f (a0:List z00) (a1:List z00) (s3:Int):Option (Sum (Sum Bool Unit) Int) :=
 if decide (s3<(a0.length:Int)) then
  idx a0 s3 >>= fun x5 =>
  idx a1 s3 >>= fun x7 =>
  z83 x5 x7 >>= fun r9 =>
  if !r9 then
   some (.inl (.inl false))
  else
   some (.inr (w64 (s3+1)))
 else
  some (.inl (.inr ()))
def z37 (a0:List z00) (a1:List z00):Option (Bool) :=
 if (a0.length:Int) != (a1.length:Int) then
  some false
 else
  z71 (iter (z6f a0 a1) 0) fun s2 =>
  some true
theorem z8n (a0:List z00) (a1:List z00):z28 Tryz.prog 25 [.rd (z01 z03) a0,.rd (z01 z03) a1] [] (z37 a0 a1) (fun r nv=>⟨[.rd z09 r],[]⟩):=by
 refine z2o 27 Tryz.func25 Z Z Z fun H w=>?_
 refine gSR<|Zb Z<|z0t<|gSR<|Zm Z<|Zq (z4o Z .rd Z tu22)<|Zm Z<|Zq (z4o Z .rd Z tu22)<|Zq (I.neq Z Z)<|Zj Z (fun h1=>?_) (fun h1=>?_)
 ·refine gSR<|Zb Z<|z0n<|z16<|Ze [] [] Z
 ·refine Zt<|z8x (fun (s2:Unit) aa ww=>Sta (ctx 27 H [] w) [] [] aa ww) ?_ (fun s2=>?_)
  ·refine gSR<|Zb Z<|z23 (fun (s3:Int) aa ww=>Sta (ctx 27 H [] w) [(0,.rd (z01 z03) a0),(1,.rd (z01 z03) a1),(5,.rd z0h s3)] [] aa ww) (fun aa ww h=>Zu h []) (fun s3=>?_)
   refine z0t<|gSR<|Zm Z<|Zm Z<|Zq (z4o Z .rd Z tu22)<|Zq (I.lss Z Z)<|Zj Z (fun h4=>?_) (fun h4=>?_)
   ·refine Zt<|z0t<|z5o<|z0t<|z8s [] mixed Z Z<|hTk 0 Z Z (mv Z)<|hTk 1 Z Z (mv Z)<|z2r fun x5 h6=>hTk 2 Z Z (ixR Z Z h6 tu22 zb9 Z)<|hTk 3 Z Z (ldR Z zez)<|hTk 4 Z Z (mv Z)<|hTk 5 Z Z (mv Z)<|z2r fun x7 h8=>hTk 6 Z Z (ixR Z Z h8 tu22 zb9 Z)<|hTk 7 Z Z (ldR Z zez)<|z5e 8 [] [] Z (by kernel_rfl) Z (gd0 Z) Z Tryz.func62 Z Z (zcx _ _) (Y2 Z Z) rN Z (fun _ _=>zcy) fun r9 n10=>hTk 9 Z Z (zjw Z)<|z5x (by kernel_rfl)<|z0l<|gIf Z Z (fun h11=>?_) (fun h11=>?_)
    ·refine gSR<|Zb Z<|z0n<|z4l<|z16<|z81<|z85<|Ze [] [] Z
    ·refine z2s<|z2y<|z0l<|z27<|Zm Z<|Zq (I.add Z Z)<|Za Z<|z1w<|z1l (fun aa ww h=>Zu h [])
   ·refine z20<|z0u<|z0v<|z8d (fun aa ww h=>Zu h [])
  ·refine gSR<|Zb Z<|z0n<|Ze [] [] Z
def z6i (a0:List z00):Option (Bool) :=
 z7e a0 >>= fun r1 =>
 if r1 then
  some true
 else
  z86 a0 >>= fun r4 =>
  zd0 a0 >>= fun r6 =>
  z7w a0 >>= fun r8 =>
  zaa a0 >>= fun r10 =>
  z7d a0 >>= fun r12 =>
  z6g a0 >>= fun r14 =>
  z2k a0 >>= fun r16 =>
  zbr a0 >>= fun r18 =>
  z3a a0 >>= fun r20 =>
  if r18==r20 then
   z37 r6.1 r8.1 >>= fun r23 =>
   if r23 then
    if r6.2==r8.2 then
     z3j r10.1 r12.1 >>= fun r27 =>
     if r27 then
      if r10.2==r12.2 then
       z38 r14.1 r16.1 >>= fun r31 =>
       if r31 then
        if r14.2==r16.2 then
         z37 a0 r4 >>= fun r35 =>
         some r35
        else
         some false
       else
        some false
      else
       some false
     else
      some false
    else
     some false
   else
    some false
  else
   some false
theorem za8 (a0:List z00):z28 Tryz.prog 4 [.rd (z01 z03) a0] [zG1] (z6i a0) (fun r nv=>⟨[.rd z09 r],[(1001,some (.bool true,.glob 1 (z2h 64 z0o) z8g))]⟩):=by
 refine z2o 90 Tryz.func4 Z Z Z fun H w=>?_
 refine gSR<|Zb Z<|z0t<|gSR<|Zm Z<|Zc [] [] Tryz.func10 Z (zca _) fun r1 n2=>Zj Z (fun h3=>?_) (fun h3=>?_)
 ·refine gSR<|Zb Z<|z0n<|z16<|Ze [] [1001] Z
 ·refine Zt<|gSR<|Zm Z<|Zc [] [(100,1)] Tryz.func19 Z (zdu _) fun r4 n5=>Zb Z<|gSR<|Zm Z<|Zc [1001] [(100,2)] Tryz.func12 Z (zjk _) fun r6 n7=>Zm Z<|Zq (ext Z Z)<|Zq (ext Z Z)<|Za Z<|Zb Z<|gSR<|Zm Z<|Zc [] [(100,3)] Tryz.func20 Z (zdi _) fun r8 n9=>Zm Z<|Zq (ext Z Z)<|Zq (ext Z Z)<|Za Z<|Zb Z<|gSR<|Zm Z<|Zc [1001] [(100,4)] Tryz.func21 Z (zi3 _) fun r10 n11=>Zm Z<|Zq (ext Z Z)<|Zq (ext Z Z)<|Za Z<|Zb Z<|gSR<|Zm Z<|Zc [] [(100,5)] Tryz.func22 Z (zcj _) fun r12 n13=>Zm Z<|Zq (ext Z Z)<|Zq (ext Z Z)<|Za Z<|Zb Z<|gSR<|Zm Z<|Zc [1001] [(100,6)] Tryz.func13 Z (zg5 _) fun r14 n15=>Zm Z<|Zq (ext Z Z)<|Zq (ext Z Z)<|Za Z<|Zb Z<|gSR<|Zm Z<|Zc [] [(100,7)] Tryz.func23 Z (zbc _) fun r16 n17=>Zm Z<|Zq (ext Z Z)<|Zq (ext Z Z)<|Za Z<|Zb Z<|gSR<|Zm Z<|Zc [1001] [] Tryz.func24 Z (zi2 _) fun r18 n19=>Zm Z<|Zc [] [] Tryz.func11 Z (z5h _) fun r20 n21=>Zq (I.eql Z Z)<|Zm Z<|z1y 55 Z (fun h22=>?_) (fun h22=>?_)
  ·refine lKn 54 Z h22<|z1q Zx Z Z (mv Z)<|z1q Zx Z Z (mv Z)<|zcq 2 [23,4,56] Z (fS Z<|fS Z<|fS Z<|fN)<|zcq 3 [28,6,57] Z (fS Z<|fS Z<|fS Z<|fN)<|zcd [] [] Zx Z Tryz.func25 Z Z (z8n _ _) (Y2 Z Z) rN fun r23 n24=>Zq (pkT Z Z)<|Zm Z<|z1y 60 Z (fun h25=>?_) (fun h25=>?_)
   ·refine lKn 58 Z h25<|lKn 59 Z h25<|z1q Zx Z Z (mv Z)<|z1q Zx Z Z (mv Z)<|z1q Zx Z Z (I.eql Z Z)<|Zq (pkT Z Z)<|Zm Z<|z1y 65 Z (fun h26=>?_) (fun h26=>?_)
    ·refine lKn 63 Z h26<|lKn 64 Z h26<|z1q Zx Z Z (mv Z)<|z1q Zx Z Z (mv Z)<|zcq 4 [33,8,66] Z (fS Z<|fS Z<|fS Z<|fN)<|zcq 5 [38,10,67] Z (fS Z<|fS Z<|fS Z<|fN)<|zcd [] [] Zx Z Tryz.func26 Z Z (zaj _ _) (Y2 Z Z) rN fun r27 n28=>Zq (pkT Z Z)<|Zm Z<|z1y 70 Z (fun h29=>?_) (fun h29=>?_)
     ·refine lKn 68 Z h29<|lKn 69 Z h29<|z1q Zx Z Z (mv Z)<|z1q Zx Z Z (mv Z)<|z1q Zx Z Z (I.eql Z Z)<|Zq (pkT Z Z)<|Zm Z<|z1y 75 Z (fun h30=>?_) (fun h30=>?_)
      ·refine lKn 73 Z h30<|lKn 74 Z h30<|z1q Zx Z Z (mv Z)<|z1q Zx Z Z (mv Z)<|zcq 6 [43,12,76] Z (fS Z<|fS Z<|fS Z<|fN)<|zcq 7 [48,14,77] Z (fS Z<|fS Z<|fS Z<|fN)<|zcd [] [] Zx Z Tryz.func27 Z Z (z8r _ _) (Y2 Z Z) rN fun r31 n32=>Zq (pkT Z Z)<|Zm Z<|z1y 80 Z (fun h33=>?_) (fun h33=>?_)
       ·refine lKn 78 Z h33<|lKn 79 Z h33<|z1q Zx Z Z (mv Z)<|z1q Zx Z Z (mv Z)<|z1q Zx Z Z (I.eql Z Z)<|Zq (pkT Z Z)<|Zm Z<|z1y 85 Z (fun h34=>?_) (fun h34=>?_)
        ·refine lKn 83 Z h34<|lKn 84 Z h34<|z1q Zx Z Z (mv Z)<|z1q Zx Z Z (mv Z)<|zcq 1 [19,3,87] Z (fS Z<|fS Z<|fS Z<|fN)<|zcd [] [] Zx Z Tryz.func25 Z Z (z8n _ _) (Y2 Z Z) rN fun r35 n36=>Zq (pkT Z Z)<|Zb Z<|z0n<|Ze [] [1001] Z
        ·refine lKn 83 Z h34<|lKn 84 Z h34<|Zk Z<|Zk Z<|Zk Z<|Zq (pkF Z Z)<|Zb Z<|z0n<|Ze [] [1001] Z
       ·refine lKn 78 Z h33<|lKn 79 Z h33<|Zk Z<|Zk Z<|Zk Z<|Zq (pkF Z Z)<|Zm Z<|Zk Z<|Zk Z<|Zk Z<|Zq (pkF Z Z)<|Zb Z<|z0n<|Ze [] [1001] Z
      ·refine lKn 73 Z h30<|lKn 74 Z h30<|Zk Z<|Zk Z<|Zk Z<|Zq (pkF Z Z)<|Zm Z<|Zk Z<|Zk Z<|Zk Z<|Zq (pkF Z Z)<|Zm Z<|Zk Z<|Zk Z<|Zk Z<|Zq (pkF Z Z)<|Zb Z<|z0n<|Ze [] [1001] Z
     ·refine lKn 68 Z h29<|lKn 69 Z h29<|Zk Z<|Zk Z<|Zk Z<|Zq (pkF Z Z)<|Zm Z<|Zk Z<|Zk Z<|Zk Z<|Zq (pkF Z Z)<|Zm Z<|Zk Z<|Zk Z<|Zk Z<|Zq (pkF Z Z)<|Zm Z<|Zk Z<|Zk Z<|Zk Z<|Zq (pkF Z Z)<|Zb Z<|z0n<|Ze [] [1001] Z
    ·refine lKn 63 Z h26<|lKn 64 Z h26<|Zk Z<|Zk Z<|Zk Z<|Zq (pkF Z Z)<|Zm Z<|Zk Z<|Zk Z<|Zk Z<|Zq (pkF Z Z)<|Zm Z<|Zk Z<|Zk Z<|Zk Z<|Zq (pkF Z Z)<|Zm Z<|Zk Z<|Zk Z<|Zk Z<|Zq (pkF Z Z)<|Zm Z<|Zk Z<|Zk Z<|Zk Z<|Zq (pkF Z Z)<|Zb Z<|z0n<|Ze [] [1001] Z
   ·refine lKn 58 Z h25<|lKn 59 Z h25<|Zk Z<|Zk Z<|Zk Z<|Zq (pkF Z Z)<|Zm Z<|Zk Z<|Zk Z<|Zk Z<|Zq (pkF Z Z)<|Zm Z<|Zk Z<|Zk Z<|Zk Z<|Zq (pkF Z Z)<|Zm Z<|Zk Z<|Zk Z<|Zk Z<|Zq (pkF Z Z)<|Zm Z<|Zk Z<|Zk Z<|Zk Z<|Zq (pkF Z Z)<|Zm Z<|Zk Z<|Zk Z<|Zk Z<|Zq (pkF Z Z)<|Zb Z<|z0n<|Ze [] [1001] Z
  ·refine lKn 54 Z h22<|Zk Z<|Zk Z<|Zk Z<|Zq (pkF Z Z)<|Zm Z<|Zk Z<|Zk Z<|Zk Z<|Zq (pkF Z Z)<|Zm Z<|Zk Z<|Zk Z<|Zk Z<|Zq (pkF Z Z)<|Zm Z<|Zk Z<|Zk Z<|Zk Z<|Zq (pkF Z Z)<|Zm Z<|Zk Z<|Zk Z<|Zk Z<|Zq (pkF Z Z)<|Zm Z<|Zk Z<|Zk Z<|Zk Z<|Zq (pkF Z Z)<|Zm Z<|Zk Z<|Zk Z<|Zk Z<|Zq (pkF Z Z)<|Zb Z<|z0n<|Ze [] [1001] Z
end
end Go.Proofs.YtojceajkeefnpaaGreatDoor
