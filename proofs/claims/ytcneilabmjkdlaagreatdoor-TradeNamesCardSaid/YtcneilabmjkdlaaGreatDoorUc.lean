import Derived.Test.YtcneilabmjkdlaaGreatDoorUb
set_option linter.unusedSimpArgs false
set_option linter.unusedVariables false
namespace Go.Proofs.YtcneilabmjkdlaaGreatDoor
section
open Go Go.RowKit
set_option maxRecDepth 100000
theorem zrc (a0:UInt32) (a1:UInt64):z1o Tryz.prog 153 [.rd z0o a0,.rd z2a a1] [] (zo6 a0 a1) (fun r nv=>⟨[.rd z0o r.1,.rd z0c r.2],[]⟩):=by
 refine z29 13 Tryz.func153 Z Z Z fun H w=>?_;refine gSR<|Za Z<|Zb Z<|z0t<|gSR<|Zm Z<|Ef Z (lit (R:=z0o) ([a0]:List UInt32) 1 (pP Z Z<|pN) Z tu176 z61 Z Z) fun v1=>zf0 1 [7] Z (fS Z<|fN)<|Zc [] [] Tryz.func174 Z (zli _) fun r2 n3=>Zq (zex Z)<|Zj Z (fun h4=>?_) (fun h4=>?_)
 ·refine gSR<|Za Z<|Zb Z<|z0j<|z0v<|Ze [] [] Z
 ·refine Zt<|gSR<|Zm Z<|Zm Z<|Zc [] [] Tryz.func162 Z (zh0 _ _) fun r5 n6=>Za Z<|Zb Z<|z0j<|Ze [] [] Z
def zku (a0:UInt64):Option (UInt32) :=
 zf7 4 a0 >>= fun r1 =>
 some r1
theorem zpy (a0:UInt64):z1o Tryz.prog 155 [.rd z2a a0] [] (zku a0) (fun r nv=>⟨[.rd z0o r],[]⟩):=by
 refine z29 5 Tryz.func155 Z Z Z fun H w=>?_;refine gSR<|Zb Z<|gSR<|Zm Z<|Zc [] [] Tryz.func162 Z (zh0 _ _) fun r1 n2=>Zb Z<|z0j<|Ze [] [] Z
def znb (a0:UInt32) (a1:UInt32):Option (UInt32 × Int) :=
 ze7 [a0,a1] >>= fun r2 =>
 if !r2 then
  some (0,2)
 else
  zf9 1000000007 [a0,a1] >>= fun r6 =>
  some (r6,0)
theorem zqy (a0:UInt32) (a1:UInt32):z1o Tryz.prog 154 [.rd z0o a0,.rd z0o a1] [] (znb a0 a1) (fun r nv=>⟨[.rd z0o r.1,.rd z0c r.2],[]⟩):=by
 refine z29 15 Tryz.func154 Z Z Z fun H w=>?_;refine gSR<|Za Z<|Zb Z<|z0t<|gSR<|Zm Z<|Zm Z<|Ef Z (lit (R:=z0o) ([a0,a1]:List UInt32) 1 (pP Z Z<|pP Z Z<|pN) Z tu176 z61 Z Z) fun v1=>zf0 1 [8] Z (fS Z<|fN)<|Zc [] [] Tryz.func174 Z (zli _) fun r2 n3=>Zq (zex Z)<|Zj Z (fun h4=>?_) (fun h4=>?_)
 ·refine gSR<|Za Z<|Zb Z<|z0j<|z0v<|Ze [] [] Z
 ·refine Zt<|gSR<|Zm Z<|Zm Z<|Ef Z (lit (R:=z0o) ([a0,a1]:List UInt32) 2 (pP Z Z<|pP Z Z<|pN) Z tu176 z61 Z Z) fun v5=>zf0 2 [13] Z (fS Z<|fN)<|Zc [] [] Tryz.func175 Z (zhe _ _) fun r6 n7=>Za Z<|Zb Z<|z0j<|Ze [] [] Z
def z8h (a2:List UInt32) (s4:(List UInt8) × Int):Option (Sum ((List UInt8)) ((List UInt8) × Int)) :=
 if decide (s4.2<(a2.length:Int)) then
  idx a2 s4.2 >>= fun x7 =>
  app 1 s4.1 [(z4h x7 24).toUInt8,(z4h x7 16).toUInt8,(z4h x7 8).toUInt8,x7.toUInt8] >>= fun x10 =>
  some (.inr (x10,w64 (s4.2+1)))
 else
  some (.inl s4.1)
def zd7 (r15:V3 × Int) (s19:UInt64 × Int):Option (Sum UInt64 (UInt64 × Int)) :=
 if decide (s19.2<(((r15.1.toList.drop 0).take 8).length:Int)) then
  idx ((r15.1.toList.drop 0).take 8) s19.2 >>= fun x21 =>
  some ((zpq s19.1 8) ||| x21.toUInt64) >>= fun y23 =>
  some (.inr (y23,w64 (s19.2+1)))
 else
  some (.inl s19.1)
def zk9 (a0:UInt8) (a1:List UInt8) (a2:List UInt32):Option (UInt64 × Int) :=
 if decide (9991<(a1.length:Int)) then
  some (0,4)
 else
  (iter (z8h a2) ([a0],0)) >>= fun s3 =>
  zc0 [s3,a1] >>= fun r15 =>
  (iter (zd7 r15) (0,0)) >>= fun s18 =>
  some (s18,r15.2)
theorem zqw (a0:UInt8) (a1:List UInt8) (a2:List UInt32):z1o Tryz.prog 176 [.rd u8R a0,.rd (z02 u8R) a1,.rd (z02 z0o) a2] [zG1] (zk9 a0 a1 a2) (fun r nv=>⟨[.rd z2a r.1,.rd z0c r.2],[(1001,some (.bool true,.glob 1 (z3b 64 z0o) z52))]⟩):=by
 refine z29 63 Tryz.func176 Z Z Z fun H w=>?_;refine gSR<|Za Z<|Zb Z<|z0t<|gSR<|Zm Z<|Zq (z3h Z .rd Z tu74)<|Zq (I.gtr Z Z)<|Zj Z (fun h1=>?_) (fun h1=>?_)
 ·refine gSR<|Za Z<|Zb Z<|z0j<|z0v<|Ze [] [1001] Z
 ·refine Zt<|gSR<|Zm Z<|Ef Z (lit (R:=u8R) ([a0]:List UInt8) 1 (pP Z Z<|pN) Z tu74 ti5 Z Z) fun v2=>Zb Z<|z8d (fun (s3:(List UInt8)) aa ww=>∃ nv:Nat→Value,Sta (ctx 63 H [zG1] w) [(1,.rd (z02 u8R) a1),(8,.val (nv 0))] [(1,some ((nv 0),.list u8R 5 s3)),zG1] aa ww) ?_ (fun s3=>?_)
  ·refine gSR<|Zm Z<|Zq (z3h Z .rd Z tu176)<|Zm Z<|Zn<|z24 (fun (s4:(List UInt8) × Int) aa ww=>∃ nv:Nat→Value,Sta (ctx 63 H [zG1] w) [(1,.rd (z02 u8R) a1),(8,.val (nv 0)),(21,.rd (z02 z0o) a2),(22,.rd z0c (a2.length:Int)),(23,.rd z0c s4.2)] [(1,some ((nv 0),.list u8R 5 s4.1)),zG1] aa ww) (fun aa ww h=>⟨nvl [v2],Zu h [1,1001]⟩) (fun s4=>?_);refine gEx fun n5=>gSR<|Zq (I.lss Z Z)<|Zn<|z0t<|gIf Z Z (fun h6=>?_) (fun h6=>?_)
   ·refine Zt<|z0t<|z4m<|gSR<|z0m fun x7 h8=>Zq (ixR Z Z h8 tu176 z61 Z)<|Zq (ldR Z z9r)<|Zb Z<|z2b<|Zm Z<|Zm Z<|Zq (W.shr Z Z (Int.natCast_nonneg _))<|Zq (W.toB Z tu48 tu5)<|Zm Z<|Zq (W.shr Z Z (Int.natCast_nonneg _))<|Zq (W.toB Z tu48 tu5)<|Zm Z<|Zq (W.shr Z Z (Int.natCast_nonneg _))<|Zq (W.toB Z tu48 tu5)<|Zm Z<|Zq (W.toB Z tu48 tu5)<|Ef Z (lit (R:=u8R) ([(z4h x7 24).toUInt8,(z4h x7 16).toUInt8,(z4h x7 8).toUInt8,x7.toUInt8]:List UInt8) 1100 (pP Z Z<|pP Z Z<|pP Z Z<|pP Z Z<|pN) Z tu74 ti5 Z Z) fun v9=>z0m fun x10 h11=>Ef Z (apn 1 Z Z Z (.own 1100 Z) h11 tu74 ti5 Z Z Z) fun v12=>Za Z<|z1n<|z3a<|z0n<|z2b<|Zq (I.add Z Z)<|Zm Z<|z1n<|z1j (fun aa ww h=>⟨nvl [v12],Zu h [1,1001]⟩)
   ·refine z1w<|z0w<|z0y<|z3g (fun aa ww h=>⟨nvl [(n5 0)],Zu h [1,1001]⟩)
  ·refine gEx fun n13=>gSR<|Zm Z<|Zm Z<|zf0 1 [8,43] Z (fS Z<|fS Z<|fN)<|Ef Z (lit (R:=(z02 u8R)) ([s3,a1]:List (List UInt8)) 1101 (pP Z Z<|pP Z Z<|pN) Z tu94 zon Z Z) fun v14=>zf0 1101 [45] Z (fS Z<|fN)<|Zc [1001] [] Tryz.func152 Z (zgi _) fun r15 n16=>Zm Z<|Zq (ext Z Z)<|Zq (ext Z Z)<|Eb Z (z4i 1102 z1z (.zr (R:=aZ) (x:=(Vector.replicate 32 0)) zef)) fun v17=>Es (sto 1102 Z Z fH Z z1z)<|Zb Z<|gSR<|Zb Z<|z8d (fun (s18:UInt64) aa ww=>Sta (ctx 63 H [zG1] w) [(12,.rd z0c r15.2),(13,.rd z2a s18)] [zG1] aa ww) ?_ (fun s18=>?_)
   ·refine gSR<|z17j 1102 11 Z Z<|Zq (z18j (i:=0) (j:=8) Z .no (.to Z) tu31 ti5 (by decide) Z Z Z)<|Zq (z3h Z .rd Z tu74)<|Zm Z<|Zn<|z24 (fun (s19:UInt64 × Int) aa ww=>Sta (ctx 63 H [zG1] w) [(12,.rd z0c r15.2),(13,.rd z2a s19.1),(49,.rd (z02 u8R) ((r15.1.toList.drop 0).take 8)),(50,.rd z0c (((r15.1.toList.drop 0).take 8).length:Int)),(51,.rd z0c s19.2)] [zG1] aa ww) (fun aa ww h=>Zu h [1001]) (fun s19=>?_)
    refine gSR<|Zq (I.lss Z Z)<|Zn<|z0t<|gIf Z Z (fun h20=>?_) (fun h20=>?_)
    ·refine Zt<|z0t<|z4m<|gSR<|z0m fun x21 h22=>Zq (ixR Z Z h22 tu74 ti5 Z)<|Zq (ldR Z ty5)<|Zb Z<|z2b<|Zm Z<|Zq (U.shl Z Z (Int.natCast_nonneg _))<|Zm Z<|Zq (B.toU Z tu5 tu49)<|Zq (U.or Z Z)<|Za Z<|z1x 13 Z fun y23=>z1n<|z3a<|z0n<|z2b<|Zq (I.add Z Z)<|Zm Z<|z1n<|z1j (fun aa ww h=>Zu h [1001])
    ·refine z1w<|z0w<|z0y<|z3g (fun aa ww h=>Zu h [1001])
   ·refine gSR<|Zm Z<|Zm Z<|Za Z<|Zb Z<|z0j<|Ze [] [1001] Z
def zco (a0:UInt32) (a1:UInt32) (a2:List UInt8):Option (UInt32 × Int) :=
 zk9 99 a2 [a0,a1] >>= fun r2 =>
 if r2.2 != 0 then
  some (0,r2.2)
 else
  some ((r2.1 % 500000003).toUInt32) >>= fun y5 =>
  some (y5,0)
theorem zkx (a0:UInt32) (a1:UInt32) (a2:List UInt8):z1o Tryz.prog 156 [.rd z0o a0,.rd z0o a1,.rd (z02 u8R) a2] [zG1] (zco a0 a1 a2) (fun r nv=>⟨[.rd z0o r.1,.rd z0c r.2],[(1001,some (.bool true,.glob 1 (z3b 64 z0o) z52))]⟩):=by
 refine z29 24 Tryz.func156 Z Z Z fun H w=>?_;refine gSR<|Za Z<|Zb Z<|gSR<|Zm Z<|Zm Z<|Zm Z<|Ef Z (lit (R:=z0o) ([a0,a1]:List UInt32) 1 (pP Z Z<|pP Z Z<|pN) Z tu176 z61 Z Z) fun v1=>zf0 1 [14] Z (fS Z<|fN)<|Zc [1001] [] Tryz.func176 Z (zqw _ _ _) fun r2 n3=>Zm Z<|Zq (ext Z Z)<|Zq (ext Z Z)<|Za Z<|Zb Z<|z0t<|gSR<|Zm Z<|Zq (I.neq Z Z)<|Zj Z (fun h4=>?_) (fun h4=>?_)
 ·refine gSR<|Zm Z<|Za Z<|Zb Z<|z0j<|z0v<|Ze [] [1001] Z
 ·refine Zt<|gSR<|Zm Z<|Zq (U.rem Z Z (by decide))<|Zq (U.toW Z tu49 tu48)<|Za Z<|z1x 6 Z fun y5=>Zb Z<|z0j<|Ze [] [1001] Z
def zfp (a0:UInt32) (a1:List UInt8) (a2:z09):Option (Int) :=
 zhw a0 >>= fun r2 =>
 if !r2 then
  some 2
 else
  if decide (9991<(a1.length:Int)) then
   some 4
  else
   if decide (500000003≤(max a2.E a2.S)) then
    some 22
   else
    zo6 a0 (500000003 - a2.E.toUInt64) >>= fun r7 =>
    zku a2.S.toUInt64 >>= fun r9 =>
    znb r9 r7.1 >>= fun r11 =>
    zco r11.1 a0 a1 >>= fun r13 =>
    if r13.2 != 0 then
     some 22
    else
     if r13.1 != a2.E then
      some 22
     else
      some 0
theorem zoe (a0:UInt32) (a1:List UInt8) (a2:z09):z1o Tryz.prog 120 [.rd z0o a0,.rd (z02 u8R) a1,.rd z0e a2] [zG1] (zfp a0 a1 a2) (fun r nv=>⟨[.rd z0c r],[(1001,some (.bool true,.glob 1 (z3b 64 z0o) z52))]⟩):=by
 refine z29 58 Tryz.func120 Z Z Z fun H w=>?_;refine gSR<|Eb Z (bx 1 Z) fun v1=>Zb Z<|z0t<|gSR<|Zm Z<|Zc [] [] Tryz.func135 Z (zja _) fun r2 n3=>Zq (zex Z)<|Zj Z (fun h4=>?_) (fun h4=>?_)
 ·refine gSR<|Zb Z<|z0j<|z0v<|Ze [] [1001] Z
 ·refine Zt<|z0t<|gSR<|Zm Z<|Zq (z3h Z .rd Z tu74)<|Zq (I.gtr Z Z)<|Zj Z (fun h5=>?_) (fun h5=>?_)
  ·refine gSR<|Zb Z<|z0j<|z0v<|Ze [] [1001] Z
  ·refine Zt<|z0t<|gSR<|Zq (faB 1 Z Z Tryz.underlying55 Z (by exact z61))<|Zq (ld 1 Z Z (fP (z4w _)) z9r Z)<|Zq (faB 1 Z Z Tryz.underlying55 Z (by exact z61))<|Zq (ld 1 Z Z (fP (z6r _)) z9r Z)<|Zq (W.max Z Z)<|Zq (W.geq Z Z)<|Zj Z (fun h6=>?_) (fun h6=>?_)
   ·refine gSR<|Zb Z<|z0j<|z0v<|Ze [] [1001] Z
   ·refine Zt<|gSR<|Zm Z<|Zq (faB 1 Z Z Tryz.underlying55 Z (by exact z61))<|Zq (ld 1 Z Z (fP (z4w _)) z9r Z)<|Zq (W.toU Z tu48 tu49)<|Zq (U.sub Z Z)<|Zc [] [] Tryz.func153 Z (zrc _ _) fun r7 n8=>Zm Z<|Zq (ext Z Z)<|Zq (ext Z Z)<|Za Z<|Zb Z<|gSR<|Zq (faB 1 Z Z Tryz.underlying55 Z (by exact z61))<|Zq (ld 1 Z Z (fP (z6r _)) z9r Z)<|Zq (W.toU Z tu48 tu49)<|Zc [] [] Tryz.func155 Z (zpy _) fun r9 n10=>Zm Z<|Zc [] [] Tryz.func154 Z (zqy _ _) fun r11 n12=>Zm Z<|Zq (ext Z Z)<|Zq (ext Z Z)<|Za Z<|Zb Z<|z0t<|gSR<|Zm Z<|Zm Z<|Zm Z<|Zc [1001] [] Tryz.func156 Z (zkx _ _ _) fun r13 n14=>Zm Z<|Zq (ext Z Z)<|Zq (ext Z Z)<|Za Z<|Zb Z<|gSR<|Zm Z<|Zq (I.neq Z Z)<|Zm Z<|z19 52 Z (fun h15=>?_) (fun h15=>?_)
    ·refine lKn 51 Z h15<|Zk Z<|Zk Z<|Zk Z<|Zk Z<|Zq (pkT Z Z)<|Zn<|zhl Z<|gSR<|Zb Z<|z0j<|z0v<|Ze [] [1001] Z
    ·refine lKn 51 Z h15<|z17 Zx Z Z (mv Z)<|z17 Zx Z Z (faB 1 Z Z Tryz.underlying55 Z (by exact z61))<|z17 Zx Z Z (ld 1 Z Z (fP (z4w _)) z9r Z)<|z17 Zx Z Z (W.neq Z Z)<|Zq (pkF Z Z)<|Zj Z (fun h16=>?_) (fun h16=>?_)
     ·refine gKn 56 Z h16<|gSR<|Zb Z<|z0j<|z0v<|Ze [] [1001] Z
     ·refine gKn 56 Z h16<|Zt<|gSR<|Zb Z<|z0j<|Ze [] [1001] Z
def zhd (a0:z08):Option (Int) :=
 zg2 a0 >>= fun r2 =>
 if r2 != 0 then
  some r2
 else
  zfk a0 >>= fun r5 =>
  zfp a0.Author r5.1 a0.Sig >>= fun r7 =>
  some r7
theorem zln (a0:z08):z1o Tryz.prog 80 [.rd z03 a0] [zG1] (zhd a0) (fun r nv=>⟨[.rd z0c r],[(1001,some (.bool true,.glob 1 (z3b 64 z0o) z52))]⟩):=by
 refine z29 22 Tryz.func80 Z Z Z fun H w=>?_;refine gSR<|Eb Z (bx 1 Z) fun v1=>Zb Z<|z0t<|gSR<|Zq (ld 1 Z Z fH z9t Z)<|Zc [] [] Tryz.func93 Z (zjb _) fun r2 n3=>Zb Z<|gSR<|Zm Z<|Zq (I.neq Z Z)<|Zj Z (fun h4=>?_) (fun h4=>?_)
 ·refine gSR<|Zm Z<|Zb Z<|z0j<|z0v<|Ze [] [1001] Z
 ·refine Zt<|gSR<|Zq (ld 1 Z Z fH z9t Z)<|Zc [] [(100,2)] Tryz.func94 Z (zjq _) fun r5 n6=>Zm Z<|Zq (ext Z Z)<|Zq (ext Z Z)<|Za Z<|Zb Z<|gSR<|Zq (faB 1 Z Z Tryz.underlying57 Z (by exact z61))<|Zq (ld 1 Z Z (fP (z2z _)) z9r Z)<|Zm Z<|Zq (faB 1 Z Z Tryz.underlying57 Z (by exact zll))<|Zq (ld 1 Z Z (fP (z2g _)) ty55 Z)<|zf0 2 [14,4,18] Z (fS Z<|fS Z<|fS Z<|fN)<|Zc [1001] [] Tryz.func120 Z (zoe _ _ _) fun r7 n8=>Zb Z<|z0j<|Ze [] [1001] Z
def z5a (s4:UInt64 × (List UInt8)):Option (Sum ((List UInt8)) (UInt64 × (List UInt8))) :=
 if decide (0<s4.1) then
  app 1 s4.2 [(s4.1 % 256).toUInt8] >>= fun x8 =>
  some (.inr (s4.1 / 256,x8))
 else
  some (.inl s4.2)
def z5b (s3:(List UInt8)) (s15:(List UInt8) × Int):Option (Sum ((List UInt8)) ((List UInt8) × Int)) :=
 if decide (0≤s15.2) then
  idx s3 s15.2 >>= fun x18 =>
  app 1 s15.1 [x18] >>= fun x21 =>
  some (w64 (s15.2 - 1)) >>= fun y24 =>
  some (.inr (x21,y24))
 else
  some (.inl s15.1)
def z2n (a0:UInt64):Option ((List UInt8)) :=
 if decide (a0≤247) then
  some [a0.toUInt8]
 else
  (iter (z5a) (a0,[])) >>= fun s3 =>
  (some (w64 ((s3.length:Int) - 1)) >>= fun y14 =>
  iter (z5b s3) ([UInt8.ofInt (w64 (247+(s3.length:Int)))],y14)) >>= fun s13 =>
  some s13
theorem z38 (a0:UInt64):z1o Tryz.prog 74 [.rd z2a a0] [] (z2n a0) (fun r nv=>⟨[.val (nv 0)],[(100,some (nv 0,.list u8R 5 r))]⟩):=by
 refine z29 41 Tryz.func74 Z Z Z fun H w=>?_;refine gSR<|Zb Z<|z0t<|gSR<|Zm Z<|Zq (U.leq Z Z)<|Zj Z (fun h1=>?_) (fun h1=>?_)
 ·refine gSR<|Zm Z<|Zq (U.toB Z tu49 tu5)<|Ef Z (lit (R:=u8R) ([a0.toUInt8]:List UInt8) 1 (pP Z Z<|pN) Z tu74 ti5 Z Z) fun v2=>Zb Z<|z0j<|z0v<|Ze [v2] [1] Z
 ·refine Zt<|gSR<|Zb Z<|z8d (fun (s3:(List UInt8)) aa ww=>∃ nv:Nat→Value,Sta (ctx 41 H [] w) [(3,.val (nv 0))] [(3,some ((nv 0),.list u8R 5 s3))] aa ww) ?_ (fun s3=>?_)
  ·refine zuu u8R 5 6<|z24 (fun (s4:UInt64 × (List UInt8)) aa ww=>∃ nv:Nat→Value,Sta (ctx 41 H [] w) [(0,.rd z2a s4.1),(3,.val (nv 0))] [(5,some ((nv 0),.list u8R 5 s4.2))] aa ww) (fun aa ww h=>⟨nvl [(.slice none 0 0)],Zu h [6]⟩) (fun s4=>?_);refine gEx fun n5=>z0t<|gSR<|Zm Z<|Zq (U.gtr Z Z)<|Zj Z (fun h6=>?_) (fun h6=>?_)
   ·refine Zt<|z4m<|gSR<|Zm Z<|Zm Z<|Zq (U.rem Z Z (by decide))<|Zq (U.toB Z tu49 tu5)<|Ef Z (lit (R:=u8R) ([(s4.1 % 256).toUInt8]:List UInt8) 7 (pP Z Z<|pN) Z tu74 ti5 Z Z) fun v7=>z0m fun x8 h9=>Ef Z (apn 5 Z Z Z (.own 7 Z) h9 tu74 ti5 Z Z Z) fun v10=>Zb Z<|z2b<|Zm Z<|Zq (U.quo Z Z (by decide))<|Za Z<|z1n<|z3a<|z1j (fun aa ww h=>⟨nvl [v10],Zu h [5]⟩)
   ·refine z1w<|z0w<|z0y<|z3g (fun aa ww h=>⟨nvl [(n5 0)],Zu h [5]⟩)
  ·refine gEx fun n11=>gSR<|Zm Z<|Zq (z3h Z (.own 3 Z) Z tu74)<|Zq (I.add Z Z)<|Zq (I.toB Z tu3 tu5)<|Ef Z (lit (R:=u8R) ([UInt8.ofInt (w64 (247+(s3.length:Int)))]:List UInt8) 8 (pP Z Z<|pN) Z tu74 ti5 Z Z) fun v12=>Zb Z<|z8d (fun (s13:(List UInt8)) aa ww=>∃ nv:Nat→Value,Sta (ctx 41 H [] w) [(4,.val (nv 0))] [(8,some ((nv 0),.list u8R 5 s13))] aa ww) ?_ (fun s13=>?_)
   ·refine gSR<|Zm Z<|Zq (z3h Z (.own 3 Z) Z tu74)<|Zq (I.sub Z Z)<|Za Z<|z1x 5 Z fun y14=>Zn<|z24 (fun (s15:(List UInt8) × Int) aa ww=>∃ nv:Nat→Value,Sta (ctx 41 H [] w) [(3,.val (n11 0)),(4,.val (nv 0)),(5,.rd z0c s15.2)] [(3,some ((n11 0),.list u8R 5 s3)),(8,some ((nv 0),.list u8R 5 s15.1))] aa ww) (fun aa ww h=>⟨nvl [v12],Zu h [3,8]⟩) (fun s15=>?_);refine gEx fun n16=>z0t<|gSR<|Zm Z<|Zq (I.geq Z Z)<|Zj Z (fun h17=>?_) (fun h17=>?_)
    ·refine Zt<|z0t<|z4m<|z2b<|Zm Z<|Zm Z<|Zm Z<|z0m fun x18 h19=>Zq (ixO 3 Z Z Z h19 tu74 ti5)<|Zq (ld 3 Z Z (Foc.el h19) ty5 Z)<|Ef Z (lit (R:=u8R) ([x18]:List UInt8) 9 (pP Z Z<|pN) Z tu74 ti5 Z Z) fun v20=>z0m fun x21 h22=>Ef Z (apn 8 Z Z Z (.own 9 Z) h22 tu74 ti5 Z Z Z) fun v23=>Za Z<|z1n<|z3a<|z0n<|z2b<|Zm Z<|Zq (I.sub Z Z)<|Za Z<|z1x 5 Z fun y24=>z1n<|z1j (fun aa ww h=>⟨nvl [v23],Zu h [3,8]⟩)
    ·refine z1w<|z0w<|z0y<|z3g (fun aa ww h=>⟨nvl [(n16 0)],Zu h [8]⟩)
   ·refine gEx fun n25=>gSR<|Zm Z<|Zb Z<|z0j<|Ze [(n25 0)] [8] Z
def z6w (a0:List V3) (s4:(List UInt8) × Int):Option (Sum ((List UInt8)) ((List UInt8) × Int)) :=
 if decide (s4.2<(a0.length:Int)) then
  idx a0 s4.2 >>= fun x7 =>
  app 1 s4.1 x7.toList >>= fun x9 =>
  some (w64 (s4.2+1)) >>= fun y12 =>
  some (.inr (x9,y12))
 else
  some (.inl s4.1)
def zc6 (a0:List V3):Option ((List UInt8)) :=
 z2n (UInt64.ofInt (a0.length:Int)) >>= fun r1 =>
 (iter (z6w a0) (r1,0)) >>= fun s3 =>
 some s3
theorem zkl (a0:List V3):z1o Tryz.prog 111 [.rd (z02 aZ) a0] [] (zc6 a0) (fun r nv=>⟨[.val (nv 0)],[(100,some (nv 0,.list u8R 5 r))]⟩):=by
 refine z29 22 Tryz.func111 Z Z Z fun H w=>?_;refine gSR<|Zb Z<|gSR<|Zm Z<|Zq (z3h Z .rd Z tu22)<|Zq (I.toU Z tu3 tu49)<|Zc [] [(100,1)] Tryz.func74 Z (z38 _) fun r1 n2=>Zb Z<|z8d (fun (s3:(List UInt8)) aa ww=>∃ nv:Nat→Value,Sta (ctx 22 H [] w) [(3,.val (nv 0))] [(1,some ((nv 0),.list u8R 5 s3))] aa ww) ?_ (fun s3=>?_)
 ·refine gSR<|Zb Z<|z24 (fun (s4:(List UInt8) × Int) aa ww=>∃ nv:Nat→Value,Sta (ctx 22 H [] w) [(0,.rd (z02 aZ) a0),(3,.val (nv 0)),(4,.rd z0c s4.2)] [(1,some ((nv 0),.list u8R 5 s4.1))] aa ww) (fun aa ww h=>⟨nvl [(n2 0)],Zu h [1]⟩) (fun s4=>?_);refine gEx fun n5=>z0t<|gSR<|Zm Z<|Zm Z<|Zq (z3h Z .rd Z tu22)<|Zq (I.lss Z Z)<|Zj Z (fun h6=>?_) (fun h6=>?_)
  ·refine Zt<|z0t<|z4m<|z2b<|Zm Z<|Zm Z<|Zm Z<|z0m fun x7 h8=>Zq (ixR Z Z h8 tu22 z1z Z)<|Zq (cutV Z tu31 ti5 Z Z Z)<|z0m fun x9 h10=>Ef Z (apn 1 Z Z Z .rd h10 tu74 ti5 Z Z Z) fun v11=>Za Z<|z1n<|z3a<|z0n<|z2b<|Zm Z<|Zq (I.add Z Z)<|Za Z<|z1x 4 Z fun y12=>z1n<|z1j (fun aa ww h=>⟨nvl [v11],Zu h [1]⟩)
  ·refine z1w<|z0w<|z0y<|z3g (fun aa ww h=>⟨nvl [(n5 0)],Zu h [1]⟩)
 ·refine gEx fun n13=>gSR<|Zm Z<|Zb Z<|z0j<|Ze [(n13 0)] [1] Z
def z8c (a0:List UInt8):Option ((List UInt8)) :=
 z2n (UInt64.ofInt (a0.length:Int)) >>= fun r1 =>
 app 1 r1 a0 >>= fun x3 =>
 some x3
theorem zem (a0:List UInt8):z1o Tryz.prog 112 [.rd (z02 u8R) a0] [] (z8c a0) (fun r nv=>⟨[.val (nv 0)],[(100,some (nv 0,.list u8R 5 r))]⟩):=by
 refine z29 9 Tryz.func112 Z Z Z fun H w=>?_;refine gSR<|Zb Z<|gSR<|Zm Z<|Zq (z3h Z .rd Z tu74)<|Zq (I.toU Z tu3 tu49)<|Zc [] [(100,1)] Tryz.func74 Z (z38 _) fun r1 n2=>Zm Z<|z0m fun x3 h4=>Ef Z (apn 1 Z Z Z .rd h4 tu74 ti5 Z Z Z) fun v5=>Zb Z<|z0j<|Ze [v5] [1] Z
def za4 (a0:Int):Option ((List UInt8)) :=
 if decide (0≤a0) then
  z2n (2 * (UInt64.ofInt a0)) >>= fun r2 =>
  some r2
 else
  z2n ((2 * (UInt64.ofInt (w64 (0 - (w64 (a0+1))))))+1) >>= fun r4 =>
  some r4
theorem zi7 (a0:Int):z1o Tryz.prog 149 [.rd z0c a0] [] (za4 a0) (fun r nv=>⟨[.val (nv 0)],[(100,some (nv 0,.list u8R 5 r))]⟩):=by
 refine z29 16 Tryz.func149 Z Z Z fun H w=>?_;refine gSR<|Zb Z<|z0t<|gSR<|Zm Z<|Zq (I.geq Z Z)<|Zj Z (fun h1=>?_) (fun h1=>?_)
 ·refine gSR<|Zm Z<|Zq (I.toU Z Tryz.underlying2 tu49)<|Zq (U.mul Z Z)<|Zc [] [(100,1)] Tryz.func74 Z (z38 _) fun r2 n3=>Zb Z<|z0j<|z0v<|Ze [(n3 0)] [1] Z
 ·refine Zt<|gSR<|Zm Z<|Zq (I.add Z Z)<|Zq (I.neg Z)<|Zq (I.toU Z Tryz.underlying2 tu49)<|Zq (U.mul Z Z)<|Zq (U.add Z Z)<|Zc [] [(100,2)] Tryz.func74 Z (z38 _) fun r4 n5=>Zb Z<|z0j<|Ze [(n5 0)] [2] Z
def z5v (a0:z06) (s11:(List UInt8) × Int):Option (Sum ((List UInt8)) ((List UInt8) × Int)) :=
 if decide (0≤s11.2) then
  chk (0≤w64 (8 * s11.2)) >>= fun u14 =>
  app 1 s11.1 [(z8f a0.Bits ((w64 (8 * s11.2):Int).toNat)).toUInt8] >>= fun x17 =>
  some (w64 (s11.2 - 1)) >>= fun y20 =>
  some (.inr (x17,y20))
 else
  some (.inl s11.1)
def zb1 (a0:z06):Option ((List UInt8)) :=
 if a0.Kind==1 then
  za4 a0.Num >>= fun r4 =>
  app 1 [a0.Kind] r4 >>= fun x6 =>
  some x6
 else
  if a0.Kind==2 then
   (iter (z5v a0) ([a0.Kind],7)) >>= fun s10 =>
   some s10
  else
   chk (a0.Text.length≤281474976710656) >>= fun u22 =>
   z8c a0.Text >>= fun r24 =>
   app 1 [a0.Kind] r24 >>= fun x26 =>
   some x26
theorem zj0 (a0:z06):z1o Tryz.prog 113 [.rd z20 a0] [] (zb1 a0) (fun r nv=>⟨[.val (nv 0)],[(100,some (nv 0,.list u8R 5 r))]⟩):=by
 refine z29 39 Tryz.func113 Z Z Z fun H w=>?_;refine gSR<|Eb Z (bx 1 Z) fun v1=>Zb Z<|gSR<|Zq (faB 1 Z Z Tryz.underlying51 Z (by exact ti5))<|Zq (ld 1 Z Z (fP (z36 _)) ty5 Z)<|Ef Z (lit (R:=u8R) ([a0.Kind]:List UInt8) 2 (pP Z Z<|pN) Z tu74 ti5 Z Z) fun v2=>Zb Z<|z0t<|gSR<|Zq (faB 1 Z Z Tryz.underlying51 Z (by exact ti5))<|Zq (ld 1 Z Z (fP (z36 _)) ty5 Z)<|Zn<|z4m<|gSR<|Zq (B.eql Z Z)<|Zb Z<|gIf Z Z (fun h3=>?_) (fun h3=>?_)
 ·refine gKn 11 Z h3<|gSR<|Zm Z<|Zq (faB 1 Z Z Tryz.underlying51 Z (by exact ti2))<|Zq (ld 1 Z Z (fP (z6l _)) ty2 Z)<|Zc [] [(100,3)] Tryz.func149 Z (zi7 _) fun r4 n5=>z0m fun x6 h7=>Ef Z (apn 2 Z Z Z (.own 3 Z) h7 tu74 ti5 Z Z Z) fun v8=>Zb Z<|z0j<|z3w<|z0v<|Ze [v8] [2] Z
 ·refine gKn 11 Z h3<|gSR<|Zq (B.eql Z Z)<|Zb Z<|gIf Z Z (fun h9=>?_) (fun h9=>?_)
  ·refine gKn 18 Z h9<|z8d (fun (s10:(List UInt8)) aa ww=>∃ nv:Nat→Value,Sta (ctx 39 H [] w) [(3,.val (nv 0))] [(2,some ((nv 0),.list u8R 5 s10))] aa ww) ?_ (fun s10=>?_)
   ·refine gSR<|Zb Z<|z24 (fun (s11:(List UInt8) × Int) aa ww=>∃ nv:Nat→Value,Sta (ctx 39 H [] w) [(1,.val (z05 v1 0)),(3,.val (nv 0)),(4,.rd z0c s11.2)] [(1,some (v1,.box 51 [.rd z20 a0])),(2,some ((nv 0),.list u8R 5 s11.1))] aa ww) (fun aa ww h=>⟨nvl [v2],Zu h [1,2]⟩) (fun s11=>?_);refine gEx fun n12=>z0t<|gSR<|Zm Z<|Zq (I.geq Z Z)<|Zj Z (fun h13=>?_) (fun h13=>?_)
    ·refine Zt<|z0t<|z4m<|z2b<|Zm Z<|Zq (faB 1 Z Z Tryz.underlying51 Z (by exact zqm))<|Zq (ld 1 Z Z (fP (z40 _)) zpo Z)<|Zm Z<|Zq (I.mul Z Z)<|z0m fun u14 h15=>Zq (U.shr Z Z (z44 h15))<|Zq (U.toB Z tu49 tu5)<|Ef Z (lit (R:=u8R) ([(z8f a0.Bits ((w64 (8 * s11.2):Int).toNat)).toUInt8]:List UInt8) 4 (pP Z Z<|pN) Z tu74 ti5 Z Z) fun v16=>z0m fun x17 h18=>Ef Z (apn 2 Z Z Z (.own 4 Z) h18 tu74 ti5 Z Z Z) fun v19=>Za Z<|z1n<|z3a<|z0n<|z2b<|Zm Z<|Zq (I.sub Z Z)<|Za Z<|z1x 4 Z fun y20=>z1n<|z1j (fun aa ww h=>⟨nvl [v19],Zu h [1,2]⟩)
    ·refine z1w<|z0w<|z0y<|z3g (fun aa ww h=>⟨nvl [(n12 0)],Zu h [2]⟩)
   ·refine gEx fun n21=>gSR<|Zm Z<|Zb Z<|z0j<|z3w<|z0v<|Ze [(n21 0)] [2] Z
  ·refine gKn 18 Z h9<|z2p<|z3a<|z0n<|gSR<|Zm Z<|Zq (faB 1 Z Z Tryz.underlying51 Z (by exact ti9))<|Zq (ld 1 Z Z (fP (z3z _)) ty9 Z)<|z0m fun u22 h23=>z11b Z Z h23 tu9 tu74 tu5<|Zc [] [(100,5)] Tryz.func112 Z (zem _) fun r24 n25=>z0m fun x26 h27=>Ef Z (apn 2 Z Z Z (.own 5 Z) h27 tu74 ti5 Z Z Z) fun v28=>Zb Z<|z0j<|Ze [v28] [2] Z
def z60 (a0:z08):Option ((List UInt8)) :=
 z2n a0.Author.toUInt64 >>= fun r3 =>
 app 1 [111] r3 >>= fun x5 =>
 zc6 a0.Preds >>= fun r8 =>
 app 1 x5 r8 >>= fun x10 =>
 z2n a0.Stamp >>= fun r13 =>
 app 1 x10 r13 >>= fun x15 =>
 app 1 x15 [a0.Act.Kind] >>= fun x19 =>
 (if a0.Act.Kind != 1 then
  chk (a0.Act.Key.length≤281474976710656) >>= fun u24 =>
  z8c a0.Act.Key >>= fun r26 =>
  app 1 x19 r26 >>= fun x28 =>
  some x28
 else
  some x19) >>= fun s22 =>
 if a0.Act.Kind==4 then
  zb1 a0.Act.Value >>= fun r33 =>
  app 1 s22 r33 >>= fun x35 =>
  some x35
 else
  some s22
theorem zbz (a0:z08):z1o Tryz.prog 69 [.rd z03 a0] [] (z60 a0) (fun r nv=>⟨[.val (nv 0)],[(100,some (nv 0,.list u8R 5 r))]⟩):=by
 refine z29 47 Tryz.func69 Z Z Z fun H w=>?_;refine gSR<|Eb Z (bx 1 Z) fun v1=>Zb Z<|gSR<|Ef Z (lit (R:=u8R) ([111]:List UInt8) 2 (pP Z Z<|pN) Z tu74 ti5 Z Z) fun v2=>Zq (faB 1 Z Z Tryz.underlying57 Z (by exact z61))<|Zq (ld 1 Z Z (fP (z2z _)) z9r Z)<|Zq (W.toU Z tu48 tu49)<|Zc [] [(100,3)] Tryz.func74 Z (z38 _) fun r3 n4=>z0m fun x5 h6=>Ef Z (apn 2 Z Z Z (.own 3 Z) h6 tu74 ti5 Z Z Z) fun v7=>Zb Z<|z0t<|z8s [2,13,25] mixed Z Z<|hTk 0 Z Z (mv Z)<|hTk 1 Z Z (faB 1 Z Z Tryz.underlying57 Z (by exact z6b))<|hTk 2 Z Z (ld 1 Z Z (fP (z0z _)) z93 Z)<|hTk 5 Z Z (faB 1 Z Z Tryz.underlying57 Z (by exact zqm))<|hTk 6 Z Z (ld 1 Z Z (fP (z4a _)) zpo Z)<|z41 3 [] [(100,13)] Z (by kernel_rfl) Z (gd0 Z) Z Tryz.func111 Z Z (zkl _) (Y1 Z) rN Z (fun _ _=>z2t) fun r8 n9=>z5o fun x10 h11=>Zo 4 Z Z Z (apn 2 Z Z Z (.own 13 Z) h11 tu74 ti5 Z Z Z) fun v12=>z41 7 [] [(100,25)] Z (by kernel_rfl) Z (gd0 Z) Z Tryz.func74 Z Z (z38 _) (Y1 Z) rN Z (fun _ _=>z2t) fun r13 n14=>z5o fun x15 h16=>Zo 8 Z Z Z (apn 2 Z Z Z (.own 25 Z) h16 tu74 ti5 Z Z Z) fun v17=>Zf 9 Z Z z2t (asg Z)<|z54 (by kernel_rfl)<|z0n<|gSR<|Zm Z<|Zq (faB 1 Z Z Tryz.underlying57 Z (by exact zph))<|Zq (faB 1 Z Z Tryz.underlying53 Z (by exact ti5))<|Zq (ld 1 Z Z ((fP (z2h _)).part (z3n _)) ty5 Z)<|Ef Z (lit (R:=u8R) ([a0.Act.Kind]:List UInt8) 37 (pP Z Z<|pN) Z tu74 ti5 Z Z) fun v18=>z0m fun x19 h20=>Ef Z (apn 2 Z Z Z (.own 37 Z) h20 tu74 ti5 Z Z Z) fun v21=>Zb Z<|z8d (fun (s22:(List UInt8)) aa ww=>∃ nv:Nat→Value,Sta (ctx 47 H [] w) [(1,.val (z05 v1 0)),(3,.val (nv 0))] [(1,some (v1,.box 57 [.rd z03 a0])),(2,some ((nv 0),.list u8R 5 s22))] aa ww) ?_ (fun s22=>?_)
 ·refine gSR<|Zq (faB 1 Z Z Tryz.underlying57 Z (by exact zph))<|Zq (faB 1 Z Z Tryz.underlying53 Z (by exact ti5))<|Zq (ld 1 Z Z ((fP (z2h _)).part (z3n _)) ty5 Z)<|Zq (B.neq Z Z)<|Zj Z (fun h23=>?_) (fun h23=>?_)
  ·refine z2b<|Zm Z<|Zq (faB 1 Z Z Tryz.underlying57 Z (by exact zph))<|Zq (faB 1 Z Z Tryz.underlying53 Z (by exact ti9))<|Zq (ld 1 Z Z ((fP (z2h _)).part (z7c _)) ty9 Z)<|z0m fun u24 h25=>z11b Z Z h25 tu9 tu74 tu5<|Zc [] [(100,38)] Tryz.func112 Z (zem _) fun r26 n27=>z0m fun x28 h29=>Ef Z (apn 2 Z Z Z (.own 38 Z) h29 tu74 ti5 Z Z Z) fun v30=>Za Z<|z1n<|z3g (fun aa ww h=>⟨nvl [v30],Zu h [1,2]⟩)
  ·refine z2p<|z3g (fun aa ww h=>⟨nvl [v21],Zu h [1,2]⟩)
 ·refine gEx fun n31=>z0t<|gSR<|Zq (faB 1 Z Z Tryz.underlying57 Z (by exact zph))<|Zq (faB 1 Z Z Tryz.underlying53 Z (by exact ti5))<|Zq (ld 1 Z Z ((fP (z2h _)).part (z3n _)) ty5 Z)<|Zq (B.eql Z Z)<|Zj Z (fun h32=>?_) (fun h32=>?_)
  ·refine z2b<|Zm Z<|Zq (faB 1 Z Z Tryz.underlying57 Z (by exact zph))<|Zq (faB 1 Z Z Tryz.underlying53 Z (by exact zlg))<|Zq (ld 1 Z Z ((fP (z2h _)).part (z6k _)) zst Z)<|Zc [] [(100,39)] Tryz.func113 Z (zj0 _) fun r33 n34=>z0m fun x35 h36=>Ef Z (apn 2 Z Z Z (.own 39 Z) h36 tu74 ti5 Z Z Z) fun v37=>Zb Z<|gSR<|Zm Z<|Zb Z<|z0j<|Ze [v37] [2] Z
  ·refine Zt<|gSR<|Zm Z<|Zb Z<|z0j<|Ze [(n31 0)] [2] Z
def zb0 (a0:z08):Option ((List UInt8)) :=
 z60 a0 >>= fun r2 =>
 z2n a0.Sig.E.toUInt64 >>= fun r4 =>
 app 1 r2 r4 >>= fun x6 =>
 z2n a0.Sig.S.toUInt64 >>= fun r9 =>
 app 1 x6 r9 >>= fun x11 =>
 some x11
theorem zj5 (a0:z08):z1o Tryz.prog 37 [.rd z03 a0] [] (zb0 a0) (fun r nv=>⟨[.val (nv 0)],[(100,some (nv 0,.list u8R 5 r))]⟩):=by
 refine z29 17 Tryz.func37 Z Z Z fun H w=>?_;refine gSR<|Eb Z (bx 1 Z) fun v1=>Zb Z<|z0t<|z8s [5,20,38] mixed Z Z<|hTk 0 Z Z (ld 1 Z Z fH z9t Z)<|hTk 2 Z Z (faB 1 Z Z Tryz.underlying57 Z (by exact zll))<|hTk 3 Z Z (faB 1 Z Z Tryz.underlying55 Z (by exact z61))<|hTk 4 Z Z (ld 1 Z Z ((fP (z2g _)).part (z4w _)) z9r Z)<|hTk 5 Z Z (W.toU Z tu48 tu49)<|hTk 8 Z Z (faB 1 Z Z Tryz.underlying57 Z (by exact zll))<|hTk 9 Z Z (faB 1 Z Z Tryz.underlying55 Z (by exact z61))<|hTk 10 Z Z (ld 1 Z Z ((fP (z2g _)).part (z6r _)) z9r Z)<|hTk 11 Z Z (W.toU Z tu48 tu49)<|z41 1 [] [(100,5)] Z (by kernel_rfl) Z (gd0 Z) Z Tryz.func69 Z Z (zbz _) (Y1 Z) rN Z (fun _ _=>z2t) fun r2 n3=>z41 6 [] [(100,20)] Z (by kernel_rfl) Z (gd0 Z) Z Tryz.func74 Z Z (z38 _) (Y1 Z) rN Z (fun _ _=>z2t) fun r4 n5=>z5o fun x6 h7=>Zo 7 Z Z Z (apn 5 Z Z Z (.own 20 Z) h7 tu74 ti5 Z Z Z) fun v8=>z41 12 [] [(100,38)] Z (by kernel_rfl) Z (gd0 Z) Z Tryz.func74 Z Z (z38 _) (Y1 Z) rN Z (fun _ _=>z2t) fun r9 n10=>z5o fun x11 h12=>Zo 13 Z Z Z (apn 5 Z Z Z (.own 38 Z) h12 tu74 ti5 Z Z Z) fun v13=>Zf 14 Z Z z2t (asg Z)<|z54 (by kernel_rfl)<|z0n<|z0j<|Ze [v13] [5] Z
def zdg  : Option ((Vector UInt32 8)) :=
 some (#v[1779033703,3144134277,1013904242,2773480762,1359893119,2600822924,528734635,1541459225]:Vector UInt32 8)
theorem zjf  : z1o Tryz.prog 72 [] [] (zdg) (fun r nv=>⟨[.rd (z3b 8 z0o) r],[]⟩):=by
 refine z29 2 Tryz.func72 Z Z Z fun H w=>?_;refine gSR<|Eb Z (z4i 1 zi2 (.zr (R:=(z3b 8 z0o)) (x:=(Vector.replicate 8 0)) zs6)) fun v1=>Zn<|gSR<|Zq (litA (R:=z0o) [1779033703,3144134277,1013904242,2773480762,1359893119,2600822924,528734635,1541459225] (#v[1779033703,3144134277,1013904242,2773480762,1359893119,2600822924,528734635,1541459225]:Vector UInt32 8) (pP Z Z<|pP Z Z<|pP Z Z<|pP Z Z<|pP Z Z<|pP Z Z<|pP Z Z<|pP Z Z<|pN) Z tu110 zi2 Z z61)<|Es (sto 1 Z Z fH Z zi2)<|Zn<|z0j<|zb4 [] [] Z (eC 1 Z Z zr7<|eN) (rN)
def z6z (a0:Int) (s3:(List UInt8)):Option (Sum ((List UInt8)) ((List UInt8))) :=
 if (Int.tmod (w64 ((w64 (a0+(s3.length:Int)))+8)) 64) != 0 then
  app 1 s3 [0] >>= fun x7 =>
  some (.inr x7)
 else
  some (.inl s3)
def z6y (a0:Int) (s12:(List UInt8) × Int):Option (Sum ((List UInt8)) ((List UInt8) × Int)) :=
 if decide (0≤s12.2) then
  chk (0≤w64 (8 * s12.2)) >>= fun u15 =>
  app 1 s12.1 [(z8f (8 * (UInt64.ofInt a0)) ((w64 (8 * s12.2):Int).toNat)).toUInt8] >>= fun x18 =>
  some (w64 (s12.2 - 1)) >>= fun y21 =>
  some (.inr (x18,y21))
 else
  some (.inl s12.1)
def zc9 (a0:Int):Option ((List UInt8)) :=
 (iter (z6z a0) [128]) >>= fun s2 =>
 (iter (z6y a0) (s2,7)) >>= fun s11 =>
 some s11
theorem zjs (a0:Int):z1o Tryz.prog 73 [.rd z0c a0] [] (zc9 a0) (fun r nv=>⟨[.val (nv 0)],[(100,some (nv 0,.list u8R 5 r))]⟩):=by
 refine z29 31 Tryz.func73 Z Z Z fun H w=>?_;refine gSR<|Zb Z<|gSR<|Ef Z (lit (R:=u8R) ([128]:List UInt8) 1 (pP Z Z<|pN) Z tu74 ti5 Z Z) fun v1=>Zb Z<|z8d (fun (s2:(List UInt8)) aa ww=>∃ nv:Nat→Value,Sta (ctx 31 H [] w) [(0,.rd z0c a0),(3,.val (nv 0))] [(1,some ((nv 0),.list u8R 5 s2))] aa ww) ?_ (fun s2=>?_)
 ·refine z24 (fun (s3:(List UInt8)) aa ww=>∃ nv:Nat→Value,Sta (ctx 31 H [] w) [(0,.rd z0c a0),(3,.val (nv 0))] [(1,some ((nv 0),.list u8R 5 s3))] aa ww) (fun aa ww h=>⟨nvl [v1],Zu h [1]⟩) (fun s3=>?_);refine gEx fun n4=>z0t<|gSR<|Zm Z<|Zm Z<|Zq (z3h Z (.own 1 Z) Z tu74)<|Zq (I.add Z Z)<|Zq (I.add Z Z)<|Zq (I.rem Z Z (by decide))<|Zq (I.neq Z Z)<|Zj Z (fun h5=>?_) (fun h5=>?_)
  ·refine Zt<|z4m<|z2b<|Zm Z<|Ef Z (lit (R:=u8R) ([0]:List UInt8) 2 (pP Z Z<|pN) Z tu74 ti5 Z Z) fun v6=>z0m fun x7 h8=>Ef Z (apn 1 Z Z Z (.own 2 Z) h8 tu74 ti5 Z Z Z) fun v9=>Za Z<|z1n<|z3a<|z1j (fun aa ww h=>⟨nvl [v9],Zu h [1]⟩)
  ·refine z1w<|z0w<|z0y<|z3g (fun aa ww h=>⟨nvl [(n4 0)],Zu h [1]⟩)
 ·refine gEx fun n10=>z8d (fun (s11:(List UInt8)) aa ww=>∃ nv:Nat→Value,Sta (ctx 31 H [] w) [(3,.val (nv 0))] [(1,some ((nv 0),.list u8R 5 s11))] aa ww) ?_ (fun s11=>?_)
  ·refine gSR<|Zb Z<|z24 (fun (s12:(List UInt8) × Int) aa ww=>∃ nv:Nat→Value,Sta (ctx 31 H [] w) [(0,.rd z0c a0),(3,.val (nv 0)),(4,.rd z0c s12.2)] [(1,some ((nv 0),.list u8R 5 s12.1))] aa ww) (fun aa ww h=>⟨nvl [(n10 0)],Zu h [1]⟩) (fun s12=>?_);refine gEx fun n13=>z0t<|gSR<|Zm Z<|Zq (I.geq Z Z)<|Zj Z (fun h14=>?_) (fun h14=>?_)
   ·refine Zt<|z0t<|z4m<|z2b<|Zm Z<|Zm Z<|Zq (I.toU Z tu3 tu49)<|Zq (U.mul Z Z)<|Zm Z<|Zq (I.mul Z Z)<|z0m fun u15 h16=>Zq (U.shr Z Z (z44 h16))<|Zq (U.toB Z tu49 tu5)<|Ef Z (lit (R:=u8R) ([(z8f (8 * (UInt64.ofInt a0)) ((w64 (8 * s12.2):Int).toNat)).toUInt8]:List UInt8) 3 (pP Z Z<|pN) Z tu74 ti5 Z Z) fun v17=>z0m fun x18 h19=>Ef Z (apn 1 Z Z Z (.own 3 Z) h19 tu74 ti5 Z Z Z) fun v20=>Za Z<|z1n<|z3a<|z0n<|z2b<|Zm Z<|Zq (I.sub Z Z)<|Za Z<|z1x 4 Z fun y21=>z1n<|z1j (fun aa ww h=>⟨nvl [v20],Zu h [1]⟩)
   ·refine z1w<|z0w<|z0y<|z3g (fun aa ww h=>⟨nvl [(n13 0)],Zu h [1]⟩)
  ·refine gEx fun n22=>gSR<|Zm Z<|Zb Z<|z0j<|Ze [(n22 0)] [1] Z
def z2q (a0:UInt32) (a1:Int):Option (UInt32) :=
 chk (0≤a1) >>= fun u1 =>
 chk (0≤w64 (32 - a1)) >>= fun u3 =>
 some ((z4h a0 ((a1:Int).toNat)) ||| (zqi a0 ((w64 (32 - a1):Int).toNat))) >>= fun y5 =>
 some y5
theorem z2r (a0:UInt32) (a1:Int):z1o Tryz.prog 150 [.rd z0o a0,.rd z0c a1] [] (z2q a0 a1) (fun r nv=>⟨[.rd z0o r],[]⟩):=by
 refine z29 13 Tryz.func150 Z Z Z fun H w=>?_;refine gSR<|Zb Z<|z0t<|zid mixed (by kernel_rfl)<|Rq Z (mv Z)<|Rq Z (mv Z)<|z8e fun u1 h2=>Rq Z (W.shr Z Z (z44 h2))<|Rq Z (mv Z)<|Rq Z (mv Z)<|Rq Z (I.sub Z Z)<|z8e fun u3 h4=>Rq Z (W.shl Z Z (z44 h4))<|Rq Z (W.or Z Z)<|Rq Z (asg Z)<|z183 4 Z fun y5=>zss<|z0n<|z0j<|Ze [] [] Z
def zak  : Option ((List UInt32)) :=
 some [1116352408,1899447441,3049323471,3921009573,961987163,1508970993,2453635748,2870763221,3624381080,310598401,607225278,1426881987,1925078388,2162078206,2614888103,3248222580,3835390401,4022224774,264347078,604807628,770255983,1249150122,1555081692,1996064986,2554220882,2821834349,2952996808,3210313671,3336571891,3584528711,113926993,338241895,666307205,773529912,1294757372,1396182291,1695183700,1986661051,2177026350,2456956037,2730485921,2820302411,3259730800,3345764771,3516065817,3600352804,4094571909,275423344,430227734,506948616,659060556,883997877,958139571,1322822218,1537002063,1747873779,1955562222,2024104815,2227730452,2361852424,2428436474,2756734187,3204031479,3329325298]
theorem zg0  : z1o Tryz.prog 151 [] [] (zak) (fun r nv=>⟨[.val (nv 0)],[(100,some (nv 0,.list z0o 48 r))]⟩):=by
 refine z29 2 Tryz.func151 Z Z Z fun H w=>?_;refine gSR<|Zb Z<|gSR<|Ef Z (lit (R:=z0o) ([1116352408,1899447441,3049323471,3921009573,961987163,1508970993,2453635748,2870763221,3624381080,310598401,607225278,1426881987,1925078388,2162078206,2614888103,3248222580,3835390401,4022224774,264347078,604807628,770255983,1249150122,1555081692,1996064986,2554220882,2821834349,2952996808,3210313671,3336571891,3584528711,113926993,338241895,666307205,773529912,1294757372,1396182291,1695183700,1986661051,2177026350,2456956037,2730485921,2820302411,3259730800,3345764771,3516065817,3600352804,4094571909,275423344,430227734,506948616,659060556,883997877,958139571,1322822218,1537002063,1747873779,1955562222,2024104815,2227730452,2361852424,2428436474,2756734187,3204031479,3329325298]:List UInt32) 1 (pP Z Z<|pP Z Z<|pP Z Z<|pP Z Z<|pP Z Z<|pP Z Z<|pP Z Z<|pP Z Z<|pP Z Z<|pP Z Z<|pP Z Z<|pP Z Z<|pP Z Z<|pP Z Z<|pP Z Z<|pP Z Z<|pP Z Z<|pP Z Z<|pP Z Z<|pP Z Z<|pP Z Z<|pP Z Z<|pP Z Z<|pP Z Z<|pP Z Z<|pP Z Z<|pP Z Z<|pP Z Z<|pP Z Z<|pP Z Z<|pP Z Z<|pP Z Z<|pP Z Z<|pP Z Z<|pP Z Z<|pP Z Z<|pP Z Z<|pP Z Z<|pP Z Z<|pP Z Z<|pP Z Z<|pP Z Z<|pP Z Z<|pP Z Z<|pP Z Z<|pP Z Z<|pP Z Z<|pP Z Z<|pP Z Z<|pP Z Z<|pP Z Z<|pP Z Z<|pP Z Z<|pP Z Z<|pP Z Z<|pP Z Z<|pP Z Z<|pP Z Z<|pP Z Z<|pP Z Z<|pP Z Z<|pP Z Z<|pP Z Z<|pP Z Z<|pN) Z tu176 z61 Z Z) fun v1=>Zb Z<|z0j<|Ze [v1] [1] Z
def z5f (a1:List UInt8) (s4:(List UInt32) × Int):Option (Sum ((List UInt32)) ((List UInt32) × Int)) :=
 if decide (s4.2<16) then
  idx a1 (w64 (4 * s4.2)) >>= fun x7 =>
  idx a1 (w64 ((w64 (4 * s4.2))+1)) >>= fun x9 =>
  idx a1 (w64 ((w64 (4 * s4.2))+2)) >>= fun x11 =>
  idx a1 (w64 ((w64 (4 * s4.2))+3)) >>= fun x13 =>
  app 4 s4.1 [(((((x7.toUInt32 * 256)+x9.toUInt32) * 256)+x11.toUInt32) * 256)+x13.toUInt32] >>= fun x16 =>
  some (w64 (s4.2+1)) >>= fun y19 =>
  some (.inr (x16,y19))
 else
  some (.inl s4.1)
def z5c (s22:(List UInt32) × Int):Option (Sum ((List UInt32)) ((List UInt32) × Int)) :=
 if decide (s22.2<64) then
  idx s22.1 (w64 (s22.2 - 15)) >>= fun x25 =>
  idx s22.1 (w64 (s22.2 - 2)) >>= fun x27 =>
  idx s22.1 (w64 (s22.2 - 16)) >>= fun x29 =>
  idx s22.1 (w64 (s22.2 - 7)) >>= fun x31 =>
  z2q x25 7 >>= fun r33 =>
  z2q x25 18 >>= fun r36 =>
  z2q x27 17 >>= fun r39 =>
  z2q x27 19 >>= fun r42 =>
  app 4 s22.1 [((x29+x31)+((r33 ^^^ r36) ^^^ (z4h x25 3)))+((r39 ^^^ r42) ^^^ (z4h x27 10))] >>= fun x45 =>
  some (w64 (s22.2+1)) >>= fun y48 =>
  some (.inr (x45,y48))
 else
  some (.inl s22.1)
def z3j (s21:(List UInt32)) (r50:(List UInt32)) (s54:(Vector UInt32 8) × Int):Option (Sum ((Vector UInt32 8)) ((Vector UInt32 8) × Int)) :=
 if decide (s54.2<64) then
  z7n s54.1 0 >>= fun x56 =>
  z7n s54.1 1 >>= fun x58 =>
  z7n s54.1 2 >>= fun x60 =>
  z7n s54.1 4 >>= fun x62 =>
  z7n s54.1 5 >>= fun x64 =>
  z7n s54.1 6 >>= fun x66 =>
  z7n s54.1 7 >>= fun x68 =>
  idx r50 s54.2 >>= fun x70 =>
  idx s21 s54.2 >>= fun x72 =>
  z2q x62 6 >>= fun r74 =>
  z2q x62 11 >>= fun r76 =>
  z2q x62 25 >>= fun r78 =>
  some ((((x68+((r74 ^^^ r76) ^^^ r78))+((x62 &&& x64) ^^^ ((~~~x62) &&& x66)))+x70)+x72) >>= fun y80 =>
  z2q x56 2 >>= fun r81 =>
  z2q x56 13 >>= fun r83 =>
  z2q x56 22 >>= fun r85 =>
  some (((r81 ^^^ r83) ^^^ r85)+(((x56 &&& x58) ^^^ (x56 &&& x60)) ^^^ (x58 &&& x60))) >>= fun y87 =>
  z7n s54.1 3 >>= fun x88 =>
  some (w64 (s54.2+1)) >>= fun y90 =>
  some (.inr ((#v[y80+y87,x56,x58,x60,x88+y80,x62,x64,x66]:Vector UInt32 8),y90))
 else
  some (.inl s54.1)
def z1y (s53:(Vector UInt32 8)) (s92:(Vector UInt32 8) × Int):Option (Sum ((Vector UInt32 8)) ((Vector UInt32 8) × Int)) :=
 if decide (s92.2<8) then
  z7n s92.1 s92.2 >>= fun x94 =>
  z7n s53 s92.2 >>= fun x96 =>
  z7n s92.1 s92.2 >>= fun x98 =>
  some (w64 (s92.2+1)) >>= fun y100 =>
  some (.inr (zf3 s92.1 s92.2 (x94+x96),y100))
 else
  some (.inl s92.1)
def zaf (a0:Vector UInt32 8) (a1:List UInt8):Option ((Vector UInt32 8)) :=
 (iter (z5f a1) ([],0)) >>= fun s3 =>
 (iter (z5c) (s3,16)) >>= fun s21 =>
 zak >>= fun r50 =>
 (iter (z3j s21 r50) (a0,0)) >>= fun s53 =>
 (iter (z1y s53) (a0,0)) >>= fun s91 =>
 some s91
set_option maxHeartbeats 4000000 in
theorem zi6 (a0:Vector UInt32 8) (a1:List UInt8):z1o Tryz.prog 114 [.rd (z3b 8 z0o) a0,.rd (z02 u8R) a1] [] (zaf a0 a1) (fun r nv=>⟨[.rd (z3b 8 z0o) r],[]⟩):=by
 refine z29 203 Tryz.func114 Z Z Z fun H w=>?_;refine gSR<|Eb Z (bx 1 Z) fun v1=>Eb Z (z4i 2 zi2 (.zr (R:=(z3b 8 z0o)) (x:=(Vector.replicate 8 0)) zs6)) fun v2=>Zn<|gSR<|Zb Z<|z8d (fun (s3:(List UInt32)) aa ww=>∃ nv:Nat→Value,Sta (ctx 203 H [] w) [(2,.val (z05 v1 0)),(4,.val (z05 v2 0)),(5,.val (nv 0))] [(1,some (v1,.box 110 [.rd (z3b 8 z0o) a0])),(2,some (v2,.box 110 [.rd (z3b 8 z0o) (Vector.replicate 8 0)])),(108,some ((nv 0),.list z0o 48 s3))] aa ww) ?_ (fun s3=>?_)
 ·refine gSR<|Zb Z<|zuu z0o 48 215<|z24 (fun (s4:(List UInt32) × Int) aa ww=>∃ nv:Nat→Value,Sta (ctx 203 H [] w) [(1,.rd (z02 u8R) a1),(2,.val (z05 v1 0)),(4,.val (z05 v2 0)),(5,.val (nv 0)),(6,.rd z0c s4.2)] [(1,some (v1,.box 110 [.rd (z3b 8 z0o) a0])),(2,some (v2,.box 110 [.rd (z3b 8 z0o) (Vector.replicate 8 0)])),(214,some ((nv 0),.list z0o 48 s4.1))] aa ww) (fun aa ww h=>⟨nvl [(.slice none 0 0)],Zu h [1,2,215]⟩) (fun s4=>?_)
  refine gEx fun n5=>z0t<|gSR<|Zm Z<|Zq (I.lss Z Z)<|Zj Z (fun h6=>?_) (fun h6=>?_)
  ·refine Zt<|z0t<|z4m<|z8s [214,318] mixed Z Z<|hTk 0 Z Z (mv Z)<|hTk 1 Z Z (mv Z)<|hTk 2 Z Z (mv Z)<|hTk 3 Z Z (I.mul Z Z)<|z5o fun x7 h8=>hTk 4 Z Z (ixR Z Z h8 tu74 ti5 Z)<|hTk 5 Z Z (ldR Z ty5)<|hTk 6 Z Z (B.toW Z tu5 tu48)<|hTk 7 Z Z (W.mul Z Z)<|hTk 8 Z Z (mv Z)<|hTk 9 Z Z (mv Z)<|hTk 10 Z Z (I.mul Z Z)<|hTk 11 Z Z (I.add Z Z)<|z5o fun x9 h10=>hTk 12 Z Z (ixR Z Z h10 tu74 ti5 Z)<|hTk 13 Z Z (ldR Z ty5)<|hTk 14 Z Z (B.toW Z tu5 tu48)<|hTk 15 Z Z (W.add Z Z)<|hTk 16 Z Z (W.mul Z Z)<|hTk 17 Z Z (mv Z)<|hTk 18 Z Z (mv Z)<|hTk 19 Z Z (I.mul Z Z)<|hTk 20 Z Z (I.add Z Z)<|z5o fun x11 h12=>hTk 21 Z Z (ixR Z Z h12 tu74 ti5 Z)<|hTk 22 Z Z (ldR Z ty5)<|hTk 23 Z Z (B.toW Z tu5 tu48)<|hTk 24 Z Z (W.add Z Z)<|hTk 25 Z Z (W.mul Z Z)<|hTk 26 Z Z (mv Z)<|hTk 27 Z Z (mv Z)<|hTk 28 Z Z (I.mul Z Z)<|hTk 29 Z Z (I.add Z Z)<|z5o fun x13 h14=>hTk 30 Z Z (ixR Z Z h14 tu74 ti5 Z)<|hTk 31 Z Z (ldR Z ty5)<|hTk 32 Z Z (B.toW Z tu5 tu48)<|hTk 33 Z Z (W.add Z Z)<|Zo 34 Z Z Z (lit (R:=z0o) ([(((((x7.toUInt32 * 256)+x9.toUInt32) * 256)+x11.toUInt32) * 256)+x13.toUInt32]:List UInt32) 318 (pP Z Z<|pN) Z tu176 z61 Z Z) fun v15=>z5o fun x16 h17=>Zo 35 Z Z Z (apn 214 Z Z Z (.own 318 Z) h17 tu176 z61 Z Z Z) fun v18=>Zf 36 Z Z z2t (asg Z)<|z54 (by kernel_rfl)<|z3a<|z0n<|z2b<|Zm Z<|Zq (I.add Z Z)<|Za Z<|z1x 6 Z fun y19=>z1n<|z1j (fun aa ww h=>⟨nvl [v18],Zu h [1,2,214]⟩)
  ·refine z1w<|z0w<|z0y<|z3g (fun aa ww h=>⟨nvl [(n5 0)],Zu h [1,2,214]⟩)
 ·refine gEx fun n20=>z8d (fun (s21:(List UInt32)) aa ww=>∃ nv:Nat→Value,Sta (ctx 203 H [] w) [(2,.val (z05 v1 0)),(4,.val (z05 v2 0)),(5,.val (nv 0))] [(1,some (v1,.box 110 [.rd (z3b 8 z0o) a0])),(2,some (v2,.box 110 [.rd (z3b 8 z0o) (Vector.replicate 8 0)])),(108,some ((nv 0),.list z0o 48 s21))] aa ww) ?_ (fun s21=>?_)
  ·refine gSR<|Zb Z<|z24 (fun (s22:(List UInt32) × Int) aa ww=>∃ nv:Nat→Value,Sta (ctx 203 H [] w) [(2,.val (z05 v1 0)),(4,.val (z05 v2 0)),(5,.val (nv 0)),(7,.rd z0c s22.2)] [(1,some (v1,.box 110 [.rd (z3b 8 z0o) a0])),(2,some (v2,.box 110 [.rd (z3b 8 z0o) (Vector.replicate 8 0)])),(108,some ((nv 0),.list z0o 48 s22.1))] aa ww) (fun aa ww h=>⟨nvl [(n20 0)],Zu h [1,2,108]⟩) (fun s22=>?_);refine gEx fun n23=>z0t<|gSR<|Zm Z<|Zq (I.lss Z Z)<|Zj Z (fun h24=>?_) (fun h24=>?_)
   ·refine Zt<|z0t<|z4m<|z0t<|zid mixed (by kernel_rfl)<|Rq Z (mv Z)<|Rq Z (mv Z)<|Rq Z (I.sub Z Z)<|z8e fun x25 h26=>Rq Z (ixO 108 Z Z Z h26 tu176 z61)<|Rq Z (ld 108 Z Z (Foc.el h26) z9r Z)<|Rq Z (mv Z)<|Rq Z (mv Z)<|Rq Z (I.sub Z Z)<|z8e fun x27 h28=>Rq Z (ixO 108 Z Z Z h28 tu176 z61)<|Rq Z (ld 108 Z Z (Foc.el h28) z9r Z)<|Rq Z (asg Z)<|Rq Z (asg Z)<|zss<|z0n<|zps [(5,.val (n23 0)),(2,.val (z05 v1 0)),(4,.val (z05 v2 0)),(7,.rd z0c s22.2),(8,.rd z0o x25),(9,.rd z0o x27)] [(1,some (v1,.box 110 [.rd (z3b 8 z0o) a0])),(2,some (v2,.box 110 [.rd (z3b 8 z0o) (Vector.replicate 8 0)])),(108,some ((n23 0),.list z0o 48 s22.1))] [1,2,108] (Zs Z Z Z Z<|sS Z<|sS Z<|sN) (Zi Z<|Zi Z<|Zi Z<|rN)<|z43 fun x29 h30=>z43 fun x31 h32=>z43 fun r33 h35=>z43 fun r36 h38=>z43 fun r39 h41=>z43 fun r42 h44=>z43 fun x45 h46=>gOr [(5,.val (n23 0),32)] [⟨108,some ([], fun nv=>((n23 0),.list z0o 48 s22.1)),[(31,some ([2], fun nv=>((nv 2),.list z0o 48 x45)))]⟩,⟨330,none,[(30,some ([1], fun nv=>((nv 1),.list z0o 48 [((x29+x31)+((r33 ^^^ r36) ^^^ (z4h x25 3)))+((r39 ^^^ r42) ^^^ (z4h x27 10))])))]⟩] [⟨some (76,[], fun nv=>.val (n23 0)),[],[],[0]⟩,⟨some (77,[], fun nv=>.val (n23 0)),[],[],[0]⟩,pd 78 (.rd z0c s22.2),pd 79 (.rd z0c (w64 (s22.2 - 16))),pk 80 (.val (z05 (n23 0) ((w64 (s22.2 - 16):Int).toNat * 1))) [(0,0,false)],pk 81 (.rd z0o x29) [(0,0,false)],⟨some (82,[], fun nv=>.val (n23 0)),[],[],[0]⟩,pd 83 (.rd z0c s22.2),pd 84 (.rd z0c (w64 (s22.2 - 7))),pk 85 (.val (z05 (n23 0) ((w64 (s22.2 - 7):Int).toNat * 1))) [(0,0,false)],pk 86 (.rd z0o x31) [(0,0,false)],pd 87 (.rd z0o (x29+x31)),pd 88 (.rd z0o x25),pd 89 (.rd z0o r33),pd 90 (.rd z0o x25),pd 91 (.rd z0o r36),pd 92 (.rd z0o (r33 ^^^ r36)),pd 93 (.rd z0o x25),pd 94 (.rd z0o (z4h x25 3)),pd 95 (.rd z0o ((r33 ^^^ r36) ^^^ (z4h x25 3))),pd 96 (.rd z0o ((x29+x31)+((r33 ^^^ r36) ^^^ (z4h x25 3)))),pd 97 (.rd z0o x27),pd 98 (.rd z0o r39),pd 99 (.rd z0o x27),pd 100 (.rd z0o r42),pd 101 (.rd z0o (r39 ^^^ r42)),pd 102 (.rd z0o x27),pd 103 (.rd z0o (z4h x27 10)),pd 104 (.rd z0o ((r39 ^^^ r42) ^^^ (z4h x27 10))),pd 105 (.rd z0o (((x29+x31)+((r33 ^^^ r36) ^^^ (z4h x25 3)))+((r39 ^^^ r42) ^^^ (z4h x27 10)))),⟨some (106,[1], fun nv=>.val (nv 1)),[(1,0,true)],[1],[]⟩,⟨some (107,[2], fun nv=>.val (nv 2)),[(1,1,false),(0,0,true)],[2],[]⟩,⟨some (5,[2], fun nv=>.val (nv 2)),[],[],[]⟩] mixed (oC (oRn (fun nv E=>mv Z))<|oC (oRn (fun nv E=>mv Z))<|oC (oRn (fun nv E=>mv Z))<|oC (oRn (fun nv E=>I.sub Z Z))<|oC (oRn (fun nv E=>ixO 108 Z Z Z h30 tu176 z61))<|oC (oRn (fun nv E=>ld 108 Z Z (Foc.el h30) z9r Z))<|oC (oRn (fun nv E=>mv Z))<|oC (oRn (fun nv E=>mv Z))<|oC (oRn (fun nv E=>I.sub Z Z))<|oC (oRn (fun nv E=>ixO 108 Z Z Z h32 tu176 z61))<|oC (oRn (fun nv E=>ld 108 Z Z (Foc.el h32) z9r Z))<|oC (oRn (fun nv E=>W.add Z Z))<|oC (oRn (fun nv E=>mv Z))<|oC (oCl [] [] [] h35 Tryz.func150 Z (fun nv=>(z2r _ _)) (fun nv=>(Y2 Z Z)) (fun nv E=>rN))<|oC (oRn (fun nv E=>mv Z))<|oC (oCl [] [] [] h38 Tryz.func150 Z (fun nv=>(z2r _ _)) (fun nv=>(Y2 Z Z)) (fun nv E=>rN))<|oC (oRn (fun nv E=>W.xor Z Z))<|oC (oRn (fun nv E=>mv Z))<|oC (oRn (fun nv E=>W.shr Z Z (Int.natCast_nonneg _)))<|oC (oRn (fun nv E=>W.xor Z Z))<|oC (oRn (fun nv E=>W.add Z Z))<|oC (oRn (fun nv E=>mv Z))<|oC (oCl [] [] [] h41 Tryz.func150 Z (fun nv=>(z2r _ _)) (fun nv=>(Y2 Z Z)) (fun nv E=>rN))<|oC (oRn (fun nv E=>mv Z))<|oC (oCl [] [] [] h44 Tryz.func150 Z (fun nv=>(z2r _ _)) (fun nv=>(Y2 Z Z)) (fun nv E=>rN))<|oC (oRn (fun nv E=>W.xor Z Z))<|oC (oRn (fun nv E=>mv Z))<|oC (oRn (fun nv E=>W.shr Z Z (Int.natCast_nonneg _)))<|oC (oRn (fun nv E=>W.xor Z Z))<|oC (oRn (fun nv E=>W.add Z Z))<|oC (oEf 330 1 (fun nv E=>lit (R:=z0o) ([((x29+x31)+((r33 ^^^ r36) ^^^ (z4h x25 3)))+((r39 ^^^ r42) ^^^ (z4h x27 10))]:List UInt32) 330 (pP Z Z<|pN) Z tu176 z61 Z Z))<|oC (oEf 108 2 (fun nv E=>apn 108 Z Z Z (.own 330 Z) h46 tu176 z61 Z Z Z))<|oC (oRn (fun nv E=>asg Z))<|oN) fun n47=>z3a<|z0n<|z2b<|Zm Z<|Zq (I.add Z Z)<|Za Z<|z1x 7 Z fun y48=>z1n<|z1j (fun aa ww h=>⟨nvl [(n47 2)],Zu h [1,2,108]⟩)
   ·refine z1w<|z0w<|z0y<|z3g (fun aa ww h=>⟨nvl [(n23 0)],Zu h [1,2,108]⟩)
  ·refine gEx fun n49=>gSR<|Zc [] [(100,331)] Tryz.func151 Z (zg0) fun r50 n51=>Zb Z<|gSR<|Zq (ld 1 Z Z fH zr7 Z)<|Eb Z (z4i 332 zi2 (.zr (R:=(z3b 8 z0o)) (x:=(Vector.replicate 8 0)) zs6)) fun v52=>Es (sto 332 Z Z fH Z zi2)<|Zn<|z8d (fun (s53:(Vector UInt32 8)) aa ww=>Sta (ctx 203 H [] w) [(2,.val (z05 v1 0)),(4,.val (z05 v2 0)),(11,.val (z05 v52 0))] [(1,some (v1,.box 110 [.rd (z3b 8 z0o) a0])),(2,some (v2,.box 110 [.rd (z3b 8 z0o) (Vector.replicate 8 0)])),(332,some (v52,.box 110 [.rd (z3b 8 z0o) s53]))] aa ww) ?_ (fun s53=>?_)
   ·refine gSR<|Zb Z<|z24 (fun (s54:(Vector UInt32 8) × Int) aa ww=>Sta (ctx 203 H [] w) [(2,.val (z05 v1 0)),(4,.val (z05 v2 0)),(5,.val (n49 0)),(10,.val (n51 0)),(11,.val (z05 v52 0)),(12,.rd z0c s54.2)] [(1,some (v1,.box 110 [.rd (z3b 8 z0o) a0])),(2,some (v2,.box 110 [.rd (z3b 8 z0o) (Vector.replicate 8 0)])),(108,some ((n49 0),.list z0o 48 s21)),(331,some ((n51 0),.list z0o 48 r50)),(332,some (v52,.box 110 [.rd (z3b 8 z0o) s54.1]))] aa ww) (fun aa ww h=>Zu h [1,2,108,331,332]) (fun s54=>?_)
    refine z0t<|gSR<|Zm Z<|Zq (I.lss Z Z)<|Zj Z (fun h55=>?_) (fun h55=>?_)
    ·refine Zt<|z0t<|z4m<|z0t<|zid mixed (by kernel_rfl)<|z8e fun x56 h57=>Rq Z (ixB 332 Z Z Z h57 tu110 z61)<|Rq Z (ld 332 Z Z (fP (.el h57)) z9r Z)<|z8e fun x58 h59=>Rq Z (ixB 332 Z Z Z h59 tu110 z61)<|Rq Z (ld 332 Z Z (fP (.el h59)) z9r Z)<|z8e fun x60 h61=>Rq Z (ixB 332 Z Z Z h61 tu110 z61)<|Rq Z (ld 332 Z Z (fP (.el h61)) z9r Z)<|z8e fun x62 h63=>Rq Z (ixB 332 Z Z Z h63 tu110 z61)<|Rq Z (ld 332 Z Z (fP (.el h63)) z9r Z)<|z8e fun x64 h65=>Rq Z (ixB 332 Z Z Z h65 tu110 z61)<|Rq Z (ld 332 Z Z (fP (.el h65)) z9r Z)<|z8e fun x66 h67=>Rq Z (ixB 332 Z Z Z h67 tu110 z61)<|Rq Z (ld 332 Z Z (fP (.el h67)) z9r Z)<|Rq Z (asg Z)<|Rq Z (asg Z)<|Rq Z (asg Z)<|Rq Z (asg Z)<|Rq Z (asg Z)<|Rq Z (asg Z)<|zss<|z0n<|z0t<|z8s [] mixed Z Z<|z5o fun x68 h69=>hTk 0 Z Z (ixB 332 Z Z Z h69 tu110 z61)<|hTk 1 Z Z (ld 332 Z Z (fP (.el h69)) z9r Z)<|hTk 2 Z Z (mv Z)<|hTk 4 Z Z (mv Z)<|hTk 7 Z Z (mv Z)<|hTk 11 Z Z (mv Z)<|hTk 12 Z Z (mv Z)<|hTk 13 Z Z (W.and Z Z)<|hTk 14 Z Z (mv Z)<|hTk 15 Z Z (W.cpl Z)<|hTk 16 Z Z (mv Z)<|hTk 17 Z Z (W.and Z Z)<|hTk 18 Z Z (W.xor Z Z)<|hTk 20 Z Z (mv Z)<|hTk 21 Z Z (mv Z)<|z5o fun x70 h71=>hTk 22 Z Z (ixO 331 Z Z Z h71 tu176 z61)<|hTk 23 Z Z (ld 331 Z Z (Foc.el h71) z9r Z)<|hTk 25 Z Z (mv Z)<|hTk 26 Z Z (mv Z)<|z5o fun x72 h73=>hTk 27 Z Z (ixO 108 Z Z Z h73 tu176 z61)<|hTk 28 Z Z (ld 108 Z Z (Foc.el h73) z9r Z)<|z41 3 [] [] Z (by kernel_rfl) Z (gd0 Z) Z Tryz.func150 Z Z (z2r _ _) (Y2 Z Z) rN Z (fun _ _=>z2s) fun r74 n75=>z41 5 [] [] Z (by kernel_rfl) Z (gd0 Z) Z Tryz.func150 Z Z (z2r _ _) (Y2 Z Z) rN Z (fun _ _=>z2s) fun r76 n77=>hTk 6 Z Z (W.xor Z Z)<|z41 8 [] [] Z (by kernel_rfl) Z (gd0 Z) Z Tryz.func150 Z Z (z2r _ _) (Y2 Z Z) rN Z (fun _ _=>z2s) fun r78 n79=>hTk 9 Z Z (W.xor Z Z)<|hTk 10 Z Z (W.add Z Z)<|hTk 19 Z Z (W.add Z Z)<|hTk 24 Z Z (W.add Z Z)<|hTk 29 Z Z (W.add Z Z)<|hTk 30 Z Z (asg Z)<|zzr 19 Z Z fun y80=>z54 (by kernel_rfl)<|z0n<|gSR<|Zm Z<|Zc [] [] Tryz.func150 Z (z2r _ _) fun r81 n82=>Zm Z<|Zc [] [] Tryz.func150 Z (z2r _ _) fun r83 n84=>Zq (W.xor Z Z)<|Zm Z<|Zc [] [] Tryz.func150 Z (z2r _ _) fun r85 n86=>Zq (W.xor Z Z)<|Zm Z<|Zm Z<|Zq (W.and Z Z)<|Zm Z<|Zm Z<|Zq (W.and Z Z)<|Zq (W.xor Z Z)<|Zm Z<|Zm Z<|Zq (W.and Z Z)<|Zq (W.xor Z Z)<|Zq (W.add Z Z)<|Za Z<|z1x 20 Z fun y87=>Zn<|z2b<|Zm Z<|Zm Z<|Zq (W.add Z Z)<|Zm Z<|Zm Z<|Zm Z<|z0m fun x88 h89=>Zq (ixB 332 Z Z Z h89 tu110 z61)<|Zq (ld 332 Z Z (fP (.el h89)) z9r Z)<|Zm Z<|Zq (W.add Z Z)<|Zm Z<|Zm Z<|Zm Z<|Zq (litA (R:=z0o) [y80+y87,x56,x58,x60,x88+y80,x62,x64,x66] (#v[y80+y87,x56,x58,x60,x88+y80,x62,x64,x66]:Vector UInt32 8) (pP Z Z<|pP Z Z<|pP Z Z<|pP Z Z<|pP Z Z<|pP Z Z<|pP Z Z<|pP Z Z<|pN) Z tu110 zi2 Z z61)<|Es (sto 332 Z Z fH Z zi2)<|z1n<|z3a<|z0n<|z2b<|Zm Z<|Zq (I.add Z Z)<|Za Z<|z1x 12 Z fun y90=>z1n<|z1j (fun aa ww h=>Zu h [1,2,108,331,332])
    ·refine z1w<|z0w<|z0y<|z3g (fun aa ww h=>Zu h [1,2,332])
   ·refine z8d (fun (s91:(Vector UInt32 8)) aa ww=>Sta (ctx 203 H [] w) [(2,.val (z05 v1 0)),(4,.val (z05 v2 0))] [(1,some (v1,.box 110 [.rd (z3b 8 z0o) s91])),(2,some (v2,.box 110 [.rd (z3b 8 z0o) (Vector.replicate 8 0)]))] aa ww) ?_ (fun s91=>?_)
    ·refine gSR<|Zb Z<|z24 (fun (s92:(Vector UInt32 8) × Int) aa ww=>Sta (ctx 203 H [] w) [(2,.val (z05 v1 0)),(4,.val (z05 v2 0)),(11,.val (z05 v52 0)),(21,.rd z0c s92.2)] [(1,some (v1,.box 110 [.rd (z3b 8 z0o) s92.1])),(2,some (v2,.box 110 [.rd (z3b 8 z0o) (Vector.replicate 8 0)])),(332,some (v52,.box 110 [.rd (z3b 8 z0o) s53]))] aa ww) (fun aa ww h=>Zu h [1,2,332]) (fun s92=>?_);refine z0t<|gSR<|Zm Z<|Zq (I.lss Z Z)<|Zj Z (fun h93=>?_) (fun h93=>?_)
     ·refine Zt<|z0t<|z4m<|z8s [1] mixed Z Z<|hTk 0 Z Z (mv Z)<|z5o fun x94 h95=>hTk 1 Z Z (ixB 1 Z Z Z h95 tu110 z61)<|hTk 3 Z Z (mv Z)<|z5o fun x96 h97=>hTk 4 Z Z (ixB 332 Z Z Z h97 tu110 z61)<|hTk 5 Z Z (ld 332 Z Z (fP (.el h97)) z9r Z)<|hRun 2 Z (by kernel_rfl) (gd0 Z) Z Z z2s (ld 1 Z Z (fP (.el h95)) z9r Z)<|hTk 6 Z Z (W.add Z Z)<|z5o fun x98 h99=>hTk 7 Z Z (ixB 1 Z Z Z h99 tu110 z61)<|Zp 8 Z Z Z Z Z (sto 1 Z Z (fP (.el h99)) Z z61)<|z54 (by kernel_rfl)<|z3a<|z0n<|z2b<|Zm Z<|Zq (I.add Z Z)<|Za Z<|z1x 21 Z fun y100=>z1n<|z1j (fun aa ww h=>Zu h [1,2,332])
     ·refine z1w<|z0w<|z0y<|z3g (fun aa ww h=>Zu h [1,2])
    ·refine gSR<|Zq (ld 1 Z Z fH zr7 Z)<|Es (sto 2 Z Z fH Z zi2)<|Zn<|z0j<|zb4 [] [] Z (eC 2 Z Z zr7<|eN) (rN)
def z5g (a1:List UInt8) (s4:(Vector UInt32 8) × Int):Option (Sum ((Vector UInt32 8)) ((Vector UInt32 8) × Int)) :=
 if decide ((w64 (s4.2+64))≤(a1.length:Int)) then
  cut a1 s4.2 (w64 (s4.2+64)) >>= fun x6 =>
  zaf s4.1 x6 >>= fun r8 =>
  some (w64 (s4.2+64)) >>= fun y10 =>
  some (.inr (r8,y10))
 else
  some (.inl s4.1)
def zaa (a0:Vector UInt32 8) (a1:List UInt8):Option ((Vector UInt32 8)) :=
 (iter (z5g a1) (a0,0)) >>= fun s3 =>
 some s3
theorem zib (a0:Vector UInt32 8) (a1:List UInt8):z1o Tryz.prog 71 [.rd (z3b 8 z0o) a0,.rd (z02 u8R) a1] [] (zaa a0 a1) (fun r nv=>⟨[.rd (z3b 8 z0o) r],[]⟩):=by
 refine z29 21 Tryz.func71 Z Z Z fun H w=>?_;refine gSR<|Eb Z (bx 1 Z) fun v1=>Eb Z (z4i 2 zi2 (.zr (R:=(z3b 8 z0o)) (x:=(Vector.replicate 8 0)) zs6)) fun v2=>Zn<|z8d (fun (s3:(Vector UInt32 8)) aa ww=>Sta (ctx 21 H [] w) [(2,.val (z05 v1 0)),(4,.val (z05 v2 0))] [(1,some (v1,.box 110 [.rd (z3b 8 z0o) s3])),(2,some (v2,.box 110 [.rd (z3b 8 z0o) (Vector.replicate 8 0)]))] aa ww) ?_ (fun s3=>?_)
 ·refine gSR<|Zb Z<|z24 (fun (s4:(Vector UInt32 8) × Int) aa ww=>Sta (ctx 21 H [] w) [(1,.rd (z02 u8R) a1),(2,.val (z05 v1 0)),(4,.val (z05 v2 0)),(5,.rd z0c s4.2)] [(1,some (v1,.box 110 [.rd (z3b 8 z0o) s4.1])),(2,some (v2,.box 110 [.rd (z3b 8 z0o) (Vector.replicate 8 0)]))] aa ww) (fun aa ww h=>Zu h [1,2]) (fun s4=>?_);refine z0t<|gSR<|Zm Z<|Zq (I.add Z Z)<|Zm Z<|Zq (z3h Z .rd Z tu74)<|Zq (I.leq Z Z)<|Zj Z (fun h5=>?_) (fun h5=>?_)
  ·refine Zt<|z0t<|z4m<|z8s [1] mixed Z Z<|hTk 1 Z Z (mv Z)<|hTk 2 Z Z (mv Z)<|hTk 3 Z Z (mv Z)<|hTk 4 Z Z (I.add Z Z)<|z5o fun x6 h7=>hTk 5 Z Z (cut' Z (.to Z) (.to Z) h7 tu74 ti5)<|hRun 0 Z (by kernel_rfl) (gd0 Z) Z Z anyJ (ld 1 Z Z fH zr7 Z)<|zlu 6 [] [] Z (by kernel_rfl) Z (gd0 Z) Z Tryz.func114 Z Z (zi6 _ _) (Y2 Z Z) rN Z fun r8 n9=>Zp 7 Z Z Z Z Z (sto 1 Z Z fH Z zi2)<|z54 (by kernel_rfl)<|z3a<|z0n<|z2b<|Zm Z<|Zq (I.add Z Z)<|Za Z<|z1x 5 Z fun y10=>z1n<|z1j (fun aa ww h=>Zu h [1,2])
  ·refine z1w<|z0w<|z0y<|z3g (fun aa ww h=>Zu h [1,2])
 ·refine gSR<|Zq (ld 1 Z Z fH zr7 Z)<|Es (sto 2 Z Z fH Z zi2)<|Zn<|z0j<|zb4 [] [] Z (eC 2 Z Z zr7<|eN) (rN)
def z4u (a0:Vector UInt32 8) (s5:V3 × Int):Option (Sum (V3) (V3 × Int)) :=
 if decide (s5.2<32) then
  z7n a0 (w64 (Int.tdiv s5.2 4)) >>= fun x7 =>
  chk (0≤w64 (24 - (w64 (8 * (Int.tmod s5.2 4))))) >>= fun u9 =>
  z7n s5.1 s5.2 >>= fun x11 =>
  some (w64 (s5.2+1)) >>= fun y13 =>
  some (.inr (zf3 s5.1 s5.2 ((z4h x7 ((w64 (24 - (w64 (8 * (Int.tmod s5.2 4)))):Int).toNat)).toUInt8),y13))
 else
  some (.inl s5.1)
def z9o (a0:Vector UInt32 8):Option (V3) :=
 (iter (z4u a0) ((Vector.replicate 32 0),0)) >>= fun s4 =>
 some s4
theorem zh9 (a0:Vector UInt32 8):z1o Tryz.prog 70 [.rd (z3b 8 z0o) a0] [] (z9o a0) (fun r nv=>⟨[.rd aZ r],[]⟩):=by
 refine z29 22 Tryz.func70 Z Z Z fun H w=>?_;refine gSR<|Eb Z (bx 1 Z) fun v1=>Eb Z (z4i 2 z1z (.zr (R:=aZ) (x:=(Vector.replicate 32 0)) zef)) fun v2=>Zn<|gSR<|Eb Z (z4i 3 z1z (.zr (R:=aZ) (x:=(Vector.replicate 32 0)) zef)) fun v3=>Zn<|z8d (fun (s4:V3) aa ww=>Sta (ctx 22 H [] w) [(2,.val (z05 v2 0)),(3,.val (z05 v3 0))] [(2,some (v2,.box 31 [.rd aZ (Vector.replicate 32 0)])),(3,some (v3,.box 31 [.rd aZ s4]))] aa ww) ?_ (fun s4=>?_)
 ·refine gSR<|Zb Z<|z24 (fun (s5:V3 × Int) aa ww=>Sta (ctx 22 H [] w) [(1,.val (z05 v1 0)),(2,.val (z05 v2 0)),(3,.val (z05 v3 0)),(4,.rd z0c s5.2)] [(1,some (v1,.box 110 [.rd (z3b 8 z0o) a0])),(2,some (v2,.box 31 [.rd aZ (Vector.replicate 32 0)])),(3,some (v3,.box 31 [.rd aZ s5.1]))] aa ww) (fun aa ww h=>Zu h [1,2,3]) (fun s5=>?_);refine z0t<|gSR<|Zm Z<|Zq (I.lss Z Z)<|Zj Z (fun h6=>?_) (fun h6=>?_)
  ·refine Zt<|z0t<|z4m<|z2b<|Zm Z<|Zm Z<|Zq (I.quo Z Z (by decide))<|z0m fun x7 h8=>Zq (ixB 1 Z Z Z h8 tu110 z61)<|Zq (ld 1 Z Z (fP (.el h8)) z9r Z)<|Zm Z<|Zq (I.rem Z Z (by decide))<|Zq (I.mul Z Z)<|Zq (I.sub Z Z)<|z0m fun u9 h10=>Zq (W.shr Z Z (z44 h10))<|Zq (W.toB Z tu48 tu5)<|z0m fun x11 h12=>Zq (ixB 3 Z Z Z h12 tu31 ti5)<|Es (sto 3 Z Z (fP (.el h12)) Z ti5)<|z1n<|z3a<|z0n<|z2b<|Zm Z<|Zq (I.add Z Z)<|Za Z<|z1x 4 Z fun y13=>z1n<|z1j (fun aa ww h=>Zu h [1,2,3])
  ·refine z1w<|z0w<|z0y<|z3g (fun aa ww h=>Zu h [2,3])
 ·refine gSR<|Zq (ld 3 Z Z fH z3t Z)<|Es (sto 2 Z Z fH Z z1z)<|Zn<|z0j<|zb4 [] [] Z (eC 2 Z Z z3t<|eN) (rN)
def zc2 (a0:List UInt8):Option (V3) :=
 zdg >>= fun r2 =>
 app 1 ([]:List UInt8) a0 >>= fun x5 =>
 zc9 (a0.length:Int) >>= fun r8 =>
 app 1 x5 r8 >>= fun x10 =>
 zaa r2 x10 >>= fun r13 =>
 z9o r13 >>= fun r15 =>
 some r15
end
section
open Go Go.RowKit
set_option maxRecDepth 100000
theorem zgk (a0:List UInt8):z1o Tryz.prog 36 [.rd (z02 u8R) a0] [] (zc2 a0) (fun r nv=>⟨[.rd aZ r],[]⟩):=by
 refine z29 13 Tryz.func36 Z Z Z fun H w=>?_;refine gSR<|Eb Z (z4i 1 z1z (.zr (R:=aZ) (x:=(Vector.replicate 32 0)) zef)) fun v1=>Zn<|gSR<|Zc [] [] Tryz.func72 Z (zjf) fun r2 n3=>Ef Z (lit (R:=u8R) (([]:List UInt8):List UInt8) 2 (pN) Z tu74 ti5 Z Z) fun v4=>Zm Z<|z0m fun x5 h6=>Ef Z (apn 2 Z Z Z .rd h6 tu74 ti5 Z Z Z) fun v7=>Zm Z<|Zq (z3h Z .rd Z tu74)<|Zc [] [(100,3)] Tryz.func73 Z (zjs _) fun r8 n9=>z0m fun x10 h11=>Ef Z (apn 2 Z Z Z (.own 3 Z) h11 tu74 ti5 Z Z Z) fun v12=>zf0 2 [10] Z (fS Z<|fN)<|Zc [] [] Tryz.func71 Z (zib _ _) fun r13 n14=>Zc [] [] Tryz.func70 Z (zh9 _) fun r15 n16=>Es (sto 1 Z Z fH Z z1z)<|Zn<|z0j<|zb4 [] [] Z (eC 1 Z Z z3t<|eN) (rN)
def z3p (a0:z08):Option (V3) :=
 zb0 a0 >>= fun r3 =>
 zc2 r3 >>= fun r5 =>
 some r5
theorem z4e (a0:z08):z1o Tryz.prog 18 [.rd z03 a0] [] (z3p a0) (fun r nv=>⟨[.rd aZ r],[]⟩):=by
 refine z29 6 Tryz.func18 Z Z Z fun H w=>?_;refine gSR<|Eb Z (bx 1 Z) fun v1=>Eb Z (z4i 2 z1z (.zr (R:=aZ) (x:=(Vector.replicate 32 0)) zef)) fun v2=>Zn<|gSR<|Zq (ld 1 Z Z fH z9t Z)<|Zc [] [(100,3)] Tryz.func37 Z (zj5 _) fun r3 n4=>zf0 3 [4] Z (fS Z<|fN)<|Zc [] [] Tryz.func36 Z (zgk _) fun r5 n6=>Es (sto 2 Z Z fH Z z1z)<|Zn<|z0j<|zb4 [] [] Z (eC 2 Z Z z3t<|eN) (rN)
def z82 (a0:V3) (a1:V3) (s4:Int):Option (Sum (Sum Int Unit) Int) :=
 if decide (s4<32) then
  z7n a0 s4 >>= fun x6 =>
  z7n a1 s4 >>= fun x8 =>
  if decide (x6<x8) then
   some (.inl (.inl (-1)))
  else
   z7n a0 s4 >>= fun x11 =>
   z7n a1 s4 >>= fun x13 =>
   if decide (x13<x11) then
    some (.inl (.inl 1))
   else
    some (.inr (w64 (s4+1)))
 else
  some (.inl (.inr ()))
def z9c (a0:V3) (a1:V3):Option (Int) :=
 z5u (iter (z82 a0 a1) 0) fun s3 =>
 some 0
theorem zfl (a0:V3) (a1:V3):z1o Tryz.prog 38 [.rd aZ a0,.rd aZ a1] [] (z9c a0 a1) (fun r nv=>⟨[.rd z0c r],[]⟩):=by
 refine z29 24 Tryz.func38 Z Z Z fun H w=>?_;refine gSR<|Eb Z (bx 1 Z) fun v1=>Eb Z (bx 2 Z) fun v2=>Zb Z<|z8g (fun (s3:Unit) aa ww=>Sta (ctx 24 H [] w) [] [] aa ww) ?_ (fun s3=>?_)
 ·refine gSR<|Zb Z<|z24 (fun (s4:Int) aa ww=>Sta (ctx 24 H [] w) [(2,.val (z05 v1 0)),(3,.val (z05 v2 0)),(5,.rd z0c s4)] [(1,some (v1,.box 31 [.rd aZ a0])),(2,some (v2,.box 31 [.rd aZ a1]))] aa ww) (fun aa ww h=>Zu h [1,2]) (fun s4=>?_);refine z0t<|gSR<|Zm Z<|Zq (I.lss Z Z)<|Zj Z (fun h5=>?_) (fun h5=>?_)
  ·refine Zt<|z0t<|z4m<|z0t<|z0t<|zid mixed (by kernel_rfl)<|Rq Z (mv Z)<|z8e fun x6 h7=>Rq Z (ixB 1 Z Z Z h7 tu31 ti5)<|Rq Z (ld 1 Z Z (fP (.el h7)) ty5 Z)<|Rq Z (mv Z)<|z8e fun x8 h9=>Rq Z (ixB 2 Z Z Z h9 tu31 ti5)<|Rq Z (ld 2 Z Z (fP (.el h9)) ty5 Z)<|Rq Z (B.lss Z Z)<|zss<|z0n<|gIf Z Z (fun h10=>?_) (fun h10=>?_)
   ·refine gSR<|Zb Z<|z0j<|z0v<|z3w<|z0v<|z7m<|z7j<|Ze [] [] Z
   ·refine Zt<|z0t<|zid mixed (by kernel_rfl)<|Rq Z (mv Z)<|z8e fun x11 h12=>Rq Z (ixB 1 Z Z Z h12 tu31 ti5)<|Rq Z (ld 1 Z Z (fP (.el h12)) ty5 Z)<|Rq Z (mv Z)<|z8e fun x13 h14=>Rq Z (ixB 2 Z Z Z h14 tu31 ti5)<|Rq Z (ld 2 Z Z (fP (.el h14)) ty5 Z)<|Rq Z (B.gtr Z Z)<|zss<|z0n<|gIf Z Z (fun h15=>?_) (fun h15=>?_)
    ·refine gSR<|Zb Z<|z0j<|z3w<|z0v<|z7m<|z7j<|Ze [] [] Z
    ·refine z2p<|z3a<|z0n<|z2b<|Zm Z<|Zq (I.add Z Z)<|Za Z<|z1n<|z1j (fun aa ww h=>Zu h [1,2])
  ·refine z1w<|z0w<|z0y<|z7p (fun aa ww h=>Zu h [])
 ·refine gSR<|Zb Z<|z0j<|Ze [] [] Z
def z4d (a0:List V3) (s2:Int):Option (Sum (Sum Bool Unit) Int) :=
 if decide (s2<(a0.length:Int)) then
  idx a0 (w64 (s2 - 1)) >>= fun x4 =>
  idx a0 s2 >>= fun x6 =>
  z9c x4 x6 >>= fun r8 =>
  if decide (0≤r8) then
   some (.inl (.inl false))
  else
   some (.inr (w64 (s2+1)))
 else
  some (.inl (.inr ()))
def z80 (a0:List V3):Option (Bool) :=
 z5u (iter (z4d a0) 1) fun s1 =>
 some true
theorem zdj (a0:List V3):z1o Tryz.prog 39 [.rd (z02 aZ) a0] [] (z80 a0) (fun r nv=>⟨[.rd z0h r],[]⟩):=by
 refine z29 21 Tryz.func39 Z Z Z fun H w=>?_;refine gSR<|Zb Z<|z8g (fun (s1:Unit) aa ww=>Sta (ctx 21 H [] w) [] [] aa ww) ?_ (fun s1=>?_)
 ·refine gSR<|Zb Z<|z24 (fun (s2:Int) aa ww=>Sta (ctx 21 H [] w) [(0,.rd (z02 aZ) a0),(3,.rd z0c s2)] [] aa ww) (fun aa ww h=>Zu h []) (fun s2=>?_);refine z0t<|gSR<|Zm Z<|Zm Z<|Zq (z3h Z .rd Z tu22)<|Zq (I.lss Z Z)<|Zj Z (fun h3=>?_) (fun h3=>?_)
  ·refine Zt<|z0t<|z4m<|z0t<|z8s [] mixed Z Z<|hTk 0 Z Z (mv Z)<|hTk 1 Z Z (mv Z)<|hTk 2 Z Z (I.sub Z Z)<|z5o fun x4 h5=>hTk 3 Z Z (ixR Z Z h5 tu22 z1z Z)<|hTk 4 Z Z (ldR Z z3t)<|hTk 5 Z Z (mv Z)<|hTk 6 Z Z (mv Z)<|z5o fun x6 h7=>hTk 7 Z Z (ixR Z Z h7 tu22 z1z Z)<|hTk 8 Z Z (ldR Z z3t)<|z41 9 [] [] Z (by kernel_rfl) Z (gd0 Z) Z Tryz.func38 Z Z (zfl _ _) (Y2 Z Z) rN Z (fun _ _=>z2s) fun r8 n9=>hTk 10 Z Z (I.geq Z Z)<|z54 (by kernel_rfl)<|z0n<|gIf Z Z (fun h10=>?_) (fun h10=>?_)
   ·refine gSR<|Zb Z<|z0j<|z3w<|z0v<|z7m<|z7j<|Ze [] [] Z
   ·refine z2p<|z3a<|z0n<|z2b<|Zm Z<|Zq (I.add Z Z)<|Za Z<|z1n<|z1j (fun aa ww h=>Zu h [])
  ·refine z1w<|z0w<|z0y<|z7p (fun aa ww h=>Zu h [])
 ·refine gSR<|Zb Z<|z0j<|Ze [] [] Z
def z5z (a2:UInt64) (s2:UInt64 × UInt64 × UInt64):Option (Sum UInt64 (UInt64 × UInt64 × UInt64)) :=
 if decide (0<s2.2.1) then
  (if (s2.2.1 % 2)==1 then
   chk (a2≠0) >>= fun u6 =>
   some ((s2.2.2 * s2.1) % a2) >>= fun y8 =>
   some y8
  else
   some s2.2.2) >>= fun s4 =>
  chk (a2≠0) >>= fun u9 =>
  some ((s2.1 * s2.1) % a2) >>= fun y11 =>
  some (.inr (y11,s2.2.1 / 2,s4))
 else
  some (.inl s2.2.2)
def z95 (a0:UInt64) (a1:UInt64) (a2:UInt64):Option (UInt64) :=
 (iter (z5z a2) (a0,a1,1)) >>= fun s1 =>
 some s1
theorem zea (a0:UInt64) (a1:UInt64) (a2:UInt64):z1o Tryz.prog 104 [.rd z2a a0,.rd z2a a1,.rd z2a a2] [] (z95 a0 a1 a2) (fun r nv=>⟨[.rd z2a r],[]⟩):=by
 refine z29 26 Tryz.func104 Z Z Z fun H w=>?_;refine gSR<|Zb Z<|gSR<|Zb Z<|z8d (fun (s1:UInt64) aa ww=>Sta (ctx 26 H [] w) [(7,.rd z2a s1)] [] aa ww) ?_ (fun s1=>?_)
 ·refine z24 (fun (s2:UInt64 × UInt64 × UInt64) aa ww=>Sta (ctx 26 H [] w) [(0,.rd z2a s2.1),(1,.rd z2a s2.2.1),(2,.rd z2a a2),(7,.rd z2a s2.2.2)] [] aa ww) (fun aa ww h=>Zu h []) (fun s2=>?_);refine z0t<|gSR<|Zm Z<|Zq (U.gtr Z Z)<|Zj Z (fun h3=>?_) (fun h3=>?_)
  ·refine Zt<|z4m<|z8d (fun (s4:UInt64) aa ww=>Sta (ctx 26 H [] w) [(0,.rd z2a s2.1),(1,.rd z2a s2.2.1),(2,.rd z2a a2),(7,.rd z2a s4)] [] aa ww) ?_ (fun s4=>?_)
   ·refine gSR<|Zm Z<|Zq (U.rem Z Z (by decide))<|Zq (U.eql Z Z)<|Zj Z (fun h5=>?_) (fun h5=>?_)
    ·refine z2b<|Zm Z<|Zm Z<|Zq (U.mul Z Z)<|Zm Z<|z0m fun u6 h7=>Zq (U.rem Z Z (z44 h7))<|Za Z<|z1x 7 Z fun y8=>z1n<|z3g (fun aa ww h=>Zu h [])
    ·refine z2p<|z3g (fun aa ww h=>Zu h [])
   ·refine gSR<|Zm Z<|Zm Z<|Zq (U.mul Z Z)<|Zm Z<|z0m fun u9 h10=>Zq (U.rem Z Z (z44 h10))<|Za Z<|z1x 0 Z fun y11=>Zn<|z2b<|Zm Z<|Zq (U.quo Z Z (by decide))<|Za Z<|z1n<|z3a<|z1j (fun aa ww h=>Zu h [])
  ·refine z1w<|z0w<|z0y<|z3g (fun aa ww h=>Zu h [])
 ·refine gSR<|Zm Z<|Zb Z<|z0j<|Ze [] [] Z
def zbo (a0:UInt32):Option (Bool) :=
 if decide (1≤a0) then
  if decide (a0<1000000007) then
   z95 a0.toUInt64 500000003 1000000007 >>= fun r3 =>
   some (r3==1)
  else
   some false
 else
  some false
theorem zgl (a0:UInt32):z1o Tryz.prog 65 [.rd z0o a0] [] (zbo a0) (fun r nv=>⟨[.rd z0h r],[]⟩):=by
 refine z29 15 Tryz.func65 Z Z Z fun H w=>?_;refine gSR<|Zb Z<|gSR<|Zm Z<|Zq (W.geq Z Z)<|Zm Z<|z19 5 Z (fun h1=>?_) (fun h1=>?_)
 ·refine lKn 4 Z h1<|z17 Zx Z Z (mv Z)<|z17 Zx Z Z (W.lss Z Z)<|Zq (pkT Z Z)<|Zm Z<|z19 9 Z (fun h2=>?_) (fun h2=>?_)
  ·refine lKn 7 Z h2<|lKn 8 Z h2<|z17 Zx Z Z (mv Z)<|z17 Zx Z Z (W.toU Z tu48 tu49)<|ze9 [] [] Zx Z Tryz.func104 Z Z (zea _ _ _) (aQ Z<|aQ Z<|aQ Z<|aN) rN fun r3 n4=>z17 Zx Z Z (U.eql Z Z)<|Zq (pkT Z Z)<|Zb Z<|z0j<|Ze [] [] Z
  ·refine lKn 7 Z h2<|lKn 8 Z h2<|Zk Z<|Zk Z<|Zk Z<|Zk Z<|Zq (pkF Z Z)<|Zb Z<|z0j<|Ze [] [] Z
 ·refine lKn 4 Z h1<|Zk Z<|Zk Z<|Zq (pkF Z Z)<|Zm Z<|Zk Z<|Zk Z<|Zk Z<|Zk Z<|Zq (pkF Z Z)<|Zb Z<|z0j<|Ze [] [] Z
def z72 (a0:List UInt8) (s4:Int):Option (Sum (Sum Bool Unit) Int) :=
 if decide (s4<(a0.length:Int)) then
  idx a0 s4 >>= fun x6 =>
  if decide (x6<33) then
   some (.inl (.inl false))
  else
   idx a0 s4 >>= fun x9 =>
   if decide (126<x9) then
    some (.inl (.inl false))
   else
    some (.inr (w64 (s4+1)))
 else
  some (.inl (.inr ()))
def za1 (a0:List UInt8):Option (Bool) :=
 if decide ((a0.length:Int)<1) then
  some false
 else
  if decide (20<(a0.length:Int)) then
   some false
  else
   z5u (iter (z72 a0) 0) fun s3 =>
   some true
theorem zek (a0:List UInt8):z1o Tryz.prog 105 [.rd zlw a0] [] (za1 a0) (fun r nv=>⟨[.rd z0h r],[]⟩):=by
 refine z29 28 Tryz.func105 Z Z Z fun H w=>?_;refine gSR<|Zb Z<|z0t<|gSR<|Zm Z<|Zq (lenT Z Z tu9)<|Zq (I.lss Z Z)<|Zm Z<|z19 7 Z (fun h1=>?_) (fun h1=>?_)
 ·refine lKn 6 Z h1<|Zk Z<|Zk Z<|Zk Z<|Zq (pkT Z Z)<|Zn<|zhl Z<|gSR<|Zb Z<|z0j<|z0v<|Ze [] [] Z
 ·refine lKn 6 Z h1<|z17 Zx Z Z (mv Z)<|z17 Zx Z Z (lenT Z Z tu9)<|z17 Zx Z Z (I.gtr Z Z)<|Zq (pkF Z Z)<|Zj Z (fun h2=>?_) (fun h2=>?_)
  ·refine gKn 10 Z h2<|gSR<|Zb Z<|z0j<|z0v<|Ze [] [] Z
  ·refine gKn 10 Z h2<|Zt<|z8g (fun (s3:Unit) aa ww=>Sta (ctx 28 H [] w) [] [] aa ww) ?_ (fun s3=>?_)
   ·refine gSR<|Zb Z<|z24 (fun (s4:Int) aa ww=>Sta (ctx 28 H [] w) [(0,.rd zlw a0),(3,.rd z0c s4)] [] aa ww) (fun aa ww h=>Zu h []) (fun s4=>?_);refine z0t<|gSR<|Zm Z<|Zm Z<|Zq (lenT Z Z tu9)<|Zq (I.lss Z Z)<|Zj Z (fun h5=>?_) (fun h5=>?_)
    ·refine Zt<|z0t<|z4m<|gSR<|Zm Z<|Zm Z<|z0m fun x6 h7=>Zq (idxT Z Z tu9 (z5k h7).1 (z5k h7).2.1)<|Zq (B.lss Z Z)<|Zm Z<|z19 22 Z (fun h8=>?_) (fun h8=>?_)
     ·refine lKn 21 Z h8<|Zk Z<|Zk Z<|Zk Z<|Zk Z<|Zq (pkT Z Z)<|Zn<|zhl Z<|gSR<|Zb Z<|z0j<|z3w<|z0v<|z7m<|z7j<|Ze [] [] Z
     ·refine lKn 21 Z h8<|z17 Zx Z Z (mv Z)<|z17 Zx Z Z (mv Z)<|z0m fun x9 h10=>z17 Zx Z Z (idxT Z Z tu9 (z5k h10).1 (z5k h10).2.1)<|z17 Zx Z Z (B.gtr Z Z)<|Zq (pkF Z Z)<|Zj Z (fun h11=>?_) (fun h11=>?_)
      ·refine gKn 26 Z h11<|gSR<|Zb Z<|z0j<|z3w<|z0v<|z7m<|z7j<|Ze [] [] Z
      ·refine gKn 26 Z h11<|z2p<|z3a<|z0n<|z2b<|Zm Z<|Zq (I.add Z Z)<|Za Z<|z1n<|z1j (fun aa ww h=>Zu h [])
    ·refine z1w<|z0w<|z0y<|z7p (fun aa ww h=>Zu h [])
   ·refine gSR<|Zb Z<|z0j<|Ze [] [] Z
def z8q (a0:UInt64):Option (Int) :=
 some (w64 (((a0 % 9223372036854775808) / 4503599627370496).toNat:Int)) >>= fun y1 =>
 some y1
theorem zgu (a0:UInt64):z1o Tryz.prog 186 [.rd z2a a0] [] (z8q a0) (fun r nv=>⟨[.rd z0c r],[]⟩):=by
 refine z29 7 Tryz.func186 Z Z Z fun H w=>?_;refine gSR<|Zb Z<|gSR<|Zm Z<|Zq (U.rem Z Z (by decide))<|Zq (U.quo Z Z (by decide))<|Zq (U.toI Z tu49 tu3)<|Za Z<|z1x 2 Z fun y1=>Zn<|z0j<|Ze [] [] Z
def zbd (a0:UInt64):Option (UInt64) :=
 some (a0 % 4503599627370496) >>= fun y1 =>
 some y1
theorem zgr (a0:UInt64):z1o Tryz.prog 187 [.rd z2a a0] [] (zbd a0) (fun r nv=>⟨[.rd z2a r],[]⟩):=by
 refine z29 5 Tryz.func187 Z Z Z fun H w=>?_;refine gSR<|Zb Z<|gSR<|Zm Z<|Zq (U.rem Z Z (by decide))<|Za Z<|z1x 2 Z fun y1=>Zn<|z0j<|Ze [] [] Z
def zba (a0:UInt64):Option (UInt8) :=
 z8q a0 >>= fun r1 =>
 zbd a0 >>= fun r3 =>
 z5u (if r1==0 then
  if r3==0 then
   some (.inl 1)
  else
   some (.inr ())
 else
  some (.inr ())) fun s5 =>
 if r1==0 then
  some 2
 else
  if decide (r1<2047) then
   some 3
  else
   if r3==0 then
    some 4
   else
    some 5
theorem zj3 (a0:UInt64):z1o Tryz.prog 168 [.rd z2a a0] [] (zba a0) (fun r nv=>⟨[.rd u8R r],[]⟩):=by
 refine z29 21 Tryz.func168 Z Z Z fun H w=>?_;refine gSR<|Zb Z<|gSR<|Zm Z<|Zc [] [] Tryz.func186 Z (zgu _) fun r1 n2=>Zm Z<|Zc [] [] Tryz.func187 Z (zgr _) fun r3 n4=>Za Z<|Zb Z<|z8g (fun (s5:Unit) aa ww=>Sta (ctx 21 H [] w) [(3,.rd z0c r1),(4,.rd z2a r3)] [] aa ww) ?_ (fun s5=>?_)
 ·refine gSR<|Zm Z<|Zq (I.eql Z Z)<|Zm Z<|z19 11 Z (fun h6=>?_) (fun h6=>?_)
  ·refine lKn 10 Z h6<|z17 Zx Z Z (mv Z)<|z17 Zx Z Z (U.eql Z Z)<|Zq (pkT Z Z)<|Zj Z (fun h7=>?_) (fun h7=>?_)
   ·refine gKn 13 Z h7<|gSR<|Zb Z<|z0j<|z7j<|Ze [] [] Z
   ·refine gKn 13 Z h7<|z2p<|z7p (fun aa ww h=>Zu h [])
  ·refine lKn 10 Z h6<|Zk Z<|Zk Z<|Zq (pkF Z Z)<|Zn<|zgf Z<|z2p<|z7p (fun aa ww h=>Zu h [])
 ·refine z0t<|gSR<|Zm Z<|Zq (I.eql Z Z)<|Zj Z (fun h8=>?_) (fun h8=>?_)
  ·refine gSR<|Zb Z<|z0j<|z0v<|Ze [] [] Z
  ·refine Zt<|z0t<|gSR<|Zm Z<|Zq (I.lss Z Z)<|Zj Z (fun h9=>?_) (fun h9=>?_)
   ·refine gSR<|Zb Z<|z0j<|z0v<|Ze [] [] Z
   ·refine Zt<|z0t<|gSR<|Zm Z<|Zq (U.eql Z Z)<|Zj Z (fun h10=>?_) (fun h10=>?_)
    ·refine gSR<|Zb Z<|z0j<|z0v<|Ze [] [] Z
    ·refine Zt<|gSR<|Zb Z<|z0j<|Ze [] [] Z
def zb7 (a0:UInt64):Option (UInt64) :=
 zba a0 >>= fun r1 =>
 if r1==5 then
  some 9221120237041090560
 else
  some a0
theorem zjc (a0:UInt64):z1o Tryz.prog 145 [.rd z2a a0] [] (zb7 a0) (fun r nv=>⟨[.rd z2a r],[]⟩):=by
 refine z29 7 Tryz.func145 Z Z Z fun H w=>?_;refine gSR<|Zb Z<|z0t<|gSR<|Zm Z<|Zc [] [] Tryz.func168 Z (zj3 _) fun r1 n2=>Zq (B.eql Z Z)<|Zj Z (fun h3=>?_) (fun h3=>?_)
 ·refine gSR<|Zb Z<|z0j<|z0v<|Ze [] [] Z
 ·refine Zt<|gSR<|Zm Z<|Zb Z<|z0j<|Ze [] [] Z
def z4b (a0:List UInt8) (s2:Int):Option (Sum (Sum Bool Unit) Int) :=
 if decide (s2<(a0.length:Int)) then
  idx a0 s2 >>= fun x4 =>
  if decide (x4<32) then
   some (.inl (.inl false))
  else
   idx a0 s2 >>= fun x7 =>
   if decide (126<x7) then
    some (.inl (.inl false))
   else
    some (.inr (w64 (s2+1)))
 else
  some (.inl (.inr ()))
def z7u (a0:List UInt8):Option (Bool) :=
 z5u (iter (z4b a0) 0) fun s1 =>
 some true
theorem zg1 (a0:List UInt8):z1o Tryz.prog 146 [.rd zlw a0] [] (z7u a0) (fun r nv=>⟨[.rd z0h r],[]⟩):=by
 refine z29 20 Tryz.func146 Z Z Z fun H w=>?_;refine gSR<|Zb Z<|z8g (fun (s1:Unit) aa ww=>Sta (ctx 20 H [] w) [] [] aa ww) ?_ (fun s1=>?_)
 ·refine gSR<|Zb Z<|z24 (fun (s2:Int) aa ww=>Sta (ctx 20 H [] w) [(0,.rd zlw a0),(3,.rd z0c s2)] [] aa ww) (fun aa ww h=>Zu h []) (fun s2=>?_);refine z0t<|gSR<|Zm Z<|Zm Z<|Zq (lenT Z Z tu9)<|Zq (I.lss Z Z)<|Zj Z (fun h3=>?_) (fun h3=>?_)
  ·refine Zt<|z0t<|z4m<|gSR<|Zm Z<|Zm Z<|z0m fun x4 h5=>Zq (idxT Z Z tu9 (z5k h5).1 (z5k h5).2.1)<|Zq (B.lss Z Z)<|Zm Z<|z19 14 Z (fun h6=>?_) (fun h6=>?_)
   ·refine lKn 13 Z h6<|Zk Z<|Zk Z<|Zk Z<|Zk Z<|Zq (pkT Z Z)<|Zn<|zhl Z<|gSR<|Zb Z<|z0j<|z3w<|z0v<|z7m<|z7j<|Ze [] [] Z
   ·refine lKn 13 Z h6<|z17 Zx Z Z (mv Z)<|z17 Zx Z Z (mv Z)<|z0m fun x7 h8=>z17 Zx Z Z (idxT Z Z tu9 (z5k h8).1 (z5k h8).2.1)<|z17 Zx Z Z (B.gtr Z Z)<|Zq (pkF Z Z)<|Zj Z (fun h9=>?_) (fun h9=>?_)
    ·refine gKn 18 Z h9<|gSR<|Zb Z<|z0j<|z3w<|z0v<|z7m<|z7j<|Ze [] [] Z
    ·refine gKn 18 Z h9<|z2p<|z3a<|z0n<|z2b<|Zm Z<|Zq (I.add Z Z)<|Za Z<|z1n<|z1j (fun aa ww h=>Zu h [])
  ·refine z1w<|z0w<|z0y<|z7p (fun aa ww h=>Zu h [])
 ·refine gSR<|Zb Z<|z0j<|Ze [] [] Z
def zb2 (a0:z06):Option (Int) :=
 if a0.Kind==1 then
  if a0.Bits==0 then
   if a0.Text==[] then
    some 0
   else
    some 8
  else
   some 8
 else
  if a0.Kind==2 then
   (if a0.Num==0 then
    if a0.Text==[] then
     zb7 a0.Bits >>= fun r9 =>
     some (r9==a0.Bits)
    else
     some false
   else
    some false) >>= fun s6 =>
   if s6 then
    some 0
   else
    some 8
  else
   if a0.Kind==3 then
    (if a0.Num==0 then
     if a0.Bits==0 then
      if decide ((a0.Text.length:Int)≤30) then
       z7u a0.Text >>= fun r17 =>
       some r17
      else
       some false
     else
      some false
    else
     some false) >>= fun s13 =>
    if s13 then
     some 0
    else
     some 8
   else
    some 8
theorem zj8 (a0:z06):z1o Tryz.prog 106 [.rd z20 a0] [] (zb2 a0) (fun r nv=>⟨[.rd z0c r],[]⟩):=by
 refine z29 54 Tryz.func106 Z Z Z fun H w=>?_;refine gSR<|Eb Z (bx 1 Z) fun v1=>Zb Z<|z0t<|gSR<|Zq (faB 1 Z Z Tryz.underlying51 Z (by exact ti5))<|Zq (ld 1 Z Z (fP (z36 _)) ty5 Z)<|Zn<|z4m<|gSR<|Zq (B.eql Z Z)<|Zb Z<|gIf Z Z (fun h2=>?_) (fun h2=>?_)
 ·refine gKn 6 Z h2<|gSR<|Zq (faB 1 Z Z Tryz.underlying51 Z (by exact zqm))<|Zq (ld 1 Z Z (fP (z40 _)) zpo Z)<|Zq (U.eql Z Z)<|Zm Z<|z19 10 Z (fun h3=>?_) (fun h3=>?_)
  ·refine lKn 9 Z h3<|z17 Zx Z Z (faB 1 Z Z Tryz.underlying51 Z (by exact ti9))<|z17 Zx Z Z (ld 1 Z Z (fP (z3z _)) ty9 Z)<|z17 Zx Z Z (eqS Z Z)<|Zq (pkT Z Z)<|Zj Z (fun h4=>?_) (fun h4=>?_)
   ·refine gKn 13 Z h4<|gSR<|Zb Z<|z0j<|z3w<|z0v<|Ze [] [] Z
   ·refine gKn 13 Z h4<|z2p<|z3a<|z0n<|gSR<|Zb Z<|z0j<|Ze [] [] Z
  ·refine lKn 9 Z h3<|Zk Z<|Zk Z<|Zk Z<|Zq (pkF Z Z)<|Zn<|zgf Z<|z2p<|z3a<|z0n<|gSR<|Zb Z<|z0j<|Ze [] [] Z
 ·refine gKn 6 Z h2<|gSR<|Zq (B.eql Z Z)<|Zb Z<|gIf Z Z (fun h5=>?_) (fun h5=>?_)
  ·refine gKn 16 Z h5<|z8d (fun (s6:Bool) aa ww=>Sta (ctx 54 H [] w) [(32,.rd z0h s6)] [] aa ww) ?_ (fun s6=>?_)
   ·refine z8s [] mixed Z Z<|hTk 0 Z Z (faB 1 Z Z Tryz.underlying51 Z (by exact ti2))<|hTk 1 Z Z (ld 1 Z Z (fP (z6l _)) ty2 Z)<|hTk 2 Z Z (I.eql Z Z)<|hTk 3 Z Z (mv Z)<|hIf 20 Z Z (fun h7=>?_) (fun h7=>?_)
    ·refine hKn 19 Z Z h7<|Zg 4 Z Z (faB 1 Z Z Tryz.underlying51 Z (by exact ti9))<|Zg 5 Z Z (ld 1 Z Z (fP (z3z _)) ty9 Z)<|Zg 6 Z Z (eqS Z Z)<|hTk 7 Z Z (pkT Z Z)<|hTk 8 Z Z (mv Z)<|hIf 25 Z Z (fun h8=>?_) (fun h8=>?_)
     ·refine hKn 23 Z Z h8<|hKn 24 Z Z h8<|Zg 9 Z Z (faB 1 Z Z Tryz.underlying51 Z (by exact zqm))<|Zg 10 Z Z (ld 1 Z Z (fP (z40 _)) zpo Z)<|Zg 12 Z Z (faB 1 Z Z Tryz.underlying51 Z (by exact zqm))<|Zg 13 Z Z (ld 1 Z Z (fP (z40 _)) zpo Z)<|z41 11 [] [] Z (by kernel_rfl) Z Zx Z Tryz.func145 Z Z (zjc _) (Y1 Z) rN Z (fun _ _=>z2s) fun r9 n10=>Zg 14 Z Z (U.eql Z Z)<|hTk 15 Z Z (pkT Z Z)<|z54 (by kernel_rfl)<|z3g (fun aa ww h=>Zu h [])
     ·refine hKn 23 Z Z h8<|hKn 24 Z Z h8<|hSk 9 Z Z<|hSk 10 Z Z<|hSk 11 Z Z<|hSk 12 Z Z<|hSk 13 Z Z<|hSk 14 Z Z<|hTk 15 Z Z (pkF Z Z)<|z54 (by kernel_rfl)<|z3g (fun aa ww h=>Zu h [])
    ·refine hKn 19 Z Z h7<|hSk 4 Z Z<|hSk 5 Z Z<|hSk 6 Z Z<|hTk 7 Z Z (pkF Z Z)<|hTk 8 Z Z (mv Z)<|hSk 9 Z Z<|hSk 10 Z Z<|hSk 11 Z Z<|hSk 12 Z Z<|hSk 13 Z Z<|hSk 14 Z Z<|hTk 15 Z Z (pkF Z Z)<|z54 (by kernel_rfl)<|z3g (fun aa ww h=>Zu h [])
   ·refine gIf Z Z (fun h11=>?_) (fun h11=>?_)
    ·refine gSR<|Zb Z<|z0j<|z3w<|z0v<|Ze [] [] Z
    ·refine z2p<|z3a<|z0n<|gSR<|Zb Z<|z0j<|Ze [] [] Z
  ·refine gKn 16 Z h5<|gSR<|Zq (B.eql Z Z)<|Zb Z<|gIf Z Z (fun h12=>?_) (fun h12=>?_)
   ·refine gKn 34 Z h12<|z8d (fun (s13:Bool) aa ww=>Sta (ctx 54 H [] w) [(53,.rd z0h s13)] [] aa ww) ?_ (fun s13=>?_)
    ·refine z2b<|Zq (faB 1 Z Z Tryz.underlying51 Z (by exact ti2))<|Zq (ld 1 Z Z (fP (z6l _)) ty2 Z)<|Zq (I.eql Z Z)<|Zm Z<|z19 38 Z (fun h14=>?_) (fun h14=>?_)
     ·refine lKn 37 Z h14<|z17 Zx Z Z (faB 1 Z Z Tryz.underlying51 Z (by exact zqm))<|z17 Zx Z Z (ld 1 Z Z (fP (z40 _)) zpo Z)<|z17 Zx Z Z (U.eql Z Z)<|Zq (pkT Z Z)<|Zm Z<|z19 43 Z (fun h15=>?_) (fun h15=>?_)
      ·refine lKn 41 Z h15<|lKn 42 Z h15<|z17 Zx Z Z (faB 1 Z Z Tryz.underlying51 Z (by exact ti9))<|z17 Zx Z Z (ld 1 Z Z (fP (z3z _)) ty9 Z)<|z17 Zx Z Z (lenT Z Z tu9)<|z17 Zx Z Z (I.leq Z Z)<|Zq (pkT Z Z)<|Zm Z<|z19 49 Z (fun h16=>?_) (fun h16=>?_)
       ·refine lKn 47 Z h16<|lKn 48 Z h16<|z17 Zx Z Z (faB 1 Z Z Tryz.underlying51 Z (by exact ti9))<|z17 Zx Z Z (ld 1 Z Z (fP (z3z _)) ty9 Z)<|ze9 [] [] Zx Z Tryz.func146 Z Z (zg1 _) (Y1 Z) rN fun r17 n18=>Zq (pkT Z Z)<|z1n<|z3g (fun aa ww h=>Zu h [])
       ·refine lKn 47 Z h16<|lKn 48 Z h16<|Zk Z<|Zk Z<|Zk Z<|Zq (pkF Z Z)<|z1n<|z3g (fun aa ww h=>Zu h [])
      ·refine lKn 41 Z h15<|lKn 42 Z h15<|Zk Z<|Zk Z<|Zk Z<|Zk Z<|Zq (pkF Z Z)<|Zm Z<|Zk Z<|Zk Z<|Zk Z<|Zq (pkF Z Z)<|z1n<|z3g (fun aa ww h=>Zu h [])
     ·refine lKn 37 Z h14<|Zk Z<|Zk Z<|Zk Z<|Zq (pkF Z Z)<|Zm Z<|Zk Z<|Zk Z<|Zk Z<|Zk Z<|Zq (pkF Z Z)<|Zm Z<|Zk Z<|Zk Z<|Zk Z<|Zq (pkF Z Z)<|z1n<|z3g (fun aa ww h=>Zu h [])
    ·refine gIf Z Z (fun h19=>?_) (fun h19=>?_)
     ·refine gSR<|Zb Z<|z0j<|z3w<|z0v<|Ze [] [] Z
     ·refine z2p<|z3a<|z0n<|gSR<|Zb Z<|z0j<|Ze [] [] Z
   ·refine gKn 34 Z h12<|z2p<|z3a<|z0n<|gSR<|Zb Z<|z0j<|Ze [] [] Z
def z8r (a0:z0f):Option (Int) :=
 some (decide (a0.Value=(⟨0,0,0,[]⟩:z06))) >>= fun y2 =>
 if a0.Kind==1 then
  if a0.Key==[] then
   if y2 then
    some 0
   else
    some 8
  else
   some 8
 else
  (if a0.Kind==2 then
   some true
  else
   some (a0.Kind==3)) >>= fun s6 =>
  if s6 then
   za1 a0.Key >>= fun r9 =>
   if r9 then
    if y2 then
     some 0
    else
     some 8
   else
    some 8
  else
   if a0.Kind==4 then
    za1 a0.Key >>= fun r14 =>
    if r14 then
     zb2 a0.Value >>= fun r17 =>
     if r17==0 then
      some 0
     else
      some 8
    else
     some 8
   else
    some 8
theorem zgq (a0:z0f):z1o Tryz.prog 66 [.rd z0d a0] [] (z8r a0) (fun r nv=>⟨[.rd z0c r],[]⟩):=by
 refine z29 38 Tryz.func66 Z Z Z fun H w=>?_;refine gSR<|Eb Z (bx 1 Z) fun v1=>Zb Z<|gSR<|Zq (faB 1 Z Z Tryz.underlying53 Z (by exact zlg))<|Zq (ld 1 Z Z (fP (z6k _)) zst Z)<|Zq (bld (x':=(⟨0,0,0,[]⟩:z06)) [(0,1),(1,1),(2,1),(3,1)] Tryz.underlying51 zlg Z zwz Z (Bld.done Z))<|Zq (eqA Z Z eq51 Z Z gq51)<|Za Z<|z1x 3 Z fun y2=>Zn<|z0t<|gSR<|Zq (faB 1 Z Z Tryz.underlying53 Z (by exact ti5))<|Zq (ld 1 Z Z (fP (z3n _)) ty5 Z)<|Zn<|z4m<|gSR<|Zq (B.eql Z Z)<|Zb Z<|gIf Z Z (fun h3=>?_) (fun h3=>?_)
 ·refine gKn 11 Z h3<|gSR<|Zq (faB 1 Z Z Tryz.underlying53 Z (by exact ti9))<|Zq (ld 1 Z Z (fP (z7c _)) ty9 Z)<|Zq (eqS Z Z)<|Zm Z<|z19 15 Z (fun h4=>?_) (fun h4=>?_)
  ·refine lKn 14 Z h4<|z17 Zx Z Z (mv Z)<|Zq (pkT Z Z)<|Zj Z (fun h5=>?_) (fun h5=>?_)
   ·refine gKn 3 Z h5<|gKn 16 Z h5<|gSR<|Zb Z<|z0j<|z3w<|z0v<|Ze [] [] Z
   ·refine gKn 3 Z h5<|gKn 16 Z h5<|z2p<|z3a<|z0n<|gSR<|Zb Z<|z0j<|Ze [] [] Z
  ·refine lKn 14 Z h4<|Zk Z<|Zq (pkF Z Z)<|Zn<|zgf Z<|z2p<|z3a<|z0n<|gSR<|Zb Z<|z0j<|Ze [] [] Z
 ·refine gKn 11 Z h3<|z8d (fun (s6:Bool) aa ww=>Sta (ctx 38 H [] w) [(1,.val (z05 v1 0)),(3,.rd z0h y2),(9,.rd u8R a0.Kind),(18,.rd z0h s6)] [(1,some (v1,.box 53 [.rd z0d a0]))] aa ww) ?_ (fun s6=>?_)
  ·refine gSR<|Zq (B.eql Z Z)<|Zb Z<|gIf Z Z (fun h7=>?_) (fun h7=>?_)
   ·refine gKn 19 Z h7<|z2p<|z3g (fun aa ww h=>Zu h [1])
   ·refine gKn 19 Z h7<|z2b<|Zq (B.eql Z Z)<|Za Z<|z1n<|z3g (fun aa ww h=>Zu h [1])
  ·refine gIf Z Z (fun h8=>?_) (fun h8=>?_)
   ·refine gSR<|Zq (faB 1 Z Z Tryz.underlying53 Z (by exact ti9))<|Zq (ld 1 Z Z (fP (z7c _)) ty9 Z)<|Zc [] [] Tryz.func105 Z (zek _) fun r9 n10=>Zm Z<|z19 24 Z (fun h11=>?_) (fun h11=>?_)
    ·refine lKn 23 Z h11<|z17 Zx Z Z (mv Z)<|Zq (pkT Z Z)<|Zj Z (fun h12=>?_) (fun h12=>?_)
     ·refine gKn 3 Z h12<|gKn 25 Z h12<|gSR<|Zb Z<|z0j<|z3w<|z0v<|Ze [] [] Z
     ·refine gKn 3 Z h12<|gKn 25 Z h12<|z2p<|z3a<|z0n<|gSR<|Zb Z<|z0j<|Ze [] [] Z
    ·refine lKn 23 Z h11<|Zk Z<|Zq (pkF Z Z)<|Zn<|zgf Z<|z2p<|z3a<|z0n<|gSR<|Zb Z<|z0j<|Ze [] [] Z
   ·refine gSR<|Zq (B.eql Z Z)<|Zb Z<|gIf Z Z (fun h13=>?_) (fun h13=>?_)
    ·refine gKn 28 Z h13<|gSR<|Zq (faB 1 Z Z Tryz.underlying53 Z (by exact ti9))<|Zq (ld 1 Z Z (fP (z7c _)) ty9 Z)<|Zc [] [] Tryz.func105 Z (zek _) fun r14 n15=>Zm Z<|z19 32 Z (fun h16=>?_) (fun h16=>?_)
     ·refine lKn 31 Z h16<|z17 Zx Z Z (faB 1 Z Z Tryz.underlying53 Z (by exact zlg))<|z17 Zx Z Z (ld 1 Z Z (fP (z6k _)) zst Z)<|ze9 [] [] Zx Z Tryz.func106 Z Z (zj8 _) (Y1 Z) rN fun r17 n18=>z17 Zx Z Z (I.eql Z Z)<|Zq (pkT Z Z)<|Zj Z (fun h19=>?_) (fun h19=>?_)
      ·refine gKn 36 Z h19<|gSR<|Zb Z<|z0j<|z3w<|z0v<|Ze [] [] Z
      ·refine gKn 36 Z h19<|z2p<|z3a<|z0n<|gSR<|Zb Z<|z0j<|Ze [] [] Z
     ·refine lKn 31 Z h16<|Zk Z<|Zk Z<|Zk Z<|Zk Z<|Zq (pkF Z Z)<|Zn<|zgf Z<|z2p<|z3a<|z0n<|gSR<|Zb Z<|z0j<|Ze [] [] Z
    ·refine gKn 28 Z h13<|z2p<|z3a<|z0n<|gSR<|Zb Z<|z0j<|Ze [] [] Z
def z3u (a0:UInt32):Option (Bool) :=
 some (decide (a0.toUInt64<500000003)) >>= fun y1 =>
 some y1
theorem z64 (a0:UInt32):z1o Tryz.prog 67 [.rd z0o a0] [] (z3u a0) (fun r nv=>⟨[.rd z0h r],[]⟩):=by
 refine z29 6 Tryz.func67 Z Z Z fun H w=>?_;refine gSR<|Zb Z<|gSR<|Zm Z<|Zq (W.toU Z tu48 tu49)<|Zq (U.lss Z Z)<|Za Z<|z1x 2 Z fun y1=>Zn<|z0j<|Ze [] [] Z
def z4f (a0:z08):Option (Int) :=
 if decide (4<(a0.Preds.length:Int)) then
  some 4
 else
  z80 a0.Preds >>= fun r3 =>
  if !r3 then
   some 32
  else
   (zbo a0.Author >>= fun r7 =>
   if !r7 then
    some true
   else
    if decide (1000000000000<a0.Stamp) then
     some true
    else
     z8r a0.Act >>= fun r11 =>
     if r11 != 0 then
      some true
     else
      z3u a0.Sig.E >>= fun r14 =>
      if !r14 then
       some true
      else
       z3u a0.Sig.S >>= fun r17 =>
       some (!r17)) >>= fun s6 =>
   if s6 then
    some 8
   else
    some 0
theorem z8n (a0:z08):z1o Tryz.prog 34 [.rd z03 a0] [] (z4f a0) (fun r nv=>⟨[.rd z0c r],[]⟩):=by
 refine z29 40 Tryz.func34 Z Z Z fun H w=>?_;refine gSR<|Eb Z (bx 1 Z) fun v1=>Zb Z<|z0t<|gSR<|Zq (faB 1 Z Z Tryz.underlying57 Z (by exact z6b))<|Zq (ld 1 Z Z (fP (z0z _)) z93 Z)<|Zq (z3h Z .rd Z tu22)<|Zq (I.gtr Z Z)<|Zj Z (fun h2=>?_) (fun h2=>?_)
 ·refine gSR<|Zb Z<|z0j<|z0v<|Ze [] [] Z
 ·refine Zt<|z0t<|gSR<|Zq (faB 1 Z Z Tryz.underlying57 Z (by exact z6b))<|Zq (ld 1 Z Z (fP (z0z _)) z93 Z)<|Zc [] [] Tryz.func39 Z (zdj _) fun r3 n4=>Zq (zex Z)<|Zj Z (fun h5=>?_) (fun h5=>?_)
  ·refine gSR<|Zb Z<|z0j<|z0v<|Ze [] [] Z
  ·refine Zt<|z0t<|z8d (fun (s6:Bool) aa ww=>Sta (ctx 40 H [] w) [(39,.rd z0h s6)] [] aa ww) ?_ (fun s6=>?_)
   ·refine z2b<|Zq (faB 1 Z Z Tryz.underlying57 Z (by exact z61))<|Zq (ld 1 Z Z (fP (z2z _)) z9r Z)<|Zc [] [] Tryz.func65 Z (zgl _) fun r7 n8=>Zq (zex Z)<|Zm Z<|z19 15 Z (fun h9=>?_) (fun h9=>?_)
    ·refine lKn 14 Z h9<|Zk Z<|Zk Z<|Zk Z<|Zq (pkT Z Z)<|Zm Z<|Zk Z<|Zk Z<|Zk Z<|Zk Z<|Zq (pkT Z Z)<|Zm Z<|Zk Z<|Zk Z<|Zk Z<|Zk Z<|Zk Z<|Zq (pkT Z Z)<|Zm Z<|Zk Z<|Zk Z<|Zk Z<|Zk Z<|Zk Z<|Zq (pkT Z Z)<|z1n<|z3g (fun aa ww h=>Zu h [])
    ·refine lKn 14 Z h9<|z17 Zx Z Z (faB 1 Z Z Tryz.underlying57 Z (by exact zqm))<|z17 Zx Z Z (ld 1 Z Z (fP (z4a _)) zpo Z)<|z17 Zx Z Z (U.gtr Z Z)<|Zq (pkF Z Z)<|Zm Z<|z19 20 Z (fun h10=>?_) (fun h10=>?_)
     ·refine lKn 18 Z h10<|lKn 19 Z h10<|Zk Z<|Zk Z<|Zk Z<|Zk Z<|Zq (pkT Z Z)<|Zm Z<|Zk Z<|Zk Z<|Zk Z<|Zk Z<|Zk Z<|Zq (pkT Z Z)<|Zm Z<|Zk Z<|Zk Z<|Zk Z<|Zk Z<|Zk Z<|Zq (pkT Z Z)<|z1n<|z3g (fun aa ww h=>Zu h [])
     ·refine lKn 18 Z h10<|lKn 19 Z h10<|z17 Zx Z Z (faB 1 Z Z Tryz.underlying57 Z (by exact zph))<|z17 Zx Z Z (ld 1 Z Z (fP (z2h _)) ty53 Z)<|ze9 [] [] Zx Z Tryz.func66 Z Z (zgq _) (Y1 Z) rN fun r11 n12=>z17 Zx Z Z (I.neq Z Z)<|Zq (pkF Z Z)<|Zm Z<|z19 26 Z (fun h13=>?_) (fun h13=>?_)
      ·refine lKn 24 Z h13<|lKn 25 Z h13<|Zk Z<|Zk Z<|Zk Z<|Zk Z<|Zk Z<|Zq (pkT Z Z)<|Zm Z<|Zk Z<|Zk Z<|Zk Z<|Zk Z<|Zk Z<|Zq (pkT Z Z)<|z1n<|z3g (fun aa ww h=>Zu h [])
      ·refine lKn 24 Z h13<|lKn 25 Z h13<|z17 Zx Z Z (faB 1 Z Z Tryz.underlying57 Z (by exact zll))<|z17 Zx Z Z (faB 1 Z Z Tryz.underlying55 Z (by exact z61))<|z17 Zx Z Z (ld 1 Z Z ((fP (z2g _)).part (z4w _)) z9r Z)<|ze9 [] [] Zx Z Tryz.func67 Z Z (z64 _) (Y1 Z) rN fun r14 n15=>z17 Zx Z Z (zex Z)<|Zq (pkF Z Z)<|Zm Z<|z19 33 Z (fun h16=>?_) (fun h16=>?_)
       ·refine lKn 31 Z h16<|lKn 32 Z h16<|Zk Z<|Zk Z<|Zk Z<|Zk Z<|Zk Z<|Zq (pkT Z Z)<|z1n<|z3g (fun aa ww h=>Zu h [])
       ·refine lKn 31 Z h16<|lKn 32 Z h16<|z17 Zx Z Z (faB 1 Z Z Tryz.underlying57 Z (by exact zll))<|z17 Zx Z Z (faB 1 Z Z Tryz.underlying55 Z (by exact z61))<|z17 Zx Z Z (ld 1 Z Z ((fP (z2g _)).part (z6r _)) z9r Z)<|ze9 [] [] Zx Z Tryz.func67 Z Z (z64 _) (Y1 Z) rN fun r17 n18=>z17 Zx Z Z (zex Z)<|Zq (pkF Z Z)<|z1n<|z3g (fun aa ww h=>Zu h [])
   ·refine gIf Z Z (fun h19=>?_) (fun h19=>?_)
    ·refine gSR<|Zb Z<|z0j<|z0v<|Ze [] [] Z
    ·refine Zt<|gSR<|Zb Z<|z0j<|Ze [] [] Z
def z5r (a0:UInt32) (a1:UInt64):Option (UInt32) :=
 z95 a0.toUInt64 a1 1000000007 >>= fun r1 =>
 some r1.toUInt32
theorem zam (a0:UInt32) (a1:UInt64):z1o Tryz.prog 108 [.rd z0o a0,.rd z2a a1] [] (z5r a0 a1) (fun r nv=>⟨[.rd z0o r],[]⟩):=by
 refine z29 10 Tryz.func108 Z Z Z fun H w=>?_;refine gSR<|Zb Z<|gSR<|Zm Z<|Zq (W.toU Z tu48 tu49)<|Zm Z<|Zc [] [] Tryz.func104 Z (zea _ _ _) fun r1 n2=>Zq (U.toW Z tu49 tu48)<|Zb Z<|z0j<|Ze [] [] Z
def zew (a0:UInt32):Option (UInt32 × Int) :=
 zbo a0 >>= fun r1 =>
 if !r1 then
  some (0,2)
 else
  z5r a0 500000002 >>= fun r4 =>
  some (r4,0)
theorem zl0 (a0:UInt32):z1o Tryz.prog 107 [.rd z0o a0] [] (zew a0) (fun r nv=>⟨[.rd z0o r.1,.rd z0c r.2],[]⟩):=by
 refine z29 9 Tryz.func107 Z Z Z fun H w=>?_;refine gSR<|Za Z<|Zb Z<|z0t<|gSR<|Zm Z<|Zc [] [] Tryz.func65 Z (zgl _) fun r1 n2=>Zq (zex Z)<|Zj Z (fun h3=>?_) (fun h3=>?_)
 ·refine gSR<|Za Z<|Zb Z<|z0j<|z0v<|Ze [] [] Z
 ·refine Zt<|gSR<|Zm Z<|Zc [] [] Tryz.func108 Z (zam _ _) fun r4 n5=>Za Z<|Zb Z<|z0j<|Ze [] [] Z
def zc7 (a0:UInt64):Option (UInt32) :=
 z5r 4 a0 >>= fun r1 =>
 some r1
theorem zjz (a0:UInt64):z1o Tryz.prog 115 [.rd z2a a0] [] (zc7 a0) (fun r nv=>⟨[.rd z0o r],[]⟩):=by
 refine z29 5 Tryz.func115 Z Z Z fun H w=>?_;refine gSR<|Zb Z<|gSR<|Zm Z<|Zc [] [] Tryz.func108 Z (zam _ _) fun r1 n2=>Zb Z<|z0j<|Ze [] [] Z
def z5n (a0:UInt32):Option (UInt32) :=
 zc7 a0.toUInt64 >>= fun r1 =>
 some r1
theorem zab (a0:UInt32):z1o Tryz.prog 77 [.rd z0o a0] [] (z5n a0) (fun r nv=>⟨[.rd z0o r],[]⟩):=by
 refine z29 6 Tryz.func77 Z Z Z fun H w=>?_;refine gSR<|Zb Z<|gSR<|Zm Z<|Zq (W.toU Z tu48 tu49)<|Zc [] [] Tryz.func115 Z (zjz _) fun r1 n2=>Zb Z<|z0j<|Ze [] [] Z
def zbj (a0:UInt32) (a1:UInt32):Option (UInt32) :=
 some (((a0.toUInt64 * a1.toUInt64) % 1000000007).toUInt32) >>= fun y1 =>
 some y1
theorem zgy (a0:UInt32) (a1:UInt32):z1o Tryz.prog 110 [.rd z0o a0,.rd z0o a1] [] (zbj a0 a1) (fun r nv=>⟨[.rd z0o r],[]⟩):=by
 refine z29 12 Tryz.func110 Z Z Z fun H w=>?_;refine gSR<|Zb Z<|gSR<|Zm Z<|Zq (W.toU Z tu48 tu49)<|Zm Z<|Zq (W.toU Z tu48 tu49)<|Zq (U.mul Z Z)<|Zq (U.rem Z Z (by decide))<|Zq (U.toW Z tu49 tu48)<|Za Z<|z1x 4 Z fun y1=>Zn<|z0j<|Ze [] [] Z
def z7x (a0:UInt32):Option ((List UInt8)) :=
 some [(a0 / 16777216).toUInt8,((a0 / 65536) % 256).toUInt8,((a0 / 256) % 256).toUInt8,(a0 % 256).toUInt8]
theorem zbk (a0:UInt32):z1o Tryz.prog 147 [.rd z0o a0] [] (z7x a0) (fun r nv=>⟨[.val (nv 0)],[(100,some (nv 0,.list u8R 5 r))]⟩):=by
 refine z29 18 Tryz.func147 Z Z Z fun H w=>?_;refine gSR<|Zb Z<|gSR<|Zm Z<|Zq (W.quo Z Z (by decide))<|Zq (W.toB Z tu48 tu5)<|Zm Z<|Zq (W.quo Z Z (by decide))<|Zq (W.rem Z Z (by decide))<|Zq (W.toB Z tu48 tu5)<|Zm Z<|Zq (W.quo Z Z (by decide))<|Zq (W.rem Z Z (by decide))<|Zq (W.toB Z tu48 tu5)<|Zm Z<|Zq (W.rem Z Z (by decide))<|Zq (W.toB Z tu48 tu5)<|Ef Z (lit (R:=u8R) ([(a0 / 16777216).toUInt8,((a0 / 65536) % 256).toUInt8,((a0 / 256) % 256).toUInt8,(a0 % 256).toUInt8]:List UInt8) 1 (pP Z Z<|pP Z Z<|pP Z Z<|pP Z Z<|pN) Z tu74 ti5 Z Z) fun v1=>Zb Z<|z0j<|Ze [v1] [1] Z
def z5e (r1:V3) (s5:UInt64 × Int):Option (Sum UInt64 (UInt64 × Int)) :=
 if decide (s5.2<8) then
  z7n r1 s5.2 >>= fun x7 =>
  some ((256 * s5.1)+x7.toUInt64) >>= fun y9 =>
  some (w64 (s5.2+1)) >>= fun y10 =>
  some (.inr (y9,y10))
 else
  some (.inl s5.1)
def z84 (a0:List UInt8):Option (UInt64) :=
 zc2 a0 >>= fun r1 =>
 (iter (z5e r1) (0,0)) >>= fun s4 =>
 some s4
theorem zdk (a0:List UInt8):z1o Tryz.prog 148 [.rd (z02 u8R) a0] [] (z84 a0) (fun r nv=>⟨[.rd z2a r],[]⟩):=by
 refine z29 20 Tryz.func148 Z Z Z fun H w=>?_;refine gSR<|Zb Z<|gSR<|Zm Z<|Zc [] [] Tryz.func36 Z (zgk _) fun r1 n2=>Eb Z (z4i 1 z1z (.zr (R:=aZ) (x:=(Vector.replicate 32 0)) zef)) fun v3=>Es (sto 1 Z Z fH Z z1z)<|Zn<|gSR<|Zb Z<|z8d (fun (s4:UInt64) aa ww=>Sta (ctx 20 H [] w) [(4,.rd z2a s4)] [] aa ww) ?_ (fun s4=>?_)
 ·refine gSR<|Zb Z<|z24 (fun (s5:UInt64 × Int) aa ww=>Sta (ctx 20 H [] w) [(3,.val (z05 v3 0)),(4,.rd z2a s5.1),(5,.rd z0c s5.2)] [(1,some (v3,.box 31 [.rd aZ r1]))] aa ww) (fun aa ww h=>Zu h [1]) (fun s5=>?_);refine z0t<|gSR<|Zm Z<|Zq (I.lss Z Z)<|Zj Z (fun h6=>?_) (fun h6=>?_)
  ·refine Zt<|z0t<|z4m<|z2b<|Zm Z<|Zq (U.mul Z Z)<|Zm Z<|z0m fun x7 h8=>Zq (ixB 1 Z Z Z h8 tu31 ti5)<|Zq (ld 1 Z Z (fP (.el h8)) ty5 Z)<|Zq (B.toU Z tu5 tu49)<|Zq (U.add Z Z)<|Za Z<|z1x 4 Z fun y9=>z1n<|z3a<|z0n<|z2b<|Zm Z<|Zq (I.add Z Z)<|Za Z<|z1x 5 Z fun y10=>z1n<|z1j (fun aa ww h=>Zu h [1])
  ·refine z1w<|z0w<|z0y<|z3g (fun aa ww h=>Zu h [])
 ·refine gSR<|Zm Z<|Zb Z<|z0j<|Ze [] [] Z
def z5d (a0:UInt32) (a1:UInt32) (a2:List UInt8):Option (UInt32) :=
 z7x a0 >>= fun r2 =>
 app 1 [99] r2 >>= fun x4 =>
 z7x a1 >>= fun r7 =>
 app 1 x4 r7 >>= fun x9 =>
 app 1 x9 a2 >>= fun x12 =>
 z84 x12 >>= fun r15 =>
 some ((r15 % 500000003).toUInt32) >>= fun y17 =>
 some y17
theorem zbr (a0:UInt32) (a1:UInt32) (a2:List UInt8):z1o Tryz.prog 109 [.rd z0o a0,.rd z0o a1,.rd (z02 u8R) a2] [] (z5d a0 a1 a2) (fun r nv=>⟨[.rd z0o r],[]⟩):=by
 refine z29 21 Tryz.func109 Z Z Z fun H w=>?_;refine gSR<|Zb Z<|gSR<|Ef Z (lit (R:=u8R) ([99]:List UInt8) 1 (pP Z Z<|pN) Z tu74 ti5 Z Z) fun v1=>Zm Z<|Zc [] [(100,2)] Tryz.func147 Z (zbk _) fun r2 n3=>z0m fun x4 h5=>Ef Z (apn 1 Z Z Z (.own 2 Z) h5 tu74 ti5 Z Z Z) fun v6=>Zm Z<|Zc [] [(100,3)] Tryz.func147 Z (zbk _) fun r7 n8=>z0m fun x9 h10=>Ef Z (apn 1 Z Z Z (.own 3 Z) h10 tu74 ti5 Z Z Z) fun v11=>Zb Z<|gSR<|Zm Z<|Zm Z<|z0m fun x12 h13=>Ef Z (apn 1 Z Z Z .rd h13 tu74 ti5 Z Z Z) fun v14=>zf0 1 [17] Z (fS Z<|fN)<|Zc [] [] Tryz.func148 Z (zdk _) fun r15 n16=>Zq (U.rem Z Z (by decide))<|Zq (U.toW Z tu49 tu48)<|Za Z<|z1x 6 Z fun y17=>Zn<|z0j<|Ze [] [] Z
def zb8 (a0:UInt32) (a1:List UInt8) (a2:z09):Option (Bool) :=
 z3u a2.E >>= fun r2 =>
 if !r2 then
  some false
 else
  z3u a2.S >>= fun r5 =>
  if !r5 then
   some false
  else
   z5r a0 a2.E.toUInt64 >>= fun r8 =>
   zew r8 >>= fun r10 =>
   z5n a2.S >>= fun r12 =>
   zbj r12 r10.1 >>= fun r14 =>
   z5d r14 a0 a1 >>= fun r16 =>
   some (r16==a2.E)
theorem ziu (a0:UInt32) (a1:List UInt8) (a2:z09):z1o Tryz.prog 68 [.rd z0o a0,.rd (z02 u8R) a1,.rd z0e a2] [] (zb8 a0 a1 a2) (fun r nv=>⟨[.rd z0h r],[]⟩):=by
 refine z29 39 Tryz.func68 Z Z Z fun H w=>?_;refine gSR<|Eb Z (bx 1 Z) fun v1=>Zb Z<|z0t<|gSR<|Zq (faB 1 Z Z Tryz.underlying55 Z (by exact z61))<|Zq (ld 1 Z Z (fP (z4w _)) z9r Z)<|Zc [] [] Tryz.func67 Z (z64 _) fun r2 n3=>Zq (zex Z)<|Zm Z<|z19 13 Z (fun h4=>?_) (fun h4=>?_)
 ·refine lKn 12 Z h4<|Zk Z<|Zk Z<|Zk Z<|Zk Z<|Zq (pkT Z Z)<|Zn<|zhl Z<|gSR<|Zb Z<|z0j<|z0v<|Ze [] [] Z
 ·refine lKn 12 Z h4<|z17 Zx Z Z (faB 1 Z Z Tryz.underlying55 Z (by exact z61))<|z17 Zx Z Z (ld 1 Z Z (fP (z6r _)) z9r Z)<|ze9 [] [] Zx Z Tryz.func67 Z Z (z64 _) (Y1 Z) rN fun r5 n6=>z17 Zx Z Z (zex Z)<|Zq (pkF Z Z)<|Zj Z (fun h7=>?_) (fun h7=>?_)
  ·refine gKn 17 Z h7<|gSR<|Zb Z<|z0j<|z0v<|Ze [] [] Z
  ·refine gKn 17 Z h7<|Zt<|gSR<|Zm Z<|Zq (faB 1 Z Z Tryz.underlying55 Z (by exact z61))<|Zq (ld 1 Z Z (fP (z4w _)) z9r Z)<|Zq (W.toU Z tu48 tu49)<|Zc [] [] Tryz.func108 Z (zam _ _) fun r8 n9=>Zc [] [] Tryz.func107 Z (zl0 _) fun r10 n11=>Zm Z<|Zq (ext Z Z)<|Zq (ext Z Z)<|Za Z<|Zb Z<|z0t<|z8s [] mixed Z Z<|hTk 0 Z Z (faB 1 Z Z Tryz.underlying55 Z (by exact z61))<|hTk 1 Z Z (ld 1 Z Z (fP (z6r _)) z9r Z)<|hTk 3 Z Z (mv Z)<|hTk 5 Z Z (mv Z)<|hTk 6 Z Z (mv Z)<|hTk 8 Z Z (faB 1 Z Z Tryz.underlying55 Z (by exact z61))<|hTk 9 Z Z (ld 1 Z Z (fP (z4w _)) z9r Z)<|z41 2 [] [] Z (by kernel_rfl) Z (gd0 Z) Z Tryz.func77 Z Z (zab _) (Y1 Z) rN Z (fun _ _=>z2s) fun r12 n13=>z41 4 [] [] Z (by kernel_rfl) Z (gd0 Z) Z Tryz.func110 Z Z (zgy _ _) (Y2 Z Z) rN Z (fun _ _=>z2s) fun r14 n15=>z41 7 [] [] Z (by kernel_rfl) Z (gd0 Z) Z Tryz.func109 Z Z (zbr _ _ _) (aQ Z<|aQ Z<|aQ Z<|aN) rN Z (fun _ _=>z2s) fun r16 n17=>hTk 10 Z Z (W.eql Z Z)<|hTk 11 Z Z (asg Z)<|z54 (by kernel_rfl)<|z0n<|z0j<|Ze [] [] Z
def zcd (a0:z08):Option (Bool) :=
 z60 a0 >>= fun r2 =>
 zb8 a0.Author r2 a0.Sig >>= fun r4 =>
 some r4
theorem zi3 (a0:z08):z1o Tryz.prog 35 [.rd z03 a0] [] (zcd a0) (fun r nv=>⟨[.rd z0h r],[]⟩):=by
 refine z29 10 Tryz.func35 Z Z Z fun H w=>?_;refine gSR<|Eb Z (bx 1 Z) fun v1=>Zb Z<|z0t<|z8s [11] mixed Z Z<|hTk 0 Z Z (faB 1 Z Z Tryz.underlying57 Z (by exact z61))<|hTk 1 Z Z (ld 1 Z Z (fP (z2z _)) z9r Z)<|hTk 2 Z Z (ld 1 Z Z fH z9t Z)<|hTk 4 Z Z (faB 1 Z Z Tryz.underlying57 Z (by exact zll))<|hTk 5 Z Z (ld 1 Z Z (fP (z2g _)) ty55 Z)<|z41 3 [] [(100,11)] Z (by kernel_rfl) Z (gd0 Z) Z Tryz.func69 Z Z (zbz _) (Y1 Z) rN Z (fun _ _=>z2t) fun r2 n3=>zuq 11 [6] Z (fS Z<|fN)<|z41 6 [] [] Z (by kernel_rfl) Z (gd0 Z) Z Tryz.func68 Z Z (ziu _ _ _) (aQ Z<|aQ Z<|aQ Z<|aN) rN Z (fun _ _=>zc8) fun r4 n5=>hTk 7 Z Z (asg Z)<|z54 (by kernel_rfl)<|z0n<|z0j<|Ze [] [] Z
def z5p (a0:z08):Option (Int) :=
 z4f a0 >>= fun r2 =>
 if r2 != 0 then
  z4f a0 >>= fun r5 =>
  some r5
 else
  zcd a0 >>= fun r7 =>
  if !r7 then
   some 22
  else
   some 0
theorem zan (a0:z08):z1o Tryz.prog 17 [.rd z03 a0] [] (z5p a0) (fun r nv=>⟨[.rd z0c r],[]⟩):=by
 refine z29 11 Tryz.func17 Z Z Z fun H w=>?_;refine gSR<|Eb Z (bx 1 Z) fun v1=>Zb Z<|z0t<|gSR<|Zq (ld 1 Z Z fH z9t Z)<|Zc [] [] Tryz.func34 Z (z8n _) fun r2 n3=>Zq (I.neq Z Z)<|Zj Z (fun h4=>?_) (fun h4=>?_)
 ·refine gSR<|Zq (ld 1 Z Z fH z9t Z)<|Zc [] [] Tryz.func34 Z (z8n _) fun r5 n6=>Zb Z<|z0j<|z0v<|Ze [] [] Z
 ·refine Zt<|z0t<|gSR<|Zq (ld 1 Z Z fH z9t Z)<|Zc [] [] Tryz.func35 Z (zi3 _) fun r7 n8=>Zq (zex Z)<|Zj Z (fun h9=>?_) (fun h9=>?_)
  ·refine gSR<|Zb Z<|z0j<|z0v<|Ze [] [] Z
  ·refine Zt<|gSR<|Zb Z<|z0j<|Ze [] [] Z
end
section
open Go Go.RowKit
set_option maxRecDepth 100000
def z0l (a0:List V3) (a1:V3) (s4:Int × Int):Option (Sum Int (Int × Int)) :=
 if decide (s4.1<s4.2) then
  some (w64 ((z8f (UInt64.ofInt (w64 (s4.1+s4.2))) 1).toNat:Int)) >>= fun y6 =>
  idx a0 y6 >>= fun x7 =>
  z9b x7 a1 >>= fun r9 =>
  if decide (r9<0) then
   some (.inr (w64 (y6+1),s4.2))
  else
   some (.inr (s4.1,y6))
 else
  some (.inl s4.1)
def z0q (a0:List V3) (a1:V3):Option (Int × Bool) :=
 some (a0.length:Int) >>= fun y2 =>
 (iter (z0l a0 a1) (0,y2)) >>= fun s3 =>
 if decide (s3<y2) then
  idx a0 s3 >>= fun x13 =>
  z9b x13 a1 >>= fun r15 =>
  some (s3,r15==0)
 else
  some (s3,false)
theorem z4q (a0:List V3) (a1:V3):z1o Tryz.prog 98 [.rd (z02 aZ) a0,.rd aZ a1,.val (.func (.func 99) #[] #[])] [] (z0q a0 a1) (fun r nv=>⟨[.rd z0c r.1,.rd z0h r.2],[]⟩):=by
 refine z29 49 Tryz.func98 Z Z Z fun H w=>?_;refine gSR<|Eb Z (bx 1 Z) fun v1=>Za Z<|Zb Z<|gSR<|Zm Z<|Zq (z3h Z .rd Z tu22)<|Za Z<|z1x 8 Z fun y2=>Zn<|gSR<|Zm Z<|Za Z<|Zb Z<|z8d (fun (s3:Int) aa ww=>Sta (ctx 49 H [] w) [(0,.rd (z02 aZ) a0),(2,.val (.func (.func 99) #[] #[])),(4,.val (z05 v1 0)),(8,.rd z0c y2),(9,.rd z0c s3)] [(1,some (v1,.box 31 [.rd aZ a1]))] aa ww) ?_ (fun s3=>?_)
 ·refine z24 (fun (s4:Int × Int) aa ww=>Sta (ctx 49 H [] w) [(0,.rd (z02 aZ) a0),(2,.val (.func (.func 99) #[] #[])),(4,.val (z05 v1 0)),(8,.rd z0c y2),(9,.rd z0c s4.1),(10,.rd z0c s4.2)] [(1,some (v1,.box 31 [.rd aZ a1]))] aa ww) (fun aa ww h=>Zu h [1]) (fun s4=>?_);refine z0t<|gSR<|Zm Z<|Zm Z<|Zq (I.lss Z Z)<|Zj Z (fun h5=>?_) (fun h5=>?_)
  ·refine Zt<|z4m<|gSR<|Zm Z<|Zm Z<|Zq (I.add Z Z)<|Zq (I.toU Z tu3 Tryz.underlying125)<|Zq (U.shr Z Z (Int.natCast_nonneg _))<|Zq (U.toI Z Tryz.underlying125 tu3)<|Za Z<|z1x 11 Z fun y6=>Zn<|z0t<|z8s [] mixed Z Z<|hTk 0 Z Z (mv Z)<|hTk 1 Z Z (mv Z)<|hTk 2 Z Z (mv Z)<|z5o fun x7 h8=>hTk 3 Z Z (ixR Z Z h8 tu22 z1z Z)<|hTk 4 Z Z (ldR Z z3t)<|hTk 5 Z Z (ld 1 Z Z fH z3t Z)<|ztm 6 [] [] Z (by kernel_rfl) Z (gd0 Z) Z Tryz.func99 Z Z Z (zah _ _) (Y2 Z Z) (cN) Z rN Z (fun _ _=>z2s) fun r9 n10=>hTk 7 Z Z (I.lss Z Z)<|z54 (by kernel_rfl)<|z0n<|gIf Z Z (fun h11=>?_) (fun h11=>?_)
   ·refine z2b<|Zm Z<|Zq (I.add Z Z)<|Za Z<|z1n<|z3a<|z1j (fun aa ww h=>Zu h [1])
   ·refine z2b<|Zm Z<|Za Z<|z1n<|z3a<|z1j (fun aa ww h=>Zu h [1])
  ·refine z1w<|z0w<|z0y<|z3g (fun aa ww h=>Zu h [1])
 ·refine z0t<|z8s [] mixed Z Z<|hTk 0 Z Z (mv Z)<|hTk 1 Z Z (mv Z)<|hTk 2 Z Z (mv Z)<|hTk 3 Z Z (I.lss Z Z)<|hTk 4 Z Z (mv Z)<|hIf 39 Z Z (fun h12=>?_) (fun h12=>?_)
  ·refine hKn 38 Z Z h12<|Zg 5 Z Z (mv Z)<|Zg 6 Z Z (mv Z)<|Zg 7 Z Z (mv Z)<|z5o fun x13 h14=>Zg 8 Z Z (ixR Z Z h14 tu22 z1z Z)<|Zg 9 Z Z (ldR Z z3t)<|Zg 10 Z Z (ld 1 Z Z fH z3t Z)<|ztm 11 [] [] Z (by kernel_rfl) Z Zx Z Tryz.func99 Z Z Z (zah _ _) (Y2 Z Z) (cN) Z rN Z (fun _ _=>z2s) fun r15 n16=>Zg 12 Z Z (I.eql Z Z)<|hTk 13 Z Z (pkT Z Z)<|hTk 14 Z Z (asg Z)<|hTk 15 Z Z (asg Z)<|z54 (by kernel_rfl)<|z0n<|z0j<|Ze [] [] Z
  ·refine hKn 38 Z Z h12<|hSk 5 Z Z<|hSk 6 Z Z<|hSk 7 Z Z<|hSk 8 Z Z<|hSk 9 Z Z<|hSk 10 Z Z<|hSk 11 Z Z<|hSk 12 Z Z<|hTk 13 Z Z (pkF Z Z)<|hTk 14 Z Z (asg Z)<|hTk 15 Z Z (asg Z)<|z54 (by kernel_rfl)<|z0n<|z0j<|Ze [] [] Z
def zcs (a0:z00) (a1:V3):Option (Int × Bool) :=
 z0q a0.IDs a1 >>= fun r3 =>
 some (r3.1,r3.2)
theorem zdw (a0:z00) (a1:V3):z1o Tryz.prog 59 [.rd z01 a0,.rd aZ a1] [] (zcs a0 a1) (fun r nv=>⟨[.rd z0c r.1,.rd z0h r.2],[]⟩):=by
 refine z29 12 Tryz.func59 Z Z Z fun H w=>?_;refine gSR<|Eb Z (bx 1 Z) fun v1=>Eb Z (bx 2 Z) fun v2=>Za Z<|Zb Z<|gSR<|Zq (faB 1 Z Z Tryz.underlying25 Z (by exact z6b))<|Zq (ld 1 Z Z (fP (z0b _)) z93 Z)<|Zq (ld 2 Z Z fH z3t Z)<|Zc [] [] Tryz.func98 Z (z4q _ _) fun r3 n4=>Zq (ext Z Z)<|Zq (ext Z Z)<|Za Z<|Zb Z<|z0j<|Ze [] [] Z
def z9x (a0:z00) (s3:Int):Option (Sum (Sum Int Unit) Int) :=
 if decide (s3<(a0.IDs.length:Int)) then
  idx a0.IDs (w64 (s3 - 1)) >>= fun x5 =>
  idx a0.IDs s3 >>= fun x7 =>
  z9b x5 x7 >>= fun r9 =>
  if decide (0≤r9) then
   some (.inl (.inl 32))
  else
   some (.inr (w64 (s3+1)))
 else
  some (.inl (.inr ()))
def zbh (a0:z00) (s19:(List Int) × (List (List Int)) × (List Int) × Int) (x22:z08) (s26:(List (List Int)) × Int):Option (Sum (Sum (Sum (Sum Int ((List Int) × (List (List Int)) × (List Int))) ((List Int) × (List (List Int)) × (List Int) × Int)) ((List (List Int)))) ((List (List Int)) × Int)) :=
 if decide (s26.2<(x22.Preds.length:Int)) then
  idx x22.Preds s26.2 >>= fun x29 =>
  zcs a0 x29 >>= fun r32 =>
  if !r32.2 then
   some (.inl (.inl (.inl (.inl 40))))
  else
   idx s26.1 r32.1 >>= fun x35 =>
   app 8 x35 [s19.2.2.2] >>= fun x38 =>
   some (.inr (s26.1.set (r32.1:Int).toNat x38,w64 (s26.2+1)))
 else
  some (.inl (.inr s26.1))
def zbi (a0:z00) (s19:(List Int) × (List (List Int)) × (List Int) × Int):Option (Sum (Sum Int ((List Int) × (List (List Int)) × (List Int))) ((List Int) × (List (List Int)) × (List Int) × Int)) :=
 if decide (s19.2.2.2<(a0.Ops.length:Int)) then
  idx a0.Ops s19.2.2.2 >>= fun x22 =>
  z5u (iter (zbh a0 s19 x22) (s19.2.1,0)) fun s25 =>
  idx s19.1 s19.2.2.2 >>= fun x42 =>
  idx (s19.1.set (s19.2.2.2:Int).toNat (x22.Preds.length:Int)) s19.2.2.2 >>= fun x44 =>
  if x44==0 then
   app 8 s19.2.2.1 [s19.2.2.2] >>= fun x48 =>
   some (.inr (s19.1.set (s19.2.2.2:Int).toNat (x22.Preds.length:Int),s25,x48,w64 (s19.2.2.2+1)))
  else
   some (.inr (s19.1.set (s19.2.2.2:Int).toNat (x22.Preds.length:Int),s25,s19.2.2.1,w64 (s19.2.2.2+1)))
 else
  some (.inl (.inr (s19.1,s19.2.1,s19.2.2.1)))
def zbg (x59:List Int) (s61:(List Int) × (List Int) × Int):Option (Sum ((List Int) × (List Int)) ((List Int) × (List Int) × Int)) :=
 if decide (s61.2.2<(x59.length:Int)) then
  idx x59 s61.2.2 >>= fun x64 =>
  idx s61.1 x64 >>= fun x66 =>
  idx s61.1 x64 >>= fun x68 =>
  idx (s61.1.set (x64:Int).toNat (w64 (x66 - 1))) x64 >>= fun x70 =>
  if x70==0 then
   app 8 s61.2.1 [x64] >>= fun x74 =>
   some (.inr (s61.1.set (x64:Int).toNat (w64 (x66 - 1)),x74,w64 (s61.2.2+1)))
  else
   some (.inr (s61.1.set (x64:Int).toNat (w64 (x66 - 1)),s61.2.1,w64 (s61.2.2+1)))
 else
  some (.inl (s61.1,s61.2.1))
def zd1 (s18:(List Int) × (List (List Int)) × (List Int)) (s53:(List Int) × (List Int) × Int):Option (Sum Int ((List Int) × (List Int) × Int)) :=
 if decide (s53.2.2<(s53.2.1.length:Int)) then
  (idx s53.2.1 s53.2.2 >>= fun x57 =>
  idx s18.2.1 x57 >>= fun x59 =>
  iter (zbg x59) (s53.1,s53.2.1,0)) >>= fun s56 =>
  some (w64 (s53.2.2+1)) >>= fun y78 =>
  some (.inr (s56.1,s56.2,y78))
 else
  some (.inl s53.2.2)
def zkf (a0:z00):Option (Int) :=
 z5u (iter (z9x a0) 1) fun s2 =>
 mkn 8 0 (a0.Ops.length:Int) >>= fun x12 =>
 mkn 24 ([]:List Int) (a0.Ops.length:Int) >>= fun x15 =>
 z5u (iter (zbi a0) (x12,x15,[],0)) fun s18 =>
 (iter (zd1 s18) (s18.1,s18.2.2,0)) >>= fun s52 =>
 if decide (s52<(a0.Ops.length:Int)) then
  some 36
 else
  some 0
theorem zqz (a0:z00):z1o Tryz.prog 81 [.rd z01 a0] [] (zkf a0) (fun r nv=>⟨[.rd z0c r],[]⟩):=by
 refine z29 133 Tryz.func81 Z Z Z fun H w=>?_;refine gSR<|Eb Z (bx 1 Z) fun v1=>Zb Z<|z8g (fun (s2:Unit) aa ww=>Sta (ctx 133 H [] w) [(1,.val (z05 v1 0))] [(1,some (v1,.box 25 [.rd z01 a0]))] aa ww) ?_ (fun s2=>?_)
 ·refine gSR<|Zb Z<|z24 (fun (s3:Int) aa ww=>Sta (ctx 133 H [] w) [(1,.val (z05 v1 0)),(3,.rd z0c s3)] [(1,some (v1,.box 25 [.rd z01 a0]))] aa ww) (fun aa ww h=>h.sub [1] (sS Z<|sS Z<|sN) (y1 Z)) (fun s3=>?_);refine z0t<|gSR<|Zm Z<|Zq (faB 1 Z Z Tryz.underlying25 Z (by exact z6b))<|Zq (ld 1 Z Z (fP (z0b _)) z93 Z)<|Zq (z3h Z .rd Z tu22)<|Zq (I.lss Z Z)<|Zj Z (fun h4=>?_) (fun h4=>?_)
  ·refine Zt<|z0t<|z4m<|z0t<|z8s [] mixed Z Z<|hTk 0 Z Z (faB 1 Z Z Tryz.underlying25 Z (by exact z6b))<|hTk 1 Z Z (ld 1 Z Z (fP (z0b _)) z93 Z)<|hTk 2 Z Z (mv Z)<|hTk 3 Z Z (I.sub Z Z)<|z5o fun x5 h6=>hTk 4 Z Z (ixR Z Z h6 tu22 z1z Z)<|hTk 5 Z Z (ldR Z z3t)<|hTk 6 Z Z (faB 1 Z Z Tryz.underlying25 Z (by exact z6b))<|hTk 7 Z Z (ld 1 Z Z (fP (z0b _)) z93 Z)<|hTk 8 Z Z (mv Z)<|z5o fun x7 h8=>hTk 9 Z Z (ixR Z Z h8 tu22 z1z Z)<|hTk 10 Z Z (ldR Z z3t)<|z41 11 [] [] Z (by kernel_rfl) Z (gd0 Z) Z Tryz.func99 Z Z (zah _ _) (Y2 Z Z) rN Z (fun _ _=>z2s) fun r9 n10=>hTk 12 Z Z (I.geq Z Z)<|z54 (by kernel_rfl)<|z0n<|gIf Z Z (fun h11=>?_) (fun h11=>?_)
   ·refine gSR<|Zb Z<|z0j<|z3w<|z0v<|z7m<|z7j<|zb4 [] [] Z (eE Z<|eN) (rN)
   ·refine z2p<|z3a<|z0n<|z2b<|Zm Z<|Zq (I.add Z Z)<|Za Z<|z1n<|z1j (fun aa ww h=>h.sub [1] (sS Z<|sS Z<|sN) (y1 Z))
  ·refine z1w<|z0w<|z0y<|z7p (fun aa ww h=>h.sub [1] (sS Z<|sN) (y1 Z))
 ·refine gSR<|Zq (faB 1 Z Z Tryz.underlying25 Z (by exact zas))<|Zq (ld 1 Z Z (fP (z0a _)) zf4 Z)<|Zq (z3h Z .rd Z tu23)<|z0m fun x12 h13=>Ef Z (mks (R:=z0c) 44 Z Z h13 tu78 ti3 (Zr.num Z) Z) fun v14=>Zb Z<|gSR<|Zq (faB 1 Z Z Tryz.underlying25 Z (by exact zas))<|Zq (ld 1 Z Z (fP (z0a _)) zf4 Z)<|Zq (z3h Z .rd Z tu23)<|z0m fun x15 h16=>Ef Z (mksF 45 Z Z h16 Tryz.underlying154 ti78 Z) fun v17=>z186 (base:=100000) (lits:=[(1,some (v1,.box 25 [.rd z01 a0])),(44,some (v14,.list z0c 3 x12)),(45,some (v17,.list zim 78 (zc3 (fun _=>Value.slice none 0 0) x15)))]) z0c 3 [1,44,45] (z154 h16) (Zi Z<|Zi Z<|Zi Z<|rN)<|Zb Z<|gSR<|Zb Z<|z8g (fun (s18:(List Int) × (List (List Int)) × (List Int)) aa ww=>∃ nv:Nat→Value,Sta (ctx 133 H [] w) [(1,.val (z05 v1 0)),(4,.val v14),(5,.val v17),(6,.val (nv 0))] ([(1,some (v1,.box 25 [.rd z01 a0])),(44,some (v14,.list z0c 3 s18.1)),(45,some (v17,.list zim 78 (zc3 (fun j=>nv (j+1)) s18.2.1))),(50,some ((nv 0),.list z0c 3 s18.2.2))]++zqk 100000 z0c 3 (fun j=>nv (j+1)) s18.2.1 0) aa ww) ?_ (fun s18=>?_)
  ·refine gSR<|Zq (faB 1 Z Z Tryz.underlying25 Z (by exact zas))<|Zq (ld 1 Z Z (fP (z0a _)) zf4 Z)<|Zq (z3h Z .rd Z tu23)<|Zm Z<|Zn<|zuu z0c 3 56<|z24 (fun (s19:(List Int) × (List (List Int)) × (List Int) × Int) aa ww=>∃ nv:Nat→Value,Sta (ctx 133 H [] w) [(1,.val (z05 v1 0)),(4,.val v14),(5,.val v17),(6,.val (nv 0)),(45,.rd (z02 z03) a0.Ops),(46,.rd z0c (a0.Ops.length:Int)),(47,.rd z0c s19.2.2.2)] ([(1,some (v1,.box 25 [.rd z01 a0])),(44,some (v14,.list z0c 3 s19.1)),(45,some (v17,.list zim 78 (zc3 (fun j=>nv (j+1)) s19.2.1))),(55,some ((nv 0),.list z0c 3 s19.2.2.1))]++zqk 100000 z0c 3 (fun j=>nv (j+1)) s19.2.1 0) aa ww) (fun aa ww h=>⟨nvlF [(.slice none 0 0)] (fun _=>Value.slice none 0 0),h.subF (by repeat (first | refine z7l.cons Z ?_ | exact z7l.tail)) [1,44,45,56] (Zs Z Z Z Z<|sS Z<|sS Z<|sS Z<|sN) (Zi Z<|Zi Z<|Zi Z<|Zi Z<|rN) rfl⟩) (fun s19=>?_)
   refine gEx fun n20=>gSR<|Zq (I.lss Z Z)<|Zn<|z0t<|gIf Z Z (fun h21=>?_) (fun h21=>?_)
   ·refine Zt<|z0t<|z4m<|gSR<|Zm Z<|z0m fun x22 h23=>Zq (ixR Z Z h23 tu23 z5t Z)<|Zq (ldR Z z9t)<|Eb Z (z4i 57 z5t (ZrE.rd (R:=z0o) (x:=0) (Zr.num Z) (ZrE.nilS (ZrE.rd (R:=z2a) (x:=0) (Zr.num Z) (ZrE.rd (R:=z0d) (x:=(⟨0,[],(⟨0,0,0,[]⟩:z06)⟩:z0f)) zmk (ZrE.rd (R:=z0e) (x:=(⟨0,0⟩:z09)) zlr ZrE.nil Z) Z) Z)) Z)) fun v24=>Za Z<|z9m aZ [.rd z0o 0,.rd (z02 aZ) [],.rd z2a 0,.rd z0d (⟨0,[],(⟨0,0,0,[]⟩:z06)⟩:z0f),.rd z0e (⟨0,0⟩:z09)] 57 [.rd z0o 0] [.rd z2a 0,.rd z0d (⟨0,[],(⟨0,0,0,[]⟩:z06)⟩:z0f),.rd z0e (⟨0,0⟩:z09)] Z Z Z<|zbs (R:=z03) (⟨0,[],0,(⟨0,[],(⟨0,0,0,[]⟩:z06)⟩:z0f),(⟨0,0⟩:z09)⟩:z08) 57 Z (Sp.via (Sp.prod (Sp.prod (Sp.prod (Sp.prod (Sp.prod Sp.unit))))))<|Es (sto 57 Z Z fH Z z5t)<|Zn<|z8g (fun (s25:(List (List Int))) aa ww=>∃ nv:Nat→Value,Sta (ctx 133 H [] w) [(1,.val (z05 v1 0)),(4,.val v14),(5,.val v17),(6,.val (n20 0)),(7,.rd z0c s19.2.2.2),(8,.val (z05 v24 0)),(45,.rd (z02 z03) a0.Ops),(46,.rd z0c (a0.Ops.length:Int)),(47,.rd z0c s19.2.2.2)] ([(1,some (v1,.box 25 [.rd z01 a0])),(44,some (v14,.list z0c 3 s19.1)),(45,some (v17,.list zim 78 (zc3 (fun j=>nv (j+0)) s25))),(55,some ((n20 0),.list z0c 3 s19.2.2.1)),(57,some (v24,.box 57 [.rd z03 x22]))]++zqk 100000 z0c 3 (fun j=>nv (j+0)) s25 0) aa ww) ?_ (fun s25=>?_)
    ·refine gSR<|Zq (faB 57 Z Z Tryz.underlying57 Z (by exact z6b))<|Zq (ld 57 Z Z (fP (z0z _)) z93 Z)<|Zq (z3h Z .rd Z tu22)<|Zm Z<|Zn<|z24 (fun (s26:(List (List Int)) × Int) aa ww=>∃ nv:Nat→Value,Sta (ctx 133 H [] w) [(1,.val (z05 v1 0)),(4,.val v14),(5,.val v17),(6,.val (n20 0)),(7,.rd z0c s19.2.2.2),(8,.val (z05 v24 0)),(45,.rd (z02 z03) a0.Ops),(46,.rd z0c (a0.Ops.length:Int)),(47,.rd z0c s19.2.2.2),(53,.rd (z02 aZ) x22.Preds),(54,.rd z0c (x22.Preds.length:Int)),(55,.rd z0c s26.2)] ([(1,some (v1,.box 25 [.rd z01 a0])),(44,some (v14,.list z0c 3 s19.1)),(45,some (v17,.list zim 78 (zc3 (fun j=>nv (j+0)) s26.1))),(55,some ((n20 0),.list z0c 3 s19.2.2.1)),(57,some (v24,.box 57 [.rd z03 x22]))]++zqk 100000 z0c 3 (fun j=>nv (j+0)) s26.1 0) aa ww) (fun aa ww h=>⟨nvlF [] (fun j=>n20 (j+1)),h.subF (by repeat (first | refine z7l.cons Z ?_ | exact z7l.tail)) [1,44,45,55,57] (Zs Z Z Z Z<|Zs Z Z Z Z<|Zs Z Z Z Z<|sN) (Zi Z<|Zi Z<|Zi Z<|Zi Z<|Zi Z<|rN) rfl⟩) (fun s26=>?_)
     refine gEx fun n27=>gSR<|Zq (I.lss Z Z)<|Zn<|z0t<|gIf Z Z (fun h28=>?_) (fun h28=>?_)
     ·refine Zt<|z0t<|z4m<|gSR<|z0m fun x29 h30=>Zq (ixR Z Z h30 tu22 z1z Z)<|Zq (ldR Z z3t)<|Eb Z (z4i 58 z1z (.zr (R:=aZ) (x:=(Vector.replicate 32 0)) zef)) fun v31=>Es (sto 58 Z Z fH Z z1z)<|Zn<|gSR<|Zq (ld 1 Z Z fH z3k Z)<|Zq (ld 58 Z Z fH z3t Z)<|call [] [] Z Tryz.func59 Z Z (zdw _ _) (Y2 Z Z) rN fun r32 n33=>Zm Z<|Zq (ext Z Z)<|Zq (ext Z Z)<|Za Z<|Zb Z<|z0t<|gSR<|Zm Z<|Zq (zex Z)<|Zj Z (fun h34=>?_) (fun h34=>?_)
      ·refine gSR<|Zb Z<|z0j<|z0v<|z3w<|z0v<|z7m<|z7j<|z3w<|z0v<|z7m<|z7j<|zb4 [] [] Z (eE Z<|eN) (rN)
      ·refine Zt<|z2b<|Zm Z<|Zm Z<|Zm Z<|Zm Z<|z0m fun x35 h36=>Zq (ixO 45 Z Z Z (zpu h36) Tryz.underlying154 ti78)<|Zq (ldF 45 Z Z h36 ty78 Z)<|Zm Z<|Ef Z (lit (R:=z0c) ([s19.2.2.2]:List Int) 59 (pP Z Z<|pN) Z tu78 ti3 Z Z) fun v37=>z0m fun x38 h39=>lApF (base:=100000) (lits:=[(1,some (v1,.box 25 [.rd z01 a0])),(44,some (v14,.list z0c 3 s19.1)),(55,some ((n20 0),.list z0c 3 s19.2.2.1)),(57,some (v24,.box 57 [.rd z03 x22])),(58,some (v31,.box 31 [.rd aZ x29])),(59,some (v37,.list z0c 3 [s19.2.2.2]))]) 45 [1,44,55,57,58,59] (by repeat (first | refine z7l.cons Z ?_ | exact z7l.tail)) Z Z Z h36 Z Z Z Z (.own 59 Z) h39 Z (fun _ h=>by cases h; rfl) (fun _ h=>by cases h; rfl) Z Z tu78 ti3 Z Z Z Tryz.underlying154 ti78 ty78 (Zi Z<|Zi Z<|Zi Z<|Zi Z<|Zi Z<|Zi Z<|rN) Z fun v40=>z1n<|z3a<|z0n<|z2b<|Zq (I.add Z Z)<|Zm Z<|z1n<|z1j (fun aa ww h=>⟨nvlF [] (updF (fun j=>n27 (j+0)) (r32.1:Int).toNat v40),h.subF (by repeat (first | refine z7l.cons Z ?_ | exact z7l.tail)) [1,44,45,55,57] (Zs Z Z Z Z<|Zs Z Z Z Z<|Zs Z Z Z Z<|sN) (Zi Z<|Zi Z<|Zi Z<|Zi Z<|Zi Z<|rN) rfl⟩)
     ·refine z1w<|z0w<|z0y<|z7p (fun aa ww h=>⟨nvlF [] (fun j=>n27 (j+0)),h.subF (by repeat (first | refine z7l.cons Z ?_ | exact z7l.tail)) [1,44,45,55,57] (Zs Z Z Z Z<|Zs Z Z Z Z<|sS Z<|sN) (Zi Z<|Zi Z<|Zi Z<|Zi Z<|Zi Z<|rN) rfl⟩)
    ·refine gEx fun n41=>gSR<|Zm Z<|Zm Z<|Zq (faB 57 Z Z Tryz.underlying57 Z (by exact z6b))<|Zq (ld 57 Z Z (fP (z0z _)) z93 Z)<|Zq (z3h Z .rd Z tu22)<|z0m fun x42 h43=>Zq (ixO 44 Z Z Z h43 tu78 ti3)<|Es (sto 44 Z Z (Foc.el h43) Z ti3)<|Zn<|gSR<|Zm Z<|Zm Z<|z0m fun x44 h45=>Zq (ixO 44 Z Z Z h45 tu78 ti3)<|Zq (ld 44 Z Z (Foc.el h45) ty3 Z)<|Zq (I.eql Z Z)<|Zj Z (fun h46=>?_) (fun h46=>?_)
     ·refine z2b<|Zm Z<|Zm Z<|Ef Z (lit (R:=z0c) ([s19.2.2.2]:List Int) 60 (pP Z Z<|pN) Z tu78 ti3 Z Z) fun v47=>z0m fun x48 h49=>Ef Z (apn 55 Z Z Z (.own 60 Z) h49 tu78 ti3 Z Z Z) fun v50=>Za Z<|z1n<|z3a<|z0n<|z2b<|Zq (I.add Z Z)<|Zm Z<|z1n<|z1j (fun aa ww h=>⟨nvlF [v50] (fun j=>n41 (j+0)),h.subF (by repeat (first | refine z7l.cons Z ?_ | exact z7l.tail)) [1,44,45,55] (Zs Z Z Z Z<|sS Z<|sS Z<|sS Z<|sN) (Zi Z<|Zi Z<|Zi Z<|Zi Z<|rN) rfl⟩)
     ·refine z2p<|z3a<|z0n<|z2b<|Zq (I.add Z Z)<|Zm Z<|z1n<|z1j (fun aa ww h=>⟨nvlF [(n20 0)] (fun j=>n41 (j+0)),h.subF (by repeat (first | refine z7l.cons Z ?_ | exact z7l.tail)) [1,44,45,55] (Zs Z Z Z Z<|sS Z<|sS Z<|sS Z<|sN) (Zi Z<|Zi Z<|Zi Z<|Zi Z<|rN) rfl⟩)
   ·refine z1w<|z0w<|z0y<|z7p (fun aa ww h=>⟨nvlF [(n20 0)] (fun j=>n20 (j+1)),h.subF (by repeat (first | refine z7l.cons Z ?_ | exact z7l.tail)) [1,44,45,55] (Zs Z Z Z Z<|sN) (Zi Z<|Zi Z<|Zi Z<|Zi Z<|rN) rfl⟩)
  ·refine gEx fun n51=>gSR<|Zb Z<|z8d (fun (s52:Int) aa ww=>Sta (ctx 133 H [] w) [(1,.val (z05 v1 0)),(13,.rd z0c s52)] [(1,some (v1,.box 25 [.rd z01 a0]))] aa ww) ?_ (fun s52=>?_)
   ·refine z18f (base:=100000) (T:=3) (lits:=[(1,some (v1,.box 25 [.rd z01 a0])),(44,some (v14,.list z0c 3 s18.1)),(50,some ((n51 0),.list z0c 3 s18.2.2))]) (by repeat (first | refine z7l.cons Z ?_ | exact z7l.tail)) 45 Z [1,44,50] (Zi Z<|Zi Z<|Zi Z<|rN) Z Z<|z24 (fun (s53:(List Int) × (List Int) × Int) aa ww=>∃ nv:Nat→Value,Sta (ctx 133 H [] w) [(1,.val (z05 v1 0)),(4,.val v14),(5,.val v17),(6,.val (nv 0)),(13,.rd z0c s53.2.2)] [(1,some (v1,.box 25 [.rd z01 a0])),(44,some (v14,.list z0c 3 s53.1)),(45,some (v17,.list (z02 z0c) 78 s18.2.1)),(50,some ((nv 0),.list z0c 3 s53.2.1))] aa ww) (fun aa ww h=>⟨nvl [(n51 0)],h.sub [1,44,45,50] (Zs Z Z Z Z<|sS Z<|sN) (Zi Z<|Zi Z<|Zi Z<|Zi Z<|rN)⟩) (fun s53=>?_)
    refine gEx fun n54=>z0t<|gSR<|Zm Z<|Zm Z<|Zq (z3h Z (.own 50 Z) Z tu78)<|Zq (I.lss Z Z)<|Zj Z (fun h55=>?_) (fun h55=>?_)
    ·refine Zt<|z8d (fun (s56:(List Int) × (List Int)) aa ww=>∃ nv:Nat→Value,Sta (ctx 133 H [] w) [(1,.val (z05 v1 0)),(4,.val v14),(5,.val v17),(6,.val (nv 0)),(13,.rd z0c s53.2.2)] [(1,some (v1,.box 25 [.rd z01 a0])),(44,some (v14,.list z0c 3 s56.1)),(45,some (v17,.list (z02 z0c) 78 s18.2.1)),(50,some ((nv 0),.list z0c 3 s56.2))] aa ww) ?_ (fun s56=>?_)
     ·refine z4m<|gSR<|Zm Z<|Zm Z<|Zm Z<|z0m fun x57 h58=>Zq (ixO 50 Z Z Z h58 tu78 ti3)<|Zq (ld 50 Z Z (Foc.el h58) ty3 Z)<|z0m fun x59 h60=>Zq (ixO 45 Z Z Z h60 Tryz.underlying154 ti78)<|Zq (ld 45 Z Z (Foc.el h60) ty78 Z)<|Zq (z3h Z .rd Z tu78)<|Zm Z<|Zn<|z24 (fun (s61:(List Int) × (List Int) × Int) aa ww=>∃ nv:Nat→Value,Sta (ctx 133 H [] w) [(1,.val (z05 v1 0)),(4,.val v14),(5,.val v17),(6,.val (nv 0)),(13,.rd z0c s53.2.2),(106,.rd (z02 z0c) x59),(107,.rd z0c (x59.length:Int)),(108,.rd z0c s61.2.2)] [(1,some (v1,.box 25 [.rd z01 a0])),(44,some (v14,.list z0c 3 s61.1)),(45,some (v17,.list (z02 z0c) 78 s18.2.1)),(50,some ((nv 0),.list z0c 3 s61.2.1))] aa ww) (fun aa ww h=>⟨nvl [(n54 0)],h.sub [1,44,45,50] (Zs Z Z Z Z<|Zs Z Z Z Z<|sN) (Zi Z<|Zi Z<|Zi Z<|Zi Z<|rN)⟩) (fun s61=>?_)
      refine gEx fun n62=>gSR<|Zq (I.lss Z Z)<|Zn<|z0t<|gIf Z Z (fun h63=>?_) (fun h63=>?_)
      ·refine Zt<|z0t<|z4m<|gSR<|z0m fun x64 h65=>Zq (ixR Z Z h65 tu78 ti3 Z)<|Zq (ldR Z ty3)<|Zb Z<|gSR<|Zm Z<|Zm Z<|z0m fun x66 h67=>Zq (ixO 44 Z Z Z h67 tu78 ti3)<|Zq (ld 44 Z Z (Foc.el h67) ty3 Z)<|Zq (I.sub Z Z)<|z0m fun x68 h69=>Zq (ixO 44 Z Z Z h69 tu78 ti3)<|Es (sto 44 Z Z (Foc.el h69) Z ti3)<|Zn<|gSR<|Zm Z<|Zm Z<|z0m fun x70 h71=>Zq (ixO 44 Z Z Z h71 tu78 ti3)<|Zq (ld 44 Z Z (Foc.el h71) ty3 Z)<|Zq (I.eql Z Z)<|Zj Z (fun h72=>?_) (fun h72=>?_)
       ·refine z2b<|Zm Z<|Zm Z<|Ef Z (lit (R:=z0c) ([x64]:List Int) 61 (pP Z Z<|pN) Z tu78 ti3 Z Z) fun v73=>z0m fun x74 h75=>Ef Z (apn 50 Z Z Z (.own 61 Z) h75 tu78 ti3 Z Z Z) fun v76=>Za Z<|z1n<|z3a<|z0n<|z2b<|Zq (I.add Z Z)<|Zm Z<|z1n<|z1j (fun aa ww h=>⟨nvl [v76],h.sub [1,44,45,50] (Zs Z Z Z Z<|Zs Z Z Z Z<|sN) (Zi Z<|Zi Z<|Zi Z<|Zi Z<|rN)⟩)
       ·refine z2p<|z3a<|z0n<|z2b<|Zq (I.add Z Z)<|Zm Z<|z1n<|z1j (fun aa ww h=>⟨nvl [(n62 0)],h.sub [1,44,45,50] (Zs Z Z Z Z<|Zs Z Z Z Z<|sN) (Zi Z<|Zi Z<|Zi Z<|Zi Z<|rN)⟩)
      ·refine z1w<|z0w<|z0y<|z3a<|z3g (fun aa ww h=>⟨nvl [(n62 0)],h.sub [1,44,45,50] (Zs Z Z Z Z<|sS Z<|sN) (Zi Z<|Zi Z<|Zi Z<|Zi Z<|rN)⟩)
     ·refine gEx fun n77=>z2b<|Zm Z<|Zq (I.add Z Z)<|Za Z<|z1x 13 Z fun y78=>z1n<|z1j (fun aa ww h=>⟨nvl [(n77 0)],h.sub [1,44,45,50] (Zs Z Z Z Z<|sS Z<|sN) (Zi Z<|Zi Z<|Zi Z<|Zi Z<|rN)⟩)
    ·refine z1w<|z0w<|z0y<|z3g (fun aa ww h=>h.sub [1] (sS Z<|sS Z<|sN) (y1 Z))
   ·refine z0t<|gSR<|Zm Z<|Zq (faB 1 Z Z Tryz.underlying25 Z (by exact zas))<|Zq (ld 1 Z Z (fP (z0a _)) zf4 Z)<|Zq (z3h Z .rd Z tu23)<|Zq (I.lss Z Z)<|Zj Z (fun h79=>?_) (fun h79=>?_)
    ·refine gSR<|Zb Z<|z0j<|z0v<|zb4 [] [] Z (eE Z<|eN) (rN)
    ·refine Zt<|gSR<|Zb Z<|z0j<|zb4 [] [] Z (eE Z<|eN) (rN)
def zd0 (a0:z00) (s5:Int):Option (Sum (Sum Int Unit) Int) :=
 if decide (s5<(a0.Ops.length:Int)) then
  idx a0.Ops s5 >>= fun x7 =>
  z10r x7 >>= fun r10 =>
  (if r10.2 != 0 then
   some true
  else
   idx a0.IDs s5 >>= fun x15 =>
   if !decide (r10.1=x15) then
    some true
   else
    zhd x7 >>= fun r18 =>
    some (r18 != 0)) >>= fun s13 =>
  if s13 then
   some (.inl (.inl 8))
  else
   some (.inr (w64 (s5+1)))
 else
  some (.inl (.inr ()))
def z11 (a0:z00):Option (Int) :=
 if decide (60<(a0.Ops.length:Int)) then
  some 4
 else
  if (a0.IDs.length:Int) != (a0.Ops.length:Int) then
   some 8
  else
   z5u (iter (zd0 a0) 0) fun s4 =>
   zkf a0 >>= fun r21 =>
   some r21
theorem z9y (a0:z00):z1o Tryz.prog 43 [.rd z01 a0] [zG1] (z11 a0) (fun r nv=>⟨[.rd z0c r],[(1001,some (.bool true,.glob 1 (z3b 64 z0o) z52))]⟩):=by
 refine z29 50 Tryz.func43 Z Z Z fun H w=>?_;refine gSR<|Eb Z (bx 1 Z) fun v1=>Zb Z<|z0t<|gSR<|Zq (faB 1 Z Z Tryz.underlying25 Z (by exact zas))<|Zq (ld 1 Z Z (fP (z0a _)) zf4 Z)<|Zq (z3h Z .rd Z tu23)<|Zq (I.gtr Z Z)<|Zj Z (fun h2=>?_) (fun h2=>?_)
 ·refine gSR<|Zb Z<|z0j<|z0v<|Ze [] [1001] Z
 ·refine Zt<|z0t<|gSR<|Zq (faB 1 Z Z Tryz.underlying25 Z (by exact z6b))<|Zq (ld 1 Z Z (fP (z0b _)) z93 Z)<|Zq (z3h Z .rd Z tu22)<|Zq (faB 1 Z Z Tryz.underlying25 Z (by exact zas))<|Zq (ld 1 Z Z (fP (z0a _)) zf4 Z)<|Zq (z3h Z .rd Z tu23)<|Zq (I.neq Z Z)<|Zj Z (fun h3=>?_) (fun h3=>?_)
  ·refine gSR<|Zb Z<|z0j<|z0v<|Ze [] [1001] Z
  ·refine Zt<|z8g (fun (s4:Unit) aa ww=>Sta (ctx 50 H [zG1] w) [(1,.val (z05 v1 0))] [(1,some (v1,.box 25 [.rd z01 a0])),zG1] aa ww) ?_ (fun s4=>?_)
   ·refine gSR<|Zq (faB 1 Z Z Tryz.underlying25 Z (by exact zas))<|Zq (ld 1 Z Z (fP (z0a _)) zf4 Z)<|Zq (z3h Z .rd Z tu23)<|Zm Z<|Zn<|z24 (fun (s5:Int) aa ww=>Sta (ctx 50 H [zG1] w) [(1,.val (z05 v1 0)),(19,.rd (z02 z03) a0.Ops),(20,.rd z0c (a0.Ops.length:Int)),(21,.rd z0c s5)] [(1,some (v1,.box 25 [.rd z01 a0])),zG1] aa ww) (fun aa ww h=>Zu h [1,1001]) (fun s5=>?_);refine gSR<|Zq (I.lss Z Z)<|Zn<|z0t<|gIf Z Z (fun h6=>?_) (fun h6=>?_)
    ·refine Zt<|z0t<|z4m<|gSR<|Zm Z<|z0m fun x7 h8=>Zq (ixR Z Z h8 tu23 z5t Z)<|Zq (ldR Z z9t)<|Eb Z (z4i 1100 z5t (ZrE.rd (R:=z0o) (x:=0) (Zr.num Z) (ZrE.nilS (ZrE.rd (R:=z2a) (x:=0) (Zr.num Z) (ZrE.rd (R:=z0d) (x:=(⟨0,[],(⟨0,0,0,[]⟩:z06)⟩:z0f)) zmk (ZrE.rd (R:=z0e) (x:=(⟨0,0⟩:z09)) zlr ZrE.nil Z) Z) Z)) Z)) fun v9=>Za Z<|z9m aZ [.rd z0o 0,.rd (z02 aZ) [],.rd z2a 0,.rd z0d (⟨0,[],(⟨0,0,0,[]⟩:z06)⟩:z0f),.rd z0e (⟨0,0⟩:z09)] 1100 [.rd z0o 0] [.rd z2a 0,.rd z0d (⟨0,[],(⟨0,0,0,[]⟩:z06)⟩:z0f),.rd z0e (⟨0,0⟩:z09)] Z Z Z<|zbs (R:=z03) (⟨0,[],0,(⟨0,[],(⟨0,0,0,[]⟩:z06)⟩:z0f),(⟨0,0⟩:z09)⟩:z08) 1100 Z (Sp.via (Sp.prod (Sp.prod (Sp.prod (Sp.prod (Sp.prod Sp.unit))))))<|Es (sto 1100 Z Z fH Z z5t)<|Zn<|gSR<|Zq (ld 1100 Z Z fH z9t Z)<|Zc [1001] [] Tryz.func79 Z (zvj _) fun r10 n11=>Zm Z<|Zq (ext Z Z)<|Zq (ext Z Z)<|Eb Z (z4i 1101 z1z (.zr (R:=aZ) (x:=(Vector.replicate 32 0)) zef)) fun v12=>Es (sto 1101 Z Z fH Z z1z)<|Zb Z<|z8d (fun (s13:Bool) aa ww=>Sta (ctx 50 H [zG1] w) [(1,.val (z05 v1 0)),(19,.rd (z02 z03) a0.Ops),(20,.rd z0c (a0.Ops.length:Int)),(21,.rd z0c s5),(46,.rd z0h s13)] [(1,some (v1,.box 25 [.rd z01 a0])),zG1] aa ww) ?_ (fun s13=>?_)
     ·refine z8s [1001] mixed Z Z<|hTk 0 Z Z (mv Z)<|hTk 1 Z Z (I.neq Z Z)<|hTk 2 Z Z (mv Z)<|hIf 33 Z Z (fun h14=>?_) (fun h14=>?_)
      ·refine hKn 32 Z Z h14<|hSk 3 Z Z<|hSk 4 Z Z<|hSk 5 Z Z<|hSk 6 Z Z<|hSk 7 Z Z<|hSk 8 Z Z<|hSk 9 Z Z<|hTk 10 Z Z (pkT Z Z)<|hTk 11 Z Z (mv Z)<|hSk 12 Z Z<|hSk 13 Z Z<|hSk 14 Z Z<|hTk 15 Z Z (pkT Z Z)<|z54 (by kernel_rfl)<|z3g (fun aa ww h=>Zu h [1,1001])
      ·refine hKn 32 Z Z h14<|Zg 3 Z Z (ld 1101 Z Z fH z3t Z)<|Zg 4 Z Z (faB 1 Z Z Tryz.underlying25 Z (by exact z6b))<|Zg 5 Z Z (ld 1 Z Z (fP (z0b _)) z93 Z)<|Zg 6 Z Z (mv Z)<|z5o fun x15 h16=>Zg 7 Z Z (ixR Z Z h16 tu22 z1z Z)<|Zg 8 Z Z (ldR Z z3t)<|Zg 9 Z Z (neA Z Z eq31 Z Z gq31)<|hTk 10 Z Z (pkF Z Z)<|hTk 11 Z Z (mv Z)<|hIf 42 Z Z (fun h17=>?_) (fun h17=>?_)
       ·refine hKn 40 Z Z h17<|hKn 41 Z Z h17<|hSk 12 Z Z<|hSk 13 Z Z<|hSk 14 Z Z<|hTk 15 Z Z (pkT Z Z)<|z54 (by kernel_rfl)<|z3g (fun aa ww h=>Zu h [1,1001])
       ·refine hKn 40 Z Z h17<|hKn 41 Z Z h17<|Zg 12 Z Z (ld 1100 Z Z fH z9t Z)<|z41 13 [1001] [] Z (by kernel_rfl) Z Zx Z Tryz.func80 Z Z (zln _) (Y1 Z) (y1 Z) Z (fun _ _=>z2s) fun r18 n19=>Zg 14 Z Z (I.neq Z Z)<|hTk 15 Z Z (pkF Z Z)<|z54 (by kernel_rfl)<|z3g (fun aa ww h=>Zu h [1,1001])
     ·refine gIf Z Z (fun h20=>?_) (fun h20=>?_)
      ·refine gSR<|Zb Z<|z0j<|z3w<|z0v<|z7m<|z7j<|Ze [] [1001] Z
      ·refine z2p<|z3a<|z0n<|z2b<|Zq (I.add Z Z)<|Zm Z<|z1n<|z1j (fun aa ww h=>Zu h [1,1001])
    ·refine z1w<|z0w<|z0y<|z7p (fun aa ww h=>Zu h [1,1001])
   ·refine gSR<|Zq (ld 1 Z Z fH z3k Z)<|Zc [] [] Tryz.func81 Z (zqz _) fun r21 n22=>Zb Z<|z0j<|Ze [] [1001] Z
def z90 (a0:List V3) (a1:V3) (s3:Int):Option (Sum (Sum Int Unit) Int) :=
 if decide (s3<(a0.length:Int)) then
  idx a0 s3 >>= fun x5 =>
  if decide (x5=a1) then
   some (.inl (.inl s3))
  else
   some (.inr (w64 (s3+1)))
 else
  some (.inl (.inr ()))
def z5l (a0:List V3) (a1:V3):Option (Int) :=
 z5u (iter (z90 a0 a1) 0) fun s2 =>
 some (-1)
theorem zgm (a0:List V3) (a1:V3):z1o Tryz.prog 19 [.rd (z02 aZ) a0,.rd aZ a1] [] (z5l a0 a1) (fun r nv=>⟨[.rd z0c r],[]⟩):=by
 refine z29 19 Tryz.func19 Z Z Z fun H w=>?_;refine gSR<|Eb Z (bx 1 Z) fun v1=>Zb Z<|z8g (fun (s2:Unit) aa ww=>Sta (ctx 19 H [] w) [] [] aa ww) ?_ (fun s2=>?_)
 ·refine gSR<|Zb Z<|z24 (fun (s3:Int) aa ww=>Sta (ctx 19 H [] w) [(0,.rd (z02 aZ) a0),(3,.val (z05 v1 0)),(5,.rd z0c s3)] [(1,some (v1,.box 31 [.rd aZ a1]))] aa ww) (fun aa ww h=>Zu h [1]) (fun s3=>?_);refine z0t<|gSR<|Zm Z<|Zm Z<|Zq (z3h Z .rd Z tu22)<|Zq (I.lss Z Z)<|Zj Z (fun h4=>?_) (fun h4=>?_)
  ·refine Zt<|z0t<|z4m<|z0t<|zid mixed (by kernel_rfl)<|Rq Z (mv Z)<|Rq Z (mv Z)<|z8e fun x5 h6=>Rq Z (ixR Z Z h6 tu22 z1z Z)<|Rq Z (ldR Z z3t)<|Rq Z (ld 1 Z Z fH z3t Z)<|Rq Z (eqA Z Z eq31 Z Z gq31)<|zss<|z0n<|gIf Z Z (fun h7=>?_) (fun h7=>?_)
   ·refine gSR<|Zm Z<|Zb Z<|z0j<|z3w<|z0v<|z7m<|z7j<|Ze [] [] Z
   ·refine z2p<|z3a<|z0n<|z2b<|Zm Z<|Zq (I.add Z Z)<|Za Z<|z1n<|z1j (fun aa ww h=>Zu h [1])
  ·refine z1w<|z0w<|z0y<|z7p (fun aa ww h=>Zu h [])
 ·refine gSR<|Zb Z<|z0j<|Ze [] [] Z
def z8a (a0:List V3) (a1:List V3) (s2:Int):Option (Sum (Sum Bool Unit) Int) :=
 if decide (s2<(a1.length:Int)) then
  idx a1 s2 >>= fun x4 =>
  z5l a0 x4 >>= fun r6 =>
  if decide (r6<0) then
   some (.inl (.inl false))
  else
   some (.inr (w64 (s2+1)))
 else
  some (.inl (.inr ()))
def z47 (a0:List V3) (a1:List V3):Option (Bool) :=
 z5u (iter (z8a a0 a1) 0) fun s1 =>
 some true
theorem zkt (a0:List V3) (a1:List V3):z1o Tryz.prog 40 [.rd (z02 aZ) a0,.rd (z02 aZ) a1] [] (z47 a0 a1) (fun r nv=>⟨[.rd z0h r],[]⟩):=by
 refine z29 19 Tryz.func40 Z Z Z fun H w=>?_;refine gSR<|Zb Z<|z8g (fun (s1:Unit) aa ww=>Sta (ctx 19 H [] w) [] [] aa ww) ?_ (fun s1=>?_)
 ·refine gSR<|Zb Z<|z24 (fun (s2:Int) aa ww=>Sta (ctx 19 H [] w) [(0,.rd (z02 aZ) a0),(1,.rd (z02 aZ) a1),(5,.rd z0c s2)] [] aa ww) (fun aa ww h=>Zu h []) (fun s2=>?_);refine z0t<|gSR<|Zm Z<|Zm Z<|Zq (z3h Z .rd Z tu22)<|Zq (I.lss Z Z)<|Zj Z (fun h3=>?_) (fun h3=>?_)
  ·refine Zt<|z0t<|z4m<|gSR<|Zm Z<|Zm Z<|Zm Z<|z0m fun x4 h5=>Zq (ixR Z Z h5 tu22 z1z Z)<|Zq (ldR Z z3t)<|Zc [] [] Tryz.func19 Z (zgm _ _) fun r6 n7=>Zq (I.lss Z Z)<|Zj Z (fun h8=>?_) (fun h8=>?_)
   ·refine gSR<|Zb Z<|z0j<|z3w<|z0v<|z7m<|z7j<|Ze [] [] Z
   ·refine z2p<|z3a<|z0n<|z2b<|Zm Z<|Zq (I.add Z Z)<|Za Z<|z1n<|z1j (fun aa ww h=>Zu h [])
  ·refine z1w<|z0w<|z0y<|z7p (fun aa ww h=>Zu h [])
 ·refine gSR<|Zb Z<|z0j<|Ze [] [] Z
theorem zit (a0:List V3) (q0:Value) (l0:List V3) (a1:V3):z1o Tryz.prog 19 [.vw aZ q0 l0 a0,.rd aZ a1] [(1,some (q0,.list aZ 31 l0))] (z5l a0 a1) (fun r nv=>⟨[.rd z0c r],[(1,some (q0,.list aZ 31 l0))]⟩):=by
 refine z29 19 Tryz.func19 Z Z Z fun H w=>?_;refine gSR<|Eb Z (bx 2 Z) fun v1=>Zb Z<|z8g (fun (s2:Unit) aa ww=>Sta (ctx 19 H [(1,some (q0,.list aZ 31 l0))] w) [] [(1,some (q0,.list aZ 31 l0))] aa ww) ?_ (fun s2=>?_)
 ·refine gSR<|Zb Z<|z24 (fun (s3:Int) aa ww=>Sta (ctx 19 H [(1,some (q0,.list aZ 31 l0))] w) [(0,.vw aZ q0 l0 a0),(3,.val (z05 v1 0)),(5,.rd z0c s3)] [(1,some (q0,.list aZ 31 l0)),(2,some (v1,.box 31 [.rd aZ a1]))] aa ww) (fun aa ww h=>Zu h [1,2]) (fun s3=>?_);refine z0t<|gSR<|Zm Z<|Zm Z<|Zq (z3h Z (.vw 1 Z) Z tu22)<|Zq (I.lss Z Z)<|Zj Z (fun h4=>?_) (fun h4=>?_)
  ·refine Zt<|z0t<|z4m<|z0t<|zid mixed (by kernel_rfl)<|Rq Z (mv Z)<|Rq Z (mv Z)<|z8e fun x5 h6=>Rq Z (ixQ 1 Z Z Z h6 tu22 z1z)<|Rq Z (ldQ 1 Z Z z3t Z)<|Rq Z (ld 2 Z Z fH z3t Z)<|Rq Z (eqA Z Z eq31 Z Z gq31)<|zss<|z0n<|gIf Z Z (fun h7=>?_) (fun h7=>?_)
   ·refine gSR<|Zm Z<|Zb Z<|z0j<|z3w<|z0v<|z7m<|z7j<|Ze [] [1] Z
   ·refine z2p<|z3a<|z0n<|z2b<|Zm Z<|Zq (I.add Z Z)<|Za Z<|z1n<|z1j (fun aa ww h=>Zu h [1,2])
  ·refine z1w<|z0w<|z0y<|z7p (fun aa ww h=>Zu h [1])
 ·refine gSR<|Zb Z<|z0j<|Ze [] [1] Z
theorem zi9 (a0:List V3) (q0:Value) (l0:List V3) (a1:List V3):z1o Tryz.prog 40 [.vw aZ q0 l0 a0,.rd (z02 aZ) a1] [(1,some (q0,.list aZ 31 l0))] (z47 a0 a1) (fun r nv=>⟨[.rd z0h r],[(1,some (q0,.list aZ 31 l0))]⟩):=by
 refine z29 19 Tryz.func40 Z Z Z fun H w=>?_;refine gSR<|Zb Z<|z8g (fun (s1:Unit) aa ww=>Sta (ctx 19 H [(1,some (q0,.list aZ 31 l0))] w) [] [(1,some (q0,.list aZ 31 l0))] aa ww) ?_ (fun s1=>?_)
 ·refine gSR<|Zb Z<|z24 (fun (s2:Int) aa ww=>Sta (ctx 19 H [(1,some (q0,.list aZ 31 l0))] w) [(0,.vw aZ q0 l0 a0),(1,.rd (z02 aZ) a1),(5,.rd z0c s2)] [(1,some (q0,.list aZ 31 l0))] aa ww) (fun aa ww h=>Zu h [1]) (fun s2=>?_);refine z0t<|gSR<|Zm Z<|Zm Z<|Zq (z3h Z .rd Z tu22)<|Zq (I.lss Z Z)<|Zj Z (fun h3=>?_) (fun h3=>?_)
  ·refine Zt<|z0t<|z4m<|gSR<|Zm Z<|Zm Z<|Zm Z<|z0m fun x4 h5=>Zq (ixR Z Z h5 tu22 z1z Z)<|Zq (ldR Z z3t)<|Zc [1] [(1,1)] Tryz.func19 Z (zit _ _ _ _) fun r6 n7=>Zq (I.lss Z Z)<|Zj Z (fun h8=>?_) (fun h8=>?_)
   ·refine gSR<|Zb Z<|z0j<|z3w<|z0v<|z7m<|z7j<|Ze [] [1] Z
   ·refine z2p<|z3a<|z0n<|z2b<|Zm Z<|Zq (I.add Z Z)<|Za Z<|z1n<|z1j (fun aa ww h=>Zu h [1])
  ·refine z1w<|z0w<|z0y<|z7p (fun aa ww h=>Zu h [1])
 ·refine gSR<|Zb Z<|z0j<|Ze [] [1] Z
def z3s (a0:z00) (s6:(List Int) × (List V3) × (List Bool) × Bool) (s9:Int):Option (Sum (Sum ((List Int)) ((List Int) × (List V3) × (List Bool) × Bool)) Int) :=
 if decide (s9<(a0.Ops.length:Int)) then
  (idx s6.2.2.1 s9 >>= fun x12 =>
  if !x12 then
   idx a0.Ops s9 >>= fun x15 =>
   z47 s6.2.1 x15.Preds >>= fun r17 =>
   some r17
  else
   some false) >>= fun s11 =>
  if s11 then
   app 8 s6.1 [s9] >>= fun x20 =>
   idx a0.IDs s9 >>= fun x22 =>
   app 32 s6.2.1 [x22] >>= fun x24 =>
   idx s6.2.2.1 s9 >>= fun x26 =>
   some (.inl (.inr (x20,x24,s6.2.2.1.set (s9:Int).toNat true,true)))
  else
   some (.inr (w64 (s9+1)))
 else
  some (.inl (.inr (s6.1,s6.2.1,s6.2.2.1,false)))
def z8p (a0:z00) (s6:(List Int) × (List V3) × (List Bool) × Bool):Option (Sum ((List Int)) ((List Int) × (List V3) × (List Bool) × Bool)) :=
 if s6.2.2.2 then
  iter (z3s a0 s6) 0
 else
  some (.inl s6.1)
def zbb (a0:z00):Option ((List Int)) :=
 mkn 1 false (a0.Ops.length:Int) >>= fun x2 =>
 (iter (z8p a0) ([],[],x2,true)) >>= fun s5 =>
 some s5
set_option maxHeartbeats 4000000 in
theorem ziz (a0:z00):z1o Tryz.prog 41 [.rd z01 a0] [] (zbb a0) (fun r nv=>⟨[.val (nv 0)],[(100,some (nv 0,.list z0c 3 r))]⟩):=by
 refine z29 51 Tryz.func41 Z Z Z fun H w=>?_;refine gSR<|Eb Z (bx 1 Z) fun v1=>Zb Z<|gSR<|Zb Z<|gSR<|Zb Z<|gSR<|Zq (faB 1 Z Z Tryz.underlying25 Z (by exact zas))<|Zq (ld 1 Z Z (fP (z0a _)) zf4 Z)<|Zq (z3h Z .rd Z tu23)<|z0m fun x2 h3=>Ef Z (mks (R:=z0h) 2 Z Z h3 tu115 ti4 Zr.bool Z) fun v4=>Zb Z<|z8d (fun (s5:(List Int)) aa ww=>∃ nv:Nat→Value,Sta (ctx 51 H [] w) [(3,.val (nv 0))] [(3,some ((nv 0),.list z0c 3 s5))] aa ww) ?_ (fun s5=>?_)
 ·refine gSR<|Zb Z<|zuu z0c 3 6<|zuu aZ 31 7<|z24 (fun (s6:(List Int) × (List V3) × (List Bool) × Bool) aa ww=>∃ nv:Nat→Value,Sta (ctx 51 H [] w) [(1,.val (z05 v1 0)),(3,.val (nv 0)),(4,.val (nv 1)),(5,.val v4),(6,.rd z0h s6.2.2.2)] [(1,some (v1,.box 25 [.rd z01 a0])),(4,some ((nv 0),.list z0c 3 s6.1)),(5,some ((nv 1),.list aZ 31 s6.2.1)),(2,some (v4,.list z0h 4 s6.2.2.1))] aa ww) (fun aa ww h=>⟨nvl [(.slice none 0 0),(.slice none 0 0)],Zu h [1,6,7,2]⟩) (fun s6=>?_)
  refine gEx fun n7=>z0t<|gSR<|Zm Z<|Zj Z (fun h8=>?_) (fun h8=>?_)
  ·refine gKn 6 Z h8<|Zt<|z4m<|gSR<|Zb Z<|gSR<|Zb Z<|z24 (fun (s9:Int) aa ww=>Sta (ctx 51 H [] w) [(1,.val (z05 v1 0)),(3,.val (n7 0)),(4,.val (n7 1)),(5,.val v4),(6,.rd z0h false),(7,.rd z0c s9)] [(1,some (v1,.box 25 [.rd z01 a0])),(4,some ((n7 0),.list z0c 3 s6.1)),(5,some ((n7 1),.list aZ 31 s6.2.1)),(2,some (v4,.list z0h 4 s6.2.2.1))] aa ww) (fun aa ww h=>Zu h [1,4,5,2]) (fun s9=>?_);refine z0t<|gSR<|Zm Z<|Zq (faB 1 Z Z Tryz.underlying25 Z (by exact zas))<|Zq (ld 1 Z Z (fP (z0a _)) zf4 Z)<|Zq (z3h Z .rd Z tu23)<|Zq (I.lss Z Z)<|Zj Z (fun h10=>?_) (fun h10=>?_)
   ·refine Zt<|z0t<|z4m<|z8d (fun (s11:Bool) aa ww=>Sta (ctx 51 H [] w) [(1,.val (z05 v1 0)),(3,.val (n7 0)),(4,.val (n7 1)),(5,.val v4),(6,.rd z0h false),(7,.rd z0c s9),(34,.rd z0h s11)] [(1,some (v1,.box 25 [.rd z01 a0])),(4,some ((n7 0),.list z0c 3 s6.1)),(5,some ((n7 1),.list aZ 31 s6.2.1)),(2,some (v4,.list z0h 4 s6.2.2.1))] aa ww) ?_ (fun s11=>?_)
    ·refine z2b<|Zm Z<|Zm Z<|z0m fun x12 h13=>Zq (ixO 2 Z Z Z h13 tu115 ti4)<|Zq (ld 2 Z Z (Foc.el h13) ty4 Z)<|Zq (zex Z)<|Zm Z<|z19 25 Z (fun h14=>?_) (fun h14=>?_)
     ·refine lKn 24 Z h14<|z17 Zx Z Z (mv Z)<|z17 Zx Z Z (faB 1 Z Z Tryz.underlying25 Z (by exact zas))<|z17 Zx Z Z (ld 1 Z Z (fP (z0a _)) zf4 Z)<|z17 Zx Z Z (mv Z)<|z0m fun x15 h16=>z17 Zx Z Z (ixR Z Z h16 tu23 z5t Z)<|z17 Zx Z Z (faR Z (z0z _) Tryz.underlying57 Z Z (by exact z6b))<|z17 Zx Z Z (ldR Z z93)<|ze9 [5] [(1,5)] Zx Z Tryz.func40 Z Z (zi9 _ _ _ _) (aW Z<|aQ Z<|aN) (y1 Z) fun r17 n18=>Zq (pkT Z Z)<|z1n<|z3g (fun aa ww h=>Zu h [1,4,5,2])
     ·refine lKn 24 Z h14<|Zk Z<|Zk Z<|Zk Z<|Zk Z<|Zk Z<|Zk Z<|Zk Z<|Zk Z<|Zq (pkF Z Z)<|z1n<|z3g (fun aa ww h=>Zu h [1,4,5,2])
    ·refine gIf Z Z (fun h19=>?_) (fun h19=>?_)
     ·refine z0t<|zps [(3,.val (n7 0)),(4,.val (n7 1)),(1,.val (z05 v1 0)),(5,.val v4),(7,.rd z0c s9)] [(1,some (v1,.box 25 [.rd z01 a0])),(4,some ((n7 0),.list z0c 3 s6.1)),(5,some ((n7 1),.list aZ 31 s6.2.1)),(2,some (v4,.list z0h 4 s6.2.2.1))] [1,4,5,2] (Zs Z Z Z Z<|sS Z<|sN) (Zi Z<|Zi Z<|Zi Z<|Zi Z<|rN)<|z43 fun x20 h21=>z43 fun x22 h23=>z43 fun x24 h25=>z43 fun x26 h27=>gOr [(3,.val (n7 0),14),(4,.val (n7 1),15)] [⟨8,none,[(4,some ([1], fun nv=>((nv 1),.list z0c 3 [s9])))]⟩,⟨4,some ([], fun nv=>((n7 0),.list z0c 3 s6.1)),[(5,some ([2], fun nv=>((nv 2),.list z0c 3 x20)))]⟩,⟨1,some ([], fun nv=>(v1,.box 25 [.rd z01 a0])),[]⟩,⟨9,none,[(12,none)]⟩,⟨5,some ([], fun nv=>((n7 1),.list aZ 31 s6.2.1)),[(13,some ([4], fun nv=>((nv 4),.list aZ 31 x24)))]⟩,⟨2,some ([], fun nv=>(v4,.list z0h 4 s6.2.2.1)),[(17,some ([], fun nv=>(v4,.list z0h 4 (s6.2.2.1.set (s9:Int).toNat true))))]⟩] [pd 35 (.val v4),pd 36 (.rd z0c s9),⟨some (37,[], fun nv=>.val (n7 0)),[],[],[0]⟩,pd 38 (.rd z0c s9),⟨some (39,[1], fun nv=>.val (nv 1)),[(0,0,true)],[1],[]⟩,⟨some (40,[2], fun nv=>.val (nv 2)),[(1,0,true),(0,1,false)],[2],[]⟩,⟨some (41,[], fun nv=>.val (n7 1)),[],[],[1]⟩,pk 42 (.val (z05 v1 (0+0))) [(2,0,false)],pk 43 (.rd (z02 aZ) a0.IDs) [(2,0,false)],pd 44 (.rd z0c s9),pd 45 (.rp aZ x22),pd 46 (.rd aZ x22),⟨some (47,[], fun nv=>.rd (z02 aZ) [x22]),[(3,0,true)],[3],[]⟩,⟨some (48,[4], fun nv=>.val (nv 4)),[(4,0,true)],[4],[]⟩,⟨some (3,[2], fun nv=>.val (nv 2)),[],[],[]⟩,⟨some (4,[4], fun nv=>.val (nv 4)),[],[],[]⟩,pk 49 (.val (z05 v4 ((s9:Int).toNat * 1))) [(5,0,false)],⟨none,[(5,0,true)],[],[]⟩,pd 6 (.rd z0h true)] mixed (oC (oRn (fun nv E=>mv Z))<|oC (oRn (fun nv E=>mv Z))<|oC (oRn (fun nv E=>mv Z))<|oC (oRn (fun nv E=>mv Z))<|oC (oEf 8 1 (fun nv E=>lit (R:=z0c) ([s9]:List Int) 8 (pP Z Z<|pN) Z tu78 ti3 Z Z))<|oC (oEf 4 2 (fun nv E=>apn 4 Z Z Z (.own 8 Z) h21 tu78 ti3 Z Z Z))<|oC (oRn (fun nv E=>mv Z))<|oC (oRn (fun nv E=>faB 1 Z Z Tryz.underlying25 Z (by exact z6b)))<|oC (oRn (fun nv E=>ld 1 Z Z (fP (z0b _)) z93 Z))<|oC (oRn (fun nv E=>mv Z))<|oC (oRn (fun nv E=>ixR Z Z h23 tu22 z1z Z))<|oC (oRn (fun nv E=>ldR Z z3t))<|oC (oFz (A1:=fun nv=>[(9,some ((nv 3),.list aZ 31 [x22]))]) 9 3 (oEf 9 3 (fun nv E=>lit (R:=aZ) ([x22]:List V3) 9 (pP Z Z<|pN) Z tu22 z1z Z Z)))<|oC (oEf 5 4 (fun nv E=>apn 5 Z Z Z .rd h25 tu22 z1z Z Z Z))<|oC (oRn (fun nv E=>asg Z))<|oC (oRn (fun nv E=>asg Z))<|oC (oRn (fun nv E=>ixO 2 Z Z Z h27 tu115 ti4))<|oC (oEs 2 (fun nv E=>sto 2 Z Z (Foc.el h27) Z ti4))<|oC (oRn (fun nv E=>asg Z))<|oN) fun n28=>z0n<|z1w<|z14g Z<|z0w<|z0y<|z3a<|z1j (fun aa ww h=>⟨nvl [(n28 2),(n28 4)],Zu h [1,4,5,2]⟩)
     ·refine z2p<|z3a<|z0n<|z2b<|Zm Z<|Zq (I.add Z Z)<|Za Z<|z1n<|z1j (fun aa ww h=>Zu h [1,4,5,2])
   ·refine z1w<|z0w<|z0y<|z3a<|z1j (fun aa ww h=>⟨nvl [(n7 0),(n7 1)],Zu h [1,4,5,2]⟩)
  ·refine gKn 6 Z h8<|z1w<|z0w<|z0y<|z3g (fun aa ww h=>⟨nvl [(n7 0)],Zu h [4]⟩)
 ·refine gEx fun n29=>gSR<|Zm Z<|Zb Z<|z0j<|Ze [(n29 0)] [3] Z
def z5x (a0:z00) (s6:Int):Option (Sum (Sum Int Unit) Int) :=
 if decide (s6<(a0.Ops.length:Int)) then
  idx a0.Ops s6 >>= fun x8 =>
  z47 a0.IDs x8.Preds >>= fun r10 =>
  if !r10 then
   some (.inl (.inl 40))
  else
   some (.inr (w64 (s6+1)))
 else
  some (.inl (.inr ()))
def z6j (a0:z00):Option (Int) :=
 z80 a0.IDs >>= fun r2 =>
 if !r2 then
  some 32
 else
  z5u (iter (z5x a0) 0) fun s5 =>
  zbb a0 >>= fun r13 =>
  if decide ((r13.length:Int)<(a0.Ops.length:Int)) then
   some 36
  else
   some 0
theorem zbe (a0:z00):z1o Tryz.prog 21 [.rd z01 a0] [] (z6j a0) (fun r nv=>⟨[.rd z0c r],[]⟩):=by
 refine z29 32 Tryz.func21 Z Z Z fun H w=>?_;refine gSR<|Eb Z (bx 1 Z) fun v1=>Zb Z<|z0t<|gSR<|Zq (faB 1 Z Z Tryz.underlying25 Z (by exact z6b))<|Zq (ld 1 Z Z (fP (z0b _)) z93 Z)<|Zc [] [] Tryz.func39 Z (zdj _) fun r2 n3=>Zq (zex Z)<|Zj Z (fun h4=>?_) (fun h4=>?_)
 ·refine gSR<|Zb Z<|z0j<|z0v<|Ze [] [] Z
 ·refine Zt<|z8g (fun (s5:Unit) aa ww=>Sta (ctx 32 H [] w) [(1,.val (z05 v1 0))] [(1,some (v1,.box 25 [.rd z01 a0]))] aa ww) ?_ (fun s5=>?_)
  ·refine gSR<|Zb Z<|z24 (fun (s6:Int) aa ww=>Sta (ctx 32 H [] w) [(1,.val (z05 v1 0)),(3,.rd z0c s6)] [(1,some (v1,.box 25 [.rd z01 a0]))] aa ww) (fun aa ww h=>Zu h [1]) (fun s6=>?_);refine z0t<|gSR<|Zm Z<|Zq (faB 1 Z Z Tryz.underlying25 Z (by exact zas))<|Zq (ld 1 Z Z (fP (z0a _)) zf4 Z)<|Zq (z3h Z .rd Z tu23)<|Zq (I.lss Z Z)<|Zj Z (fun h7=>?_) (fun h7=>?_)
   ·refine Zt<|z0t<|z4m<|z0t<|z8s [] mixed Z Z<|hTk 0 Z Z (faB 1 Z Z Tryz.underlying25 Z (by exact z6b))<|hTk 1 Z Z (ld 1 Z Z (fP (z0b _)) z93 Z)<|hTk 2 Z Z (faB 1 Z Z Tryz.underlying25 Z (by exact zas))<|hTk 3 Z Z (ld 1 Z Z (fP (z0a _)) zf4 Z)<|hTk 4 Z Z (mv Z)<|z5o fun x8 h9=>hTk 5 Z Z (ixR Z Z h9 tu23 z5t Z)<|hTk 6 Z Z (faR Z (z0z _) Tryz.underlying57 Z Z (by exact z6b))<|hTk 7 Z Z (ldR Z z93)<|z41 8 [] [] Z (by kernel_rfl) Z (gd0 Z) Z Tryz.func40 Z Z (zkt _ _) (Y2 Z Z) rN Z (fun _ _=>zc8) fun r10 n11=>hTk 9 Z Z (zex Z)<|z54 (by kernel_rfl)<|z0n<|gIf Z Z (fun h12=>?_) (fun h12=>?_)
    ·refine gSR<|Zb Z<|z0j<|z3w<|z0v<|z7m<|z7j<|Ze [] [] Z
    ·refine z2p<|z3a<|z0n<|z2b<|Zm Z<|Zq (I.add Z Z)<|Za Z<|z1n<|z1j (fun aa ww h=>Zu h [1])
   ·refine z1w<|z0w<|z0y<|z7p (fun aa ww h=>Zu h [1])
  ·refine z0t<|z0t<|z8s [38] mixed Z Z<|hTk 0 Z Z (ld 1 Z Z fH z3k Z)<|hTk 3 Z Z (faB 1 Z Z Tryz.underlying25 Z (by exact zas))<|hTk 4 Z Z (ld 1 Z Z (fP (z0a _)) zf4 Z)<|hTk 5 Z Z (z3h Z .rd Z tu23)<|z41 1 [] [(100,38)] Z (by kernel_rfl) Z (gd0 Z) Z Tryz.func41 Z Z (ziz _) (Y1 Z) rN Z (fun _ _=>z2t) fun r13 n14=>Zf 2 Z Z z2s (z3h Z (.own 38 Z) Z tu78)<|hTk 6 Z Z (I.lss Z Z)<|z54 (by kernel_rfl)<|z0n<|gIf Z Z (fun h15=>?_) (fun h15=>?_)
   ·refine gSR<|Zb Z<|z0j<|z0v<|Ze [] [] Z
   ·refine Zt<|gSR<|Zb Z<|z0j<|Ze [] [] Z
def z63 (a0:z00) (s5:Int):Option (Sum (Sum Int Unit) Int) :=
 if decide (s5<(a0.Ops.length:Int)) then
  idx a0.Ops s5 >>= fun x7 =>
  z5p x7 >>= fun r9 =>
  if r9 != 0 then
   some (.inl (.inl 8))
  else
   idx a0.Ops s5 >>= fun x12 =>
   idx a0.IDs s5 >>= fun x14 =>
   z3p x12 >>= fun r16 =>
   if !decide (r16=x14) then
    some (.inl (.inl 8))
   else
    some (.inr (w64 (s5+1)))
 else
  some (.inl (.inr ()))
def z2y (a0:z00):Option (Int) :=
 if decide (60<(a0.Ops.length:Int)) then
  some 4
 else
  if (a0.IDs.length:Int) != (a0.Ops.length:Int) then
   some 8
  else
   z5u (iter (z63 a0) 0) fun s4 =>
   z6j a0 >>= fun r19 =>
   some r19
theorem zj2 (a0:z00):z1o Tryz.prog 7 [.rd z01 a0] [] (z2y a0) (fun r nv=>⟨[.rd z0c r],[]⟩):=by
 refine z29 45 Tryz.func7 Z Z Z fun H w=>?_;refine gSR<|Eb Z (bx 1 Z) fun v1=>Zb Z<|z0t<|gSR<|Zq (faB 1 Z Z Tryz.underlying25 Z (by exact zas))<|Zq (ld 1 Z Z (fP (z0a _)) zf4 Z)<|Zq (z3h Z .rd Z tu23)<|Zq (I.gtr Z Z)<|Zj Z (fun h2=>?_) (fun h2=>?_)
 ·refine gSR<|Zb Z<|z0j<|z0v<|Ze [] [] Z
 ·refine Zt<|z0t<|gSR<|Zq (faB 1 Z Z Tryz.underlying25 Z (by exact z6b))<|Zq (ld 1 Z Z (fP (z0b _)) z93 Z)<|Zq (z3h Z .rd Z tu22)<|Zq (faB 1 Z Z Tryz.underlying25 Z (by exact zas))<|Zq (ld 1 Z Z (fP (z0a _)) zf4 Z)<|Zq (z3h Z .rd Z tu23)<|Zq (I.neq Z Z)<|Zj Z (fun h3=>?_) (fun h3=>?_)
  ·refine gSR<|Zb Z<|z0j<|z0v<|Ze [] [] Z
  ·refine Zt<|z8g (fun (s4:Unit) aa ww=>Sta (ctx 45 H [] w) [(1,.val (z05 v1 0))] [(1,some (v1,.box 25 [.rd z01 a0]))] aa ww) ?_ (fun s4=>?_)
   ·refine gSR<|Zb Z<|z24 (fun (s5:Int) aa ww=>Sta (ctx 45 H [] w) [(1,.val (z05 v1 0)),(3,.rd z0c s5)] [(1,some (v1,.box 25 [.rd z01 a0]))] aa ww) (fun aa ww h=>Zu h [1]) (fun s5=>?_);refine z0t<|gSR<|Zm Z<|Zq (faB 1 Z Z Tryz.underlying25 Z (by exact zas))<|Zq (ld 1 Z Z (fP (z0a _)) zf4 Z)<|Zq (z3h Z .rd Z tu23)<|Zq (I.lss Z Z)<|Zj Z (fun h6=>?_) (fun h6=>?_)
    ·refine Zt<|z0t<|z4m<|z0t<|z8s [] mixed Z Z<|hTk 0 Z Z (faB 1 Z Z Tryz.underlying25 Z (by exact zas))<|hTk 1 Z Z (ld 1 Z Z (fP (z0a _)) zf4 Z)<|hTk 2 Z Z (mv Z)<|z5o fun x7 h8=>hTk 3 Z Z (ixR Z Z h8 tu23 z5t Z)<|hTk 4 Z Z (ldR Z z9t)<|z41 5 [] [] Z (by kernel_rfl) Z (gd0 Z) Z Tryz.func17 Z Z (zan _) (Y1 Z) rN Z (fun _ _=>z2s) fun r9 n10=>hTk 6 Z Z (I.neq Z Z)<|hTk 7 Z Z (mv Z)<|hIf 29 Z Z (fun h11=>?_) (fun h11=>?_)
     ·refine hKn 28 Z Z h11<|hSk 8 Z Z<|hSk 9 Z Z<|hSk 10 Z Z<|hSk 11 Z Z<|hSk 12 Z Z<|hSk 13 Z Z<|hSk 14 Z Z<|hSk 15 Z Z<|hSk 16 Z Z<|hSk 17 Z Z<|hSk 18 Z Z<|hSk 19 Z Z<|hTk 20 Z Z (pkT Z Z)<|z54 (by kernel_rfl)<|z0n<|zhl Z<|gSR<|Zb Z<|z0j<|z3w<|z0v<|z7m<|z7j<|Ze [] [] Z
     ·refine hKn 28 Z Z h11<|Zg 8 Z Z (faB 1 Z Z Tryz.underlying25 Z (by exact zas))<|Zg 9 Z Z (ld 1 Z Z (fP (z0a _)) zf4 Z)<|Zg 10 Z Z (mv Z)<|z5o fun x12 h13=>Zg 11 Z Z (ixR Z Z h13 tu23 z5t Z)<|Zg 12 Z Z (ldR Z z9t)<|Zg 14 Z Z (faB 1 Z Z Tryz.underlying25 Z (by exact z6b))<|Zg 15 Z Z (ld 1 Z Z (fP (z0b _)) z93 Z)<|Zg 16 Z Z (mv Z)<|z5o fun x14 h15=>Zg 17 Z Z (ixR Z Z h15 tu22 z1z Z)<|Zg 18 Z Z (ldR Z z3t)<|zlu 13 [] [] Z (by kernel_rfl) Z Zx Z Tryz.func18 Z Z (z4e _) (Y1 Z) rN Z fun r16 n17=>zym 19 Z (by kernel_rfl) (by kernel_rfl) (by kernel_rfl) Zx Z Z zc8 (neA Z Z eq31 Z Z gq31)<|hTk 20 Z Z (pkF Z Z)<|z54 (by kernel_rfl)<|z0n<|gIf Z Z (fun h18=>?_) (fun h18=>?_)
      ·refine gKn 41 Z h18<|gSR<|Zb Z<|z0j<|z3w<|z0v<|z7m<|z7j<|Ze [] [] Z
      ·refine gKn 41 Z h18<|z2p<|z3a<|z0n<|z2b<|Zm Z<|Zq (I.add Z Z)<|Za Z<|z1n<|z1j (fun aa ww h=>Zu h [1])
    ·refine z1w<|z0w<|z0y<|z7p (fun aa ww h=>Zu h [1])
   ·refine gSR<|Zq (ld 1 Z Z fH z3k Z)<|Zc [] [] Tryz.func21 Z (zbe _) fun r19 n20=>Zb Z<|z0j<|Ze [] [] Z
end
section
open Go Go.RowKit
set_option maxRecDepth 100000
def z4c (a0:z00) (s4:(List (V3 × Int)) × Int):Option (Sum ((List (V3 × Int))) ((List (V3 × Int)) × Int)) :=
 if decide (s4.2<(a0.IDs.length:Int)) then
  idx a0.IDs s4.2 >>= fun x6 =>
  some (.inr (zsu s4.1 x6 s4.2,w64 (s4.2+1)))
 else
  some (.inl s4.1)
def z48 (a0:z00):Option ((List (V3 × Int))) :=
 (iter (z4c a0) (([]:List (V3 × Int)),0)) >>= fun s3 =>
 some s3
theorem z9j (a0:z00):z1o Tryz.prog 89 [.rd z01 a0] [] (z48 a0) (fun r nv=>⟨[.val (nv 0)],[(100,some (nv 0,.map aZ z0c r))]⟩):=by
 refine z29 23 Tryz.func89 Z Z Z fun H w=>?_;refine gSR<|Eb Z (bx 1 Z) fun v1=>Zb Z<|gSR<|Zq (faB 1 Z Z Tryz.underlying25 Z (by exact z6b))<|Zq (ld 1 Z Z (fP (z0b _)) z93 Z)<|Zq (z3h Z .rd Z tu22)<|Ef Z (mkm aZ z0c 2 (Or.inr ⟨_,_,Z,rfl⟩) Tryz.underlying128) fun v2=>Zb Z<|z8d (fun (s3:(List (V3 × Int))) aa ww=>Sta (ctx 23 H [] w) [(3,.val v2)] [(2,some (v2,.map aZ z0c s3))] aa ww) ?_ (fun s3=>?_)
 ·refine gSR<|Zq (faB 1 Z Z Tryz.underlying25 Z (by exact z6b))<|Zq (ld 1 Z Z (fP (z0b _)) z93 Z)<|Zq (z3h Z .rd Z tu22)<|Zm Z<|Zn<|z24 (fun (s4:(List (V3 × Int)) × Int) aa ww=>Sta (ctx 23 H [] w) [(3,.val v2),(11,.rd (z02 aZ) a0.IDs),(12,.rd z0c (a0.IDs.length:Int)),(13,.rd z0c s4.2)] [(2,some (v2,.map aZ z0c s4.1))] aa ww) (fun aa ww h=>Zu h [2]) (fun s4=>?_);refine gSR<|Zq (I.lss Z Z)<|Zn<|z0t<|gIf Z Z (fun h5=>?_) (fun h5=>?_)
  ·refine Zt<|z0t<|z4m<|gSR<|Zm Z<|z0m fun x6 h7=>Zq (ixR Z Z h7 tu22 z1z Z)<|Zq (ldR Z z3t)<|Eb Z (z4i 3 z1z (.zr (R:=aZ) (x:=(Vector.replicate 32 0)) zef)) fun v8=>Za Z<|Es (sto 3 Z Z fH Z z1z)<|Zn<|z2b<|Zm Z<|Zq (ld 3 Z Z fH z3t Z)<|Zm Z<|Es (mup 2 Z Z Z Z ky31 Tryz.underlying128)<|z1n<|z3a<|z0n<|z2b<|Zq (I.add Z Z)<|Zm Z<|z1n<|z1j (fun aa ww h=>Zu h [2])
  ·refine z1w<|z0w<|z0y<|z3g (fun aa ww h=>Zu h [2])
 ·refine gSR<|Zm Z<|Zb Z<|z0j<|Ze [v2] [2] Z
def z6o (a0:z00) (a1:List Bool) (s3:(List V3) × Int):Option (Sum ((List V3)) ((List V3) × Int)) :=
 if decide (s3.2<(a1.length:Int)) then
  idx a1 s3.2 >>= fun x6 =>
  if x6 then
   idx a0.IDs s3.2 >>= fun x9 =>
   app 32 s3.1 [x9] >>= fun x12 =>
   some (.inr (x12,w64 (s3.2+1)))
  else
   some (.inr (s3.1,w64 (s3.2+1)))
 else
  some (.inl s3.1)
def zc5 (a0:z00) (a1:List Bool):Option ((List V3)) :=
 (iter (z6o a0 a1) ([],0)) >>= fun s2 =>
 some s2
theorem zk5 (a0:z00) (a1:List Bool):z1o Tryz.prog 102 [.rd z01 a0,.rd (z02 z0h) a1] [] (zc5 a0 a1) (fun r nv=>⟨[.val (nv 0)],[(100,some (nv 0,.list aZ 31 r))]⟩):=by
 refine z29 26 Tryz.func102 Z Z Z fun H w=>?_;refine gSR<|Eb Z (bx 1 Z) fun v1=>Zb Z<|gSR<|Zb Z<|z8d (fun (s2:(List V3)) aa ww=>∃ nv:Nat→Value,Sta (ctx 26 H [] w) [(5,.val (nv 0))] [(3,some ((nv 0),.list aZ 31 s2))] aa ww) ?_ (fun s2=>?_)
 ·refine gSR<|Zm Z<|Zq (z3h Z .rd Z tu115)<|Zm Z<|Zn<|zuu aZ 31 6<|z24 (fun (s3:(List V3) × Int) aa ww=>∃ nv:Nat→Value,Sta (ctx 26 H [] w) [(1,.rd (z02 z0h) a1),(2,.val (z05 v1 0)),(5,.val (nv 0)),(8,.rd z0c (a1.length:Int)),(9,.rd z0c s3.2)] [(1,some (v1,.box 25 [.rd z01 a0])),(5,some ((nv 0),.list aZ 31 s3.1))] aa ww) (fun aa ww h=>⟨nvl [(.slice none 0 0)],Zu h [1,6]⟩) (fun s3=>?_);refine gEx fun n4=>gSR<|Zq (I.lss Z Z)<|Zn<|z0t<|gIf Z Z (fun h5=>?_) (fun h5=>?_)
  ·refine Zt<|z0t<|z4m<|gSR<|Zm Z<|Zb Z<|gSR<|Zm Z<|Zm Z<|z0m fun x6 h7=>Zq (ixR Z Z h7 tu115 ti4 Z)<|Zq (ldR Z ty4)<|Zj Z (fun h8=>?_) (fun h8=>?_)
   ·refine z2b<|Zm Z<|Zq (faB 1 Z Z Tryz.underlying25 Z (by exact z6b))<|Zq (ld 1 Z Z (fP (z0b _)) z93 Z)<|Zm Z<|z0m fun x9 h10=>Zq (ixR Z Z h10 tu22 z1z Z)<|Zq (ldR Z z3t)<|Ef Z (lit (R:=aZ) ([x9]:List V3) 7 (pP Z Z<|pN) Z tu22 z1z Z Z) fun v11=>zf0 7 [22] Z (fS Z<|fN)<|z0m fun x12 h13=>Ef Z (apn 5 Z Z Z .rd h13 tu22 z1z Z Z Z) fun v14=>Za Z<|z1n<|z3a<|z0n<|z2b<|Zq (I.add Z Z)<|Zm Z<|z1n<|z1j (fun aa ww h=>⟨nvl [v14],Zu h [1,5]⟩)
   ·refine z2p<|z3a<|z0n<|z2b<|Zq (I.add Z Z)<|Zm Z<|z1n<|z1j (fun aa ww h=>⟨nvl [(n4 0)],Zu h [1,5]⟩)
  ·refine z1w<|z0w<|z0y<|z3g (fun aa ww h=>⟨nvl [(n4 0)],Zu h [5]⟩)
 ·refine gEx fun n15=>gSR<|Zm Z<|Zb Z<|z0j<|Ze [(n15 0)] [3] Z
def z87 (x7:List Bool) (s11:(List Bool) × Int):Option (Sum ((List Bool)) ((List Bool) × Int)) :=
 if decide (s11.2<(x7.length:Int)) then
  idx s11.1 s11.2 >>= fun x13 =>
  some (.inr (s11.1.set (s11.2:Int).toNat true,w64 (s11.2+1)))
 else
  some (.inl s11.1)
def z7y (r5:(List (V3 × Int))) (x19:z08) (s22:(List Bool) × Int):Option (Sum ((List Bool)) ((List Bool) × Int)) :=
 if decide (s22.2<(x19.Preds.length:Int)) then
  idx x19.Preds s22.2 >>= fun x24 =>
  idx s22.1 ((zj9 r5 x24).getD 0) >>= fun x27 =>
  some (.inr (s22.1.set ((zj9 r5 x24).getD 0:Int).toNat false,w64 (s22.2+1)))
 else
  some (.inl s22.1)
def z81 (a0:z00) (r5:(List (V3 × Int))) (s16:(List Bool) × Int):Option (Sum ((List Bool)) ((List Bool) × Int)) :=
 if decide (s16.2<(a0.Ops.length:Int)) then
  (idx a0.Ops s16.2 >>= fun x19 =>
  iter (z7y r5 x19) (s16.1,0)) >>= fun s18 =>
  some (.inr (s18,w64 (s16.2+1)))
 else
  some (.inl s16.1)
def z7b (a0:z00):Option ((List V3) × Int) :=
 z11 a0 >>= fun r2 =>
 if r2 != 0 then
  some ([],r2)
 else
  z48 a0 >>= fun r5 =>
  mkn 1 false (a0.IDs.length:Int) >>= fun x7 =>
  (iter (z87 x7) (x7,0)) >>= fun s10 =>
  (iter (z81 a0 r5) (s10,0)) >>= fun s15 =>
  zc5 a0 s15 >>= fun r29 =>
  some (r29,0)
theorem zfi (a0:z00):z1o Tryz.prog 63 [.rd z01 a0] [zG1] (z7b a0) (fun r nv=>⟨[.val (nv 0),.rd z0c r.2],[(1001,some (.bool true,.glob 1 (z3b 64 z0o) z52)),(100,some (nv 0,.list aZ 31 r.1))]⟩):=by
 refine z29 56 Tryz.func63 Z Z Z fun H w=>?_;refine gSR<|Eb Z (bx 1 Z) fun v1=>Za Z<|Zb Z<|z0t<|gSR<|Zq (ld 1 Z Z fH z3k Z)<|Zc [1001] [] Tryz.func43 Z (z9y _) fun r2 n3=>Zb Z<|gSR<|Zm Z<|Zq (I.neq Z Z)<|Zj Z (fun h4=>?_) (fun h4=>?_)
 ·refine gSR<|Zm Z<|Za Z<|Zb Z<|z0j<|z0v<|zql aZ 31 2<|Ze [(.slice none 0 0)] [1001,2] Z
 ·refine Zt<|gSR<|Zq (ld 1 Z Z fH z3k Z)<|Zc [] [(100,3)] Tryz.func89 Z (z9j _) fun r5 n6=>Zb Z<|gSR<|Zq (faB 1 Z Z Tryz.underlying25 Z (by exact z6b))<|Zq (ld 1 Z Z (fP (z0b _)) z93 Z)<|Zq (z3h Z .rd Z tu22)<|z0m fun x7 h8=>Ef Z (mks (R:=z0h) 4 Z Z h8 tu115 ti4 Zr.bool Z) fun v9=>Zb Z<|z8d (fun (s10:(List Bool)) aa ww=>Sta (ctx 56 H [zG1] w) [(1,.val (z05 v1 0)),(5,.val (n6 0)),(6,.val v9)] [(1,some (v1,.box 25 [.rd z01 a0])),(3,some ((n6 0),.map aZ z0c r5)),(4,some (v9,.list z0h 4 s10)),zG1] aa ww) ?_ (fun s10=>?_)
  ·refine gSR<|Zm Z<|Zq (z3h Z (.own 4 Z) Z tu115)<|Zm Z<|Zn<|z24 (fun (s11:(List Bool) × Int) aa ww=>Sta (ctx 56 H [zG1] w) [(1,.val (z05 v1 0)),(5,.val (n6 0)),(6,.val v9),(24,.rd z0c (x7.length:Int)),(25,.rd z0c s11.2)] [(1,some (v1,.box 25 [.rd z01 a0])),(3,some ((n6 0),.map aZ z0c r5)),(4,some (v9,.list z0h 4 s11.1)),zG1] aa ww) (fun aa ww h=>Zu h [1,3,4,1001]) (fun s11=>?_);refine gSR<|Zq (I.lss Z Z)<|Zn<|z0t<|gIf Z Z (fun h12=>?_) (fun h12=>?_)
   ·refine Zt<|z0t<|z4m<|gSR<|Zm Z<|Zb Z<|z2b<|Zm Z<|Zm Z<|z0m fun x13 h14=>Zq (ixO 4 Z Z Z h14 tu115 ti4)<|Es (sto 4 Z Z (Foc.el h14) Z ti4)<|z1n<|z3a<|z0n<|z2b<|Zq (I.add Z Z)<|Zm Z<|z1n<|z1j (fun aa ww h=>Zu h [1,3,4,1001])
   ·refine z1w<|z0w<|z0y<|z3g (fun aa ww h=>Zu h [1,3,4,1001])
  ·refine z8d (fun (s15:(List Bool)) aa ww=>Sta (ctx 56 H [zG1] w) [(1,.val (z05 v1 0)),(6,.val v9)] [(1,some (v1,.box 25 [.rd z01 a0])),(4,some (v9,.list z0h 4 s15)),zG1] aa ww) ?_ (fun s15=>?_)
   ·refine gSR<|Zq (faB 1 Z Z Tryz.underlying25 Z (by exact zas))<|Zq (ld 1 Z Z (fP (z0a _)) zf4 Z)<|Zq (z3h Z .rd Z tu23)<|Zm Z<|Zn<|z24 (fun (s16:(List Bool) × Int) aa ww=>Sta (ctx 56 H [zG1] w) [(1,.val (z05 v1 0)),(5,.val (n6 0)),(6,.val v9),(33,.rd (z02 z03) a0.Ops),(34,.rd z0c (a0.Ops.length:Int)),(35,.rd z0c s16.2)] [(1,some (v1,.box 25 [.rd z01 a0])),(3,some ((n6 0),.map aZ z0c r5)),(4,some (v9,.list z0h 4 s16.1)),zG1] aa ww) (fun aa ww h=>Zu h [1,3,4,1001]) (fun s16=>?_)
    refine gSR<|Zq (I.lss Z Z)<|Zn<|z0t<|gIf Z Z (fun h17=>?_) (fun h17=>?_)
    ·refine Zt<|z8d (fun (s18:(List Bool)) aa ww=>Sta (ctx 56 H [zG1] w) [(1,.val (z05 v1 0)),(5,.val (n6 0)),(6,.val v9),(33,.rd (z02 z03) a0.Ops),(34,.rd z0c (a0.Ops.length:Int)),(35,.rd z0c s16.2)] [(1,some (v1,.box 25 [.rd z01 a0])),(3,some ((n6 0),.map aZ z0c r5)),(4,some (v9,.list z0h 4 s18)),zG1] aa ww) ?_ (fun s18=>?_)
     ·refine z4m<|gSR<|z0m fun x19 h20=>Zq (ixR Z Z h20 tu23 z5t Z)<|Zq (ldR Z z9t)<|Eb Z (z4i 1100 z5t (ZrE.rd (R:=z0o) (x:=0) (Zr.num Z) (ZrE.nilS (ZrE.rd (R:=z2a) (x:=0) (Zr.num Z) (ZrE.rd (R:=z0d) (x:=(⟨0,[],(⟨0,0,0,[]⟩:z06)⟩:z0f)) zmk (ZrE.rd (R:=z0e) (x:=(⟨0,0⟩:z09)) zlr ZrE.nil Z) Z) Z)) Z)) fun v21=>z9m aZ [.rd z0o 0,.rd (z02 aZ) [],.rd z2a 0,.rd z0d (⟨0,[],(⟨0,0,0,[]⟩:z06)⟩:z0f),.rd z0e (⟨0,0⟩:z09)] 1100 [.rd z0o 0] [.rd z2a 0,.rd z0d (⟨0,[],(⟨0,0,0,[]⟩:z06)⟩:z0f),.rd z0e (⟨0,0⟩:z09)] Z Z Z<|zbs (R:=z03) (⟨0,[],0,(⟨0,[],(⟨0,0,0,[]⟩:z06)⟩:z0f),(⟨0,0⟩:z09)⟩:z08) 1100 Z (Sp.via (Sp.prod (Sp.prod (Sp.prod (Sp.prod (Sp.prod Sp.unit))))))<|Es (sto 1100 Z Z fH Z z5t)<|Zn<|gSR<|Zq (faB 1100 Z Z Tryz.underlying57 Z (by exact z6b))<|Zq (ld 1100 Z Z (fP (z0z _)) z93 Z)<|Zq (z3h Z .rd Z tu22)<|Zm Z<|Zn<|z24 (fun (s22:(List Bool) × Int) aa ww=>Sta (ctx 56 H [zG1] w) [(1,.val (z05 v1 0)),(5,.val (n6 0)),(6,.val v9),(33,.rd (z02 z03) a0.Ops),(34,.rd z0c (a0.Ops.length:Int)),(35,.rd z0c s16.2),(40,.rd (z02 aZ) x19.Preds),(41,.rd z0c (x19.Preds.length:Int)),(42,.rd z0c s22.2)] [(1,some (v1,.box 25 [.rd z01 a0])),(3,some ((n6 0),.map aZ z0c r5)),(4,some (v9,.list z0h 4 s22.1)),zG1] aa ww) (fun aa ww h=>Zu h [1,3,4,1001]) (fun s22=>?_)
      refine gSR<|Zq (I.lss Z Z)<|Zn<|z0t<|gIf Z Z (fun h23=>?_) (fun h23=>?_)
      ·refine Zt<|z0t<|z4m<|gSR<|z0m fun x24 h25=>Zq (ixR Z Z h25 tu22 z1z Z)<|Zq (ldR Z z3t)<|Eb Z (z4i 1101 z1z (.zr (R:=aZ) (x:=(Vector.replicate 32 0)) zef)) fun v26=>Es (sto 1101 Z Z fH Z z1z)<|Zn<|z2b<|Zm Z<|Zm Z<|Zq (ld 1101 Z Z fH z3t Z)<|Zq (mlk Z (.own 3 Z Z) Z ky31 Tryz.underlying128 ti3 (Zr.num Z) Z)<|z0m fun x27 h28=>Zq (ixO 4 Z Z Z h28 tu115 ti4)<|Es (sto 4 Z Z (Foc.el h28) Z ti4)<|z1n<|z3a<|z0n<|z2b<|Zq (I.add Z Z)<|Zm Z<|z1n<|z1j (fun aa ww h=>Zu h [1,3,4,1001])
      ·refine z1w<|z0w<|z0y<|z3a<|z3g (fun aa ww h=>Zu h [1,3,4,1001])
     ·refine z2b<|Zq (I.add Z Z)<|Zm Z<|z1n<|z1j (fun aa ww h=>Zu h [1,3,4,1001])
    ·refine z1w<|z0w<|z0y<|z3g (fun aa ww h=>Zu h [1,4,1001])
   ·refine gSR<|Zq (ld 1 Z Z fH z3k Z)<|Zm Z<|zf0 4 [6,54] Z (fS Z<|fS Z<|fN)<|Zc [] [(100,1102)] Tryz.func102 Z (zk5 _ _) fun r29 n30=>Za Z<|Zb Z<|z0j<|Ze [(n30 0)] [1001,1102] Z
def zbn (a0:V3) (c1_0:List Bool) (c2_0:List (V3 × Int)):Option (Bool) :=
 idx c1_0 ((zj9 c2_0 a0).getD 0) >>= fun x2 =>
 some (!x2)
theorem zgv (a0:V3) (p1_0:Value) (q1_0:Value) (c1_0:List Bool) (p2_0:Value) (q2_0:Value) (c2_0:List (V3 × Int)):z1o Tryz.prog 92 [.rd aZ a0,.val (z05 p1_0 0),.val (z05 p2_0 0)] [(1,some (p1_0,.box 115 [.val q1_0])),(2,some (q1_0,.list z0h 4 c1_0)),(3,some (p2_0,.box 128 [.val q2_0])),(4,some (q2_0,.map aZ z0c c2_0))] (zbn a0 c1_0 c2_0) (fun r nv=>⟨[.rd z0h r],[(1,some (p1_0,.box 115 [.val q1_0])),(2,some (q1_0,.list z0h 4 c1_0)),(3,some (p2_0,.box 128 [.val q2_0])),(4,some (q2_0,.map aZ z0c c2_0))]⟩):=by
 refine z29 12 Tryz.func92 Z Z Z fun H w=>?_;refine gSR<|Eb Z (bx 5 Z) fun v1=>Zb Z<|z0t<|zid mixed (by kernel_rfl)<|Rq Z (ldV 1 Z Z .here zwj Z)<|Rq Z (ldV 3 Z Z .here z15i Z)<|Rq Z (ld 5 Z Z fH z3t Z)<|Rq Z (mlk Z (.own 4 Z Z) Z ky31 Tryz.underlying128 ti3 (Zr.num Z) Z)<|z8e fun x2 h3=>Rq Z (ixO 2 Z Z Z h3 tu115 ti4)<|Rq Z (ld 2 Z Z (Foc.el h3) ty4 Z)<|Rq Z (zex Z)<|Rq Z (asg Z)<|zss<|z0n<|z0j<|Ze [] [1,2,3,4] Z
def z14 (a0:List V3) (c1_0:List Bool) (c1_1:List (V3 × Int)) (s2:Int):Option (Sum (Sum Int Unit) Int) :=
 if decide (s2<(a0.length:Int)) then
  idx a0 s2 >>= fun x4 =>
  zbn x4 c1_0 c1_1 >>= fun r6 =>
  if r6 then
   some (.inl (.inl s2))
  else
   some (.inr (w64 (s2+1)))
 else
  some (.inl (.inr ()))
def z2c (a0:List V3) (c1_0:List Bool) (c1_1:List (V3 × Int)):Option (Int) :=
 z5u (iter (z14 a0 c1_0 c1_1) 0) fun s1 =>
 some (-1)
theorem z5s (a0:List V3) (p1_0:Value) (q1_0:Value) (c1_0:List Bool) (p1_1:Value) (q1_1:Value) (c1_1:List (V3 × Int)):z1o Tryz.prog 82 [.rd (z02 aZ) a0,.val (.func (.func 92) #[] #[z05 p1_0 0,z05 p1_1 0])] [(1,some (p1_0,.box 115 [.val q1_0])),(2,some (q1_0,.list z0h 4 c1_0)),(3,some (p1_1,.box 128 [.val q1_1])),(4,some (q1_1,.map aZ z0c c1_1))] (z2c a0 c1_0 c1_1) (fun r nv=>⟨[.rd z0c r],[(1,some (p1_0,.box 115 [.val q1_0])),(2,some (q1_0,.list z0h 4 c1_0)),(3,some (p1_1,.box 128 [.val q1_1])),(4,some (q1_1,.map aZ z0c c1_1))]⟩):=by
 refine z29 19 Tryz.func82 Z Z Z fun H w=>?_;refine gSR<|Zb Z<|z8g (fun (s1:Unit) aa ww=>Sta (ctx 19 H [(1,some (p1_0,.box 115 [.val q1_0])),(2,some (q1_0,.list z0h 4 c1_0)),(3,some (p1_1,.box 128 [.val q1_1])),(4,some (q1_1,.map aZ z0c c1_1))] w) [] [(2,some (q1_0,.list z0h 4 c1_0)),(1,some (p1_0,.box 115 [.val q1_0])),(4,some (q1_1,.map aZ z0c c1_1)),(3,some (p1_1,.box 128 [.val q1_1]))] aa ww) ?_ (fun s1=>?_)
 ·refine gSR<|Zm Z<|Zq (z3h Z .rd Z tu22)<|Zm Z<|Zn<|z24 (fun (s2:Int) aa ww=>Sta (ctx 19 H [(1,some (p1_0,.box 115 [.val q1_0])),(2,some (q1_0,.list z0h 4 c1_0)),(3,some (p1_1,.box 128 [.val q1_1])),(4,some (q1_1,.map aZ z0c c1_1))] w) [(0,.rd (z02 aZ) a0),(1,.val (.func (.func 92) #[] #[z05 p1_0 0,z05 p1_1 0])),(7,.rd z0c (a0.length:Int)),(8,.rd z0c s2)] [(2,some (q1_0,.list z0h 4 c1_0)),(1,some (p1_0,.box 115 [.val q1_0])),(4,some (q1_1,.map aZ z0c c1_1)),(3,some (p1_1,.box 128 [.val q1_1]))] aa ww) (fun aa ww h=>Zu h [2,1,4,3]) (fun s2=>?_)
  refine gSR<|Zq (I.lss Z Z)<|Zn<|z0t<|gIf Z Z (fun h3=>?_) (fun h3=>?_)
  ·refine Zt<|z0t<|z4m<|gSR<|Zm Z<|Zb Z<|gSR<|Zm Z<|Zm Z<|Zm Z<|z0m fun x4 h5=>Zq (ixR Z Z h5 tu22 z1z Z)<|Zq (ldR Z z3t)<|zgt [1,2,3,4] [(1,1),(2,2),(3,3),(4,4)] (gd0 Z) Z Z Tryz.func92 Z Z (zgv _ _ _ _ _ _ _) (Y1 Z) (cQ 1 Z<|cQ 3 Z<|cN) (Zi Z<|Zi Z<|Zi Z<|Zi Z<|rN) fun r6 n7=>Zj Z (fun h8=>?_) (fun h8=>?_)
   ·refine gSR<|Zm Z<|Zb Z<|z0j<|z3w<|z0v<|z7m<|z7j<|Ze [] [1,2,3,4] Z
   ·refine z2p<|z3a<|z0n<|z2b<|Zq (I.add Z Z)<|Zm Z<|z1n<|z1j (fun aa ww h=>Zu h [2,1,4,3])
  ·refine z1w<|z0w<|z0y<|z7p (fun aa ww h=>Zu h [2,1,4,3])
 ·refine gSR<|Zb Z<|z0j<|Ze [] [1,2,3,4] Z
def z1d (a0:List V3) (c1_0:List Bool) (c1_1:List (V3 × Int)):Option (Bool) :=
 z2c a0 c1_0 c1_1 >>= fun r1 =>
 some (decide (0≤r1)) >>= fun y3 =>
 some y3
theorem z58 (a0:List V3) (p1_0:Value) (q1_0:Value) (c1_0:List Bool) (p1_1:Value) (q1_1:Value) (c1_1:List (V3 × Int)):z1o Tryz.prog 91 [.rd (z02 aZ) a0,.val (.func (.func 92) #[] #[z05 p1_0 0,z05 p1_1 0])] [(1,some (p1_0,.box 115 [.val q1_0])),(2,some (q1_0,.list z0h 4 c1_0)),(3,some (p1_1,.box 128 [.val q1_1])),(4,some (q1_1,.map aZ z0c c1_1))] (z1d a0 c1_0 c1_1) (fun r nv=>⟨[.rd z0h r],[(1,some (p1_0,.box 115 [.val q1_0])),(2,some (q1_0,.list z0h 4 c1_0)),(3,some (p1_1,.box 128 [.val q1_1])),(4,some (q1_1,.map aZ z0c c1_1))]⟩):=by
 refine z29 9 Tryz.func91 Z Z Z fun H w=>?_;refine gSR<|Zb Z<|gSR<|Zm Z<|Zm Z<|Zc [1,2,3,4] [(1,1),(2,2),(3,3),(4,4)] Tryz.func82 Z (z5s _ _ _ _ _ _ _) fun r1 n2=>Zq (I.geq Z Z)<|Za Z<|z1x 4 Z fun y3=>Zn<|z0j<|Ze [] [1,2,3,4] Z
def zb5 (a0:Int) (c1_0:List Bool) (c2_0:z00) (c3_0:List (V3 × Int)):Option (Bool) :=
 idx c1_0 a0 >>= fun x1 =>
 if !x1 then
  idx c2_0.Ops a0 >>= fun x4 =>
  z1d x4.Preds c1_0 c3_0 >>= fun r6 =>
  some (!r6)
 else
  some false
theorem zj6 (a0:Int) (p1_0:Value) (q1_0:Value) (c1_0:List Bool) (p2_0:Value) (c2_0:z00) (p3_0:Value) (q3_0:Value) (c3_0:List (V3 × Int)):z1o Tryz.prog 90 [.rd z0c a0,.val (z05 p1_0 0),.val (z05 p2_0 0),.val (z05 p3_0 0)] [(1,some (p1_0,.box 115 [.val q1_0])),(2,some (q1_0,.list z0h 4 c1_0)),(3,some (p2_0,.box 25 [.rd z01 c2_0])),(4,some (p3_0,.box 128 [.val q3_0])),(5,some (q3_0,.map aZ z0c c3_0))] (zb5 a0 c1_0 c2_0 c3_0) (fun r nv=>⟨[.rd z0h r],[(1,some (p1_0,.box 115 [.val q1_0])),(2,some (q1_0,.list z0h 4 c1_0)),(3,some (p2_0,.box 25 [.rd z01 c2_0])),(4,some (p3_0,.box 128 [.val q3_0])),(5,some (q3_0,.map aZ z0c c3_0))]⟩):=by
 refine z29 22 Tryz.func90 Z Z Z fun H w=>?_;refine gSR<|Zb Z<|gSR<|Zq (ldV 1 Z Z .here zwj Z)<|Zm Z<|z0m fun x1 h2=>Zq (ixO 2 Z Z Z h2 tu115 ti4)<|Zq (ld 2 Z Z (Foc.el h2) ty4 Z)<|Zq (zex Z)<|Zm Z<|z19 11 Z (fun h3=>?_) (fun h3=>?_)
 ·refine lKn 10 Z h3<|z17 Zx Z Z (faB 3 Z Z Tryz.underlying25 Z (by exact zas))<|z17 Zx Z Z (ld 3 Z Z (fP (z0a _)) zf4 Z)<|z17 Zx Z Z (mv Z)<|z0m fun x4 h5=>z17 Zx Z Z (ixR Z Z h5 tu23 z5t Z)<|z17 Zx Z Z (faR Z (z0z _) Tryz.underlying57 Z Z (by exact z6b))<|z17 Zx Z Z (ldR Z z93)<|z17 Zx Z Z (mkf mp0 (mp2 Z Z))<|ze9 [1,2,4,5] [(1,1),(2,2),(3,4),(4,5)] Zx Z Tryz.func91 Z Z (z58 _ _ _ _ _ _ _) (Y2 Z Z) (Zi Z<|Zi Z<|Zi Z<|Zi Z<|rN) fun r6 n7=>z17 Zx Z Z (zex Z)<|Zq (pkT Z Z)<|Zb Z<|z0j<|Ze [] [1,2,3,4,5] Z
 ·refine lKn 10 Z h3<|Zk Z<|Zk Z<|Zk Z<|Zk Z<|Zk Z<|Zk Z<|Zk Z<|Zk Z<|Zk Z<|Zq (pkF Z Z)<|Zb Z<|z0j<|Ze [] [1,2,3,4,5] Z
def z88 (a0:z00) (r5:(List (V3 × Int))) (s13:(List Bool) × (List V3) × Int) (s17:Int):Option (Sum Int Int) :=
 zb5 s17 s13.1 a0 r5 >>= fun r18 =>
 if !r18 then
  some (w64 (s17+1)) >>= fun y21 =>
  some (.inr y21)
 else
  some (.inl s17)
def zae (a0:z00) (r5:(List (V3 × Int))) (s13:(List Bool) × (List V3) × Int):Option (Sum ((List V3)) ((List Bool) × (List V3) × Int)) :=
 if decide (s13.2.2<(a0.IDs.length:Int)) then
  (iter (z88 a0 r5 s13) 0) >>= fun s16 =>
  idx s13.1 s16 >>= fun x22 =>
  idx a0.IDs s16 >>= fun x24 =>
  app 32 s13.2.1 [x24] >>= fun x27 =>
  some (.inr (s13.1.set (s16:Int).toNat true,x27,w64 (s13.2.2+1)))
 else
  some (.inl s13.2.1)
def zct (a0:z00):Option ((List V3) × Int) :=
 z11 a0 >>= fun r2 =>
 if r2 != 0 then
  some ([],r2)
 else
  z48 a0 >>= fun r5 =>
  mkn 1 false (a0.IDs.length:Int) >>= fun x8 =>
  (iter (zae a0 r5) (x8,[],0)) >>= fun s12 =>
  some (s12,0)
theorem zkw (a0:z00):z1o Tryz.prog 52 [.rd z01 a0] [zG1] (zct a0) (fun r nv=>⟨[.val (nv 0),.rd z0c r.2],[(1001,some (.bool true,.glob 1 (z3b 64 z0o) z52)),(100,some (nv 0,.list aZ 31 r.1))]⟩):=by
 refine z29 46 Tryz.func52 Z Z Z fun H w=>?_;refine gSR<|Eb Z (bx 1 Z) fun v1=>Za Z<|Zb Z<|z0t<|gSR<|Zq (ld 1 Z Z fH z3k Z)<|Zc [1001] [] Tryz.func43 Z (z9y _) fun r2 n3=>Zb Z<|gSR<|Zm Z<|Zq (I.neq Z Z)<|Zj Z (fun h4=>?_) (fun h4=>?_)
 ·refine gSR<|Zm Z<|Za Z<|Zb Z<|z0j<|z0v<|zql aZ 31 2<|Ze [(.slice none 0 0)] [1001,2] Z
 ·refine Zt<|gSR<|Zq (ld 1 Z Z fH z3k Z)<|Zc [] [(100,3)] Tryz.func89 Z (z9j _) fun r5 n6=>Eb Z (z4i 4 zw8 (.val Z)) fun v7=>Es (zmf 4 Z Z (.here z04) Z z0i z04 zw8)<|Zn<|gSR<|Zq (faB 1 Z Z Tryz.underlying25 Z (by exact z6b))<|Zq (ld 1 Z Z (fP (z0b _)) z93 Z)<|Zq (z3h Z .rd Z tu22)<|z0m fun x8 h9=>Ef Z (mks (R:=z0h) 5 Z Z h9 tu115 ti4 Zr.bool Z) fun v10=>Eb Z (z4i 6 z12n (.val Z)) fun v11=>Es (zmf 6 Z Z (.here z04) Z z0i z04 z12n)<|Zn<|gSR<|Zq (mkf mp0 (mp3 Z Z Z))<|Zb Z<|gSR<|Zb Z<|z8d (fun (s12:(List V3)) aa ww=>∃ nv:Nat→Value,Sta (ctx 46 H [zG1] w) [(8,.val (nv 0))] [(1101,some ((nv 0),.list aZ 31 s12)),zG1] aa ww) ?_ (fun s12=>?_)
  ·refine gSR<|Zq (faB 1 Z Z Tryz.underlying25 Z (by exact z6b))<|Zq (ld 1 Z Z (fP (z0b _)) z93 Z)<|Zq (z3h Z .rd Z tu22)<|Zm Z<|Zn<|zuu aZ 31 1104<|z24 (fun (s13:(List Bool) × (List V3) × Int) aa ww=>∃ nv:Nat→Value,Sta (ctx 46 H [zG1] w) [(1,.val (z05 v1 0)),(6,.val (z05 v11 0)),(7,.val (.func (.func 90) #[] #[z05 v11 0,z05 v1 0,z05 v7 0])),(8,.val (nv 0)),(24,.rd z0c (a0.IDs.length:Int)),(25,.rd z0c s13.2.2)] [(1,some (v1,.box 25 [.rd z01 a0])),(5,some (v10,.list z0h 4 s13.1)),(6,some (v11,.box 115 [.val v10])),(3,some ((n6 0),.map aZ z0c r5)),(4,some (v7,.box 128 [.val (n6 0)])),(1103,some ((nv 0),.list aZ 31 s13.2.1)),zG1] aa ww) (fun aa ww h=>⟨nvl [(.slice none 0 0)],Zu h [1,5,6,3,4,1104,1001]⟩) (fun s13=>?_)
   refine gEx fun n14=>gSR<|Zq (I.lss Z Z)<|Zn<|z0t<|gIf Z Z (fun h15=>?_) (fun h15=>?_)
   ·refine Zt<|z0t<|z4m<|gSR<|Zb Z<|z8d (fun (s16:Int) aa ww=>Sta (ctx 46 H [zG1] w) [(1,.val (z05 v1 0)),(6,.val (z05 v11 0)),(7,.val (.func (.func 90) #[] #[z05 v11 0,z05 v1 0,z05 v7 0])),(8,.val (n14 0)),(9,.rd z0c s16),(24,.rd z0c (a0.IDs.length:Int)),(25,.rd z0c s13.2.2)] [(1,some (v1,.box 25 [.rd z01 a0])),(5,some (v10,.list z0h 4 s13.1)),(6,some (v11,.box 115 [.val v10])),(3,some ((n6 0),.map aZ z0c r5)),(4,some (v7,.box 128 [.val (n6 0)])),(1103,some ((n14 0),.list aZ 31 s13.2.1)),zG1] aa ww) ?_ (fun s16=>?_)
    ·refine z24 (fun (s17:Int) aa ww=>Sta (ctx 46 H [zG1] w) [(1,.val (z05 v1 0)),(6,.val (z05 v11 0)),(7,.val (.func (.func 90) #[] #[z05 v11 0,z05 v1 0,z05 v7 0])),(8,.val (n14 0)),(9,.rd z0c s17),(24,.rd z0c (a0.IDs.length:Int)),(25,.rd z0c s13.2.2)] [(1,some (v1,.box 25 [.rd z01 a0])),(5,some (v10,.list z0h 4 s13.1)),(6,some (v11,.box 115 [.val v10])),(3,some ((n6 0),.map aZ z0c r5)),(4,some (v7,.box 128 [.val (n6 0)])),(1103,some ((n14 0),.list aZ 31 s13.2.1)),zG1] aa ww) (fun aa ww h=>Zu h [1,5,6,3,4,1103,1001]) (fun s17=>?_)
     refine z0t<|gSR<|Zm Z<|Zm Z<|zgt [6,5,1,4,3] [(1,6),(2,5),(3,1),(4,4),(5,3)] (gd0 Z) Z Z Tryz.func90 Z Z (zj6 _ _ _ _ _ _ _ _ _) (Y1 Z) (cQ 6 Z<|cQ 1 Z<|cQ 4 Z<|cN) (Zi Z<|Zi Z<|Zi Z<|Zi Z<|Zi Z<|rN) fun r18 n19=>Zq (zex Z)<|Zj Z (fun h20=>?_) (fun h20=>?_)
     ·refine Zt<|z4m<|z2b<|Zm Z<|Zq (I.add Z Z)<|Za Z<|z1x 9 Z fun y21=>z1n<|z3a<|z1j (fun aa ww h=>Zu h [1,5,6,3,4,1103,1001])
     ·refine z1w<|z0w<|z0y<|z3g (fun aa ww h=>Zu h [1,5,6,3,4,1103,1001])
    ·refine gSR<|Zq (ldV 6 Z Z .here zwj Z)<|Zm Z<|z0m fun x22 h23=>Zq (ixO 5 Z Z Z h23 tu115 ti4)<|Es (sto 5 Z Z (Foc.el h23) Z ti4)<|Zn<|z2b<|Zm Z<|Zq (faB 1 Z Z Tryz.underlying25 Z (by exact z6b))<|Zq (ld 1 Z Z (fP (z0b _)) z93 Z)<|Zm Z<|z0m fun x24 h25=>Zq (ixR Z Z h25 tu22 z1z Z)<|Zq (ldR Z z3t)<|Ef Z (lit (R:=aZ) ([x24]:List V3) 1105 (pP Z Z<|pN) Z tu22 z1z Z Z) fun v26=>zf0 1105 [42] Z (fS Z<|fN)<|z0m fun x27 h28=>Ef Z (apn 1103 Z Z Z .rd h28 tu22 z1z Z Z Z) fun v29=>Za Z<|z1n<|z3a<|z0n<|z2b<|Zq (I.add Z Z)<|Zm Z<|z1n<|z1j (fun aa ww h=>⟨nvl [v29],Zu h [1,5,6,3,4,1103,1001]⟩)
   ·refine z1w<|z0w<|z0y<|z3g (fun aa ww h=>⟨nvl [(n14 0)],Zu h [1103,1001]⟩)
  ·refine gEx fun n30=>gSR<|Zm Z<|Za Z<|Zb Z<|z0j<|Ze [(n30 0)] [1001,1101] Z
def z8k (c1_0:List (V3 × Int)) (c3_0:z00) (rec:V3→(List (V3 × Int))→(List Bool)→z00→Option ((List Bool))) (x8:z08) (s10:(List Bool) × Int):Option (Sum ((List Bool)) ((List Bool) × Int)) :=
 if decide (s10.2<(x8.Preds.length:Int)) then
  idx x8.Preds s10.2 >>= fun x12 =>
  rec x12 c1_0 s10.1 c3_0 >>= fun r15 =>
  some (.inr (r15,w64 (s10.2+1)))
 else
  some (.inl s10.1)
def z78 (rec:V3→(List (V3 × Int))→(List Bool)→z00→Option ((List Bool))) (a0:V3) (c1_0:List (V3 × Int)) (c2_0:List Bool) (c3_0:z00):Option ((List Bool)) :=
 some ((zj9 c1_0 a0).getD 0) >>= fun y2 =>
 idx c2_0 y2 >>= fun x3 =>
 if x3 then
  some c2_0
 else
  idx c2_0 y2 >>= fun x6 =>
  idx c3_0.Ops y2 >>= fun x8 =>
  iter (z8k c1_0 c3_0 rec x8) (c2_0.set (y2:Int).toNat true,0)
def z34:Nat→V3→(List (V3 × Int))→(List Bool)→z00→Option ((List Bool))
 | 0,_,_,_,_=>none
 | N+1,a0,c1_0,c2_0,c3_0=>z78 (z34 N) a0 c1_0 c2_0 c3_0
theorem ziy (rec:V3→(List (V3 × Int))→(List Bool)→z00→Option ((List Bool))) (ih:∀ (a0:V3) (p1_0:Value) (q1_0:Value) (c1_0:List (V3 × Int)) (p2_0:Value) (q2_0:Value) (c2_0:List Bool) (p3_0:Value) (c3_0:z00) (p4_0:Value),z1o Tryz.prog 133 [.rd aZ a0,.val (z05 p1_0 0),.val (z05 p2_0 0),.val (z05 p3_0 0),.val (z05 p4_0 0)] [(1,some (p1_0,.box 128 [.val q1_0])),(2,some (q1_0,.map aZ z0c c1_0)),(3,some (p2_0,.box 115 [.val q2_0])),(4,some (q2_0,.list z0h 4 c2_0)),(5,some (p3_0,.box 25 [.rd z01 c3_0])),(6,some (p4_0,.box 163 [.val (.func (.func 133) #[] #[z05 p1_0 0,z05 p2_0 0,z05 p3_0 0,z05 p4_0 0])]))] (rec a0 c1_0 c2_0 c3_0) (fun r nv=>⟨[],[(1,some (p1_0,.box 128 [.val q1_0])),(2,some (q1_0,.map aZ z0c c1_0)),(3,some (p2_0,.box 115 [.val q2_0])),(4,some (q2_0,.list z0h 4 r)),(5,some (p3_0,.box 25 [.rd z01 c3_0])),(6,some (p4_0,.box 163 [.val (.func (.func 133) #[] #[z05 p1_0 0,z05 p2_0 0,z05 p3_0 0,z05 p4_0 0])]))]⟩)) (a0:V3) (p1_0:Value) (q1_0:Value) (c1_0:List (V3 × Int)) (p2_0:Value) (q2_0:Value) (c2_0:List Bool) (p3_0:Value) (c3_0:z00) (p4_0:Value):z1o Tryz.prog 133 [.rd aZ a0,.val (z05 p1_0 0),.val (z05 p2_0 0),.val (z05 p3_0 0),.val (z05 p4_0 0)] [(1,some (p1_0,.box 128 [.val q1_0])),(2,some (q1_0,.map aZ z0c c1_0)),(3,some (p2_0,.box 115 [.val q2_0])),(4,some (q2_0,.list z0h 4 c2_0)),(5,some (p3_0,.box 25 [.rd z01 c3_0])),(6,some (p4_0,.box 163 [.val (.func (.func 133) #[] #[z05 p1_0 0,z05 p2_0 0,z05 p3_0 0,z05 p4_0 0])]))] (z78 rec a0 c1_0 c2_0 c3_0) (fun r nv=>⟨[],[(1,some (p1_0,.box 128 [.val q1_0])),(2,some (q1_0,.map aZ z0c c1_0)),(3,some (p2_0,.box 115 [.val q2_0])),(4,some (q2_0,.list z0h 4 r)),(5,some (p3_0,.box 25 [.rd z01 c3_0])),(6,some (p4_0,.box 163 [.val (.func (.func 133) #[] #[z05 p1_0 0,z05 p2_0 0,z05 p3_0 0,z05 p4_0 0])]))]⟩):=by
 refine z29 34 Tryz.func133 Z Z Z fun H w=>?_;refine gSR<|Eb Z (bx 7 Z) fun v1=>Zn<|gSR<|Zq (ldV 1 Z Z .here z15i Z)<|Zq (ld 7 Z Z fH z3t Z)<|Zq (mlk Z (.own 2 Z Z) Z ky31 Tryz.underlying128 ti3 (Zr.num Z) Z)<|Za Z<|z1x 6 Z fun y2=>Zn<|z0t<|gSR<|Zq (ldV 3 Z Z .here zwj Z)<|Zm Z<|z0m fun x3 h4=>Zq (ixO 4 Z Z Z h4 tu115 ti4)<|Zq (ld 4 Z Z (Foc.el h4) ty4 Z)<|Zj Z (fun h5=>?_) (fun h5=>?_)
 ·refine z0j<|z0v<|Ze [] [1,2,3,4,5,6] Z
 ·refine Zt<|gSR<|Zq (ldV 3 Z Z .here zwj Z)<|Zm Z<|z0m fun x6 h7=>Zq (ixO 4 Z Z Z h7 tu115 ti4)<|Es (sto 4 Z Z (Foc.el h7) Z ti4)<|Zn<|gSR<|Zq (faB 5 Z Z Tryz.underlying25 Z (by exact zas))<|Zq (ld 5 Z Z (fP (z0a _)) zf4 Z)<|Zm Z<|z0m fun x8 h9=>Zq (ixR Z Z h9 tu23 z5t Z)<|Zq (faR Z (z0z _) Tryz.underlying57 Z Z (by exact z6b))<|Zq (ldR Z z93)<|Zq (z3h Z .rd Z tu22)<|Zm Z<|Zn<|z24 (fun (s10:(List Bool) × Int) aa ww=>Sta (ctx 34 H [(1,some (p1_0,.box 128 [.val q1_0])),(2,some (q1_0,.map aZ z0c c1_0)),(3,some (p2_0,.box 115 [.val q2_0])),(4,some (q2_0,.list z0h 4 c2_0)),(5,some (p3_0,.box 25 [.rd z01 c3_0])),(6,some (p4_0,.box 163 [.val (.func (.func 133) #[] #[z05 p1_0 0,z05 p2_0 0,z05 p3_0 0,z05 p4_0 0])]))] w) [(4,.val (z05 p4_0 0)),(24,.rd (z02 aZ) x8.Preds),(25,.rd z0c (x8.Preds.length:Int)),(26,.rd z0c s10.2)] [(6,some (p4_0,.box 163 [.val (.func (.func 133) #[] #[z05 p1_0 0,z05 p2_0 0,z05 p3_0 0,z05 p4_0 0])])),(2,some (q1_0,.map aZ z0c c1_0)),(1,some (p1_0,.box 128 [.val q1_0])),(4,some (q2_0,.list z0h 4 s10.1)),(3,some (p2_0,.box 115 [.val q2_0])),(5,some (p3_0,.box 25 [.rd z01 c3_0]))] aa ww) (fun aa ww h=>Zu h [6,2,1,4,3,5]) (fun s10=>?_)
  refine gSR<|Zq (I.lss Z Z)<|Zn<|z0t<|gIf Z Z (fun h11=>?_) (fun h11=>?_)
  ·refine Zt<|z0t<|z4m<|gSR<|z0m fun x12 h13=>Zq (ixR Z Z h13 tu22 z1z Z)<|Zq (ldR Z z3t)<|Eb Z (z4i 8 z1z (.zr (R:=aZ) (x:=(Vector.replicate 32 0)) zef)) fun v14=>Es (sto 8 Z Z fH Z z1z)<|Zn<|z2b<|Zq (ldV 6 Z Z .here z17f Z)<|Zq (ld 8 Z Z fH z3t Z)<|zgt [1,2,3,4,5,6] [(1,1),(2,2),(3,3),(4,4),(5,5),(6,6)] (gd0 Z) Z Z Tryz.func133 Z Z (ih _ _ _ _ _ _ _ _ _ _) (Y1 Z) (cQ 1 Z<|cQ 3 Z<|cQ 5 Z<|cQ 6 Z<|cN) (Zi Z<|Zi Z<|Zi Z<|Zi Z<|Zi Z<|Zi Z<|rN) fun r15 n16=>z1n<|z3a<|z0n<|z2b<|Zq (I.add Z Z)<|Zm Z<|z1n<|z1j (fun aa ww h=>Zu h [6,2,1,4,3,5])
  ·refine z1w<|z0w<|z0y<|Ze [] [1,2,3,4,5,6] Z
theorem zdi:∀ (N:Nat) (a0:V3) (p1_0:Value) (q1_0:Value) (c1_0:List (V3 × Int)) (p2_0:Value) (q2_0:Value) (c2_0:List Bool) (p3_0:Value) (c3_0:z00) (p4_0:Value),z1o Tryz.prog 133 [.rd aZ a0,.val (z05 p1_0 0),.val (z05 p2_0 0),.val (z05 p3_0 0),.val (z05 p4_0 0)] [(1,some (p1_0,.box 128 [.val q1_0])),(2,some (q1_0,.map aZ z0c c1_0)),(3,some (p2_0,.box 115 [.val q2_0])),(4,some (q2_0,.list z0h 4 c2_0)),(5,some (p3_0,.box 25 [.rd z01 c3_0])),(6,some (p4_0,.box 163 [.val (.func (.func 133) #[] #[z05 p1_0 0,z05 p2_0 0,z05 p3_0 0,z05 p4_0 0])]))] (z34 N a0 c1_0 c2_0 c3_0) (fun r nv=>⟨[],[(1,some (p1_0,.box 128 [.val q1_0])),(2,some (q1_0,.map aZ z0c c1_0)),(3,some (p2_0,.box 115 [.val q2_0])),(4,some (q2_0,.list z0h 4 r)),(5,some (p3_0,.box 25 [.rd z01 c3_0])),(6,some (p4_0,.box 163 [.val (.func (.func 133) #[] #[z05 p1_0 0,z05 p2_0 0,z05 p3_0 0,z05 p4_0 0])]))]⟩)
 | 0,a0,p1_0,q1_0,c1_0,p2_0,q2_0,c2_0,p3_0,c3_0,p4_0=>fun r hr=>absurd hr (by simp [z34])
 | N+1,a0,p1_0,q1_0,c1_0,p2_0,q2_0,c2_0,p3_0,c3_0,p4_0=>ziy (z34 N) (zdi N) a0 p1_0 q1_0 c1_0 p2_0 q2_0 c2_0 p3_0 c3_0 p4_0
theorem zix (a0:V3) (p1_0:Value) (q1_0:Value) (c1_0:List (V3 × Int)) (p2_0:Value) (q2_0:Value) (c2_0:List Bool) (p3_0:Value) (c3_0:z00) (p4_0:Value):z1o Tryz.prog 133 [.rd aZ a0,.val (z05 p1_0 0),.val (z05 p2_0 0),.val (z05 p3_0 0),.val (z05 p4_0 0)] [(1,some (p1_0,.box 128 [.val q1_0])),(2,some (q1_0,.map aZ z0c c1_0)),(3,some (p2_0,.box 115 [.val q2_0])),(4,some (q2_0,.list z0h 4 c2_0)),(5,some (p3_0,.box 25 [.rd z01 c3_0])),(6,some (p4_0,.box 163 [.val (.func (.func 133) #[] #[z05 p1_0 0,z05 p2_0 0,z05 p3_0 0,z05 p4_0 0])]))] (z34 1000 a0 c1_0 c2_0 c3_0) (fun r nv=>⟨[],[(1,some (p1_0,.box 128 [.val q1_0])),(2,some (q1_0,.map aZ z0c c1_0)),(3,some (p2_0,.box 115 [.val q2_0])),(4,some (q2_0,.list z0h 4 r)),(5,some (p3_0,.box 25 [.rd z01 c3_0])),(6,some (p4_0,.box 163 [.val (.func (.func 133) #[] #[z05 p1_0 0,z05 p2_0 0,z05 p3_0 0,z05 p4_0 0])]))]⟩):=zdi 1000 a0 p1_0 q1_0 c1_0 p2_0 q2_0 c2_0 p3_0 c3_0 p4_0
def zag (a0:z00) (a1:List V3) (r2:(List (V3 × Int))) (s11:(List Bool) × Int):Option (Sum ((List Bool)) ((List Bool) × Int)) :=
 if decide (s11.2<(a1.length:Int)) then
  idx a1 s11.2 >>= fun x13 =>
  (z34 1000) x13 r2 s11.1 a0 >>= fun r16 =>
  some (.inr (r16,w64 (s11.2+1)))
 else
  some (.inl s11.1)
def zcv (a0:z00) (a1:List V3):Option ((List Bool)) :=
 z48 a0 >>= fun r2 =>
 mkn 1 false (a0.IDs.length:Int) >>= fun x5 =>
 (iter (zag a0 a1 r2) (x5,0)) >>= fun s10 =>
 some s10
theorem zl6 (a0:z00) (a1:List V3):z1o Tryz.prog 88 [.rd z01 a0,.rd (z02 aZ) a1] [] (zcv a0 a1) (fun r nv=>⟨[.val (nv 0)],[(100,some (nv 0,.list z0h 4 r))]⟩):=by
 refine z29 28 Tryz.func88 Z Z Z fun H w=>?_;refine gSR<|Eb Z (bx 1 Z) fun v1=>Zb Z<|gSR<|Zq (ld 1 Z Z fH z3k Z)<|Zc [] [(100,2)] Tryz.func89 Z (z9j _) fun r2 n3=>Eb Z (z4i 3 zw8 (.val Z)) fun v4=>Es (zmf 3 Z Z (.here z04) Z z0i z04 zw8)<|Zn<|gSR<|Zq (faB 1 Z Z Tryz.underlying25 Z (by exact z6b))<|Zq (ld 1 Z Z (fP (z0b _)) z93 Z)<|Zq (z3h Z .rd Z tu22)<|z0m fun x5 h6=>Ef Z (mks (R:=z0h) 4 Z Z h6 tu115 ti4 Zr.bool Z) fun v7=>Eb Z (z4i 5 z12n (.val Z)) fun v8=>Es (zmf 5 Z Z (.here z04) Z z0i z04 z12n)<|Zn<|gSR<|Eb Z (z4i 6 z15w (.val Z)) fun v9=>Zn<|gSR<|Zq (mkf mp0 (mp4 Z Z Z Z))<|Es (zmf 6 Z Z (.here z04) Z z0i z04 z15w)<|Zn<|z8d (fun (s10:(List Bool)) aa ww=>Sta (ctx 28 H [] w) [(6,.val (z05 v8 0))] [(4,some (v7,.list z0h 4 s10)),(5,some (v8,.box 115 [.val v7]))] aa ww) ?_ (fun s10=>?_)
 ·refine gSR<|Zm Z<|Zq (z3h Z .rd Z tu22)<|Zm Z<|Zn<|z24 (fun (s11:(List Bool) × Int) aa ww=>Sta (ctx 28 H [] w) [(6,.val (z05 v8 0)),(7,.val (z05 v9 0)),(17,.rd (z02 aZ) a1),(18,.rd z0c (a1.length:Int)),(19,.rd z0c s11.2)] [(4,some (v7,.list z0h 4 s11.1)),(5,some (v8,.box 115 [.val v7])),(6,some (v9,.box 163 [.val (.func (.func 133) #[] #[z05 v4 0,z05 v8 0,z05 v1 0,z05 v9 0])])),(2,some ((n3 0),.map aZ z0c r2)),(3,some (v4,.box 128 [.val (n3 0)])),(1,some (v1,.box 25 [.rd z01 a0]))] aa ww) (fun aa ww h=>Zu h [4,5,6,2,3,1]) (fun s11=>?_)
  refine gSR<|Zq (I.lss Z Z)<|Zn<|z0t<|gIf Z Z (fun h12=>?_) (fun h12=>?_)
  ·refine Zt<|z0t<|z4m<|gSR<|z0m fun x13 h14=>Zq (ixR Z Z h14 tu22 z1z Z)<|Zq (ldR Z z3t)<|Eb Z (z4i 7 z1z (.zr (R:=aZ) (x:=(Vector.replicate 32 0)) zef)) fun v15=>Es (sto 7 Z Z fH Z z1z)<|Zn<|z2b<|Zq (ldV 6 Z Z .here z17f Z)<|Zq (ld 7 Z Z fH z3t Z)<|zgt [3,2,5,4,1,6] [(1,3),(2,2),(3,5),(4,4),(5,1),(6,6)] (gd0 Z) Z Z Tryz.func133 Z Z (zix _ _ _ _ _ _ _ _ _ _) (Y1 Z) (cQ 3 Z<|cQ 5 Z<|cQ 1 Z<|cQ 6 Z<|cN) (Zi Z<|Zi Z<|Zi Z<|Zi Z<|Zi Z<|Zi Z<|rN) fun r16 n17=>z1n<|z3a<|z0n<|z2b<|Zq (I.add Z Z)<|Zm Z<|z1n<|z1j (fun aa ww h=>Zu h [4,5,6,2,3,1])
  ·refine z1w<|z0w<|z0y<|z3g (fun aa ww h=>Zu h [4,5])
 ·refine gSR<|Zq (ldV 5 Z Z .here zwj Z)<|Zb Z<|z0j<|Ze [v7] [4] Z
def z9u (a0:z08):Option (z08) :=
 app 32 ([]:List V3) a0.Preds >>= fun x4 =>
 some (⟨a0.Author,x4,a0.Stamp,a0.Act,a0.Sig⟩:z08)
theorem zby (a0:z08):z1o Tryz.prog 23 [.rd z03 a0] [] (z9u a0) (fun r nv=>⟨[.rd z03 r],[]⟩):=by
 refine z29 9 Tryz.func23 Z Z Z fun H w=>?_;refine gSR<|Eb Z (bx 1 Z) fun v1=>Eb Z (z4i 2 z5t (ZrE.rd (R:=z0o) (x:=0) (Zr.num Z) (ZrE.nilS (ZrE.rd (R:=z2a) (x:=0) (Zr.num Z) (ZrE.rd (R:=z0d) (x:=(⟨0,[],(⟨0,0,0,[]⟩:z06)⟩:z0f)) zmk (ZrE.rd (R:=z0e) (x:=(⟨0,0⟩:z09)) zlr ZrE.nil Z) Z) Z)) Z)) fun v2=>Zn<|gSR<|Ef Z (lit (R:=aZ) (([]:List V3):List V3) 3 (pN) Z tu22 z1z Z Z) fun v3=>Zq (faB 1 Z Z Tryz.underlying57 Z (by exact z6b))<|Zq (ld 1 Z Z (fP (z0z _)) z93 Z)<|z0m fun x4 h5=>Ef Z (apn 3 Z Z Z .rd h5 tu22 z1z Z Z Z) fun v6=>Zq (faB 1 Z Z Tryz.underlying57 Z (by exact z6b))<|lSpl (R:=z03) 1 Z (Sp.via (Sp.prod (Sp.prod (Sp.prod (Sp.prod (Sp.prod Sp.unit))))))<|Es (zmf 1 Z Z (z9e.cast (z9e.next z16 (z9e.here z16)) Z) Z z0i z04 z6b)<|Zn<|gSR<|zt3 [.rd z0o a0.Author,.rd (z02 aZ) x4,.rd z2a a0.Stamp,.rd z0d a0.Act,.rd z0e a0.Sig] 1 3 [.rd z0o a0.Author] [.rd z2a a0.Stamp,.rd z0d a0.Act,.rd z0e a0.Sig] Z Z Z Z Z<|zbs (R:=z03) (⟨a0.Author,x4,a0.Stamp,a0.Act,a0.Sig⟩:z08) 1 Z (Sp.via (Sp.prod (Sp.prod (Sp.prod (Sp.prod (Sp.prod Sp.unit))))))<|Zq (ld 1 Z Z fH z9t Z)<|z9m aZ [.rd z0o 0,.rd (z02 aZ) [],.rd z2a 0,.rd z0d (⟨0,[],(⟨0,0,0,[]⟩:z06)⟩:z0f),.rd z0e (⟨0,0⟩:z09)] 2 [.rd z0o 0] [.rd z2a 0,.rd z0d (⟨0,[],(⟨0,0,0,[]⟩:z06)⟩:z0f),.rd z0e (⟨0,0⟩:z09)] Z Z Z<|zbs (R:=z03) (⟨0,[],0,(⟨0,[],(⟨0,0,0,[]⟩:z06)⟩:z0f),(⟨0,0⟩:z09)⟩:z08) 2 Z (Sp.via (Sp.prod (Sp.prod (Sp.prod (Sp.prod (Sp.prod Sp.unit))))))<|Es (sto 2 Z Z fH Z z5t)<|Zn<|z0j<|zb4 [] [] Z (eC 2 Z Z z9t<|eN) (rN)
def z9q (a0:z00) (s9:(List z08) × Int):Option (Sum ((List z08)) ((List z08) × Int)) :=
 if decide (s9.2<(a0.Ops.length:Int)) then
  idx a0.Ops s9.2 >>= fun x12 =>
  z9u x12 >>= fun r14 =>
  app 112 s9.1 [r14] >>= fun x17 =>
  some (w64 (s9.2+1)) >>= fun y20 =>
  some (.inr (x17,y20))
 else
  some (.inl s9.1)
def z83 (a0:z00):Option (z00) :=
 app 32 ([]:List V3) a0.IDs >>= fun x4 =>
 (iter (z9q a0) ([],0)) >>= fun s8 =>
 some (⟨x4,s8⟩:z00)
set_option maxHeartbeats 4000000 in
theorem zkg (a0:z00):z1o Tryz.prog 6 [.rd z01 a0] [] (z83 a0) (fun r nv=>⟨[.rd z01 r],[]⟩):=by
 refine z29 29 Tryz.func6 Z Z Z fun H w=>?_;refine gSR<|Eb Z (bx 1 Z) fun v1=>Eb Z (z4i 2 z3v (ZrE.nilS (ZrE.nilS ZrE.nil))) fun v2=>Zn<|gSR<|Ef Z (lit (R:=aZ) (([]:List V3):List V3) 3 (pN) Z tu22 z1z Z Z) fun v3=>Zq (faB 1 Z Z Tryz.underlying25 Z (by exact z6b))<|Zq (ld 1 Z Z (fP (z0b _)) z93 Z)<|z0m fun x4 h5=>Ef Z (apn 3 Z Z Z .rd h5 tu22 z1z Z Z Z) fun v6=>Zq (zlv [(0,1),(1,1)] Tryz.underlying25 z3v (ZrE.nilS (ZrE.nilS ZrE.nil)) Z (zfm.cons Z Z z04 (z9e.cast (z9e.here z04) Z)<|zfm.done Z))<|Eb Z (z4i 4 z3v (ZrE.nilS (ZrE.nilS ZrE.nil))) fun v7=>Es (zkr 4 Z Z (z07.cast (z07.cons z04 (z07.cons z04 z07.nil)) Z) Z (z1i.cons z0i (z1i.cons z0i z1i.nil)) (z07.cast (z07.cons z04 (z07.cons z04 z07.nil)) Z) z3v)<|Zn<|z8d (fun (s8:(List z08)) aa ww=>∃ nv:Nat→Value,Sta (ctx 29 H [] w) [(2,.val (z05 v2 0)),(3,.val (z05 v7 0))] [(2,some (v2,.box 25 [.val (.slice none 0 0),.val (.slice none 0 0)])),(3,some (v6,.list aZ 31 x4)),(5,some ((nv 0),.list z03 57 s8)),(4,some (v7,.box 25 [.val v6,.val (nv 0)]))] aa ww) ?_ (fun s8=>?_)
 ·refine gSR<|Zb Z<|zuu z03 57 7<|z24 (fun (s9:(List z08) × Int) aa ww=>∃ nv:Nat→Value,Sta (ctx 29 H [] w) [(1,.val (z05 v1 0)),(2,.val (z05 v2 0)),(3,.val (z05 v7 0)),(4,.rd z0c s9.2)] [(1,some (v1,.box 25 [.rd z01 a0])),(2,some (v2,.box 25 [.val (.slice none 0 0),.val (.slice none 0 0)])),(3,some (v6,.list aZ 31 x4)),(6,some ((nv 0),.list z03 57 s9.1)),(4,some (v7,.box 25 [.val v6,.val (nv 0)]))] aa ww) (fun aa ww h=>⟨nvl [(.slice none 0 0)],Zu h [1,2,3,7,4]⟩) (fun s9=>?_)
  refine gEx fun n10=>z0t<|gSR<|Zm Z<|Zq (faB 1 Z Z Tryz.underlying25 Z (by exact zas))<|Zq (ld 1 Z Z (fP (z0a _)) zf4 Z)<|Zq (z3h Z .rd Z tu23)<|Zq (I.lss Z Z)<|Zj Z (fun h11=>?_) (fun h11=>?_)
  ·refine Zt<|z0t<|z4m<|zps [(1,.val (z05 v1 0)),(2,.val (z05 v2 0)),(3,.val (z05 v7 0)),(4,.rd z0c s9.2)] [(1,some (v1,.box 25 [.rd z01 a0])),(2,some (v2,.box 25 [.val (.slice none 0 0),.val (.slice none 0 0)])),(3,some (v6,.list aZ 31 x4)),(6,some ((n10 0),.list z03 57 s9.1)),(4,some (v7,.box 25 [.val v6,.val (n10 0)]))] [1,2,3,6,4] (Zs Z Z Z Z<|sN) (Zi Z<|Zi Z<|Zi Z<|Zi Z<|Zi Z<|rN)<|z43 fun x12 h13=>z43 fun r14 h16=>z43 fun x17 h18=>gOr [] [⟨4,some ([], fun nv=>(v7,.box 25 [.val v6,.val (n10 0)])),[(11,some ([2], fun nv=>(v7,.box 25 [.val v6,.val (nv 2)])))]⟩,⟨1,some ([], fun nv=>(v1,.box 25 [.rd z01 a0])),[]⟩,⟨8,none,[(8,none)]⟩,⟨6,some ([], fun nv=>((n10 0),.list z03 57 s9.1)),[(9,some ([2], fun nv=>((nv 2),.list z03 57 x17)))]⟩] [pk 17 (.val (z05 v7 (0+1))) [(0,0,false)],pk 18 (.val (n10 0)) [(0,0,false)],pk 19 (.val (z05 v1 (0+1))) [(1,0,false)],pk 20 (.rd (z02 z03) a0.Ops) [(1,0,false)],pd 21 (.rd z0c s9.2),pd 22 (.rp z03 x12),pd 23 (.rd z03 x12),pd 24 (.rd z03 r14),⟨some (25,[], fun nv=>.rd (z02 z03) [r14]),[(2,0,true)],[1],[]⟩,⟨some (26,[2], fun nv=>.val (nv 2)),[(3,0,true)],[2],[]⟩,pk 27 (.val (z05 v7 (0+1))) [(0,0,false)],⟨none,[(3,1,false),(0,0,true)],[],[]⟩] mixed (oC (oRn (fun nv E=>faB 4 Z Z Tryz.underlying25 Z (by exact zas)))<|oC (oRn (fun nv E=>ldV 4 Z Z (At.cast (At.next z04 At.here) Z) sc23 Z))<|oC (oRn (fun nv E=>faB 1 Z Z Tryz.underlying25 Z (by exact zas)))<|oC (oRn (fun nv E=>ld 1 Z Z (fP (z0a _)) zf4 Z))<|oC (oRn (fun nv E=>mv Z))<|oC (oRn (fun nv E=>ixR Z Z h13 tu23 z5t Z))<|oC (oRn (fun nv E=>ldR Z z9t))<|oC (oCl [] [] [] h16 Tryz.func23 Z (fun nv=>(zby _)) (fun nv=>(Y1 Z)) (fun nv E=>rN))<|oC (oFz (A1:=fun nv=>[(8,some ((nv 1),.list z03 57 [r14]))]) 8 1 (oEf 8 1 (fun nv E=>lit (R:=z03) ([r14]:List z08) 8 (pP Z Z<|pN) Z tu23 z5t Z Z)))<|oC (oEf 6 2 (fun nv E=>apn 6 Z Z Z .rd h18 tu23 z5t Z Z Z))<|oC (oRn (fun nv E=>faB 4 Z Z Tryz.underlying25 Z (by exact zas)))<|oC (oEs 4 (fun nv E=>zmf 4 Z Z (z9e.cast (z9e.next z04 (z9e.here z04)) Z) Z z0i z04 zas))<|oN) fun n19=>z3a<|z0n<|z2b<|Zm Z<|Zq (I.add Z Z)<|Za Z<|z1x 4 Z fun y20=>z1n<|z1j (fun aa ww h=>⟨nvl [(n19 2)],Zu h [1,2,3,6,4]⟩)
  ·refine z1w<|z0w<|z0y<|z3g (fun aa ww h=>⟨nvl [(n10 0)],Zu h [2,3,6,4]⟩)
 ·refine gEx fun n21=>gSR<|zt3 [.rd (z02 aZ) x4,.val (n21 0)] 4 3 [] [.val (n21 0)] Z Z Z Z Z<|zt3 [.rd (z02 aZ) x4,.rd (z02 z03) s8] 4 5 [.rd (z02 aZ) x4] [] Z Z Z Z Z<|zbs (R:=z01) (⟨x4,s8⟩:z00) 4 Z (Sp.via (Sp.prod (Sp.prod Sp.unit)))<|Zq (ld 4 Z Z fH z3k Z)<|z9m aZ [.rd (z02 aZ) [],.val (.slice none 0 0)] 2 [] [.val (.slice none 0 0)] Z Z Z<|z9m z03 [.rd (z02 aZ) [],.rd (z02 z03) []] 2 [.rd (z02 aZ) []] [] Z Z Z<|zbs (R:=z01) (⟨[],[]⟩:z00) 2 Z (Sp.via (Sp.prod (Sp.prod Sp.unit)))<|Es (sto 2 Z Z fH Z z3v)<|Zn<|z0j<|zb4 [] [] Z (eC 2 Z Z z3k<|eN) (rN)
def z74 (a0:List V3) (a1:List V3) (s3:Int):Option (Sum (Sum Bool Unit) Int) :=
 if decide (s3<(a0.length:Int)) then
  idx a0 s3 >>= fun x5 =>
  idx a1 s3 >>= fun x7 =>
  if !decide (x5=x7) then
   some (.inl (.inl false))
  else
   some (.inr (w64 (s3+1)))
 else
  some (.inl (.inr ()))
def z6s (a0:List V3) (a1:List V3):Option (Bool) :=
 if (a0.length:Int) != (a1.length:Int) then
  some false
 else
  z5u (iter (z74 a0 a1) 0) fun s2 =>
  some true
theorem zd8 (a0:List V3) (a1:List V3):z1o Tryz.prog 32 [.rd (z02 aZ) a0,.rd (z02 aZ) a1] [] (z6s a0 a1) (fun r nv=>⟨[.rd z0h r],[]⟩):=by
 refine z29 26 Tryz.func32 Z Z Z fun H w=>?_;refine gSR<|Zb Z<|z0t<|gSR<|Zm Z<|Zq (z3h Z .rd Z tu22)<|Zm Z<|Zq (z3h Z .rd Z tu22)<|Zq (I.neq Z Z)<|Zj Z (fun h1=>?_) (fun h1=>?_)
 ·refine gSR<|Zb Z<|z0j<|z0v<|Ze [] [] Z
 ·refine Zt<|z8g (fun (s2:Unit) aa ww=>Sta (ctx 26 H [] w) [] [] aa ww) ?_ (fun s2=>?_)
  ·refine gSR<|Zb Z<|z24 (fun (s3:Int) aa ww=>Sta (ctx 26 H [] w) [(0,.rd (z02 aZ) a0),(1,.rd (z02 aZ) a1),(5,.rd z0c s3)] [] aa ww) (fun aa ww h=>Zu h []) (fun s3=>?_);refine z0t<|gSR<|Zm Z<|Zm Z<|Zq (z3h Z .rd Z tu22)<|Zq (I.lss Z Z)<|Zj Z (fun h4=>?_) (fun h4=>?_)
   ·refine Zt<|z0t<|z4m<|z0t<|zid mixed (by kernel_rfl)<|Rq Z (mv Z)<|Rq Z (mv Z)<|z8e fun x5 h6=>Rq Z (ixR Z Z h6 tu22 z1z Z)<|Rq Z (ldR Z z3t)<|Rq Z (mv Z)<|Rq Z (mv Z)<|z8e fun x7 h8=>Rq Z (ixR Z Z h8 tu22 z1z Z)<|Rq Z (ldR Z z3t)<|Rq Z (neA Z Z eq31 Z Z gq31)<|zss<|z0n<|gIf Z Z (fun h9=>?_) (fun h9=>?_)
    ·refine gSR<|Zb Z<|z0j<|z3w<|z0v<|z7m<|z7j<|Ze [] [] Z
    ·refine z2p<|z3a<|z0n<|z2b<|Zm Z<|Zq (I.add Z Z)<|Za Z<|z1n<|z1j (fun aa ww h=>Zu h [])
   ·refine z1w<|z0w<|z0y<|z7p (fun aa ww h=>Zu h [])
  ·refine gSR<|Zb Z<|z0j<|Ze [] [] Z
def zbu (a0:z08) (a1:z08):Option (Bool) :=
 if a0.Author==a1.Author then
  z6s a0.Preds a1.Preds >>= fun r4 =>
  if r4 then
   if a0.Stamp==a1.Stamp then
    if decide (a0.Act=a1.Act) then
     some (decide (a0.Sig=a1.Sig)) >>= fun y9 =>
     some y9
    else
     some false
   else
    some false
  else
   some false
 else
  some false
theorem zjy (a0:z08) (a1:z08):z1o Tryz.prog 33 [.rd z03 a0,.rd z03 a1] [] (zbu a0 a1) (fun r nv=>⟨[.rd z0h r],[]⟩):=by
 refine z29 38 Tryz.func33 Z Z Z fun H w=>?_;refine gSR<|Eb Z (bx 1 Z) fun v1=>Eb Z (bx 2 Z) fun v2=>Zb Z<|gSR<|Zq (faB 1 Z Z Tryz.underlying57 Z (by exact z61))<|Zq (ld 1 Z Z (fP (z2z _)) z9r Z)<|Zq (faB 2 Z Z Tryz.underlying57 Z (by exact z61))<|Zq (ld 2 Z Z (fP (z2z _)) z9r Z)<|Zq (W.eql Z Z)<|Zm Z<|z19 10 Z (fun h3=>?_) (fun h3=>?_)
 ·refine lKn 9 Z h3<|z17 Zx Z Z (faB 1 Z Z Tryz.underlying57 Z (by exact z6b))<|z17 Zx Z Z (ld 1 Z Z (fP (z0z _)) z93 Z)<|z17 Zx Z Z (faB 2 Z Z Tryz.underlying57 Z (by exact z6b))<|z17 Zx Z Z (ld 2 Z Z (fP (z0z _)) z93 Z)<|ze9 [] [] Zx Z Tryz.func32 Z Z (zd8 _ _) (Y2 Z Z) rN fun r4 n5=>Zq (pkT Z Z)<|Zm Z<|z19 17 Z (fun h6=>?_) (fun h6=>?_)
  ·refine lKn 15 Z h6<|lKn 16 Z h6<|z17 Zx Z Z (faB 1 Z Z Tryz.underlying57 Z (by exact zqm))<|z17 Zx Z Z (ld 1 Z Z (fP (z4a _)) zpo Z)<|z17 Zx Z Z (faB 2 Z Z Tryz.underlying57 Z (by exact zqm))<|z17 Zx Z Z (ld 2 Z Z (fP (z4a _)) zpo Z)<|z17 Zx Z Z (U.eql Z Z)<|Zq (pkT Z Z)<|Zm Z<|z19 24 Z (fun h7=>?_) (fun h7=>?_)
   ·refine lKn 22 Z h7<|lKn 23 Z h7<|z17 Zx Z Z (faB 1 Z Z Tryz.underlying57 Z (by exact zph))<|z17 Zx Z Z (ld 1 Z Z (fP (z2h _)) ty53 Z)<|z17 Zx Z Z (faB 2 Z Z Tryz.underlying57 Z (by exact zph))<|z17 Zx Z Z (ld 2 Z Z (fP (z2h _)) ty53 Z)<|z17 Zx Z Z (eqA Z Z eq53 Z Z gq53)<|Zq (pkT Z Z)<|Zm Z<|z19 31 Z (fun h8=>?_) (fun h8=>?_)
    ·refine lKn 29 Z h8<|lKn 30 Z h8<|z17 Zx Z Z (faB 1 Z Z Tryz.underlying57 Z (by exact zll))<|z17 Zx Z Z (ld 1 Z Z (fP (z2g _)) ty55 Z)<|z17 Zx Z Z (faB 2 Z Z Tryz.underlying57 Z (by exact zll))<|z17 Zx Z Z (ld 2 Z Z (fP (z2g _)) ty55 Z)<|z17 Zx Z Z (eqA Z Z eq55 Z Z gq55)<|Zq (pkT Z Z)<|Za Z<|z1x 4 Z fun y9=>Zn<|z0j<|Ze [] [] Z
    ·refine lKn 29 Z h8<|lKn 30 Z h8<|Zk Z<|Zk Z<|Zk Z<|Zk Z<|Zk Z<|Zq (pkF Z Z)<|Zb Z<|z0j<|Ze [] [] Z
   ·refine lKn 22 Z h7<|lKn 23 Z h7<|Zk Z<|Zk Z<|Zk Z<|Zk Z<|Zk Z<|Zq (pkF Z Z)<|Zm Z<|Zk Z<|Zk Z<|Zk Z<|Zk Z<|Zk Z<|Zq (pkF Z Z)<|Zb Z<|z0j<|Ze [] [] Z
  ·refine lKn 15 Z h6<|lKn 16 Z h6<|Zk Z<|Zk Z<|Zk Z<|Zk Z<|Zk Z<|Zq (pkF Z Z)<|Zm Z<|Zk Z<|Zk Z<|Zk Z<|Zk Z<|Zk Z<|Zq (pkF Z Z)<|Zm Z<|Zk Z<|Zk Z<|Zk Z<|Zk Z<|Zk Z<|Zq (pkF Z Z)<|Zb Z<|z0j<|Ze [] [] Z
 ·refine lKn 9 Z h3<|Zk Z<|Zk Z<|Zk Z<|Zk Z<|Zk Z<|Zq (pkF Z Z)<|Zm Z<|Zk Z<|Zk Z<|Zk Z<|Zk Z<|Zk Z<|Zq (pkF Z Z)<|Zm Z<|Zk Z<|Zk Z<|Zk Z<|Zk Z<|Zk Z<|Zq (pkF Z Z)<|Zm Z<|Zk Z<|Zk Z<|Zk Z<|Zk Z<|Zk Z<|Zq (pkF Z Z)<|Zb Z<|z0j<|Ze [] [] Z
def z9k (a0:z00) (a1:z00) (s8:Int):Option (Sum (Sum Bool Unit) Int) :=
 if decide (s8<(a0.Ops.length:Int)) then
  idx a0.Ops s8 >>= fun x10 =>
  idx a1.Ops s8 >>= fun x12 =>
  zbu x10 x12 >>= fun r14 =>
  if !r14 then
   some (.inl (.inl false))
  else
   some (.inr (w64 (s8+1)))
 else
  some (.inl (.inr ()))
def z89 (a0:z00) (a1:z00):Option (Bool) :=
 z6s a0.IDs a1.IDs >>= fun r3 =>
 if !r3 then
  some false
 else
  if (a0.Ops.length:Int) != (a1.Ops.length:Int) then
   some false
  else
   z5u (iter (z9k a0 a1) 0) fun s7 =>
   some true
theorem zbv (a0:z00) (a1:z00):z1o Tryz.prog 16 [.rd z01 a0,.rd z01 a1] [] (z89 a0 a1) (fun r nv=>⟨[.rd z0h r],[]⟩):=by
 refine z29 40 Tryz.func16 Z Z Z fun H w=>?_;refine gSR<|Eb Z (bx 1 Z) fun v1=>Eb Z (bx 2 Z) fun v2=>Zb Z<|z0t<|gSR<|Zq (faB 1 Z Z Tryz.underlying25 Z (by exact z6b))<|Zq (ld 1 Z Z (fP (z0b _)) z93 Z)<|Zq (faB 2 Z Z Tryz.underlying25 Z (by exact z6b))<|Zq (ld 2 Z Z (fP (z0b _)) z93 Z)<|Zc [] [] Tryz.func32 Z (zd8 _ _) fun r3 n4=>Zq (zex Z)<|Zm Z<|z19 12 Z (fun h5=>?_) (fun h5=>?_)
 ·refine lKn 11 Z h5<|Zk Z<|Zk Z<|Zk Z<|Zk Z<|Zk Z<|Zk Z<|Zk Z<|Zq (pkT Z Z)<|Zn<|zhl Z<|gSR<|Zb Z<|z0j<|z0v<|Ze [] [] Z
 ·refine lKn 11 Z h5<|z17 Zx Z Z (faB 1 Z Z Tryz.underlying25 Z (by exact zas))<|z17 Zx Z Z (ld 1 Z Z (fP (z0a _)) zf4 Z)<|z17 Zx Z Z (z3h Z .rd Z tu23)<|z17 Zx Z Z (faB 2 Z Z Tryz.underlying25 Z (by exact zas))<|z17 Zx Z Z (ld 2 Z Z (fP (z0a _)) zf4 Z)<|z17 Zx Z Z (z3h Z .rd Z tu23)<|z17 Zx Z Z (I.neq Z Z)<|Zq (pkF Z Z)<|Zj Z (fun h6=>?_) (fun h6=>?_)
  ·refine gKn 19 Z h6<|gSR<|Zb Z<|z0j<|z0v<|Ze [] [] Z
  ·refine gKn 19 Z h6<|Zt<|z8g (fun (s7:Unit) aa ww=>Sta (ctx 40 H [] w) [] [] aa ww) ?_ (fun s7=>?_)
   ·refine gSR<|Zb Z<|z24 (fun (s8:Int) aa ww=>Sta (ctx 40 H [] w) [(2,.val (z05 v1 0)),(3,.val (z05 v2 0)),(5,.rd z0c s8)] [(1,some (v1,.box 25 [.rd z01 a0])),(2,some (v2,.box 25 [.rd z01 a1]))] aa ww) (fun aa ww h=>Zu h [1,2]) (fun s8=>?_);refine z0t<|gSR<|Zm Z<|Zq (faB 1 Z Z Tryz.underlying25 Z (by exact zas))<|Zq (ld 1 Z Z (fP (z0a _)) zf4 Z)<|Zq (z3h Z .rd Z tu23)<|Zq (I.lss Z Z)<|Zj Z (fun h9=>?_) (fun h9=>?_)
    ·refine Zt<|z0t<|z4m<|z0t<|z8s [] mixed Z Z<|hTk 0 Z Z (faB 1 Z Z Tryz.underlying25 Z (by exact zas))<|hTk 1 Z Z (ld 1 Z Z (fP (z0a _)) zf4 Z)<|hTk 2 Z Z (mv Z)<|z5o fun x10 h11=>hTk 3 Z Z (ixR Z Z h11 tu23 z5t Z)<|hTk 4 Z Z (ldR Z z9t)<|hTk 5 Z Z (faB 2 Z Z Tryz.underlying25 Z (by exact zas))<|hTk 6 Z Z (ld 2 Z Z (fP (z0a _)) zf4 Z)<|hTk 7 Z Z (mv Z)<|z5o fun x12 h13=>hTk 8 Z Z (ixR Z Z h13 tu23 z5t Z)<|hTk 9 Z Z (ldR Z z9t)<|z41 10 [] [] Z (by kernel_rfl) Z (gd0 Z) Z Tryz.func33 Z Z (zjy _ _) (Y2 Z Z) rN Z (fun _ _=>zc8) fun r14 n15=>hTk 11 Z Z (zex Z)<|z54 (by kernel_rfl)<|z0n<|gIf Z Z (fun h16=>?_) (fun h16=>?_)
     ·refine gSR<|Zb Z<|z0j<|z3w<|z0v<|z7m<|z7j<|Ze [] [] Z
     ·refine z2p<|z3a<|z0n<|z2b<|Zm Z<|Zq (I.add Z Z)<|Za Z<|z1n<|z1j (fun aa ww h=>Zu h [1,2])
    ·refine z1w<|z0w<|z0y<|z7p (fun aa ww h=>Zu h [])
   ·refine gSR<|Zb Z<|z0j<|Ze [] [] Z
def zdm (a0:z08):Option (z08) :=
 z0p a0.Preds >>= fun r3 =>
 some (⟨a0.Author,r3,a0.Stamp,a0.Act,a0.Sig⟩:z08)
theorem ze0 (a0:z08):z1o Tryz.prog 61 [.rd z03 a0] [] (zdm a0) (fun r nv=>⟨[.rd z03 r],[]⟩):=by
 refine z29 8 Tryz.func61 Z Z Z fun H w=>?_;refine gSR<|Eb Z (bx 1 Z) fun v1=>Eb Z (z4i 2 z5t (ZrE.rd (R:=z0o) (x:=0) (Zr.num Z) (ZrE.nilS (ZrE.rd (R:=z2a) (x:=0) (Zr.num Z) (ZrE.rd (R:=z0d) (x:=(⟨0,[],(⟨0,0,0,[]⟩:z06)⟩:z0f)) zmk (ZrE.rd (R:=z0e) (x:=(⟨0,0⟩:z09)) zlr ZrE.nil Z) Z) Z)) Z)) fun v2=>Zn<|gSR<|Zq (faB 1 Z Z Tryz.underlying57 Z (by exact z6b))<|Zq (ld 1 Z Z (fP (z0z _)) z93 Z)<|Zc [] [(100,3)] Tryz.func26 Z (z1a _) fun r3 n4=>Zq (faB 1 Z Z Tryz.underlying57 Z (by exact z6b))<|lSpl (R:=z03) 1 Z (Sp.via (Sp.prod (Sp.prod (Sp.prod (Sp.prod (Sp.prod Sp.unit))))))<|Es (zmf 1 Z Z (z9e.cast (z9e.next z16 (z9e.here z16)) Z) Z z0i z04 z6b)<|Zn<|gSR<|zt3 [.rd z0o a0.Author,.rd (z02 aZ) r3,.rd z2a a0.Stamp,.rd z0d a0.Act,.rd z0e a0.Sig] 1 3 [.rd z0o a0.Author] [.rd z2a a0.Stamp,.rd z0d a0.Act,.rd z0e a0.Sig] Z Z Z Z Z<|zbs (R:=z03) (⟨a0.Author,r3,a0.Stamp,a0.Act,a0.Sig⟩:z08) 1 Z (Sp.via (Sp.prod (Sp.prod (Sp.prod (Sp.prod (Sp.prod Sp.unit))))))<|Zq (ld 1 Z Z fH z9t Z)<|z9m aZ [.rd z0o 0,.rd (z02 aZ) [],.rd z2a 0,.rd z0d (⟨0,[],(⟨0,0,0,[]⟩:z06)⟩:z0f),.rd z0e (⟨0,0⟩:z09)] 2 [.rd z0o 0] [.rd z2a 0,.rd z0d (⟨0,[],(⟨0,0,0,[]⟩:z06)⟩:z0f),.rd z0e (⟨0,0⟩:z09)] Z Z Z<|zbs (R:=z03) (⟨0,[],0,(⟨0,[],(⟨0,0,0,[]⟩:z06)⟩:z0f),(⟨0,0⟩:z09)⟩:z08) 2 Z (Sp.via (Sp.prod (Sp.prod (Sp.prod (Sp.prod (Sp.prod Sp.unit))))))<|Es (sto 2 Z Z fH Z z5t)<|Zn<|z0j<|zb4 [] [] Z (eC 2 Z Z z9t<|eN) (rN)
def zjg (a0:z00) (a1:V3):Option (z08 × Int) :=
 z11 a0 >>= fun r4 =>
 if r4 != 0 then
  some ((⟨0,[],0,(⟨0,[],(⟨0,0,0,[]⟩:z06)⟩:z0f),(⟨0,0⟩:z09)⟩:z08),r4)
 else
  zcs a0 a1 >>= fun r7 =>
  if !r7.2 then
   some ((⟨0,[],0,(⟨0,[],(⟨0,0,0,[]⟩:z06)⟩:z0f),(⟨0,0⟩:z09)⟩:z08),6)
  else
   idx a0.Ops r7.1 >>= fun x10 =>
   zdm x10 >>= fun r12 =>
   some (r12,0)
theorem zoy (a0:z00) (a1:V3):z1o Tryz.prog 54 [.rd z01 a0,.rd aZ a1] [zG1] (zjg a0 a1) (fun r nv=>⟨[.rd z03 r.1,.rd z0c r.2],[(1001,some (.bool true,.glob 1 (z3b 64 z0o) z52))]⟩):=by
 refine z29 30 Tryz.func54 Z Z Z fun H w=>?_;refine gSR<|Eb Z (bx 1 Z) fun v1=>Eb Z (bx 2 Z) fun v2=>Eb Z (z4i 3 z5t (ZrE.rd (R:=z0o) (x:=0) (Zr.num Z) (ZrE.nilS (ZrE.rd (R:=z2a) (x:=0) (Zr.num Z) (ZrE.rd (R:=z0d) (x:=(⟨0,[],(⟨0,0,0,[]⟩:z06)⟩:z0f)) zmk (ZrE.rd (R:=z0e) (x:=(⟨0,0⟩:z09)) zlr ZrE.nil Z) Z) Z)) Z)) fun v3=>Zb Z<|z0t<|gSR<|Zq (ld 1 Z Z fH z3k Z)<|Zc [1001] [] Tryz.func43 Z (z9y _) fun r4 n5=>Zb Z<|gSR<|Zm Z<|Zq (I.neq Z Z)<|Zj Z (fun h6=>?_) (fun h6=>?_)
 ·refine gSR<|Zq (zlv [(0,1),(1,1),(2,1),(3,6),(9,2)] Tryz.underlying57 z5t (ZrE.rd (R:=z0o) (x:=0) (Zr.num Z) (ZrE.nilS (ZrE.rd (R:=z2a) (x:=0) (Zr.num Z) (ZrE.rd (R:=z0d) (x:=(⟨0,[],(⟨0,0,0,[]⟩:z06)⟩:z0f)) zmk (ZrE.rd (R:=z0e) (x:=(⟨0,0⟩:z09)) zlr ZrE.nil Z) Z) Z)) Z) Z (zfm.done Z))<|Zm Z<|Es (zkr 3 Z Z (z07.cast (z07.cons z16 (z07.cons z04 (z07.cons z16 (z07.cons z16 (z07.cons z16 z07.nil))))) Z) Z (z1i.cons z86 (z1i.cons z0i (z1i.cons z86 (z1i.cons z86 (z1i.cons z86 z1i.nil))))) (z07.cast (z07.cons z16 (z07.cons z04 (z07.cons z16 (z07.cons z16 (z07.cons z16 z07.nil))))) Z) z5t)<|Zb Z<|z0j<|z0v<|zgs aZ [.rd z0o 0,.rd (z02 aZ) [],.rd z2a 0,.rd z0d (⟨0,[],(⟨0,0,0,[]⟩:z06)⟩:z0f),.rd z0e (⟨0,0⟩:z09)] 3 [.rd z0o 0] [.rd z2a 0,.rd z0d (⟨0,[],(⟨0,0,0,[]⟩:z06)⟩:z0f),.rd z0e (⟨0,0⟩:z09)] Z Z Z<|zoi (R:=z03) (⟨0,[],0,(⟨0,[],(⟨0,0,0,[]⟩:z06)⟩:z0f),(⟨0,0⟩:z09)⟩:z08) 3 Z (Sp.via (Sp.prod (Sp.prod (Sp.prod (Sp.prod (Sp.prod Sp.unit))))))<|zb4 [] [1001] Z (eC 3 Z Z z9t<|eE Z<|eN) (y1 Z)
 ·refine Zt<|gSR<|Zq (ld 1 Z Z fH z3k Z)<|Zq (ld 2 Z Z fH z3t Z)<|Zc [] [] Tryz.func59 Z (zdw _ _) fun r7 n8=>Zm Z<|Zq (ext Z Z)<|Zq (ext Z Z)<|Za Z<|Zb Z<|z0t<|gSR<|Zm Z<|Zq (zex Z)<|Zj Z (fun h9=>?_) (fun h9=>?_)
  ·refine gSR<|Zq (zlv [(0,1),(1,1),(2,1),(3,6),(9,2)] Tryz.underlying57 z5t (ZrE.rd (R:=z0o) (x:=0) (Zr.num Z) (ZrE.nilS (ZrE.rd (R:=z2a) (x:=0) (Zr.num Z) (ZrE.rd (R:=z0d) (x:=(⟨0,[],(⟨0,0,0,[]⟩:z06)⟩:z0f)) zmk (ZrE.rd (R:=z0e) (x:=(⟨0,0⟩:z09)) zlr ZrE.nil Z) Z) Z)) Z) Z (zfm.done Z))<|Es (zkr 3 Z Z (z07.cast (z07.cons z16 (z07.cons z04 (z07.cons z16 (z07.cons z16 (z07.cons z16 z07.nil))))) Z) Z (z1i.cons z86 (z1i.cons z0i (z1i.cons z86 (z1i.cons z86 (z1i.cons z86 z1i.nil))))) (z07.cast (z07.cons z16 (z07.cons z04 (z07.cons z16 (z07.cons z16 (z07.cons z16 z07.nil))))) Z) z5t)<|Zb Z<|z0j<|z0v<|zgs aZ [.rd z0o 0,.rd (z02 aZ) [],.rd z2a 0,.rd z0d (⟨0,[],(⟨0,0,0,[]⟩:z06)⟩:z0f),.rd z0e (⟨0,0⟩:z09)] 3 [.rd z0o 0] [.rd z2a 0,.rd z0d (⟨0,[],(⟨0,0,0,[]⟩:z06)⟩:z0f),.rd z0e (⟨0,0⟩:z09)] Z Z Z<|zoi (R:=z03) (⟨0,[],0,(⟨0,[],(⟨0,0,0,[]⟩:z06)⟩:z0f),(⟨0,0⟩:z09)⟩:z08) 3 Z (Sp.via (Sp.prod (Sp.prod (Sp.prod (Sp.prod (Sp.prod Sp.unit))))))<|zb4 [] [1001] Z (eC 3 Z Z z9t<|eE Z<|eN) (y1 Z)
  ·refine Zt<|gSR<|Zq (faB 1 Z Z Tryz.underlying25 Z (by exact zas))<|Zq (ld 1 Z Z (fP (z0a _)) zf4 Z)<|Zm Z<|z0m fun x10 h11=>Zq (ixR Z Z h11 tu23 z5t Z)<|Zq (ldR Z z9t)<|Zc [] [] Tryz.func61 Z (ze0 _) fun r12 n13=>z9m aZ [.rd z0o 0,.rd (z02 aZ) [],.rd z2a 0,.rd z0d (⟨0,[],(⟨0,0,0,[]⟩:z06)⟩:z0f),.rd z0e (⟨0,0⟩:z09)] 3 [.rd z0o 0] [.rd z2a 0,.rd z0d (⟨0,[],(⟨0,0,0,[]⟩:z06)⟩:z0f),.rd z0e (⟨0,0⟩:z09)] Z Z Z<|zbs (R:=z03) (⟨0,[],0,(⟨0,[],(⟨0,0,0,[]⟩:z06)⟩:z0f),(⟨0,0⟩:z09)⟩:z08) 3 Z (Sp.via (Sp.prod (Sp.prod (Sp.prod (Sp.prod (Sp.prod Sp.unit))))))<|Es (sto 3 Z Z fH Z z5t)<|Zb Z<|z0j<|zb4 [] [1001] Z (eC 3 Z Z z9t<|eE Z<|eN) (y1 Z)
end
section
open Go Go.Shelf
def z10b:Go.Shelf.Ren:=⟨fun | 6=>47 | 15=>85 | 14=>84 | 28=>129 | 29=>130 | 20=>121 | 21=>122 | 22=>123 | 23=>124 | 24=>125 | 25=>126 | 26=>127 | 27=>128 | 46=>157 | 47=>158 | 48=>159 | 49=>160 | 50=>161 | 57=>177 | n=>n, fun | 22=>22 | 24=>31 | 25=>76 | 3=>3 | 39=>125 | 0=>0 | 53=>48 | 55=>49 | 4=>4 | 46=>157 | 45=>156 | 50=>100 | 5=>5 | 9=>9 | 66=>184 | 70=>188 | 76=>203 | 77=>204 | n=>n, fun | n=>n⟩
theorem z10x:Go.Proofs.SlLaysF0.n6 Tryz.prog z10b:={
 mixed:=by kernel_rfl
 f6:=⟨Tryz.f47.name, by decide,Tryz.func47.trans (congrArg some (by kernel_rfl))⟩
 f14:=⟨Tryz.f84.name, by decide,Tryz.func84.trans (congrArg some (by kernel_rfl))⟩
 f15:=Tryz.func85.trans (congrArg some (by kernel_rfl))
 f20:=⟨Tryz.f121.name, by decide,Tryz.func121.trans (congrArg some (by kernel_rfl))⟩
 f21:=⟨Tryz.f122.name, by decide,Tryz.func122.trans (congrArg some (by kernel_rfl))⟩
 f22:=⟨Tryz.f123.name, by decide,Tryz.func123.trans (congrArg some (by kernel_rfl))⟩
 f23:=⟨Tryz.f124.name, by decide,Tryz.func124.trans (congrArg some (by kernel_rfl))⟩
 f24:=⟨Tryz.f125.name, by decide,Tryz.func125.trans (congrArg some (by kernel_rfl))⟩
 f25:=⟨Tryz.f126.name, by decide,Tryz.func126.trans (congrArg some (by kernel_rfl))⟩
 f26:=⟨Tryz.f127.name, by decide,Tryz.func127.trans (congrArg some (by kernel_rfl))⟩
 f27:=⟨Tryz.f128.name, by decide,Tryz.func128.trans (congrArg some (by kernel_rfl))⟩
 f28:=Tryz.func129.trans (congrArg some (by kernel_rfl))
 f29:=Tryz.func130.trans (congrArg some (by kernel_rfl))
 f46:=⟨Tryz.f157.name, by decide,Tryz.func157.trans (congrArg some (by kernel_rfl))⟩
 f47:=Tryz.func158.trans (congrArg some (by kernel_rfl))
 f48:=Tryz.func159.trans (congrArg some (by kernel_rfl))
 f49:=⟨Tryz.f160.name, by decide,Tryz.func160.trans (congrArg some (by kernel_rfl))⟩
 f50:=⟨Tryz.f161.name, by decide,Tryz.func161.trans (congrArg some (by kernel_rfl))⟩
 f57:=⟨Tryz.f177.name, by decide,Tryz.func177.trans (congrArg some (by kernel_rfl))⟩
 t0:=Tryz.underlying0
 a0:=Tryz.isAgg0
 z0:=Tryz.sizeOf0
 v0:=Tryz.zeroValue0
 t3:=Tryz.underlying3
 a3:=Tryz.isAgg3
 z3:=Tryz.sizeOf3
 v3:=Tryz.zeroValue3
 t4:=Tryz.underlying4
 a4:=Tryz.isAgg4
 z4:=Tryz.sizeOf4
 v4:=Tryz.zeroValue4
 t5:=Tryz.underlying5
 a5:=Tryz.isAgg5
 z5:=Tryz.sizeOf5
 v5:=Tryz.zeroValue5
 t9:=Tryz.underlying9
 a9:=Tryz.isAgg9
 z9:=Tryz.sizeOf9
 v9:=Tryz.zeroValue9
 t22:=Tryz.underlying22
 a22:=Tryz.isAgg22
 z22:=Tryz.sizeOf22
 v22:=Tryz.zeroValue22
 t25:=Tryz.underlying76
 a25:=Tryz.isAgg76
 z25:=Tryz.sizeOf76
 v25:=Tryz.zeroValue76
 t39:=Tryz.underlying125
 a39:=Tryz.isAgg125
 z39:=Tryz.sizeOf125
 v39:=Tryz.zeroValue125
 t45:=Tryz.underlying156
 a45:=Tryz.isAgg156
 z45:=Tryz.sizeOf156
 v45:=Tryz.zeroValue156
 t46:=Tryz.underlying157
 a46:=Tryz.isAgg157
 z46:=Tryz.sizeOf157
 v46:=Tryz.zeroValue157
 t50:=Tryz.underlying100
 a50:=Tryz.isAgg100
 z50:=Tryz.sizeOf100
 v50:=Tryz.zeroValue100
 t53:=Tryz.underlying48
 a53:=Tryz.isAgg48
 z53:=Tryz.sizeOf48
 v53:=Tryz.zeroValue48
 t55:=Tryz.underlying49
 a55:=Tryz.isAgg49
 z55:=Tryz.sizeOf49
 v55:=Tryz.zeroValue49
 t66:=Tryz.underlying184
 a66:=Tryz.isAgg184
 z66:=Tryz.sizeOf184
 v66:=Tryz.zeroValue184
 t70:=Tryz.underlying188
 a70:=Tryz.isAgg188
 z70:=Tryz.sizeOf188
 v70:=Tryz.zeroValue188
 t76:=Tryz.underlying203
 a76:=Tryz.isAgg203
 z76:=Tryz.sizeOf203
 v76:=Tryz.zeroValue203
 t77:=Tryz.underlying204
 a77:=Tryz.isAgg204
 z77:=Tryz.sizeOf204
 v77:=Tryz.zeroValue204 }
end
section
open Go Go.Shelf Go.RowKit Go.Lib Go.Sort
def z8y (x:V3):List Value:=x.toList.map fun c=>Value.int .u8 (c.toNat:Int)
theorem zfe (x:V3):(z8y x).length=32:=by simp [z8y]
theorem z10z (x y:V3) (b c:Nat) (W:World) (hx:∀ j u,(z8y x)[j]? = some u→W.cell? ⟨b,0+j,none⟩=some u) (hy:∀ j u,(z8y y)[j]? = some u→W.cell? ⟨c,0+j,none⟩=some u) :
  (callFunc 131 #[.slice (some ⟨b,0,none⟩) 32 32,.slice (some ⟨c,0,none⟩) 32 32]).run Tryz.prog W=.ok (.value (.int .i64 (Lib.compareBytes x.toList y.toList))) W:=by
 have lx:x.toList.length=32:=by simp
 have ly:y.toList.length=32:=by simp
 have e:=zlp (P:=Tryz.prog) (w:=W) (p:=some ⟨b,0,none⟩) (q:=some ⟨c,0,none⟩) (c:=32) (d:=32) (x:=x.toList) (y:=y.toList) (xs:=z8y x) (ys:=z8y y)
  ⟨by rw [zfe,lx],.inr ⟨b,0,none,32, by rfl, by omega, by decide,.inr rfl,hx⟩⟩ rfl ⟨by rw [zfe,ly],.inr ⟨c,0,none,32, by rfl, by omega, by decide,.inr rfl,hy⟩⟩ rfl
 rw [lx,ly] at e;rw [run_callFunc_extern Tryz.func131 rfl rfl (by kernel_rfl) (by kernel_rfl),e];rfl
set_option maxHeartbeats 1000000 in
set_option maxRecDepth 100000 in
theorem zki (x y:V3) (b c:Nat) (W:World) (hx:∀ j u,(z8y x)[j]? = some u→W.cell? ⟨b,0+j,none⟩=some u) (hy:∀ j u,(z8y y)[j]? = some u→W.cell? ⟨c,0+j,none⟩=some u) :
  Calls Tryz.prog 86 #[.slice (some ⟨b,0,none⟩) 32 32,.slice (some ⟨c,0,none⟩) 32 32] W fun e w'=>e=.returned (.int .i64 (Lib.compareBytes x.toList y.toList))∧w'=W:=by
 have e:=z10z x y b c W hx hy
 go_enter Tryz.func86,Tryz.ntmps86
 go_wp2
 go_ret
 exact ⟨rfl,rfl⟩
theorem ztl {w:World} {b j:Nat} {c:Array Value} {T:TypeId} {fr:Nat × Nat} {u:Value} (h:w.heap[b]? = some (.cells c T fr)) (hj:c[j]? = some u):w.cell? ⟨b,0+j,none⟩=some u:=by
 unfold World.cell?;rw [h]
 simpa using hj
theorem zx9 (W:World) (xs ys:List Value) (n j:Nat) (u:Value) (h:xs[j]? = some u):(((W.alloc (.cells xs.toArray 31)).alloc (.cells ys.toArray 31)).drewN n).cell? ⟨W.heap.size,0+j,none⟩=some u :=
 ztl (c:=xs.toArray) (T:=31) (fr:=(0,0)) (by
  show ((W.heap.push _).push _)[W.heap.size]? = _
  rw [Array.getElem?_push_lt (by simp)]; simp) (by simpa using h)
theorem z10o (W:World) (xs ys:List Value) (n j:Nat) (u:Value) (h:ys[j]? = some u):(((W.alloc (.cells xs.toArray 31)).alloc (.cells ys.toArray 31)).drewN n).cell? ⟨W.heap.size+1,0+j,none⟩=some u :=
 ztl (c:=ys.toArray) (T:=31) (fr:=(0,0)) (by
  show ((W.heap.push _).push _)[W.heap.size+1]? = _
  have:W.heap.size+1=(W.heap.push (Obj.cells xs.toArray 31)).size:=by simp
  rw [this,Array.getElem?_push_size]) (by simpa using h)
set_option maxHeartbeats 1000000 in
set_option maxRecDepth 100000 in
theorem zwh (x y:V3) (W:World):Calls Tryz.prog 99 #[.agg (z8y x).toArray,.agg (z8y y).toArray] W fun e w'=>e=.returned (.int .i64 (Lib.compareBytes x.toList y.toList))∧∃ q os',w'=grow (W.drewN q) os':=by
 have c0:=zx9 W (z8y x) (z8y y);have c1:=z10o W (z8y x) (z8y y)
 go_enter Tryz.func99,Tryz.ntmps99
 go_wp2
 go_quiet (first | (go_at_call 86; refine Calls.quiet_of_same (zki x y _ _ _ (c0 _) (c1 _))))
 go_wp2
 go_ret
 exact ⟨rfl,nq,#[.cells (z8y x).toArray 31,.cells (z8y y).toArray 31],rfl⟩
set_option maxHeartbeats 1000000 in
set_option maxRecDepth 100000 in
theorem ztc (x y:V3) (W:World):Calls Tryz.prog 48 #[.agg (z8y x).toArray,.agg (z8y y).toArray] W fun e w'=>e=.returned (.int .i64 (Lib.compareBytes x.toList y.toList))∧∃ q os',w'=grow (W.drewN q) os':=by
 have c0:=zx9 W (z8y x) (z8y y);have c1:=z10o W (z8y x) (z8y y)
 go_enter Tryz.func48,Tryz.ntmps48
 go_wp2
 go_quiet (first | (go_at_call 86; refine Calls.quiet_of_same (zki x y _ _ _ (c0 _) (c1 _))))
 go_wp2
 go_ret
 exact ⟨rfl,nq,#[.cells (z8y x).toArray 31,.cells (z8y y).toArray 31],rfl⟩
end
section
open Go Go.RowKit Go.Sort
theorem z12u {α:Type} [Inhabited α] (enc:α→List Value) (k:Nat) (hk:∀ x,(enc x).length=k):∀ (l:List α) (t:Nat),t<l.length * k→(l.flatMap enc)[t]! = (enc l[t / k]!)[t % k]!
 | [],t,h=>by simp at h
 | x::l,t,h=>by
  have hx:=hk x;have k0:0<k:=by
   rcases Nat.eq_zero_or_pos k with e | e
   ·subst e; simp at h
   ·exact e
  rw [List.flatMap_cons];by_cases ht:t<k
  ·rw [List.getElem!_eq_getElem?_getD,List.getElem?_append_left (by omega),Nat.div_eq_of_lt ht,Nat.mod_eq_of_lt ht]
   simp
  ·have hl:t - k<l.length * k:=by
    simp only [List.length_cons,Nat.add_mul,Nat.one_mul] at h; omega
   have ih:=z12u enc k hk l (t - k) hl;have e1:t / k=(t - k) / k+1:=by
    have h2:=Nat.add_div_right (t - k) k0;rw [Nat.sub_add_cancel (by omega)] at h2; exact h2
   have e2:t % k=(t - k) % k:=by rw [Nat.mod_eq_sub_mod (by omega)]
   rw [List.getElem!_eq_getElem?_getD,List.getElem?_append_right (by omega),hx,e1,e2,← List.getElem!_eq_getElem?_getD,ih]
   simp
theorem zrv {α:Type} (enc:α→List Value) (k:Nat) (hk:∀ x,(enc x).length=k):∀ l:List α,(l.flatMap enc).length=l.length * k
 | []=>by simp
 | x::l=>by rw [List.flatMap_cons,List.length_append,hk,zrv enc k hk l,List.length_cons,Nat.add_mul,Nat.one_mul,Nat.add_comm]
theorem zz8 {α:Type} [Inhabited α] (enc:α→List Value) (k:Nat) (hk:∀ x,(enc x).length=k) (l:List α):flatK enc k l.toArray=(l.flatMap enc).toArray:=by
 refine ext_get! (by rw [size_flatK]; simp only [List.size_toArray,zrv enc k hk]) fun t ht=>?_;rw [size_flatK,List.size_toArray] at ht;rw [get_flatK _ _ _ _ (by simpa using ht)]
 have:=z12u enc k hk l t ht
 simp at this ⊢;rw [this]
theorem zsq {α:Type} [Inhabited α] (enc:α→List Value) (k:Nat) (hk:∀ x,(enc x).length=k) {w:World} {b:Nat} {C:Array Value} {T:TypeId} (l:List α) (hb:w.heap[b]? = some (.cells C T (0,0))) (hc:C.toList.take (l.length * k)=l.flatMap enc):HoldsK enc k w b 0 l.toArray:=by
 intro j hj;rw [zz8 enc k hk] at hj ⊢;have hj':j<(l.flatMap enc).length:=by simpa using hj
 constructor
 ·refine ztl hb ?_;have e:(C.toList.take (l.length * k))[j]? = (l.flatMap enc)[j]? := by rw [hc]
  rw [List.getElem?_take_of_lt (by rw [zrv enc k hk] at hj'; exact hj'),List.getElem?_eq_getElem hj'] at e;rw [← Array.getElem?_toList,e]
  have:((l.flatMap enc).toArray)[j]! = (l.flatMap enc)[j]:=by rw [getElem!_pos _ j (by simpa using hj')]; simp
  rw [this]; rfl
 ·simp [World.frozen?,hb]
theorem zws {α:Type} [Inhabited α] (enc:α→List Value) (k:Nat) (w:World) (b n:Nat) (d:Array α) (os:Array Obj) {i:Nat} (hi:i<w.heap.size) (hne:i≠b):(sortWorldK enc k w b 0 n d os).heap[i]? = w.heap[i]? := by
 show (w.heap.modify b _++os)[i]? = _;rw [Array.getElem?_append_left (by simpa using hi),Array.getElem?_modify,if_neg (fun e=>hne e.symm)]
theorem z159 {α:Type} [Inhabited α] (enc:α→List Value) (k:Nat) (w:World) {b:Nat} (n:Nat) (d:Array α) (os:Array Obj) {C:Array Value} {T:TypeId} {fr:Nat × Nat} (hb:w.heap[b]? = some (.cells C T fr)):(sortWorldK enc k w b 0 n d os).heap[b]? = some (.cells (putCells id 0 (flatK enc k d) C) T fr):=by
 have hlt:b<w.heap.size:=(Array.getElem?_eq_some_iff.1 hb).1;show (w.heap.modify b _++os)[b]? = _;rw [Array.getElem?_append_left (by simpa using hlt),Array.getElem?_modify,if_pos rfl,hb];rfl
theorem z12b {α:Type} [Inhabited α] (enc:α→List Value) (k:Nat) (hk:∀ x,(enc x).length=k) (l:List α) (C:Array Value) (hC:l.length * k≤C.size):(putCells id 0 (flatK enc k l.toArray) C).toList.take (l.length * k)=l.flatMap enc:=by
 rw [zz8 enc k hk]
 apply List.ext_getElem?
 intro t;by_cases ht:t<l.length * k
 ·rw [List.getElem?_take_of_lt ht,Array.getElem?_toList];have hl:t<(l.flatMap enc).length:=by rw [zrv enc k hk]; exact ht
  simp only [putCells,Array.getElem?_mapIdx,Nat.sub_zero,Nat.zero_add,List.size_toArray,Nat.zero_le,true_and];rw [Array.getElem?_eq_getElem (by omega),Option.map_some,if_pos hl,List.getElem?_eq_getElem hl]
  have:((l.flatMap enc).toArray)[t]! = (l.flatMap enc)[t]:=by rw [getElem!_pos _ t (by simpa using hl)]; simp
  rw [this]; rfl
 ·rw [List.getElem?_eq_none (by simp; omega),List.getElem?_eq_none (by rw [zrv enc k hk]; omega)]
theorem zsf {S:Blk} {w:World}:∀ {l:List V3} {cs:List Value},z7t (z3b 32 u8R) S w cs l→cs=l.flatMap z8y
 | [],cs,h=>h
 | x::l,cs,h=>by
  obtain ⟨c,d,rfl,h1,h2⟩:=h;rw [List.flatMap_cons,zsf h2,zq3 h1]; rfl
theorem zsa {S:Blk} {w:World}:∀ (l:List V3),z7t (z3b 32 u8R) S w (l.flatMap z8y) l
 | []=>rfl
 | x::l=>⟨z8y x,l.flatMap z8y,List.flatMap_cons,znz x.toList,zsa l⟩
theorem zu8 {P:Program} {f g T:Nat} (srt:List V3→List V3) (hlen:∀ l,(srt l).length=l.length)
  (hnone:∀ (cap:Nat) (w:World),Calls P f #[.slice none 0 cap,.func (.func g) #[] #[]] w fun e w'=>e=.returned (.tuple #[])∧w'=w)
  (hsome:∀ (blk cap:Nat) (d:Array V3) (w:World),HoldsK z8y 32 w blk 0 d→blk<w.heap.size→d.size<4611686018427387904 →
   Calls P f #[.slice (some ⟨blk,0,none⟩) d.size cap,.func (.func g) #[] #[]] w fun e w'=>e=.returned (.tuple #[])∧∃ n os,w'=sortWorldK z8y 32 w blk 0 n (srt d.toList).toArray os)
  (p0:Value) (c0:List V3):z1o P f [.val p0,.val (.func (.func g) #[] #[])] [(1,some (p0,.list (z3b 32 u8R) T c0))] (chk (c0.length≤1000000) >>= fun _=>some (srt c0))
   (fun r nv=>⟨[],[(1,some (p0,.list (z3b 32 u8R) T r))]⟩):=by
 intro r hr H vs w hvs hres;have hb:c0.length≤1000000∧r=srt c0:=by
  unfold chk at hr
  split at hr
  ·rename_i h; simp at hr; exact ⟨h,hr.symm⟩
  ·simp at hr
 obtain ⟨hlen0,rfl⟩:=hb
 match vs,hvs with
 | [v0,v1],hvs =>
 obtain ⟨h0,h1,_⟩:=hvs;have e0:v0=p0:=h0.1;have e1:v1=.func (.func g) #[] #[]:=h1.1;subst e0; subst e1;have hc:=hres.conts 1 v0 _ rfl;have only:∀ r v c (q:z51),lr [(1,some (v0,q))] r=some (v,c)→r=1∧v=v0∧c=q:=fun r v c q h=>by
  rw [z1f] at h
  split at h
  ·rename_i e; cases h; exact ⟨e.symm,rfl,rfl⟩
  ·simp [lr,lk] at h
 rcases hc with ⟨rfl,rfl⟩ | ⟨b,o,k1,k2,b',cap,C,k3,rfl,k4,k5,k6,k7⟩
 ·refine (hnone 0 w).mono fun e w' ⟨he,hw⟩=>?_;subst hw;refine ⟨fun _=>undef,[],he,trivial, fun r v c h=>?_, fun r v c r' v' c' h h' hne=>?_, fun r v c h b hb=>?_,zmg.rfl'⟩
  ·obtain ⟨rfl,rfl,rfl⟩:=only _ _ _ _ h
   have:srt []=[]:=List.eq_nil_of_length_eq_zero (by rw [hlen]; rfl);exact .inl ⟨rfl,this⟩
  ·exact absurd ((only _ _ _ _ h).1.trans (only _ _ _ _ h').1.symm) hne
  ·obtain ⟨rfl,rfl,rfl⟩:=only _ _ _ _ h; cases hb
 ·subst k3;simp only [z4v,Option.some.injEq] at k1;subst k1;have hlt:b'<w.heap.size:=(Array.getElem?_eq_some_iff.1 k2).1;have hrow:=zsf k7;have hsz:(z3b 32 u8R).sz=32:=rfl;rw [hsz] at k6 hrow;have hC:c0.length * 32≤C.size:=by rw [k6]; exact Nat.mul_le_mul_right _ k4
  refine (hsome b' cap c0.toArray w (zsq z8y 32 zfe c0 k2 hrow) hlt (by simp; omega)).mono fun e w' ⟨he,n,os,hw⟩=>?_;subst hw;refine ⟨fun _=>undef,[],he,trivial, fun r v c h=>?_, fun r v c r' v' c' h h' hne=>?_, fun r v c h b hb=>?_,rfl,rfl,rfl,?_, fun i hi=>?_⟩
  ·obtain ⟨rfl,rfl,rfl⟩:=only _ _ _ _ h;refine .inr ⟨b',_,rfl,z159 z8y 32 w n _ os k2,b',cap,_, by rw [hlen],rfl, by rw [hlen]; exact k4,k5,?_,?_⟩
   ·rw [hsz,← k6]; simp [putCells]
   ·rw [hsz,z12b z8y 32 zfe (srt c0) C (by rw [hlen]; exact hC)];exact zsa _
  ·exact absurd ((only _ _ _ _ h).1.trans (only _ _ _ _ h').1.symm) hne
  ·obtain ⟨rfl,rfl,rfl⟩:=only _ _ _ _ h;exact .inr ⟨1,_,_,rfl,hb⟩
  ·show w.heap.size≤(w.heap.modify b' _++os).size
   simp
  ·exact zws z8y 32 w b' n _ os hi.1 fun e=>hi.2 ⟨1,_,_,rfl, by rw [e]; rfl⟩
end
section
open Go
section
variable {σ β α ρ τ:Type}
theorem bs (x:α) (f:α→Option β):(some x >>= f)=f x:=rfl
theorem bS (x:α) (f:α→Option β):(some x >>= f)=f x:=Eq.trans (rfl:(some x >>= f)=f x) rfl
theorem or_l (r:ρ) (k:τ→Option ρ):z5u (some (.inl r)) k=some r:=rfl
theorem zx0 (t:τ) (k:τ→Option ρ):z5u (some (.inr t)) k=k t:=rfl
theorem z1u {F:σ→Option (Sum β σ)} {s:σ} {b:β} (h:F s=some (.inl b)):iter F s=some b:=by rw [iter,h]; rfl
theorem z26 {F:σ→Option (Sum β σ)} {s s':σ} (h:F s=some (.inr s')):iter F s=iter F s':=by rw [iter,h]; rfl
theorem zej {F:σ→Option (Sum β σ)} (I:σ→Prop) (μ:σ→Nat) (Q:β→Prop) (h:∀ s,I s→(∃ b,F s=some (.inl b)∧Q b)∨∃ s',F s=some (.inr s')∧I s'∧μ s'<μ s) (s:σ) (hs:I s):∃ b,iter F s=some b∧Q b:=by
 have key:∀ n s,μ s=n→I s→∃ b,iter F s=some b∧Q b:=by
  intro n
  induction n using Nat.strongRecOn with
  | _ n ih =>
   intro s hn hs;rcases h s hs with ⟨b,h1,h2⟩ | ⟨s',h1,h2,h3⟩
   ·exact ⟨b,z1u h1,h2⟩
   ·rw [z26 h1]; exact ih (μ s') (hn ▸ h3) s' rfl h2
 exact key _ s rfl hs
theorem zap {F:σ→Option (Sum β σ)} (n:Nat) (I:Nat→σ→Prop) (Q:β→Prop) (h1:∀ i s,i<n→I i s→∃ s',F s=some (.inr s')∧I (i+1) s') (h2:∀ s,I n s→∃ b,F s=some (.inl b)∧Q b) (s:σ) (i:Nat) (hi:i≤n) (hs:I i s):∃ b,iter F s=some b∧Q b:=by
 have key:∀ k i s,n - i=k→i≤n→I i s→∃ b,iter F s=some b∧Q b:=by
  intro k
  induction k with
  | zero =>
   intro i s hk hi hs
   have:i=n:=by omega
   subst this;obtain ⟨b,h3,h4⟩:=h2 s hs;exact ⟨b,z1u h3,h4⟩
  | succ k ih =>
   intro i s hk hi hs;obtain ⟨s',h3,h4⟩:=h1 i s (by omega) hs;rw [z26 h3]; exact ih (i+1) s' (by omega) (by omega) h4
 exact key _ i s rfl hi hs
theorem z2k {F:σ→Option (Sum β σ)} (n:Nat) (g:Nat→σ) {b:β} (h1:∀ i,i<n→F (g i)=some (.inr (g (i+1)))) (h2:F (g n)=some (.inl b)):iter F (g 0)=some b:=by
 obtain ⟨b',h3,rfl⟩:=zap n (fun i s=>s=g i) (fun x=>x=b) (fun i s hi hs=>⟨_, by rw [hs]; exact h1 i hi,rfl⟩) (fun s hs=>⟨_, by rw [hs]; exact h2,rfl⟩) (g 0) 0 (Nat.zero_le _) rfl;exact h3
theorem z0g {l:List α} {i:Nat} (h:i<l.length):idx l (i:Int)=some l[i]:=by simp [idx,h]
theorem z14e {l:List α} {i:Int} (h0:0≤i) (h:i.toNat<l.length):idx l i=some l[i.toNat]:=by simp [idx,h0,h]
theorem z8o {n:Nat} {v:Vector α n} {i:Nat} (h:i<n):z7n v (i:Int)=some v[i]:=by unfold z7n; rw [z0g (by simpa using h)]; simp
theorem zg7 {n:Nat} {v:Vector α n} {i:Int} {x:α} {j:Nat} (hj:j<n):(zf3 v i x)[j]=if i.toNat=j then x else v[j]:=by
 unfold zf3; rw [Vector.getElem_setIfInBounds hj]
theorem z3i {p:Prop} [Decidable p] (h:p):chk p=some ():=by simp [chk,h]
theorem z1t {by_:Nat} {b c:List α} (h:(b.length+c.length) * by_≤140737488355328):app by_ b c=some (b++c):=by simp [app,h]
theorem zis {by_:Nat} {x:α} {n:Nat} (h:by_ * n≤281474976710656) (h2:n≤9223372036854775807):mkn by_ x (n:Int)=some (List.replicate n x):=by
 unfold mkn; rw [if_pos ⟨by omega, by simpa using h, by omega⟩]; simp
theorem zgg {b:List α} {i j:Nat} (h:i≤j) (hj:j≤b.length):cut b (i:Int) (j:Int)=some ((b.drop i).take (j - i)):=by
 unfold cut; rw [if_pos ⟨by omega, by omega, by omega⟩]; simp
end
theorem z18 {x:Int} (h1:-9223372036854775808≤x) (h2:x≤9223372036854775807):w64 x=x:=zgz h1 h2
theorem z0r {n:Nat} (h:n<9223372036854775807):w64 ((n:Int)+1)=((n+1:Nat):Int):=by rw [z18 (by omega) (by omega)]; omega
theorem ze4 (a:UInt64) (n:Nat):(z8f a n).toNat=a.toNat / 2 ^ (min n 64):=by
 unfold z8f;have h1:=UInt64.toNat_lt a;have h2:a.toNat / 2 ^ (min n 64)≤a.toNat:=Nat.div_le_self _ _
 simp; omega
theorem zo4 (a:UInt64) (n:Nat):(zpq a n).toNat=a.toNat * 2 ^ (min n 64) % 18446744073709551616:=by
 unfold zpq; simp
theorem z18i (a:UInt64) (k:Nat) (hk:k<64):((z8f a k &&& 1)==1)=a.toNat.testBit k:=by
 rw [Bool.eq_iff_iff,beq_iff_eq,← UInt64.toNat_inj,UInt64.toNat_and,ze4,Nat.min_eq_left (by omega)]
 have:(1:UInt64).toNat=1:=rfl
 rw [this,Nat.and_one_is_mod,Nat.testBit_eq_decide_div_mod_eq]
 simp
end
section
open Go
def z7k (n:Nat):Nat:=if n=0 then 0 else n.log2+1
theorem zer (n k:Nat) (h:2 ^ k≤n):z7k n=k+z7k (n / 2 ^ k):=by
 have hp:0<2 ^ k:=Nat.pow_pos (by decide);have h1:n / 2 ^ k≠0:=by
  have:1≤n / 2 ^ k:=(Nat.le_div_iff_mul_le hp).2 (by rw [Nat.one_mul]; exact h);omega
 have h2:n≠0:=by omega
 unfold z7k;rw [if_neg h1,if_neg h2];have h3:n.log2=k+(n / 2 ^ k).log2:=by
  rw [Nat.log2_eq_iff h2];have h4:=(Nat.log2_eq_iff h1).1 rfl;refine ⟨?_,?_⟩
  ·rw [Nat.pow_add,Nat.mul_comm]; exact (Nat.le_div_iff_mul_le hp).1 h4.1
  ·rw [Nat.add_assoc,Nat.pow_add,Nat.mul_comm]; exact (Nat.div_lt_iff_lt_mul hp).1 h4.2
 omega
theorem zjp (n k:Nat) (h:n<2 ^ k):z7k n≤k:=by
 unfold z7k; split
 ·omega
 ·rename_i h0; have:=(Nat.log2_lt h0).2 h; omega
def zzp:ByteArray:=⟨#[0,1,2,2,3,3,3,3,4,4,4,4,4,4,4,4,5,5,5,5,5,5,5,5,5,5,5,5,5,5,5,5,6,6,6,6,6,6,6,6,6,6,6,6,6,6,6,6,6,6,6,6,6,6,6,6,6,6,6,6,6,6,6,6,7,7,7,7,7,7,7,7,7,7,7,7,7,7,7,7,7,7,7,7,7,7,7,7,7,7,7,7,7,7,7,7,7,7,7,7,7,7,7,7,7,7,7,7,7,7,7,7,7,7,7,7,7,7,7,7,7,7,7,7,7,7,7,7,8,8,8,8,8,8,8,8,8,8,8,8,8,8,8,8,8,8,8,8,8,8,8,8,8,8,8,8,8,8,8,8,8,8,8,8,8,8,8,8,8,8,8,8,8,8,8,8,8,8,8,8,8,8,8,8,8,8,8,8,8,8,8,8,8,8,8,8,8,8,8,8,8,8,8,8,8,8,8,8,8,8,8,8,8,8,8,8,8,8,8,8,8,8,8,8,8,8,8,8,8,8,8,8,8,8,8,8,8,8,8,8,8,8,8,8,8,8,8,8,8,8,8,8,8,8,8,8]⟩
set_option maxRecDepth 100000 in
theorem z11d:∀ x:Fin 256,zzp.data[x.val]? = some (UInt8.ofNat (z7k x.val)):=by decide +kernel
def z3e (n:Nat):List UInt8:=if h:n=0 then [] else UInt8.ofNat n::z3e (n / 256)
termination_by n
theorem ze1:z3e 0=[]:=by rw [z3e]; simp
theorem zhp (n:Nat) (h:n≠0):z3e n=UInt8.ofNat n::z3e (n / 256):=by rw [z3e]; simp [h]
def z1m (n:Nat):List UInt8:=if n≤247 then [UInt8.ofNat n] else UInt8.ofNat (247+(z3e n).length)::(z3e n).reverse
theorem zox (n:Nat):(z3e n).length=(z7k n+7) / 8:=by
 induction n using Nat.strongRecOn with
 | _ n ih =>
  by_cases h:n=0
  ·subst h; rw [ze1]; simp [z7k]
  ·rw [zhp n h,List.length_cons,ih (n / 256) (by omega)];by_cases h2:n<256
   ·have:n / 256=0:=by omega
    rw [this];have h3:z7k n≤8:=zjp n 8 h2;have h4:1≤z7k n:=by unfold z7k; rw [if_neg h]; omega
    simp [z7k] at h3 h4 ⊢;rw [if_neg h] at h3 h4 ⊢; omega
   ·have:=zer n 8 (by omega)
    rw [show (2:Nat) ^ 8=256 from rfl] at this;omega
theorem zw9 (n:Nat):∀ (i:Nat),i<(z3e n).length→(z3e n)[i]? = some (UInt8.ofNat (n / 256 ^ i)):=by
 induction n using Nat.strongRecOn with
 | _ n ih =>
  intro i hi;by_cases h:n=0
  ·subst h; rw [ze1] at hi; simp at hi
  ·rw [zhp n h] at hi ⊢
   cases i with
   | zero=>simp
   | succ i =>
    simp only [List.length_cons] at hi;rw [List.getElem?_cons_succ,ih (n / 256) (by omega) i (by omega),Nat.div_div_eq_div_mul]
    congr 3
    rw [Nat.pow_succ,Nat.mul_comm]
theorem zn2 (n:Nat) (h:n<18446744073709551616):(z3e n).length≤8:=by
 rw [zox]; have:=zjp n 64 (by simpa using h); omega
theorem z0u (n:Nat) (h:n<18446744073709551616):1≤(z1m n).length∧(z1m n).length≤9:=by
 unfold z1m; have:=zn2 n h; split <;> simp <;> omega
def zde (n i:Nat):List UInt8:=UInt8.ofNat (247+(z3e n).length)::(List.replicate ((z3e n).length - i) 0++((z3e n).take i).reverse)
theorem zsv (n i:Nat) (h:i≤(z3e n).length):(zde n i).length=(z3e n).length+1:=by simp [zde]; omega
theorem zsp (n:Nat):(List.replicate ((z3e n).length+1) (0:UInt8)).set 0 (UInt8.ofNat (247+(z3e n).length))=zde n 0:=by
 simp [zde,List.replicate_succ]
theorem zru (n i:Nat) (h:i<(z3e n).length):(zde n i).set ((z3e n).length - i) (UInt8.ofNat (n / 2 ^ (8 * i)))=zde n (i+1):=by
 have hg:=zw9 n i h;have he:n / 2 ^ (8 * i)=n / 256 ^ i:=by rw [Nat.pow_mul]
 rw [he];unfold zde;obtain ⟨m,hm⟩:∃ m,(z3e n).length - i=m+1:=⟨(z3e n).length - i - 1, by omega⟩
 have hm2:(z3e n).length - (i+1)=m:=by omega
 rw [hm,hm2,List.set_cons_succ,List.take_succ_eq_append_getElem h,List.reverse_append,List.reverse_singleton,List.replicate_succ'];rw [List.getElem?_eq_getElem h,Option.some.injEq] at hg;rw [hg,List.append_assoc,List.set_append_right _ _ (by simp)]
 simp
theorem zrb (n:Nat) (h:247<n):zde n (z3e n).length=z1m n:=by
 unfold zde z1m; rw [if_neg (by omega)]; simp
theorem zr5 (n m:Nat) (ds:List UInt8) (hm:m≠0) (h:z3e n=ds++z3e m):z3e n=(ds++[UInt8.ofNat (m % 256)])++z3e (m / 256):=by
 rw [h,zhp m hm,List.append_assoc]
 have:UInt8.ofNat (m % 256)=UInt8.ofNat m:=by
  apply UInt8.toNat_inj.1; simp
 rw [this]; rfl
theorem zod {α} {l a b:List α} (h:l=a++b):a.length≤l.length:=by rw [h]; simp
def zig (n:Int):Nat:=if 0≤n then (2 * n).toNat else (-2 * n - 1).toNat
theorem z16e {n:Int} (h1:-9223372036854775808≤n) (h2:n≤9223372036854775807):zig n<18446744073709551616:=by unfold zig; split <;> omega
end
section
open Go Go.RowKit
def zs1 (x:z06):Prop:=(fun _=>True) x.Kind∧inI x.Num∧(fun _=>True) x.Bits∧(fun s:List UInt8=>s.length≤9223372036854775807) x.Text∧True
def zwk (x:z0f):Prop:=(fun _=>True) x.Kind∧(fun s:List UInt8=>s.length≤9223372036854775807) x.Key∧zs1 x.Value∧True
def zwm (x:z09):Prop:=(fun _=>True) x.E∧(fun _=>True) x.S∧True
def zdy (x:z08):Prop:=(fun _=>True) x.Author∧(fun l:List V3=>(∀ x∈l,(fun v:V3=>∀ x∈v.toList,(fun _=>True) x) x)∧l.length≤9223372036854775807) x.Preds∧(fun _=>True) x.Stamp∧zwk x.Act∧zwm x.Sig∧True
def z28 (x:z00):Prop:=(fun l:List V3=>(∀ x∈l,(fun v:V3=>∀ x∈v.toList,(fun _=>True) x) x)∧l.length≤9223372036854775807) x.IDs∧(fun l:List z08=>(∀ x∈l,zdy x)∧l.length≤9223372036854775807) x.Ops∧True
end
section
open Go
theorem z11o {n k:Nat} (hn:n<9223372036854775808) (hk:k<9223372036854775808):andI (n:Int) (k:Int)=((n &&& k:Nat):Int):=by
 show IntKind.i64.wrap (BitVec.toNat (BitVec.ofInt 64 (n:Int) &&& BitVec.ofInt 64 (k:Int)):Int)=_;rw [BitVec.ofInt_natCast,BitVec.ofInt_natCast,BitVec.toNat_and,BitVec.toNat_ofNat,BitVec.toNat_ofNat,Nat.mod_eq_of_lt (by omega),Nat.mod_eq_of_lt (by omega)]
 have:=Nat.and_le_left (n:=n) (m:=k)
 exact zgz (by omega) (by omega)
def okb (c:UInt8):Bool:=decide (32≤c.toNat)&&decide (c.toNat≤126)
theorem zpp {b:List UInt8} {q:Nat} (h:q<b.length) (ha:(b[q]).toNat<128):zaj b q=((b[q]).toNat,1):=by
 unfold zaj;exact decode_ascii ⟨b.toArray⟩ q (by show q<b.toArray.size; simpa using h) ha
theorem zzk {b:List UInt8} {q:Nat} (h:q<b.length) (ha:128≤(b[q]).toNat):128≤(zaj b q).1:=by
 unfold zaj;have e:((ByteArray.mk b.toArray).get! (q+0)).toNat=(b[q]).toNat:=by
  show ((ByteArray.mk b.toArray).get! q).toNat=_;simp [ByteArray.get!,h]
 simp only [Utf8.decode,e];rw [if_neg (by omega)]
 repeat' split
 all_goals (first | (simp only [Utf8.runeError]; omega) | (rename_i h1; simp at h1; omega) | omega)
theorem z11w (x:Int):zel x=some (decide (x<32) || decide (126<x)):=by
 unfold zel
 cases decide (x<32) <;> rfl
theorem zvf (b:List UInt8):∀ (rest pre:List UInt8),b=pre++rest →
  (rest.all okb=true→iter (z1p b true) pre.length=some (.inr ()))∧(rest.all okb=false→∃ i:Nat,iter (z1p b true) pre.length=some (.inl (i:Int)))
 | [],pre,e=>by
  refine ⟨fun _=>z1u ?_, fun h=>by simp at h⟩;subst e;unfold z1p
  simp
 | c::rest,pre,e=>by
  have hlen:pre.length<b.length:=by rw [e]; simp
  have hget:b[pre.length]'hlen=c:=by subst e; simp
  have hF:z1p b true pre.length=if ((decide (((zaj b pre.length).1:Int)<32) || decide (126<((zaj b pre.length).1:Int)))==true) then some (.inl (.inl (pre.length:Int))) else some (.inr (pre.length+(zaj b pre.length).2)):=by
   unfold z1p;rw [if_pos hlen];simp only [bs,z11w]
  cases hc:okb c with
  | false =>
   refine ⟨fun h=>by simp [hc] at h, fun _=>⟨pre.length,z1u ?_⟩⟩;rw [hF,if_pos];by_cases h8:c.toNat<128
   ·rw [zpp hlen (by rw [hget]; exact h8),hget];simp only [okb,Bool.and_eq_false_iff,decide_eq_false_iff_not] at hc
    simp; omega
   ·have:=zzk hlen (by rw [hget]; omega)
    simp; omega
  | true =>
   simp only [okb,Bool.and_eq_true,decide_eq_true_eq] at hc;rw [zpp hlen (by rw [hget]; omega),hget,if_neg (by simp; omega)] at hF;have ih:=zvf b rest (pre++[c]) (by simp [e]);simp only [List.length_append,List.length_cons,List.length_nil,Nat.zero_add] at ih;rw [z26 hF];have hc':okb c=true:=by simp [okb,hc]
   simpa [hc'] using ih
theorem zlj (b:List UInt8) (hb:b.length≤9223372036854775807):∀ (rest pre:List UInt8),b=pre++rest→iter (z4b b) (pre.length:Int)=some (if rest.all okb then .inr () else .inl false)
 | [],pre,e=>by
  refine z1u ?_;subst e;unfold z4b
  simp
 | c::rest,pre,e=>by
  have hlen:pre.length<b.length:=by rw [e]; simp
  have hget:b[pre.length]'hlen=c:=by subst e; simp
  have hF:z4b b (pre.length:Int)=if okb c then some (.inr ((pre.length+1:Nat):Int)) else some (.inl (.inl false)):=by
   unfold z4b;rw [if_pos (by simp <;> omega)]
   simp only [z0g hlen,hget,bs,z0r (show pre.length<9223372036854775807 by omega)];simp only [okb,UInt8.lt_iff_toNat_lt,UInt8.reduceToNat];by_cases h1:c.toNat<32
   ·have:¬ 32≤c.toNat:=by omega
    simp [h1,this]
   ·by_cases h2:126<c.toNat
    ·have:¬ c.toNat≤126:=by omega
     simp [h1,h2,this]
    ·have h3:32≤c.toNat:=by omega
     have h4:c.toNat≤126:=by omega
     simp [h1,h2,h3,h4]
  cases hc:okb c with
  | false=>rw [hc] at hF; rw [z1u hF]; simp [hc]
  | true =>
   rw [hc] at hF;rw [z26 hF];have ih:=zlj b hb rest (pre++[c]) (by simp [e]);simp only [List.length_append,List.length_cons,List.length_nil,Nat.zero_add] at ih;rw [ih]; simp [hc]
theorem zso (b:List UInt8) (hb:b.length≤9223372036854775807):z7u b=some (b.all okb):=by
 have h:=zlj b hb b [] rfl;unfold z7u;rw [show (0:Int)=(([]:List UInt8).length:Int) from rfl,h]
 cases b.all okb <;> rfl
theorem z12i (b:List UInt8) (hb:b.length≤9223372036854775807):zhz b=some (if decide (30<(b.length:Int)) then (⟨0,0,0,[]⟩,4) else if b.all okb then (⟨3,0,0,b⟩,0) else (⟨0,0,0,[]⟩,8)):=by
 unfold zhz z4z z4x
 cases decide (30<(b.length:Int))
 ·simp only [Bool.false_eq_true,if_false];obtain ⟨h1,h2⟩:=zvf b b [] rfl;simp only [List.length_nil] at h1 h2
  cases h:b.all okb
  ·obtain ⟨i,hi⟩:=h2 h;rw [hi];simp only [or_l,bs];rw [if_pos (by simp)]; rfl
  ·rw [h1 h]; rfl
 ·rfl
theorem z12o (a:UInt64):zfq a=some (((a.toNat / 4503599627370496 % 2048:Nat):Int),a % 4503599627370496):=by
 unfold zfq;simp only [bs];have h0:=UInt64.toNat_lt a;rw [ze4];have e1:(2:Nat) ^ (min 52 64)=4503599627370496:=by decide
 rw [e1,z18 (by omega) (by omega), show (2047:Int)=((2047:Nat):Int) from rfl,z11o (by omega) (by omega)]
 congr 2
 ·congr 1
  exact Nat.and_two_pow_sub_one_eq_mod _ 11
 ·apply UInt64.toNat_inj.1
  rw [UInt64.toNat_and,UInt64.toNat_mod];exact Nat.and_two_pow_sub_one_eq_mod _ 52
theorem z17b (a:UInt64):z8q a=some ((a.toNat / 4503599627370496 % 2048:Nat):Int):=by
 unfold z8q;have h0:=UInt64.toNat_lt a;simp only [bs,UInt64.toNat_div,UInt64.toNat_mod,UInt64.reduceToNat];rw [z18 (by omega) (by omega)]
 congr 2
 omega
def zu4 (a:UInt64):Nat:=a.toNat / 4503599627370496 % 2048
def mant (a:UInt64):Nat:=a.toNat % 4503599627370496
theorem z15b (a:UInt64):zu4 a<2048:=Nat.mod_lt _ (by omega)
def clsF (a:UInt64):UInt8:=if zu4 a=2047 then (if mant a=0 then 4 else 5) else if zu4 a=0 then (if mant a=0 then 1 else 2) else 3
theorem z13h (a:UInt64):(a % 4503599627370496==0)=decide (mant a=0):=by
 rw [Bool.eq_iff_iff];simp only [beq_iff_eq,decide_eq_true_eq,← UInt64.toNat_inj,UInt64.toNat_mod];rfl
theorem zxp (a:UInt64):zfx a=some (clsF a):=by
 unfold zfx clsF;rw [z12o];simp only [bs];have hm:=z13h a;have hne:(a % 4503599627370496 != 0)=!decide (mant a=0):=by rw [← hm]; rfl
 have he:((a.toNat / 4503599627370496 % 2048:Nat):Int)=(zu4 a:Int):=rfl;rw [hne,he];by_cases h1:zu4 a=2047
 ·rw [h1];by_cases h2:mant a=0
  ·rw [decide_eq_true h2,if_pos h2]; rfl
  ·rw [decide_eq_false h2,if_neg h2]; rfl
 ·have e1:((zu4 a:Int)==2047)=false:=by simp; omega
  rw [if_neg h1,e1];simp only [Bool.false_eq_true,if_false,bs];by_cases h0:zu4 a=0
  ·rw [h0];by_cases h2:mant a=0
   ·rw [decide_eq_true h2,if_pos h2]; rfl
   ·rw [decide_eq_false h2,if_neg h2]; rfl
  ·have e0:((zu4 a:Int) != 0)=true:=by simp; omega
   rw [e0,if_neg h0]; rfl
theorem zxv (a:UInt64):zba a=some (clsF a):=by
 unfold zba zbd clsF;rw [z17b];simp only [bs];rw [z13h a];have hx:=z15b a;show z5u (if ((zu4 a:Int)==0)=true then if decide (mant a=0)=true then some (.inl 1) else some (.inr ()) else some (.inr ())) (fun s5=>if ((zu4 a:Int)==0)=true then some 2 else if decide ((zu4 a:Int)<2047)=true then some 3 else if decide (mant a=0)=true then some 4 else some 5)=_;by_cases h1:zu4 a=2047
 ·rw [h1];by_cases h2:mant a=0 <;> simp [h2,zx0,or_l]
 ·by_cases h0:zu4 a=0
  ·rw [h0];by_cases h2:mant a=0 <;> simp [h2,zx0,or_l]
  ·have e0:((zu4 a:Int)==0)=false:=by simp; omega
   have e2:decide ((zu4 a:Int)<2047)=true:=by simp; omega
   rw [e0,e2,if_neg h1,if_neg h0]; rfl
def zjr (a:UInt64):UInt64:=if clsF a=5 then 9221120237041090560 else a
theorem zy4 (a:UInt64):zgc a=some (zjr a):=by
 unfold zgc zjr;rw [zxp];simp only [bs];by_cases h:clsF a=5 <;> simp [h]
theorem zzt (a:UInt64):zb7 a=some (zjr a):=by
 unfold zb7 zjr;rw [zxv];simp only [bs];by_cases h:clsF a=5 <;> simp [h]
theorem zxr (a:UInt64):zfu a=some ⟨2,0,zjr a,[]⟩:=by
 unfold zfu; rw [zy4]; rfl
def okV (v:z06):Bool :=
 if v.Kind=1 then decide (v.Bits=0)&&decide (v.Text=[])
 else if v.Kind=2 then decide (v.Num=0)&&decide (v.Text=[])&&decide (zjr v.Bits=v.Bits)
 else if v.Kind=3 then decide (v.Num=0)&&decide (v.Bits=0)&&decide (v.Text.length≤30)&&v.Text.all okb
 else false
theorem z104 (v:z06) (hb:v.Text.length≤9223372036854775807):zb2 v=some (if okV v then 0 else 8):=by
 obtain ⟨K,n,f,t⟩:=v;unfold zb2 okV;simp only at hb ⊢;rw [zzt,zso t hb];by_cases h1:K=1
 ·subst h1;by_cases hf:f=0 <;> by_cases ht:t=[] <;> simp [hf,ht]
 by_cases h2:K=2
 ·subst h2;by_cases hn:n=0 <;> by_cases ht:t=[] <;> by_cases hc:zjr f=f <;> simp [hn,ht,hc,bs]
 by_cases h3:K=3
 ·subst h3;by_cases hl:t.length≤30
  ·have hl':(t.length:Int)≤30:=by omega
   by_cases hn:n=0 <;> by_cases hf:f=0 <;> cases t.all okb <;> simp [hn,hf,hl,hl',bs]
  ·have hl':¬ (t.length:Int)≤30:=by omega
   by_cases hn:n=0 <;> by_cases hf:f=0 <;> simp [hn,hf,hl,hl',bs]
 ·simp [h1,h2,h3]
theorem zro (v:z06) (hb:v.Text.length≤9223372036854775807):zdz v=some (if okV v then 0 else 8):=by
 obtain ⟨K,n,f,t⟩:=v;unfold zdz zhj okV;simp only at hb ⊢;rw [zxr,z12i t hb];by_cases h1:K=1
 ·subst h1;by_cases hf:f=0 <;> by_cases ht:t=[] <;> simp [hf,ht,bs]
 by_cases h2:K=2
 ·subst h2;by_cases hc:zjr f=f
  ·by_cases hn:n=0 <;> by_cases ht:t=[] <;> simp [hn,ht,hc,bs]
  ·have hc':¬ f=zjr f:=fun e=>hc e.symm;by_cases hn:n=0 <;> by_cases ht:t=[] <;> simp [hn,ht,hc,hc',bs]
 by_cases h3:K=3
 ·subst h3;by_cases hl:30<(t.length:Int)
  ·have h4:¬ t.length≤30:=by omega
   rw [decide_eq_true hl,decide_eq_false h4];simp [bs]
  ·have h4:t.length≤30:=by omega
   rw [decide_eq_false hl,decide_eq_true h4]
   cases t.all okb <;> by_cases hn:n=0 <;> by_cases hf:f=0 <;> simp [hn,hf,bs]
 ·have e1:(K==1)=false:=by simpa using h1
  have e2:(K==2)=false:=by simpa using h2
  have e3:(K==3)=false:=by simpa using h3
  simp only [e1,e2,e3,Bool.false_eq_true,if_false,bs,h1,h2,h3];by_cases h0:K=0
  ·subst h0
   split <;> rfl
  ·simp [h0]
end
section
open Go
theorem zxu:∀ (n:Nat) (a:UInt64) (ds:List UInt8) (N:Nat),a.toNat=n→z3e N=ds++z3e n→(z3e N).length≤8→iter z5a (a,ds)=some (z3e N):=by
 intro n
 induction n using Nat.strongRecOn with
 | _ n ih =>
  intro a ds N ha hd hl;by_cases h0:n=0
  ·subst h0;refine z1u ?_;unfold z5a;rw [if_neg (by simp [UInt64.lt_iff_toNat_lt,ha])];rw [ze1,List.append_nil] at hd;rw [hd]
  ·have hF:z5a (a,ds)=some (.inr (a / 256,ds++[(a % 256).toUInt8])):=by
    unfold z5a;rw [if_pos (by simp [UInt64.lt_iff_toNat_lt,ha]; omega)]
    have:ds.length≤8:=Nat.le_trans (zod hd) hl
    simp only [z1t (show (ds.length+[(a % 256).toUInt8].length) * 1≤140737488355328 by simp; omega),bs]
   rw [z26 hF];have hd2:=zr5 N n ds h0 hd;refine ih (n / 256) (Nat.div_lt_self (by omega) (by omega)) _ _ N ?_ ?_ hl
   ·simp [ha]
   ·rw [hd2]
    congr 2
    congr 1
    apply UInt8.toNat_inj.1
    simp [ha]
theorem zre (s:List UInt8) (hl:s.length≤8):∀ (i:Nat) (acc:List UInt8),i≤s.length→acc.length+i≤100→iter (z5b s) (acc,(i:Int) - 1)=some (acc++(s.take i).reverse)
 | 0,acc,_,_=>by
  refine z1u ?_;unfold z5b;rw [if_neg (by simp)]; simp
 | i+1,acc,hi,ha=>by
  have hlt:i<s.length:=by omega
  have e:((i+1:Nat):Int) - 1=(i:Int):=by omega
  have hF:z5b s (acc,((i+1:Nat):Int) - 1)=some (.inr (acc++[s[i]],(i:Int) - 1)):=by
   unfold z5b;rw [e,if_pos (by simp)];simp only [z0g hlt,bs];rw [z1t (by simp; omega)];simp only [bs,z18 (show -9223372036854775808≤(i:Int) - 1 by omega) (by omega)]
  rw [z26 hF,zre s hl i _ (by omega) (by simp; omega)]
  have:List.take (i+1) s=List.take i s++[s[i]]:=by rw [List.take_add_one,List.getElem?_eq_getElem hlt]; rfl
  rw [this]; simp only [List.reverse_append,List.reverse_cons,List.reverse_nil,List.nil_append,List.append_assoc]
theorem z8i (a:UInt64):z2n a=some (z1m a.toNat):=by
 unfold z2n z1m;have h0:=UInt64.toNat_lt a;by_cases h:a.toNat≤247
 ·have h':decide (a≤247)=true:=by simpa [UInt64.le_iff_toNat_le] using h
  rw [if_pos h',if_pos h]
  congr 2
 ·have h':¬ decide (a≤247)=true:=by simpa [UInt64.le_iff_toNat_le] using h
  rw [if_neg h',if_neg h];have hd:=zn2 a.toNat h0;rw [zxu a.toNat a [] a.toNat rfl rfl hd];simp only [bs];rw [z18 (show -9223372036854775808≤((z3e a.toNat).length:Int) - 1 by omega) (by omega),z18 (show -9223372036854775808≤247+((z3e a.toNat).length:Int) by omega) (by omega)];rw [zre _ hd _ _ (Nat.le_refl _) (by simp; omega)];simp only [bs,List.take_length];rw [show (247+((z3e a.toNat).length:Int))=((247+(z3e a.toNat).length:Nat):Int) by omega]
  congr 1
  show _::_=_
  congr 1
  apply UInt8.toNat_inj.1
  simp [UInt8.ofInt];omega
theorem zvy (a:UInt64) (k:Nat) (hk:k=(z3e a.toNat).length) (hk8:k≤8):iter (zcr a (k:Int)) (zde a.toNat 0,0)=some (zde a.toNat k):=by
 refine z2k k (fun i=>(zde a.toNat i,(i:Int))) (fun i hi=>?_) ?_
 ·have hf:=zsv a.toNat i (by omega);unfold zcr;rw [if_pos (by simp; omega)];simp only [z18 (show -9223372036854775808≤8 * (i:Int) by omega) (by omega),z3i (show (0:Int)≤8 * (i:Int) by omega),bs,z18 (show -9223372036854775808≤(k:Int) - (i:Int) by omega) (by omega),z0r (show i<9223372036854775807 by omega)];rw [z14e (by omega) (by omega)];simp only [bs]
  have:=zru a.toNat i (by omega)
  rw [← this];have e1:((k:Int) - (i:Int)).toNat=(z3e a.toNat).length - i:=by omega
  have e2:(z8f a (8 * (i:Int)).toNat).toUInt8=UInt8.ofNat (a.toNat / 2 ^ (8 * i)):=by
   apply UInt8.toNat_inj.1
   have e3:(8 * (i:Int)).toNat=8 * i:=by omega
   rw [e3];simp only [UInt64.toNat_toUInt8,ze4,Nat.min_eq_left (show 8 * i≤64 by omega)]
   simp
  rw [e1,e2]
 ·unfold zcr;rw [if_neg (by simp)]
theorem zhs (a:UInt64) (k:Nat) (hk:k<64):(z8f a k).toNat=a.toNat / 2 ^ k:=by rw [ze4,Nat.min_eq_left (by omega)]
set_option maxRecDepth 100000 in
theorem z12p (a:UInt64):zbx a=some (z7k a.toNat:Int):=by
 unfold zbx;have h0:=UInt64.toNat_lt a;have s1:∃ (y:UInt64) (n:Nat),(if decide (4294967296≤a) then some (z8f a 32,(32:Int)) else some (a,0))=some (y,(n:Int))∧y.toNat<2 ^ 32∧n≤32∧z7k a.toNat=n+z7k y.toNat:=by
  by_cases h:4294967296≤a.toNat
  ·refine ⟨z8f a 32,32, by rw [if_pos (by simpa [UInt64.le_iff_toNat_le] using h)]; rfl,?_, by omega,?_⟩
   ·rw [zhs a 32 (by omega)]; omega
   ·rw [zhs a 32 (by omega)]; exact zer _ 32 (by omega)
  ·exact ⟨a,0, by rw [if_neg (by simpa [UInt64.le_iff_toNat_le] using h)]; rfl, by omega, by omega, by omega⟩
 obtain ⟨y,n,e1,hy,hn,hb⟩:=s1;rw [e1]; simp only [bs];have s2:∃ (z:UInt64) (k:Nat),(if decide (65536≤y) then some (z8f y 16) >>= fun y5=>some (w64 ((n:Int)+16)) >>= fun y6=>some (y5,y6) else some (y,(n:Int)))=some (z,(k:Int))∧z.toNat<2 ^ 16∧k≤48∧z7k a.toNat=k+z7k z.toNat:=by
  by_cases h:65536≤y.toNat
  ·refine ⟨z8f y 16,n+16, by rw [if_pos (by simpa [UInt64.le_iff_toNat_le] using h)]; simp only [bs,z18 (show -9223372036854775808≤(n:Int)+16 by omega) (by omega)]; rfl,?_, by omega,?_⟩
   ·rw [zhs y 16 (by omega)]; omega
   ·rw [zhs y 16 (by omega),hb,zer y.toNat 16 (by omega)]; omega
  ·exact ⟨y,n, by rw [if_neg (by simpa [UInt64.le_iff_toNat_le] using h)], by omega, by omega,hb⟩
 obtain ⟨z,k,e2,hz,hk,hb2⟩:=s2;simp only [bs] at e2;rw [e2]; simp only [bs];have s3:∃ (x:UInt64) (j:Nat),(if decide (256≤z) then some (w64 ((k:Int)+8)) >>= fun y9=>some (z8f z 8,y9) else some (z,(k:Int)))=some (x,(j:Int))∧x.toNat<256∧j≤56∧z7k a.toNat=j+z7k x.toNat:=by
  by_cases h:256≤z.toNat
  ·refine ⟨z8f z 8,k+8, by rw [if_pos (by simpa [UInt64.le_iff_toNat_le] using h)]; simp only [bs,z18 (show -9223372036854775808≤(k:Int)+8 by omega) (by omega)]; rfl,?_, by omega,?_⟩
   ·rw [zhs z 8 (by omega)]; omega
   ·rw [zhs z 8 (by omega),hb2,zer z.toNat 8 (by omega)]; omega
  ·exact ⟨z,k, by rw [if_neg (by simpa [UInt64.le_iff_toNat_le] using h)], by omega, by omega,hb2⟩
 obtain ⟨x,j,e3,hx,hj,hb3⟩:=s3;simp only [bs] at e3;rw [e3]; simp only [bs];have ht:=z11d ⟨x.toNat,hx⟩;have hx8:(x.toUInt8.toNat:Int)=((x.toNat:Nat):Int):=by simp; omega
 have hle:z7k x.toNat≤8:=zjp _ 8 (by omega);rw [hx8];have hlist:∀ (l:List UInt8),l=zzp.data.toList→idx l ((x.toNat:Nat):Int)=some (UInt8.ofNat (z7k x.toNat)):=fun l hl=>by
  subst hl;unfold idx;rw [if_pos (by omega)]
  simpa using ht
 refine Eq.trans (congrArg (fun o:Option UInt8=>o >>= fun x10=>some (w64 ((j:Int)+(x10.toNat:Int)))) (hlist _ ?hh)) ?_
 case hh=>rfl
 simp only [bs];have e4:((UInt8.ofNat (z7k x.toNat)).toNat:Int)=(z7k x.toNat:Int):=by simp; omega
 rw [e4,z18 (by omega) (by omega),hb3]
 simp
theorem z71 (a:UInt64):z4j a=some (z1m a.toNat):=by
 unfold z4j;have h0:=UInt64.toNat_lt a;by_cases h:a.toNat≤247
 ·have h':decide (a≤247)=true:=by simpa [UInt64.le_iff_toNat_le] using h
  unfold z1m;rw [if_pos h',if_pos h]
  congr 2
 ·have h':¬ decide (a≤247)=true:=by simpa [UInt64.le_iff_toNat_le] using h
  rw [if_neg h',z12p];have hd:=zn2 a.toNat h0;have hl:=zox a.toNat;have hb:z7k a.toNat≤64:=zjp _ 64 h0;simp only [bs];rw [z18 (show -9223372036854775808≤(z7k a.toNat:Int)+7 by omega) (by omega)];have e1:Int.tdiv ((z7k a.toNat:Int)+7) 8=((z3e a.toNat).length:Int):=by
   rw [hl, show ((z7k a.toNat:Int)+7)=((z7k a.toNat+7:Nat):Int) by omega];rfl
  rw [e1,z18 (show -9223372036854775808≤((z3e a.toNat).length:Int) by omega) (by omega),z0r (by omega),zis (by omega) (by omega)];simp only [bs];rw [show (0:Int)=((0:Nat):Int) from rfl,z0g (by simp)];simp only [bs,Int.toNat_natCast];rw [z18 (show -9223372036854775808≤247+((z3e a.toNat).length:Int) by omega) (by omega)];have e2:UInt8.ofInt (247+((z3e a.toNat).length:Int))=UInt8.ofNat (247+(z3e a.toNat).length):=by
   apply UInt8.toNat_inj.1
   rw [show (247+((z3e a.toNat).length:Int))=((247+(z3e a.toNat).length:Nat):Int) by omega];simp [UInt8.ofInt];omega
  have:=zsp a.toNat
  rw [e2,this]
  have:=zvy a (z3e a.toNat).length rfl hd
  rw [show (0:Int)=((0:Nat):Int) from rfl] at this;rw [this];simp only [bs];rw [zrb a.toNat (by omega)]
end
section
open Go
theorem okV3 {v:z06} (h:okV v=true) (k:v.Kind=3):v.Num=0∧v.Bits=0∧v.Text.length≤30∧v.Text.all okb=true:=by
 unfold okV at h; rw [if_neg (by rw [k]; decide),if_neg (by rw [k]; decide),if_pos k] at h
 simp only [Bool.and_eq_true,decide_eq_true_eq] at h;exact ⟨h.1.1.1,h.1.1.2,h.1.2,h.2⟩
theorem zq6 {v:z06} (h:okV v=true):v.Kind=1∨v.Kind=2∨v.Kind=3:=by
 by_cases h1:v.Kind=1
 ·exact .inl h1
 by_cases h2:v.Kind=2
 ·exact .inr (.inl h2)
 by_cases h3:v.Kind=3
 ·exact .inr (.inr h3)
 ·unfold okV at h; simp [h1,h2,h3] at h
theorem z110 (x:UInt64):(x ^^^ 18446744073709551615).toNat=18446744073709551615 - x.toNat:=by
 have e:x ^^^ 18446744073709551615 = ~~~x:=by
  apply UInt64.eq_of_toBitVec_eq
  rw [UInt64.toBitVec_xor,UInt64.toBitVec_not];exact BitVec.xor_allOnes
 rw [e,UInt64.toNat_not]; rfl
theorem zdu (n:Int):(UInt64.ofInt n).toNat=(n % 18446744073709551616).toNat:=by
 simp [UInt64.ofInt]; omega
theorem z18g (n:Int) (h:inI n):((zpq (UInt64.ofInt n) 1) ^^^ (UInt64.ofInt (shrI n 63))).toNat=zig n:=by
 obtain ⟨h1,h2⟩:=h;have es:(zpq (UInt64.ofInt n) 1).toNat=(n % 18446744073709551616).toNat * 2 % 18446744073709551616:=by
  rw [zo4,zdu]; rfl
 by_cases h0:0≤n
 ·have e:shrI n 63=0:=by
   unfold shrI;rw [show (2:Int) ^ (min 63 64)=9223372036854775808 from rfl,Int.fdiv_eq_ediv_of_nonneg _ (by omega)]; omega
  rw [e, show UInt64.ofInt 0=0 from rfl,UInt64.xor_zero,es];unfold zig; rw [if_pos h0]; omega
 ·have e:shrI n 63 = -1:=by
   unfold shrI;rw [show (2:Int) ^ (min 63 64)=9223372036854775808 from rfl,Int.fdiv_eq_ediv_of_nonneg _ (by omega)]; omega
  rw [e, show UInt64.ofInt (-1)=18446744073709551615 from rfl,z110,es];unfold zig; rw [if_neg h0]; omega
theorem z10h (n:Int) (h:inI n):zfn n=some (z1m (zig n)):=by
 unfold zfn;rw [z71,z18g n h]; rfl
theorem zmt (s:List UInt8) (h:s.length≤10000):zcl s=some (z1m s.length++s,0):=by
 unfold zcl;rw [if_neg (by simp; omega),z71];have e:(UInt64.ofInt (s.length:Int)).toNat=s.length:=by rw [zdu]; omega
 have:=z0u s.length (by omega)
 simp only [bs,e];rw [z1t (by omega)]; rfl
def be8 (b:UInt64):List UInt8:=[(z8f b 56).toUInt8,(z8f b 48).toUInt8,(z8f b 40).toUInt8,(z8f b 32).toUInt8,(z8f b 24).toUInt8,(z8f b 16).toUInt8,(z8f b 8).toUInt8,(z8f b 0).toUInt8]
theorem zy7 (v:z06) (l:List UInt8) (k:Nat) (hl:l.length≤100) (hk:k≤56):z9s v (l,(k:Int))=some (.inr (l++[(z8f v.Bits k).toUInt8],(k:Int) - 8)):=by
 unfold z9s;rw [if_pos (by simp)];simp only;rw [z3i (by omega)];simp only [bs,Int.toNat_natCast];rw [z1t (by simp; omega)];simp only [bs];rw [z18 (by omega) (by omega)]
theorem z10u (v:z06):iter (z9s v) ([v.Kind],56)=some (v.Kind::be8 v.Bits):=by
 have hs:=fun l k h1 h2=>zy7 v l k h1 h2;rw [show (56:Int)=((56:Nat):Int) from rfl,z26 (hs [v.Kind] 56 (by simp) (by omega))];simp only [List.cons_append,List.nil_append, show ((56:Nat):Int) - 8=((48:Nat):Int) from rfl];rw [z26 (hs _ 48 (by simp) (by omega))];simp only [List.cons_append,List.nil_append, show ((48:Nat):Int) - 8=((40:Nat):Int) from rfl];rw [z26 (hs _ 40 (by simp) (by omega))];simp only [List.cons_append,List.nil_append, show ((40:Nat):Int) - 8=((32:Nat):Int) from rfl]
 rw [z26 (hs _ 32 (by simp) (by omega))];simp only [List.cons_append,List.nil_append, show ((32:Nat):Int) - 8=((24:Nat):Int) from rfl];rw [z26 (hs _ 24 (by simp) (by omega))];simp only [List.cons_append,List.nil_append, show ((24:Nat):Int) - 8=((16:Nat):Int) from rfl];rw [z26 (hs _ 16 (by simp) (by omega))];simp only [List.cons_append,List.nil_append, show ((16:Nat):Int) - 8=((8:Nat):Int) from rfl]
 rw [z26 (hs _ 8 (by simp) (by omega))];simp only [List.cons_append,List.nil_append, show ((8:Nat):Int) - 8=((0:Nat):Int) from rfl];rw [z26 (hs _ 0 (by simp) (by omega))];simp only [List.cons_append,List.nil_append];refine z1u ?_;unfold z9s;rw [if_neg (by simp)]; rfl
def encV (v:z06):List UInt8:=v.Kind::(if v.Kind=1 then z1m (zig v.Num) else if v.Kind=2 then be8 v.Bits else z1m v.Text.length++v.Text)
theorem z10m {n:Int} (h:inI n):zig n<18446744073709551616:=z16e h.1 h.2
theorem z16p (v:z06) (hI:inI v.Num) (hl:v.Text.length≤9223372036854775807):zeo v=some (if okV v then (encV v,0) else ([],8)):=by
 unfold zeo;rw [zro v hl]
 cases hv:okV v
 ·rfl
 simp only [bs,if_true];rw [if_neg (by simp)];unfold encV;rcases zq6 hv with k | k | k
 ·have h1:=z0u (zig v.Num) (z10m hI);rw [k,z10h v.Num hI];simp only [bs];rw [if_pos (by decide),z1t (by simp; omega)]; simp [bs]
 ·rw [k,if_neg (by decide),if_pos (by decide),if_neg (by decide),if_pos rfl,← k,z10u]; rfl
 ·have h3:=(okV3 hv k).2.2.1;have h1:=z0u v.Text.length (by omega);rw [k,zmt v.Text (by omega)];rw [if_neg (by decide),if_neg (by decide),if_pos (by decide),if_neg (by decide),if_neg (by decide),z3i (by omega)];simp only [bs];rw [z1t (by simp; omega)]; rfl
theorem zs0 (n:Int) (h:inI n):za4 n=some (z1m (zig n)):=by
 obtain ⟨h1,h2⟩:=h;unfold za4;by_cases h0:0≤n
 ·rw [if_pos (by simpa using h0),z8i];have e:(2 * UInt64.ofInt n).toNat=zig n:=by
   rw [UInt64.toNat_mul,zdu, show (2:UInt64).toNat=2 from rfl];unfold zig; rw [if_pos h0]; omega
  rw [e]; rfl
 ·rw [if_neg (by simpa using h0),z8i];have e:((2 * UInt64.ofInt (w64 (0 - (w64 (n+1)))))+1).toNat=zig n:=by
   rw [z18 (x:=n+1) (by omega) (by omega),z18 (by omega) (by omega),UInt64.toNat_add,UInt64.toNat_mul,zdu, show (2:UInt64).toNat=2 from rfl, show (1:UInt64).toNat=1 from rfl];unfold zig; rw [if_neg h0]; omega
  rw [e]; rfl
theorem zpd (s:List UInt8) (h:s.length≤100000):z8c s=some (z1m s.length++s):=by
 unfold z8c;rw [z8i];have e:(UInt64.ofInt (s.length:Int)).toNat=s.length:=by rw [zdu]; omega
 have:=z0u s.length (by omega)
 rw [e];simp only [bs];rw [z1t (by omega)]; rfl
theorem zyh (v:z06) (l:List UInt8) (k:Nat) (hl:l.length≤100) (hk:k≤7):z5v v (l,(k:Int))=some (.inr (l++[(z8f v.Bits (8 * k)).toUInt8],(k:Int) - 1)):=by
 unfold z5v;rw [if_pos (by simp)];simp only;have e:w64 (8 * (k:Int))=((8 * k:Nat):Int):=by rw [z18 (by omega) (by omega)]; omega
 rw [e,z3i (by omega)];simp only [bs,Int.toNat_natCast];rw [z1t (by simp; omega)];simp only [bs];rw [z18 (by omega) (by omega)]
theorem z11f (v:z06):iter (z5v v) ([v.Kind],7)=some (v.Kind::be8 v.Bits):=by
 have hs:=fun l k h1 h2=>zyh v l k h1 h2;rw [show (7:Int)=((7:Nat):Int) from rfl,z26 (hs [v.Kind] 7 (by simp) (by omega))];simp only [List.cons_append,List.nil_append, show ((7:Nat):Int) - 1=((6:Nat):Int) from rfl];rw [z26 (hs _ 6 (by simp) (by omega))];simp only [List.cons_append,List.nil_append, show ((6:Nat):Int) - 1=((5:Nat):Int) from rfl];rw [z26 (hs _ 5 (by simp) (by omega))];simp only [List.cons_append,List.nil_append, show ((5:Nat):Int) - 1=((4:Nat):Int) from rfl]
 rw [z26 (hs _ 4 (by simp) (by omega))];simp only [List.cons_append,List.nil_append, show ((4:Nat):Int) - 1=((3:Nat):Int) from rfl];rw [z26 (hs _ 3 (by simp) (by omega))];simp only [List.cons_append,List.nil_append, show ((3:Nat):Int) - 1=((2:Nat):Int) from rfl];rw [z26 (hs _ 2 (by simp) (by omega))];simp only [List.cons_append,List.nil_append, show ((2:Nat):Int) - 1=((1:Nat):Int) from rfl];rw [z26 (hs _ 1 (by simp) (by omega))]
 simp only [List.cons_append,List.nil_append, show ((1:Nat):Int) - 1=((0:Nat):Int) from rfl];rw [z26 (hs _ 0 (by simp) (by omega))];simp only [List.cons_append,List.nil_append];refine z1u ?_;unfold z5v;rw [if_neg (by simp)]; rfl
theorem z10k (v:z06) (hI:inI v.Num) (hv:okV v=true):zb1 v=some (encV v):=by
 unfold encV zb1;rcases zq6 hv with k | k | k
 ·have h1:=z0u (zig v.Num) (z10m hI);rw [k,zs0 v.Num hI];simp only [bs];rw [if_pos (by decide),z1t (by simp; omega)]; simp [bs]
 ·rw [k,if_neg (by decide),if_pos (by decide),if_neg (by decide),if_pos rfl,← k,z11f]; rfl
 ·have h3:=(okV3 hv k).2.2.1;have h1:=z0u v.Text.length (by omega);rw [k,zpd v.Text (by omega)];rw [if_neg (by decide),if_neg (by decide),if_neg (by decide),if_neg (by decide),z3i (by omega)];simp only [bs];rw [z1t (by simp; omega)]; rfl
end
section
open Go
theorem z114 (a b:V3):∀ (n i:Nat),32 - i=n→i≤32→∃ r:Sum Int Unit,iter (z82 a b) (i:Int)=some r∧(z5u (some r) (fun _=>some 0)=some (Lib.compareBytes (a.toList.drop i) (b.toList.drop i))):=by
 intro n
 induction n with
 | zero =>
  intro i hn hi
  have:i=32:=by omega
  subst this;refine ⟨.inr (),z1u ?_,?_⟩
  ·unfold z82; rw [if_neg (by simp)]
  ·rw [List.drop_eq_nil_of_le (by simp),List.drop_eq_nil_of_le (by simp)]; rfl
 | succ n ih =>
  intro i hn hi;have hlt:i<32:=by omega
  have da:a.toList.drop i=a[i]::a.toList.drop (i+1):=by rw [List.drop_eq_getElem_cons (by simpa using hlt)]; simp
  have db:b.toList.drop i=b[i]::b.toList.drop (i+1):=by rw [List.drop_eq_getElem_cons (by simpa using hlt)]; simp
  have hF:z82 a b (i:Int)=if decide (a[i]<b[i]) then some (.inl (.inl (-1))) else if decide (b[i]<a[i]) then some (.inl (.inl 1)) else some (.inr ((i+1:Nat):Int)):=by
   unfold z82;rw [if_pos (by simp; omega)];simp only [z8o hlt,bs,z0r (show i<9223372036854775807 by omega)]
  rw [da,db,Lib.compareBytes];by_cases h1:a[i]<b[i]
  ·rw [decide_eq_true h1] at hF;exact ⟨_,z1u hF, by rw [if_pos h1]; rfl⟩
  ·rw [decide_eq_false h1] at hF;by_cases h2:b[i]<a[i]
   ·rw [decide_eq_true h2] at hF;exact ⟨_,z1u hF, by rw [if_neg h1,if_pos h2]; rfl⟩
   ·rw [decide_eq_false h2] at hF;obtain ⟨r,k1,k2⟩:=ih (i+1) (by omega) (by omega);exact ⟨r, by rw [z26 hF]; exact k1, by rw [if_neg h1,if_neg h2]; exact k2⟩
theorem zse (a b:V3):z9c a b=some (Lib.compareBytes a.toList b.toList):=by
 obtain ⟨r,h1,h2⟩:=z114 a b 32 0 rfl (by omega);unfold z9c;rw [show (0:Int)=((0:Nat):Int) from rfl,h1]
 simpa using h2
theorem zsz (a b:V3):z9b a b=some (Lib.compareBytes a.toList b.toList):=by
 unfold z9b zga; rfl
def z8b:List V3→Bool
 | a::b::l=>!decide (0≤Lib.compareBytes a.toList b.toList)&&z8b (b::l)
 | _=>true
theorem znu (l:List V3) (hl:l.length≤9223372036854775807):∀ (n i:Nat),l.length - i=n→1≤i→i≤l.length→iter (z4d l) (i:Int)=some (if z8b (l.drop (i - 1)) then .inr () else .inl false):=by
 intro n
 induction n with
 | zero =>
  intro i hn h1 hi
  have:i=l.length:=by omega
  refine z1u ?_;have e:l.drop (i - 1)=[l[i - 1]'(by omega)]:=by
   rw [List.drop_eq_getElem_cons (by omega),List.drop_eq_nil_of_le (by omega)]
  rw [e];unfold z4d;rw [if_neg (by simp; omega)];simp [z8b]
 | succ n ih =>
  intro i hn h1 hi;have hlt:i<l.length:=by omega
  have e:l.drop (i - 1)=l[i - 1]::l[i]::l.drop (i+1):=by
   rw [List.drop_eq_getElem_cons (by omega), show i - 1+1=i by omega,List.drop_eq_getElem_cons hlt]
  have e':l.drop (i+1 - 1)=l[i]::l.drop (i+1):=by rw [Nat.add_sub_cancel,List.drop_eq_getElem_cons hlt]
  have hF:z4d l (i:Int)=if decide (0≤Lib.compareBytes (l[i - 1]).toList (l[i]).toList) then some (.inl (.inl false)) else some (.inr ((i+1:Nat):Int)):=by
   unfold z4d;rw [if_pos (by simp; omega),z18 (by omega) (by omega), show ((i:Int) - 1)=((i - 1:Nat):Int) by omega];simp only [z0g hlt,z0g (show i - 1<l.length by omega),bs,zse,z0r (show i<9223372036854775807 by omega)]
  rw [e,z8b]
  cases hc:decide (0≤Lib.compareBytes (l[i - 1]).toList (l[i]).toList) with
  | true=>rw [hc] at hF; rw [z1u hF]; rfl
  | false =>
   rw [hc] at hF;rw [z26 hF,ih (i+1) (by omega) (by omega) (by omega),e']; simp
theorem zr2 (l:List V3) (hl:l.length≤9223372036854775807):z80 l=some (z8b l):=by
 unfold z80
 cases l with
 | nil =>
  rw [z1u (b:=.inr ()) (by unfold z4d; rw [if_neg (by simp)])]; rfl
 | cons x l =>
  have:=znu (x::l) hl _ 1 rfl (by omega) (by simp)
  rw [show (1:Int)=((1:Nat):Int) from rfl,this];simp only [Nat.sub_self,List.drop_zero]
  cases z8b (x::l) <;> rfl
theorem zrf (l:List V3) (hl:l.length≤9223372036854775806):∀ (n i:Nat),l.length - i=n→i≤l.length→∃ r,iter (z0s l l) ((i:Int),(i:Int))=some r∧(z8b (l.drop i)=true→∃ c,r=.inr c)∧(z8b (l.drop i)=false→∃ (k:Nat) (c:Int),r=.inl ((k:Int),c)):=by
 intro n
 induction n with
 | zero =>
  intro i hn hi
  have:i=l.length:=by omega
  refine ⟨.inr (i:Int),z1u ?_, fun _=>⟨_,rfl⟩, fun h=>?_⟩
  ·unfold z0s;rw [if_neg (by simp; omega)]
  ·rw [List.drop_eq_nil_of_le (by omega)] at h; simp [z8b] at h
 | succ n ih =>
  intro i hn hi;have hlt:i<l.length:=by omega
  by_cases h2:i+1<l.length
  ·have e:l.drop i=l[i]::l[i+1]::l.drop (i+2):=by rw [List.drop_eq_getElem_cons hlt,List.drop_eq_getElem_cons h2]
   have e':l.drop (i+1)=l[i+1]::l.drop (i+2):=by rw [List.drop_eq_getElem_cons h2]
   have hF:z0s l l ((i:Int),(i:Int))=if decide (0≤Lib.compareBytes (l[i]).toList (l[i+1]).toList) then some (.inl (.inl ((i:Int),((i+1:Nat):Int)))) else some (.inr (((i+1:Nat):Int),((i+1:Nat):Int))):=by
    unfold z0s zdl;rw [if_pos (by simp; omega)];simp only [z0g hlt,bs,z0r (show i<9223372036854775807 by omega)];rw [if_pos (by simp; omega),z18 (by omega) (by omega), show ((i+1:Nat):Int) - 1=(i:Int) by omega];simp only [z0g hlt,z0g h2,bs,zsz]
   rw [e,z8b]
   cases hc:decide (0≤Lib.compareBytes (l[i]).toList (l[i+1]).toList) with
   | true =>
    rw [hc] at hF;exact ⟨_,z1u hF, fun h=>by simp at h, fun _=>⟨i,_,rfl⟩⟩
   | false =>
    rw [hc] at hF;obtain ⟨r,k1,k2,k3⟩:=ih (i+1) (by omega) (by omega);rw [e'] at k2 k3;exact ⟨r, by rw [z26 hF]; exact k1, fun h=>k2 (by simpa using h), fun h=>k3 (by simpa using h)⟩
  ·have e:l.drop i=[l[i]]:=by rw [List.drop_eq_getElem_cons hlt,List.drop_eq_nil_of_le (by omega)]
   have hF:z0s l l ((i:Int),(i:Int))=some (.inr (((i+1:Nat):Int),((i+1:Nat):Int))):=by
    unfold z0s zdl;rw [if_pos (by simp; omega)];simp only [z0g hlt,bs,z0r (show i<9223372036854775807 by omega)];rw [if_neg (by simp; omega)];simp only [bs]; rfl
   obtain ⟨r,k1,k2,k3⟩:=ih (i+1) (by omega) (by omega);rw [List.drop_eq_nil_of_le (by omega)] at k2 k3;exact ⟨r, by rw [z26 hF]; exact k1, fun _=>k2 rfl, fun h=>by rw [e] at h; simp [z8b] at h⟩
theorem zwg (l:List V3) (hl:l.length≤9223372036854775806):zg6 l=some (z8b l):=by
 obtain ⟨r,k1,k2,k3⟩:=zrf l hl _ 0 rfl (by omega);unfold zg6 z2i z2u;rw [show ((0:Int),(0:Int))=(((0:Nat):Int),((0:Nat):Int)) from rfl,k1];simp only [List.drop_zero] at k2 k3
 cases h:z8b l with
 | true=>obtain ⟨c,rfl⟩:=k2 h; rfl
 | false =>
  obtain ⟨k,c,rfl⟩:=k3 h;simp only [or_l,bs];rw [decide_eq_true (by omega)]; rfl
def zob (l:List V3):List UInt8:=l.flatMap Vector.toList
theorem zko (l:List V3):(zob l).length=32 * l.length:=by
 induction l with
 | nil=>rfl
 | cons x l ih=>unfold zob at ih ⊢; rw [List.flatMap_cons,List.length_append,ih]; simp; omega
theorem zs9 (l:List V3) (i:Nat) (hi:i<l.length):zob (l.take (i+1))=zob (l.take i)++(l[i]).toList:=by
 rw [List.take_add_one,List.getElem?_eq_getElem hi]; unfold zob; rw [List.flatMap_append,Option.toList_some,List.flatMap_cons,List.flatMap_nil,List.append_nil]
theorem z14x (l:List V3) (h:l.length≤1000) (s:List UInt8) (hs:s.length≤9):iter (z6w l) (s,0)=some (s++zob l):=by
 have:=z2k (F:=z6w l) (b:=s++zob l) l.length (fun i=>(s++zob (l.take i),(i:Int))) (fun i hi=>?_) ?_
 ·simpa [zob] using this
 ·unfold z6w;have hf:=zko (l.take i);rw [if_pos (by simp; omega)];simp only [z0g hi,bs];rw [z1t (by simp at hf ⊢; omega)];simp only [bs,z0r (show i<9223372036854775807 by omega),zs9 l i hi,List.append_assoc]
 ·unfold z6w;rw [if_neg (by simp)]
  simp
theorem z16n (l:List V3) (h:l.length≤1000) (s:List UInt8) (hs:s.length≤9):iter (zdv l) (s,0)=some (s++zob l):=by
 have:=z2k (F:=zdv l) (b:=s++zob l) l.length (fun i=>(s++zob (l.take i),(i:Int))) (fun i hi=>?_) ?_
 ·simpa [zob] using this
 ·unfold zdv;have hf:=zko (l.take i);rw [if_pos (by simp; omega)];simp only [z0g hi,bs];rw [z1t (by simp at hf ⊢; omega)];simp only [bs,z0r (show i<9223372036854775807 by omega),zs9 l i hi,List.append_assoc]
 ·unfold zdv;rw [if_neg (by simp)]
  simp
theorem zke {n:Nat} (h:n<18446744073709551616):(UInt64.ofInt (n:Int)).toNat=n:=by
 simp [UInt64.ofInt]; omega
theorem z126 (l:List V3) (h:l.length≤1000):zc6 l=some (z1m l.length++zob l):=by
 unfold zc6;have hn:=z0u l.length (by omega);rw [z8i,zke (by omega)];simp only [bs];rw [z14x l h _ (by omega)]; rfl
theorem z149 (l:List V3) (h:l.length≤60) (hi:z8b l=true):zjl l=some (z1m l.length++zob l,0):=by
 unfold zjl;have hn:=z0u l.length (by omega);rw [if_neg (by simp; omega),zwg l (by omega),hi,z71,zke (by omega)];simp only [bs,Bool.not_true,Bool.false_eq_true,if_false];rw [z16n l (by omega) _ (by omega)]; rfl
end
section
open Go
def nk:List UInt8→Nat
 | []=>0
 | a::l=>a.toNat * 256 ^ l.length+nk l
theorem z148:∀ l:List UInt8,nk l<256 ^ l.length
 | []=>by simp [nk]
 | a::l=>by
  have ih:=z148 l;have ha:=UInt8.toNat_lt a;simp only [nk,List.length_cons,Nat.pow_succ];have h1:(a.toNat+1) * 256 ^ l.length≤256 * 256 ^ l.length:=Nat.mul_le_mul_right _ (by omega);rw [Nat.add_mul,Nat.one_mul] at h1;omega
theorem zx8:∀ a b:List UInt8,a.length=b.length→Lib.compareBytes a b=(if nk a<nk b then -1 else if nk b<nk a then 1 else 0)∧(nk a=nk b→a=b)
 | [],[],_=>by simp [Lib.compareBytes,nk]
 | [],_::_,h=>by simp at h
 | _::_,[],h=>by simp at h
 | a::x,b::y,h=>by
  have hl:x.length=y.length:=by simpa using h
  obtain ⟨i1,i2⟩:=zx8 x y hl;have lx:=z148 x;have ly:=z148 y;simp only [Lib.compareBytes,nk,hl] at *;have e:∀ u v:UInt8,u.toNat<v.toNat→u.toNat * 256 ^ y.length+256 ^ y.length≤v.toNat * 256 ^ y.length:=fun u v huv=>by
   have:=Nat.mul_le_mul_right (256 ^ y.length) (show u.toNat+1≤v.toNat from huv)
   rwa [Nat.add_mul,Nat.one_mul] at this
  by_cases h1:a<b
  ·have h1':a.toNat<b.toNat:=UInt8.lt_iff_toNat_lt.1 h1
   have:=e a b h1'
   rw [if_pos h1,if_pos (by omega)];exact ⟨rfl, fun h=>by omega⟩
  ·by_cases h2:b<a
   ·have h2':b.toNat<a.toNat:=UInt8.lt_iff_toNat_lt.1 h2
    have:=e b a h2'
    rw [if_neg h1,if_pos h2,if_neg (by omega),if_pos (by omega)];exact ⟨rfl, fun h=>by omega⟩
   ·have h3:a=b:=UInt8.toNat_inj.1 (by rw [UInt8.lt_iff_toNat_lt] at h1 h2; omega);subst h3;rw [if_neg h1,if_neg h1,i1];refine ⟨?_, fun h=>by rw [i2 (by omega)]⟩;by_cases c1:nk x<nk y
    ·rw [if_pos c1,if_pos (by omega)]
    ·by_cases c2:nk y<nk x
     ·rw [if_neg c1,if_pos c2,if_neg (by omega),if_pos (by omega)]
     ·rw [if_neg c1,if_neg c2,if_neg (by omega),if_neg (by omega)]
def kd (d:V3):Nat:=nk d.toList
theorem zvq (a b:V3):Lib.compareBytes a.toList b.toList=if kd a<kd b then -1 else if kd b<kd a then 1 else 0:=(zx8 a.toList b.toList (by simp)).1
theorem zo1 {a b:V3} (h:kd a=kd b):a=b:=by
 have:=(zx8 a.toList b.toList (by simp)).2 h
 exact Vector.toList_inj.1 this
theorem zup (a b:V3):z9b a b=some (if kd a<kd b then -1 else if kd b<kd a then 1 else 0):=by rw [zsz,zvq]
theorem zzq (a b:V3):z9c a b=some (if kd a<kd b then -1 else if kd b<kd a then 1 else 0):=by rw [zse,zvq]
theorem zs7 (a b:V3):decide ((if kd a<kd b then (-1:Int) else if kd b<kd a then 1 else 0)<0)=decide (kd a<kd b):=by
 by_cases h:kd a<kd b
 ·simp [h]
 ·by_cases h2:kd b<kd a <;> simp [h,h2]
theorem z139 (a b:V3):decide (0≤(if kd a<kd b then (-1:Int) else if kd b<kd a then 1 else 0))=decide (kd b≤kd a):=by
 by_cases h:kd a<kd b
 ·have:¬ kd b≤kd a:=by omega
  simp [h,this]
 ·have h3:kd b≤kd a:=by omega
  by_cases h2:kd b<kd a <;> simp [h,h2,h3]
theorem z16w (a b:V3):((if kd a<kd b then (-1:Int) else if kd b<kd a then 1 else 0)==0)=decide (a=b):=by
 by_cases h:kd a<kd b
 ·have:a≠b:=fun e=>by rw [e] at h; omega
  simp [h,this]
 ·by_cases h2:kd b<kd a
  ·have:a≠b:=fun e=>by rw [e] at h2; omega
   simp [h,h2,this]
  ·have:a=b:=zo1 (by omega)
   simp [h,h2,this]
theorem zum:∀ l:List V3,z8b l=true↔∀ i (h:i+1<l.length),kd (l[i]'(by omega))<kd l[i+1]
 | []=>by simp [z8b]
 | [a]=>by simp [z8b]
 | a::b::l=>by
  have ih:=zum (b::l);rw [z8b,Bool.and_eq_true,ih,zvq,z139]
  constructor
  ·rintro ⟨h1,h2⟩ i hi
   cases i with
   | zero=>simpa using h1
   | succ i=>exact h2 i (by simpa using hi)
  ·intro h;refine ⟨?_, fun i hi=>h (i+1) (by simpa using hi)⟩
   have:=h 0 (by simp)
   simpa using this
theorem z8m:∀ l:List V3,z8b l=true↔l.Pairwise (fun a b=>kd a<kd b)
 | []=>by simp [z8b]
 | [a]=>by simp [z8b]
 | a::b::l=>by
  have ih:=z8m (b::l);rw [z8b,Bool.and_eq_true,ih,zvq,z139]
  constructor
  ·rintro ⟨h1,h2⟩
   have h1':kd a<kd b:=by simpa using h1
   refine List.pairwise_cons.2 ⟨fun c hc=>?_,h2⟩;rcases List.mem_cons.1 hc with rfl | hc
   ·exact h1'
   ·have:=(List.pairwise_cons.1 h2).1 c hc; omega
  ·intro h;obtain ⟨h1,h2⟩:=List.pairwise_cons.1 h
   have:=h1 b (by simp)
   exact ⟨by simp; omega,h2⟩
theorem zzs (l:List V3) (hl:l.length≤9223372036854775807):∃ b,z1c l=some b∧(b=true↔∀ i (h:i+1<l.length),kd (l[i]'(by omega))≤kd l[i+1]):=by
 have key:∀ n,n<l.length→∃ r:Sum Bool Unit,iter (z0x l) (n:Int)=some r∧((r=.inr ()∧∀ i (h:i+1<l.length),i+1≤n→kd (l[i]'(by omega))≤kd l[i+1])∨(r=.inl false∧∃ i,∃ h:i+1<l.length,¬ kd (l[i]'(by omega))≤kd l[i+1])):=by
  intro n
  induction n with
  | zero =>
   intro h;refine ⟨_,z1u ?_,.inl ⟨rfl, fun i _ h=>by omega⟩⟩;unfold z0x;rw [if_neg (by simp)]
  | succ n ih =>
   intro h;have hF:z0x l ((n+1:Nat):Int)=if decide (kd l[n+1]<kd l[n]) then some (.inl (.inl false)) else some (.inr (n:Int)):=by
    unfold z0x;rw [if_pos (by simp <;> omega),z0g h,z18 (by omega) (by omega), show (((n+1:Nat):Int) - 1)=(n:Int) by omega,z0g (by omega)]
    simp only [bS];rw [zup];simp only [bS];rw [zs7]
   by_cases hc:kd l[n+1]<kd l[n]
   ·rw [decide_eq_true hc,if_pos rfl] at hF;exact ⟨_,z1u hF,.inr ⟨rfl,n,h, by omega⟩⟩
   ·rw [decide_eq_false hc,if_neg (by simp)] at hF;obtain ⟨r,h1,h2⟩:=ih (by omega);refine ⟨r, by rw [z26 hF]; exact h1,?_⟩;rcases h2 with ⟨h2,h3⟩ | h2
    ·refine .inl ⟨h2, fun i hi hn=>?_⟩;by_cases hin:i=n
     ·subst hin; omega
     ·exact h3 i hi (by omega)
    ·exact .inr h2
 unfold z1c;simp only [bS];by_cases h0:l.length=0
 ·refine ⟨true,?_, by simp; intro i hi; omega⟩;rw [h0,z18 (by omega) (by omega),z1u (b:=.inr ())]
  ·rfl
  ·unfold z0x;rw [if_neg (by simp)]
 ·obtain ⟨r,h1,h2⟩:=key (l.length - 1) (by omega);rw [z18 (by omega) (by omega), show ((l.length:Int) - 1)=((l.length - 1:Nat):Int) by omega,h1];rcases h2 with ⟨rfl,h3⟩ | ⟨rfl,i,hi,h3⟩
  ·exact ⟨true,rfl, by simp; exact fun i hi=>h3 i hi (by omega)⟩
  ·exact ⟨false,rfl, by simp; exact ⟨i,hi, by omega⟩⟩
theorem zq2 {k n j:Nat} (h:j<n):subi k n (j:Int)=some (k+j):=by unfold subi; rw [if_pos (by omega)]; simp
theorem ztt {α:Type} (b:List α) (k n:Nat) (x:α) (h:k+n≤b.length):(clr b k n x).length=b.length:=by
 unfold clr;simp only [List.length_append,List.length_take,List.length_replicate,List.length_drop]; omega
theorem zta (l:List V3) (s:Nat) (h1:1≤s) (hs:s<l.length) (hl:l.length≤9223372036854775806):∃ b:List V3 × Int,iter (z15 l s) (l,(s:Int),1)=some b∧b.1.length=l.length∧∃ j:Nat,b.2=(j:Int)∧j<l.length:=by
 refine zap (F:=z15 l s) (l.length - s) (fun i st=>st.1.length=l.length∧st.2.2=(i:Int)∧1≤i∧∃ j:Nat,st.2.1=(j:Int)∧j+1≤s+i) _ ?_ ?_ _ 1 (by omega) ⟨rfl,rfl, by omega,s,rfl, by omega⟩
 ·rintro i ⟨c,j',i'⟩ hi ⟨e1,e2,e0,j,e3,e4⟩
  simp only at e1 e2 e3;subst e2 e3;unfold z15;rw [if_pos (by simp; omega)];simp only [Int.toNat_natCast];rw [zq2 (by omega),z18 (x:=(i:Int) - 1) (by omega) (by omega), show ((i:Int) - 1)=((i - 1:Nat):Int) by omega,zq2 (by omega)];simp only [bS];rw [z0g (by omega),z0g (by omega)];simp only [bS];by_cases hc:c[s+i]'(by omega)=c[s+(i - 1)]'(by omega)
  ·rw [decide_eq_true hc,if_neg (by simp)];exact ⟨_,rfl,e1,z0r (by omega), by omega,j,rfl, by omega⟩
  ·rw [decide_eq_false hc,if_pos (by simp),z0g (by omega)];simp only [bS];exact ⟨_,rfl, by simpa using e1,z0r (by omega), by omega,j+1,z0r (by omega), by omega⟩
 ·rintro ⟨c,j',i'⟩ ⟨e1,e2,e0,j,e3,e4⟩
  simp only at e1 e2 e3;subst e2 e3;unfold z15;rw [if_neg (by simp <;> omega)]
  exact ⟨_,rfl,e1,j,rfl, by omega⟩
theorem zvu (l:List V3) (hl:l.length≤9223372036854775806):∃ c,z10 l=some c∧(c.length=l.length↔∀ i (h:i+1<l.length),l[i]'(by omega)≠l[i+1]):=by
 have key:∀ k n,l.length - n=k→1≤n→n≤l.length→∃ r:Sum (List V3) Unit,iter (z0k l) (n:Int)=some r∧((r=.inr ()∧∀ i (h:i+1<l.length),n≤i+1→l[i]'(by omega)≠l[i+1])∨(∃ c,r=.inl c∧c.length≠l.length∧∃ i,∃ h:i+1<l.length,l[i]'(by omega)=l[i+1])):=by
  intro k
  induction k with
  | zero =>
   intro n hk h1 hn;refine ⟨_,z1u ?_,.inl ⟨rfl, fun i _ h=>by omega⟩⟩;unfold z0k;rw [if_neg (by simp; omega)]
  | succ k ih =>
   intro n hk h1 hn;have hlt:n<l.length:=by omega
   by_cases hc:l[n]=l[n - 1]
   ·obtain ⟨⟨c,j'⟩,e1,e2,j,e3,e4⟩:=zta l n h1 hlt hl;simp only at e2 e3;subst e3;have hF:z0k l (n:Int)=some (.inl (.inl ((clr c j (c.length - j) (Vector.replicate 32 0)).take j))):=by
     unfold z0k;rw [if_pos (by simp; omega),z0g hlt,z18 (by omega) (by omega), show ((n:Int) - 1)=((n - 1:Nat):Int) by omega,z0g (by omega)];simp only [bS];rw [decide_eq_true hc,if_pos rfl,z3i (by omega)];simp only [bS];rw [e1];simp only [bS];rw [z3i (by omega),z3i (by simp; omega)];simp only [bS,Int.toNat_natCast];rw [show (0:Int)=((0:Nat):Int) from rfl,zgg (by omega) (by rw [ztt _ _ _ _ (by omega)]; omega)]
     simp
    refine ⟨_,z1u hF,.inr ⟨_,rfl,?_,n - 1, by omega,?_⟩⟩
    ·rw [List.length_take]; omega
    ·have:n - 1+1=n:=by omega
     simp only [this]; exact hc.symm
   ·have hF:z0k l (n:Int)=some (.inr ((n+1:Nat):Int)):=by
     unfold z0k;rw [if_pos (by simp; omega),z0g hlt,z18 (x:=(n:Int) - 1) (by omega) (by omega), show ((n:Int) - 1)=((n - 1:Nat):Int) by omega,z0g (by omega)];simp only [bS];rw [decide_eq_false hc,if_neg (by simp),z0r (by omega)]
    obtain ⟨r,h2,h3⟩:=ih (n+1) (by omega) (by omega) (by omega);refine ⟨r, by rw [z26 hF]; exact h2,?_⟩;rcases h3 with ⟨h3,h4⟩ | h3
    ·refine .inl ⟨h3, fun i hi hni=>?_⟩;by_cases hin:i+1=n
     ·subst hin; exact fun e=>hc e.symm
     ·exact h4 i hi (by omega)
    ·exact .inr h3
 unfold z10;by_cases h2:l.length<2
 ·rw [if_pos (by simp; omega)];exact ⟨l,rfl, by simp; intro i hi; omega⟩
 ·rw [if_neg (by simp; omega)];obtain ⟨r,e1,e2⟩:=key (l.length - 1) 1 rfl (by omega) (by omega);rw [show (1:Int)=((1:Nat):Int) from rfl,e1];rcases e2 with ⟨rfl,h3⟩ | ⟨c,rfl,h3,i,hi,h4⟩
  ·exact ⟨l,rfl, by simp; exact fun i hi=>h3 i hi (by omega)⟩
  ·exact ⟨c,rfl,⟨fun h=>absurd h h3, fun h=>absurd h4 (h i hi)⟩⟩
theorem z120 (l:List V3):z8b l=true↔(∀ i (h:i+1<l.length),kd (l[i]'(by omega))≤kd l[i+1])∧∀ i (h:i+1<l.length),l[i]'(by omega)≠l[i+1]:=by
 rw [zum]
 constructor
 ·intro h;refine ⟨fun i hi=>Nat.le_of_lt (h i hi), fun i hi e=>?_⟩
  have:=h i hi
  rw [e] at this; omega
 ·rintro ⟨h1,h2⟩ i hi
  have:=h1 i hi
  rcases Nat.lt_or_eq_of_le this with h | h
  ·exact h
  ·exact absurd (zo1 h) (h2 i hi)
end
section
open Go Go.Shelf Go.RowKit Go.Lib Go.Sort
def cfID (x y:V3):Int:=Lib.compareBytes x.toList y.toList
theorem ltID (x y:V3):ltOf cfID x y=decide (kd x<kd y):=by
 unfold ltOf cfID;rw [zvq,zs7]
theorem z17e:SWO (ltOf cfID) where
 irrefl x:=by rw [ltID]; simp
 trans x y z h1 h2:=by rw [ltID] at *; simp at *; omega
 ntrans x y z h1 h2:=by rw [ltID] at *; simp at *; omega
def zrp (l:List V3):List V3:=l.mergeSort fun x y=>!(ltOf cfID) y x
theorem zka (l:List V3):(zrp l).length=l.length:=List.length_mergeSort l
theorem zsl (l:List V3) (x:V3):x∈zrp l↔x∈l:=List.mem_mergeSort
theorem zlm (l:List V3):(zrp l).Pairwise fun x y=>kd x≤kd y:=by
 have h:=List.pairwise_mergeSort (le:=fun x y=>!(ltOf cfID) y x) (fun a b c h1 h2=>by
  rw [ltID] at *; simp at *; omega) (fun a b=>by rw [ltID,ltID]; simp; omega) l
 exact h.imp fun {a b} hab=>by rw [ltID] at hab; simp at hab; omega
def zou (l:List V3):Option (List V3):=chk (l.length≤1000000) >>= fun _=>some (zrp l)
theorem z11z (p0:Value) (c0:List V3):z1o Tryz.prog 47 [.val p0,.val (.func (.func 99) #[] #[])] [(1,some (p0,.list (z3b 32 u8R) 31 c0))] (zou c0) (fun r nv=>⟨[],[(1,some (p0,.list (z3b 32 u8R) 31 r))]⟩):=by
 refine zu8 zrp zka (fun cap w=>?_) (fun blk cap d w hH hb hs=>?_) p0 c0
 ·exact AnyF.slices_SortFunc_none z10x none cap _ w
 ·have eg:∀ args w,(callFunc 99 args).run Tryz.prog w=.ok (.enter 99 args) w:=enters_of Tryz.func99 (by kernel_rfl) rfl
  exact AnyQ.slices_SortFunc_total z10x 32 Tryz.isAgg31 Tryz.sizeOf31 z8y zfe (fun x v hv=>by
   unfold z8y at hv;obtain ⟨c,_,rfl⟩:=List.mem_map.1 hv
   rfl) cfID z17e 99 #[] blk 0 cap d w eg (fun m os dk _ x y=>zwh x y _) hH hb hs (fun x y h1 h2=>by
   rw [ltID] at h1 h2;simp at h1 h2
   exact zo1 (by omega))
theorem zry (p0:Value) (c0:List V3):z1o Tryz.prog 47 [.val p0,.val (.func (.func 48) #[] #[])] [(1,some (p0,.list (z3b 32 u8R) 31 c0))] (zou c0) (fun r nv=>⟨[],[(1,some (p0,.list (z3b 32 u8R) 31 r))]⟩):=by
 refine zu8 zrp zka (fun cap w=>?_) (fun blk cap d w hH hb hs=>?_) p0 c0
 ·exact AnyF.slices_SortFunc_none z10x none cap _ w
 ·have eg:∀ args w,(callFunc 48 args).run Tryz.prog w=.ok (.enter 48 args) w:=enters_of Tryz.func48 (by kernel_rfl) rfl
  exact AnyQ.slices_SortFunc_total z10x 32 Tryz.isAgg31 Tryz.sizeOf31 z8y zfe (fun x v hv=>by
   unfold z8y at hv;obtain ⟨c,_,rfl⟩:=List.mem_map.1 hv
   rfl) cfID z17e 48 #[] blk 0 cap d w eg (fun m os dk _ x y=>ztc x y _) hH hb hs (fun x y h1 h2=>by
   rw [ltID] at h1 h2;simp at h1 h2
   exact zo1 (by omega))
end
end Go.Proofs.YtcneilabmjkdlaaGreatDoor
