import Derived.Test.YtfncjjgmldogiaaGreatDoorNb
set_option linter.unusedSimpArgs false
set_option linter.unusedVariables false
namespace Go.Proofs.YtfncjjgmldogiaaGreatDoor
section
open Go Go.RowKit
set_option maxRecDepth 100000
theorem zm6 (a0:UInt32) (a1:UInt64):z2s Tryz.prog 83 [.rd z0w a0,.rd z2y a1] [] (zi3 a0 a1) (fun r nv=>⟨[.rd z0w r.1,.rd z09 r.2],[]⟩):=by
 refine z3o 13 Tryz.func83 Z Z Z fun H w=>?_
 refine gSR<|Za Z<|Zb Z<|z1c<|gSR<|Zm Z<|Ef Z (lit (R:=z0w) ([a0]:List UInt32) 1 (pP Z Z<|pN) Z tu182 z8l Z Z) fun v1=>zfs 1 [7] Z (fS Z<|fN)<|Zc [] [] Tryz.func121 Z (zg0 _) fun r2 n3=>Zq (zge Z)<|Zj Z (fun h4=>?_) (fun h4=>?_)
 ·
  refine gSR<|Za Z<|Zb Z<|z12<|z1i<|Ze [] [] Z
 ·
  refine Zt<|gSR<|Zm Z<|Zm Z<|Zc [] [] Tryz.func115 Z (zdk _ _) fun r5 n6=>Za Z<|Zb Z<|z12<|Ze [] [] Z
def z8r (a0:UInt64):Option (UInt32) :=
 zbz 4 a0 >>= fun r1 =>
 some r1
theorem zc6 (a0:UInt64):z2s Tryz.prog 85 [.rd z2y a0] [] (z8r a0) (fun r nv=>⟨[.rd z0w r],[]⟩):=by
 refine z3o 5 Tryz.func85 Z Z Z fun H w=>?_
 refine gSR<|Zb Z<|gSR<|Zm Z<|Zc [] [] Tryz.func115 Z (zdk _ _) fun r1 n2=>Zb Z<|z12<|Ze [] [] Z
def zhd (a0:UInt32) (a1:UInt32):Option (UInt32 × Int) :=
 zae [a0,a1] >>= fun r2 =>
 if !r2 then
  some (0,2)
 else
  z89 1000000007 [a0,a1] >>= fun r6 =>
  some (r6,0)
theorem zl7 (a0:UInt32) (a1:UInt32):z2s Tryz.prog 84 [.rd z0w a0,.rd z0w a1] [] (zhd a0 a1) (fun r nv=>⟨[.rd z0w r.1,.rd z09 r.2],[]⟩):=by
 refine z3o 15 Tryz.func84 Z Z Z fun H w=>?_
 refine gSR<|Za Z<|Zb Z<|z1c<|gSR<|Zm Z<|Zm Z<|Ef Z (lit (R:=z0w) ([a0,a1]:List UInt32) 1 (pP Z Z<|pP Z Z<|pN) Z tu182 z8l Z Z) fun v1=>zfs 1 [8] Z (fS Z<|fN)<|Zc [] [] Tryz.func121 Z (zg0 _) fun r2 n3=>Zq (zge Z)<|Zj Z (fun h4=>?_) (fun h4=>?_)
 ·
  refine gSR<|Za Z<|Zb Z<|z12<|z1i<|Ze [] [] Z
 ·
  refine Zt<|gSR<|Zm Z<|Zm Z<|Ef Z (lit (R:=z0w) ([a0,a1]:List UInt32) 2 (pP Z Z<|pP Z Z<|pN) Z tu182 z8l Z Z) fun v5=>zfs 2 [13] Z (fS Z<|fN)<|Zc [] [] Tryz.func122 Z (zb2 _ _) fun r6 n7=>Za Z<|Zb Z<|z12<|Ze [] [] Z
def z2v (a2:List UInt32) (s4:(List UInt8) × Int):Option (Sum ((List UInt8)) ((List UInt8) × Int)) :=
 if decide (s4.2<(a2.length:Int)) then
  idx a2 s4.2 >>= fun x7 =>
  app 1 s4.1 [(z4l x7 24).toUInt8,(z4l x7 16).toUInt8,(z4l x7 8).toUInt8,x7.toUInt8] >>= fun x10 =>
  some (.inr (x10,w64 (s4.2+1)))
 else
  some (.inl s4.1)
def z99 (r15:V3 × Int) (s19:UInt64 × Int):Option (Sum UInt64 (UInt64 × Int)) :=
 if decide (s19.2<(((r15.1.toList.drop 0).take 8).length:Int)) then
  idx ((r15.1.toList.drop 0).take 8) s19.2 >>= fun x21 =>
  some ((zk1 s19.1 8) ||| x21.toUInt64) >>= fun y23 =>
  some (.inr (y23,w64 (s19.2+1)))
 else
  some (.inl s19.1)
def za7 (a0:UInt8) (a1:List UInt8) (a2:List UInt32):Option (UInt64 × Int) :=
 if decide (9991<(a1.length:Int)) then
  some (0,4)
 else
  (iter (z2v a2) ([a0],0)) >>= fun s3 =>
  z85 [s3,a1] >>= fun r15 =>
  (iter (z99 r15) (0,0)) >>= fun s18 =>
  some (s18,r15.2)
theorem zga (a0:UInt8) (a1:List UInt8) (a2:List UInt32):z2s Tryz.prog 123 [.rd u8R a0,.rd (z02 u8R) a1,.rd (z02 z0w) a2] [zG1] (za7 a0 a1 a2) (fun r nv=>⟨[.rd z2y r.1,.rd z09 r.2],[(1001,some (.bool true,.glob 1 (z3l 64 z0w) z4a))]⟩):=by
 refine z3o 63 Tryz.func123 Z Z Z fun H w=>?_
 refine gSR<|Za Z<|Zb Z<|z1c<|gSR<|Zm Z<|Zq (z5y Z .rd Z tu89)<|Zq (I.gtr Z Z)<|Zj Z (fun h1=>?_) (fun h1=>?_)
 ·
  refine gSR<|Za Z<|Zb Z<|z12<|z1i<|Ze [] [1001] Z
 ·
  refine Zt<|gSR<|Zm Z<|Ef Z (lit (R:=u8R) ([a0]:List UInt8) 1 (pP Z Z<|pN) Z tu89 ti5 Z Z) fun v2=>Zb Z<|zax (fun (s3:(List UInt8)) aa ww=>∃ nv:Nat→Value,Sta (ctx 63 H [zG1] w) [(1,.rd (z02 u8R) a1),(8,.val (nv 0))] [(1,some ((nv 0),.list u8R 5 s3)),zG1] aa ww) ?_ (fun s3=>?_)
  ·
   refine gSR<|Zm Z<|Zq (z5y Z .rd Z tu182)<|Zm Z<|Zn<|z3e (fun (s4:(List UInt8) × Int) aa ww=>∃ nv:Nat→Value,Sta (ctx 63 H [zG1] w) [(1,.rd (z02 u8R) a1),(8,.val (nv 0)),(21,.rd (z02 z0w) a2),(22,.rd z09 (a2.length:Int)),(23,.rd z09 s4.2)] [(1,some ((nv 0),.list u8R 5 s4.1)),zG1] aa ww) (fun aa ww h=>⟨nvl [v2],Zu h [1,1001]⟩) (fun s4=>?_)
   refine gEx fun n5=>gSR<|Zq (I.lss Z Z)<|Zn<|z1c<|gIf Z Z (fun h6=>?_) (fun h6=>?_)
   ·
    refine Zt<|z1c<|z7x<|gSR<|z17 fun x7 h8=>Zq (ixR Z Z h8 tu182 z8l Z)<|Zq (ldR Z zbt)<|Zb Z<|z3f<|Zm Z<|Zm Z<|Zq (W.shr Z Z (Int.natCast_nonneg _))<|Zq (W.toB Z tu37 tu5)<|Zm Z<|Zq (W.shr Z Z (Int.natCast_nonneg _))<|Zq (W.toB Z tu37 tu5)<|Zm Z<|Zq (W.shr Z Z (Int.natCast_nonneg _))<|Zq (W.toB Z tu37 tu5)<|Zm Z<|Zq (W.toB Z tu37 tu5)<|Ef Z (lit (R:=u8R) ([(z4l x7 24).toUInt8,(z4l x7 16).toUInt8,(z4l x7 8).toUInt8,x7.toUInt8]:List UInt8) 1100 (pP Z Z<|pP Z Z<|pP Z Z<|pP Z Z<|pN) Z tu89 ti5 Z Z) fun v9=>z17 fun x10 h11=>Ef Z (apn 1 Z Z Z (.own 1100 Z) h11 tu89 ti5 Z Z Z) fun v12=>Za Z<|z2p<|z5h<|z15<|z3f<|Zq (I.add Z Z)<|Zm Z<|z2p<|z2q (fun aa ww h=>⟨nvl [v12],Zu h [1,1001]⟩)
   ·
    refine z3j<|z26<|z24<|z65 (fun aa ww h=>⟨nvl [(n5 0)],Zu h [1,1001]⟩)
  ·
   refine gEx fun n13=>gSR<|Zm Z<|Zm Z<|zfs 1 [8,43] Z (fS Z<|fS Z<|fN)<|Ef Z (lit (R:=(z02 u8R)) ([s3,a1]:List (List UInt8)) 1101 (pP Z Z<|pP Z Z<|pN) Z tu124 zpi Z Z) fun v14=>zfs 1101 [45] Z (fS Z<|fN)<|Zc [1001] [] Tryz.func87 Z (zct _) fun r15 n16=>Zm Z<|Zq (ext Z Z)<|Zq (ext Z Z)<|Eb Z (z71 1102 z30 (.zr (R:=aZ) (x:=(Vector.replicate 32 0)) zd4)) fun v17=>Es (sto 1102 Z Z fH Z z30)<|Zb Z<|gSR<|Zb Z<|zax (fun (s18:UInt64) aa ww=>Sta (ctx 63 H [zG1] w) [(12,.rd z09 r15.2),(13,.rd z2y s18)] [zG1] aa ww) ?_ (fun s18=>?_)
   ·
    refine gSR<|z10m 1102 11 Z Z<|Zq (z12e (i:=0) (j:=8) Z .no (.to Z) tu36 ti5 (by decide) Z Z Z)<|Zq (z5y Z .rd Z tu89)<|Zm Z<|Zn<|z3e (fun (s19:UInt64 × Int) aa ww=>Sta (ctx 63 H [zG1] w) [(12,.rd z09 r15.2),(13,.rd z2y s19.1),(49,.rd (z02 u8R) ((r15.1.toList.drop 0).take 8)),(50,.rd z09 (((r15.1.toList.drop 0).take 8).length:Int)),(51,.rd z09 s19.2)] [zG1] aa ww) (fun aa ww h=>Zu h [1001]) (fun s19=>?_)
    refine gSR<|Zq (I.lss Z Z)<|Zn<|z1c<|gIf Z Z (fun h20=>?_) (fun h20=>?_)
    ·
     refine Zt<|z1c<|z7x<|gSR<|z17 fun x21 h22=>Zq (ixR Z Z h22 tu89 ti5 Z)<|Zq (ldR Z ty5)<|Zb Z<|z3f<|Zm Z<|Zq (U.shl Z Z (Int.natCast_nonneg _))<|Zm Z<|Zq (B.toU Z tu5 tu38)<|Zq (U.or Z Z)<|Za Z<|z38 13 Z fun y23=>z2p<|z5h<|z15<|z3f<|Zq (I.add Z Z)<|Zm Z<|z2p<|z2q (fun aa ww h=>Zu h [1001])
    ·
     refine z3j<|z26<|z24<|z65 (fun aa ww h=>Zu h [1001])
   ·
    refine gSR<|Zm Z<|Zm Z<|Za Z<|Zb Z<|z12<|Ze [] [1001] Z
def z7f (a0:UInt32) (a1:UInt32) (a2:List UInt8):Option (UInt32 × Int) :=
 za7 99 a2 [a0,a1] >>= fun r2 =>
 if r2.2 != 0 then
  some (0,r2.2)
 else
  some ((r2.1 % 500000003).toUInt32) >>= fun y5 =>
  some (y5,0)
theorem zbp (a0:UInt32) (a1:UInt32) (a2:List UInt8):z2s Tryz.prog 86 [.rd z0w a0,.rd z0w a1,.rd (z02 u8R) a2] [zG1] (z7f a0 a1 a2) (fun r nv=>⟨[.rd z0w r.1,.rd z09 r.2],[(1001,some (.bool true,.glob 1 (z3l 64 z0w) z4a))]⟩):=by
 refine z3o 24 Tryz.func86 Z Z Z fun H w=>?_
 refine gSR<|Za Z<|Zb Z<|gSR<|Zm Z<|Zm Z<|Zm Z<|Ef Z (lit (R:=z0w) ([a0,a1]:List UInt32) 1 (pP Z Z<|pP Z Z<|pN) Z tu182 z8l Z Z) fun v1=>zfs 1 [14] Z (fS Z<|fN)<|Zc [1001] [] Tryz.func123 Z (zga _ _ _) fun r2 n3=>Zm Z<|Zq (ext Z Z)<|Zq (ext Z Z)<|Za Z<|Zb Z<|z1c<|gSR<|Zm Z<|Zq (I.neq Z Z)<|Zj Z (fun h4=>?_) (fun h4=>?_)
 ·
  refine gSR<|Zm Z<|Za Z<|Zb Z<|z12<|z1i<|Ze [] [1001] Z
 ·
  refine Zt<|gSR<|Zm Z<|Zq (U.rem Z Z (by decide))<|Zq (U.toW Z tu38 tu37)<|Za Z<|z38 6 Z fun y5=>Zb Z<|z12<|Ze [] [1001] Z
def zco (a0:UInt32) (a1:List UInt8) (a2:z08):Option (Int) :=
 zdv a0 >>= fun r2 =>
 if !r2 then
  some 2
 else
  if decide (9991<(a1.length:Int)) then
   some 4
  else
   if decide (500000003≤(max a2.E a2.S)) then
    some 22
   else
    zi3 a0 (500000003 - a2.E.toUInt64) >>= fun r7 =>
    z8r a2.S.toUInt64 >>= fun r9 =>
    zhd r9 r7.1 >>= fun r11 =>
    z7f r11.1 a0 a1 >>= fun r13 =>
    if r13.2 != 0 then
     some 22
    else
     if r13.1 != a2.E then
      some 22
     else
      some 0
theorem zir (a0:UInt32) (a1:List UInt8) (a2:z08):z2s Tryz.prog 57 [.rd z0w a0,.rd (z02 u8R) a1,.rd z0f a2] [zG1] (zco a0 a1 a2) (fun r nv=>⟨[.rd z09 r],[(1001,some (.bool true,.glob 1 (z3l 64 z0w) z4a))]⟩):=by
 refine z3o 58 Tryz.func57 Z Z Z fun H w=>?_
 refine gSR<|Eb Z (bx 1 Z) fun v1=>Zb Z<|z1c<|gSR<|Zm Z<|Zc [] [] Tryz.func76 Z (zej _) fun r2 n3=>Zq (zge Z)<|Zj Z (fun h4=>?_) (fun h4=>?_)
 ·
  refine gSR<|Zb Z<|z12<|z1i<|Ze [] [1001] Z
 ·
  refine Zt<|z1c<|gSR<|Zm Z<|Zq (z5y Z .rd Z tu89)<|Zq (I.gtr Z Z)<|Zj Z (fun h5=>?_) (fun h5=>?_)
  ·
   refine gSR<|Zb Z<|z12<|z1i<|Ze [] [1001] Z
  ·
   refine Zt<|z1c<|gSR<|Zq (faB 1 Z Z Tryz.underlying44 Z (by exact z8l))<|Zq (ld 1 Z Z (fP (z7r _)) zbt Z)<|Zq (faB 1 Z Z Tryz.underlying44 Z (by exact z8l))<|Zq (ld 1 Z Z (fP (z92 _)) zbt Z)<|Zq (W.max Z Z)<|Zq (W.geq Z Z)<|Zj Z (fun h6=>?_) (fun h6=>?_)
   ·
    refine gSR<|Zb Z<|z12<|z1i<|Ze [] [1001] Z
   ·
    refine Zt<|gSR<|Zm Z<|Zq (faB 1 Z Z Tryz.underlying44 Z (by exact z8l))<|Zq (ld 1 Z Z (fP (z7r _)) zbt Z)<|Zq (W.toU Z tu37 tu38)<|Zq (U.sub Z Z)<|Zc [] [] Tryz.func83 Z (zm6 _ _) fun r7 n8=>Zm Z<|Zq (ext Z Z)<|Zq (ext Z Z)<|Za Z<|Zb Z<|gSR<|Zq (faB 1 Z Z Tryz.underlying44 Z (by exact z8l))<|Zq (ld 1 Z Z (fP (z92 _)) zbt Z)<|Zq (W.toU Z tu37 tu38)<|Zc [] [] Tryz.func85 Z (zc6 _) fun r9 n10=>Zm Z<|Zc [] [] Tryz.func84 Z (zl7 _ _) fun r11 n12=>Zm Z<|Zq (ext Z Z)<|Zq (ext Z Z)<|Za Z<|Zb Z<|z1c<|gSR<|Zm Z<|Zm Z<|Zm Z<|Zc [1001] [] Tryz.func86 Z (zbp _ _ _) fun r13 n14=>Zm Z<|Zq (ext Z Z)<|Zq (ext Z Z)<|Za Z<|Zb Z<|gSR<|Zm Z<|Zq (I.neq Z Z)<|Zm Z<|z2i 52 Z (fun h15=>?_) (fun h15=>?_)
    ·
     refine lKn 51 Z h15<|Zk Z<|Zk Z<|Zk Z<|Zk Z<|Zq (pkT Z Z)<|Zn<|zis Z<|gSR<|Zb Z<|z12<|z1i<|Ze [] [1001] Z
    ·
     refine lKn 51 Z h15<|z2l Zx Z Z (mv Z)<|z2l Zx Z Z (faB 1 Z Z Tryz.underlying44 Z (by exact z8l))<|z2l Zx Z Z (ld 1 Z Z (fP (z7r _)) zbt Z)<|z2l Zx Z Z (W.neq Z Z)<|Zq (pkF Z Z)<|Zj Z (fun h16=>?_) (fun h16=>?_)
     ·
      refine gKn 56 Z h16<|gSR<|Zb Z<|z12<|z1i<|Ze [] [1001] Z
     ·
      refine gKn 56 Z h16<|Zt<|gSR<|Zb Z<|z12<|Ze [] [1001] Z
def zdh (a0:z06):Option (Int) :=
 zc3 a0 >>= fun r2 =>
 if r2 != 0 then
  some r2
 else
  z8w a0 >>= fun r5 =>
  zco a0.Author r5.1 a0.Sig >>= fun r7 =>
  some r7
theorem zg1 (a0:z06):z2s Tryz.prog 35 [.rd z03 a0] [zG1] (zdh a0) (fun r nv=>⟨[.rd z09 r],[(1001,some (.bool true,.glob 1 (z3l 64 z0w) z4a))]⟩):=by
 refine z3o 22 Tryz.func35 Z Z Z fun H w=>?_
 refine gSR<|Eb Z (bx 1 Z) fun v1=>Zb Z<|z1c<|gSR<|Zq (ld 1 Z Z fH z9x Z)<|Zc [] [] Tryz.func55 Z (zeo _) fun r2 n3=>Zb Z<|gSR<|Zm Z<|Zq (I.neq Z Z)<|Zj Z (fun h4=>?_) (fun h4=>?_)
 ·
  refine gSR<|Zm Z<|Zb Z<|z12<|z1i<|Ze [] [1001] Z
 ·
  refine Zt<|gSR<|Zq (ld 1 Z Z fH z9x Z)<|Zc [] [(100,2)] Tryz.func56 Z (zc5 _) fun r5 n6=>Zm Z<|Zq (ext Z Z)<|Zq (ext Z Z)<|Za Z<|Zb Z<|gSR<|Zq (faB 1 Z Z Tryz.underlying46 Z (by exact z8l))<|Zq (ld 1 Z Z (fP (z4m _)) zbt Z)<|Zm Z<|Zq (faB 1 Z Z Tryz.underlying46 Z (by exact zku))<|Zq (ld 1 Z Z (fP (z3z _)) ty44 Z)<|zfs 2 [14,4,18] Z (fS Z<|fS Z<|fS Z<|fN)<|Zc [1001] [] Tryz.func57 Z (zir _ _ _) fun r7 n8=>Zb Z<|z12<|Ze [] [1001] Z
def z3v (s4:UInt64 × (List UInt8)):Option (Sum ((List UInt8)) (UInt64 × (List UInt8))) :=
 if decide (0<s4.1) then
  app 1 s4.2 [(s4.1 % 256).toUInt8] >>= fun x8 =>
  some (.inr (s4.1 / 256,x8))
 else
  some (.inl s4.2)
def z3t (s3:(List UInt8)) (s15:(List UInt8) × Int):Option (Sum ((List UInt8)) ((List UInt8) × Int)) :=
 if decide (0≤s15.2) then
  idx s3 s15.2 >>= fun x18 =>
  app 1 s15.1 [x18] >>= fun x21 =>
  some (w64 (s15.2 - 1)) >>= fun y24 =>
  some (.inr (x21,y24))
 else
  some (.inl s15.1)
def z2e (a0:UInt64):Option ((List UInt8)) :=
 if decide (a0≤247) then
  some [a0.toUInt8]
 else
  (iter (z3v) (a0,[])) >>= fun s3 =>
  (some (w64 ((s3.length:Int) - 1)) >>= fun y14 =>
  iter (z3t s3) ([UInt8.ofInt (w64 (247+(s3.length:Int)))],y14)) >>= fun s13 =>
  some s13
def z4u (a0:List V3) (s4:(List UInt8) × Int):Option (Sum ((List UInt8)) ((List UInt8) × Int)) :=
 if decide (s4.2<(a0.length:Int)) then
  idx a0 s4.2 >>= fun x7 =>
  app 1 s4.1 x7.toList >>= fun x9 =>
  some (w64 (s4.2+1)) >>= fun y12 =>
  some (.inr (x9,y12))
 else
  some (.inl s4.1)
def zak (a0:List V3):Option ((List UInt8)) :=
 z2e (UInt64.ofInt (a0.length:Int)) >>= fun r1 =>
 (iter (z4u a0) (r1,0)) >>= fun s3 =>
 some s3
def z6q (a0:List UInt8):Option ((List UInt8)) :=
 z2e (UInt64.ofInt (a0.length:Int)) >>= fun r1 =>
 app 1 r1 a0 >>= fun x3 =>
 some x3
def z8t (a0:Int):Option ((List UInt8)) :=
 if decide (0≤a0) then
  z2e (2 * (UInt64.ofInt a0)) >>= fun r2 =>
  some r2
 else
  z2e ((2 * (UInt64.ofInt (w64 (0 - (w64 (a0+1))))))+1) >>= fun r4 =>
  some r4
def z4d (a0:z04) (s11:(List UInt8) × Int):Option (Sum ((List UInt8)) ((List UInt8) × Int)) :=
 if decide (0≤s11.2) then
  chk (0≤w64 (8 * s11.2)) >>= fun u14 =>
  app 1 s11.1 [(z67 a0.Bits ((w64 (8 * s11.2):Int).toNat)).toUInt8] >>= fun x17 =>
  some (w64 (s11.2 - 1)) >>= fun y20 =>
  some (.inr (x17,y20))
 else
  some (.inl s11.1)
def z9o (a0:z04):Option ((List UInt8)) :=
 if a0.Kind==1 then
  z8t a0.Num >>= fun r4 =>
  app 1 [a0.Kind] r4 >>= fun x6 =>
  some x6
 else
  if a0.Kind==2 then
   (iter (z4d a0) ([a0.Kind],7)) >>= fun s10 =>
   some s10
  else
   chk (a0.Text.length≤281474976710656) >>= fun u22 =>
   z6q a0.Text >>= fun r24 =>
   app 1 [a0.Kind] r24 >>= fun x26 =>
   some x26
def z8i (a0:z06):Option ((List UInt8)) :=
 z2e a0.Author.toUInt64 >>= fun r3 =>
 app 1 [111] r3 >>= fun x5 =>
 zak a0.Preds >>= fun r8 =>
 app 1 x5 r8 >>= fun x10 =>
 z2e a0.Stamp >>= fun r13 =>
 app 1 x10 r13 >>= fun x15 =>
 app 1 x15 [a0.Act.Kind] >>= fun x19 =>
 (if a0.Act.Kind != 1 then
  chk (a0.Act.Key.length≤281474976710656) >>= fun u24 =>
  z6q a0.Act.Key >>= fun r26 =>
  app 1 x19 r26 >>= fun x28 =>
  some x28
 else
  some x19) >>= fun s22 =>
 if a0.Act.Kind==4 then
  z9o a0.Act.Value >>= fun r33 =>
  app 1 s22 r33 >>= fun x35 =>
  some x35
 else
  some s22
def z9n (a0:z06):Option ((List UInt8)) :=
 z8i a0 >>= fun r2 =>
 z2e a0.Sig.E.toUInt64 >>= fun r4 =>
 app 1 r2 r4 >>= fun x6 =>
 z2e a0.Sig.S.toUInt64 >>= fun r9 =>
 app 1 x6 r9 >>= fun x11 =>
 some x11
def zcs  : Option ((Vector UInt32 8)) :=
 some (#v[1779033703,3144134277,1013904242,2773480762,1359893119,2600822924,528734635,1541459225]:Vector UInt32 8)
def z4t (a0:Int) (s3:(List UInt8)):Option (Sum ((List UInt8)) ((List UInt8))) :=
 if (Int.tmod (w64 ((w64 (a0+(s3.length:Int)))+8)) 64) != 0 then
  app 1 s3 [0] >>= fun x7 =>
  some (.inr x7)
 else
  some (.inl s3)
def z4q (a0:Int) (s12:(List UInt8) × Int):Option (Sum ((List UInt8)) ((List UInt8) × Int)) :=
 if decide (0≤s12.2) then
  chk (0≤w64 (8 * s12.2)) >>= fun u15 =>
  app 1 s12.1 [(z67 (8 * (UInt64.ofInt a0)) ((w64 (8 * s12.2):Int).toNat)).toUInt8] >>= fun x18 =>
  some (w64 (s12.2 - 1)) >>= fun y21 =>
  some (.inr (x18,y21))
 else
  some (.inl s12.1)
def zag (a0:Int):Option ((List UInt8)) :=
 (iter (z4t a0) [128]) >>= fun s2 =>
 (iter (z4q a0) (s2,7)) >>= fun s11 =>
 some s11
def z2b (a0:UInt32) (a1:Int):Option (UInt32) :=
 chk (0≤a1) >>= fun u1 =>
 chk (0≤w64 (32 - a1)) >>= fun u3 =>
 some ((z4l a0 ((a1:Int).toNat)) ||| (zk4 a0 ((w64 (32 - a1):Int).toNat))) >>= fun y5 =>
 some y5
def z9u  : Option ((List UInt32)) :=
 some [1116352408,1899447441,3049323471,3921009573,961987163,1508970993,2453635748,2870763221,3624381080,310598401,607225278,1426881987,1925078388,2162078206,2614888103,3248222580,3835390401,4022224774,264347078,604807628,770255983,1249150122,1555081692,1996064986,2554220882,2821834349,2952996808,3210313671,3336571891,3584528711,113926993,338241895,666307205,773529912,1294757372,1396182291,1695183700,1986661051,2177026350,2456956037,2730485921,2820302411,3259730800,3345764771,3516065817,3600352804,4094571909,275423344,430227734,506948616,659060556,883997877,958139571,1322822218,1537002063,1747873779,1955562222,2024104815,2227730452,2361852424,2428436474,2756734187,3204031479,3329325298]
def z3u (a1:List UInt8) (s4:(List UInt32) × Int):Option (Sum ((List UInt32)) ((List UInt32) × Int)) :=
 if decide (s4.2<16) then
  idx a1 (w64 (4 * s4.2)) >>= fun x7 =>
  idx a1 (w64 ((w64 (4 * s4.2))+1)) >>= fun x9 =>
  idx a1 (w64 ((w64 (4 * s4.2))+2)) >>= fun x11 =>
  idx a1 (w64 ((w64 (4 * s4.2))+3)) >>= fun x13 =>
  app 4 s4.1 [(((((x7.toUInt32 * 256)+x9.toUInt32) * 256)+x11.toUInt32) * 256)+x13.toUInt32] >>= fun x16 =>
  some (w64 (s4.2+1)) >>= fun y19 =>
  some (.inr (x16,y19))
 else
  some (.inl s4.1)
def z3x (s22:(List UInt32) × Int):Option (Sum ((List UInt32)) ((List UInt32) × Int)) :=
 if decide (s22.2<64) then
  idx s22.1 (w64 (s22.2 - 15)) >>= fun x25 =>
  idx s22.1 (w64 (s22.2 - 2)) >>= fun x27 =>
  idx s22.1 (w64 (s22.2 - 16)) >>= fun x29 =>
  idx s22.1 (w64 (s22.2 - 7)) >>= fun x31 =>
  z2b x25 7 >>= fun r33 =>
  z2b x25 18 >>= fun r36 =>
  z2b x27 17 >>= fun r39 =>
  z2b x27 19 >>= fun r42 =>
  app 4 s22.1 [((x29+x31)+((r33 ^^^ r36) ^^^ (z4l x25 3)))+((r39 ^^^ r42) ^^^ (z4l x27 10))] >>= fun x45 =>
  some (w64 (s22.2+1)) >>= fun y48 =>
  some (.inr (x45,y48))
 else
  some (.inl s22.1)
def z2m (s21:(List UInt32)) (r50:(List UInt32)) (s54:(Vector UInt32 8) × Int):Option (Sum ((Vector UInt32 8)) ((Vector UInt32 8) × Int)) :=
 if decide (s54.2<64) then
  z5x s54.1 0 >>= fun x56 =>
  z5x s54.1 1 >>= fun x58 =>
  z5x s54.1 2 >>= fun x60 =>
  z5x s54.1 4 >>= fun x62 =>
  z5x s54.1 5 >>= fun x64 =>
  z5x s54.1 6 >>= fun x66 =>
  z5x s54.1 7 >>= fun x68 =>
  idx r50 s54.2 >>= fun x70 =>
  idx s21 s54.2 >>= fun x72 =>
  z2b x62 6 >>= fun r74 =>
  z2b x62 11 >>= fun r76 =>
  z2b x62 25 >>= fun r78 =>
  some ((((x68+((r74 ^^^ r76) ^^^ r78))+((x62 &&& x64) ^^^ ((~~~x62) &&& x66)))+x70)+x72) >>= fun y80 =>
  z2b x56 2 >>= fun r81 =>
  z2b x56 13 >>= fun r83 =>
  z2b x56 22 >>= fun r85 =>
  some (((r81 ^^^ r83) ^^^ r85)+(((x56 &&& x58) ^^^ (x56 &&& x60)) ^^^ (x58 &&& x60))) >>= fun y87 =>
  z5x s54.1 3 >>= fun x88 =>
  some (w64 (s54.2+1)) >>= fun y90 =>
  some (.inr ((#v[y80+y87,x56,x58,x60,x88+y80,x62,x64,x66]:Vector UInt32 8),y90))
 else
  some (.inl s54.1)
def z1d (s53:(Vector UInt32 8)) (s92:(Vector UInt32 8) × Int):Option (Sum ((Vector UInt32 8)) ((Vector UInt32 8) × Int)) :=
 if decide (s92.2<8) then
  z5x s92.1 s92.2 >>= fun x94 =>
  z5x s53 s92.2 >>= fun x96 =>
  z5x s92.1 s92.2 >>= fun x98 =>
  some (w64 (s92.2+1)) >>= fun y100 =>
  some (.inr (z95 s92.1 s92.2 (x94+x96),y100))
 else
  some (.inl s92.1)
def z8s (a0:Vector UInt32 8) (a1:List UInt8):Option ((Vector UInt32 8)) :=
 (iter (z3u a1) ([],0)) >>= fun s3 =>
 (iter (z3x) (s3,16)) >>= fun s21 =>
 z9u >>= fun r50 =>
 (iter (z2m s21 r50) (a0,0)) >>= fun s53 =>
 (iter (z1d s53) (a0,0)) >>= fun s91 =>
 some s91
def z3s (a1:List UInt8) (s4:(Vector UInt32 8) × Int):Option (Sum ((Vector UInt32 8)) ((Vector UInt32 8) × Int)) :=
 if decide ((w64 (s4.2+64))≤(a1.length:Int)) then
  cut a1 s4.2 (w64 (s4.2+64)) >>= fun x6 =>
  z8s s4.1 x6 >>= fun r8 =>
  some (w64 (s4.2+64)) >>= fun y10 =>
  some (.inr (r8,y10))
 else
  some (.inl s4.1)
def z8u (a0:Vector UInt32 8) (a1:List UInt8):Option ((Vector UInt32 8)) :=
 (iter (z3s a1) (a0,0)) >>= fun s3 =>
 some s3
def z3i (a0:Vector UInt32 8) (s5:V3 × Int):Option (Sum (V3) (V3 × Int)) :=
 if decide (s5.2<32) then
  z5x a0 (w64 (Int.tdiv s5.2 4)) >>= fun x7 =>
  chk (0≤w64 (24 - (w64 (8 * (Int.tmod s5.2 4))))) >>= fun u9 =>
  z5x s5.1 s5.2 >>= fun x11 =>
  some (w64 (s5.2+1)) >>= fun y13 =>
  some (.inr (z95 s5.1 s5.2 ((z4l x7 ((w64 (24 - (w64 (8 * (Int.tmod s5.2 4)))):Int).toNat)).toUInt8),y13))
 else
  some (.inl s5.1)
def z84 (a0:Vector UInt32 8):Option (V3) :=
 (iter (z3i a0) ((Vector.replicate 32 0),0)) >>= fun s4 =>
 some s4
def za1 (a0:List UInt8):Option (V3) :=
 zcs >>= fun r2 =>
 app 1 ([]:List UInt8) a0 >>= fun x5 =>
 zag (a0.length:Int) >>= fun r8 =>
 app 1 x5 r8 >>= fun x10 =>
 z8u r2 x10 >>= fun r13 =>
 z84 r13 >>= fun r15 =>
 some r15
def zce (a0:z06):Option (V3) :=
 z9n a0 >>= fun r3 =>
 za1 r3 >>= fun r5 =>
 some r5
def z5i (a0:V3) (a1:V3) (s4:Int):Option (Sum (Sum Int Unit) Int) :=
 if decide (s4<32) then
  z5x a0 s4 >>= fun x6 =>
  z5x a1 s4 >>= fun x8 =>
  if decide (x6<x8) then
   some (.inl (.inl (-1)))
  else
   z5x a0 s4 >>= fun x11 =>
   z5x a1 s4 >>= fun x13 =>
   if decide (x13<x11) then
    some (.inl (.inl 1))
   else
    some (.inr (w64 (s4+1)))
 else
  some (.inl (.inr ()))
def z6c (a0:V3) (a1:V3):Option (Int) :=
 z6j (iter (z5i a0 a1) 0) fun s3 =>
 some 0
theorem zfw (a0:V3) (a1:V3):z2s Tryz.prog 15 [.rd aZ a0,.rd aZ a1] [] (z6c a0 a1) (fun r nv=>⟨[.rd z09 r],[]⟩):=by
 refine z3o 24 Tryz.func15 Z Z Z fun H w=>?_
 refine gSR<|Eb Z (bx 1 Z) fun v1=>Eb Z (bx 2 Z) fun v2=>Zb Z<|zcy (fun (s3:Unit) aa ww=>Sta (ctx 24 H [] w) [] [] aa ww) ?_ (fun s3=>?_)
 ·
  refine gSR<|Zb Z<|z3e (fun (s4:Int) aa ww=>Sta (ctx 24 H [] w) [(2,.val (z05 v1 0)),(3,.val (z05 v2 0)),(5,.rd z09 s4)] [(1,some (v1,.box 36 [.rd aZ a0])),(2,some (v2,.box 36 [.rd aZ a1]))] aa ww) (fun aa ww h=>Zu h [1,2]) (fun s4=>?_)
  refine z1c<|gSR<|Zm Z<|Zq (I.lss Z Z)<|Zj Z (fun h5=>?_) (fun h5=>?_)
  ·
   refine Zt<|z1c<|z7x<|z1c<|z1c<|zkh mixed (by kernel_rfl)<|Rq Z (mv Z)<|za0 fun x6 h7=>Rq Z (ixB 1 Z Z Z h7 tu36 ti5)<|Rq Z (ld 1 Z Z (fP (.el h7)) ty5 Z)<|Rq Z (mv Z)<|za0 fun x8 h9=>Rq Z (ixB 2 Z Z Z h9 tu36 ti5)<|Rq Z (ld 2 Z Z (fP (.el h9)) ty5 Z)<|Rq Z (B.lss Z Z)<|zuk<|z15<|gIf Z Z (fun h10=>?_) (fun h10=>?_)
   ·
    refine gSR<|Zb Z<|z12<|z1i<|z8k<|z1i<|zcc<|zcf<|Ze [] [] Z
   ·
    refine Zt<|z1c<|zkh mixed (by kernel_rfl)<|Rq Z (mv Z)<|za0 fun x11 h12=>Rq Z (ixB 1 Z Z Z h12 tu36 ti5)<|Rq Z (ld 1 Z Z (fP (.el h12)) ty5 Z)<|Rq Z (mv Z)<|za0 fun x13 h14=>Rq Z (ixB 2 Z Z Z h14 tu36 ti5)<|Rq Z (ld 2 Z Z (fP (.el h14)) ty5 Z)<|Rq Z (B.gtr Z Z)<|zuk<|z15<|gIf Z Z (fun h15=>?_) (fun h15=>?_)
    ·
     refine gSR<|Zb Z<|z12<|z8k<|z1i<|zcc<|zcf<|Ze [] [] Z
    ·
     refine z6s<|z5h<|z15<|z3f<|Zm Z<|Zq (I.add Z Z)<|Za Z<|z2p<|z2q (fun aa ww h=>Zu h [1,2])
  ·
   refine z3j<|z26<|z24<|zcx (fun aa ww h=>Zu h [])
 ·
  refine gSR<|Zb Z<|z12<|Ze [] [] Z
def z36 (a0:List V3) (s2:Int):Option (Sum (Sum Bool Unit) Int) :=
 if decide (s2<(a0.length:Int)) then
  idx a0 (w64 (s2 - 1)) >>= fun x4 =>
  idx a0 s2 >>= fun x6 =>
  z6c x4 x6 >>= fun r8 =>
  if decide (0≤r8) then
   some (.inl (.inl false))
  else
   some (.inr (w64 (s2+1)))
 else
  some (.inl (.inr ()))
def z6z (a0:List V3):Option (Bool) :=
 z6j (iter (z36 a0) 1) fun s1 =>
 some true
def z4c (a2:UInt64) (s2:UInt64 × UInt64 × UInt64):Option (Sum UInt64 (UInt64 × UInt64 × UInt64)) :=
 if decide (0<s2.2.1) then
  (if (s2.2.1 % 2)==1 then
   chk (a2≠0) >>= fun u6 =>
   some ((s2.2.2 * s2.1) % a2) >>= fun y8 =>
   some y8
  else
   some s2.2.2) >>= fun s4 =>
  chk (a2≠0) >>= fun u9 =>
  some ((s2.1 * s2.1) % a2) >>= fun y11 =>
  some (.inr (y11,s2.2.1 / 2,s4))
 else
  some (.inl s2.2.2)
def z7h (a0:UInt64) (a1:UInt64) (a2:UInt64):Option (UInt64) :=
 (iter (z4c a2) (a0,a1,1)) >>= fun s1 =>
 some s1
def z9z (a0:UInt32):Option (Bool) :=
 if decide (1≤a0) then
  if decide (a0<1000000007) then
   z7h a0.toUInt64 500000003 1000000007 >>= fun r3 =>
   some (r3==1)
  else
   some false
 else
  some false
def z4y (a0:List UInt8) (s4:Int):Option (Sum (Sum Bool Unit) Int) :=
 if decide (s4<(a0.length:Int)) then
  idx a0 s4 >>= fun x6 =>
  if decide (x6<33) then
   some (.inl (.inl false))
  else
   idx a0 s4 >>= fun x9 =>
   if decide (126<x9) then
    some (.inl (.inl false))
   else
    some (.inr (w64 (s4+1)))
 else
  some (.inl (.inr ()))
def z86 (a0:List UInt8):Option (Bool) :=
 if decide ((a0.length:Int)<1) then
  some false
 else
  if decide (20<(a0.length:Int)) then
   some false
  else
   z6j (iter (z4y a0) 0) fun s3 =>
   some true
def z7n (a0:UInt64):Option (Int) :=
 some (w64 (((a0 % 9223372036854775808) / 4503599627370496).toNat:Int)) >>= fun y1 =>
 some y1
def zaf (a0:UInt64):Option (UInt64) :=
 some (a0 % 4503599627370496) >>= fun y1 =>
 some y1
def z9e (a0:UInt64):Option (UInt8) :=
 z7n a0 >>= fun r1 =>
 zaf a0 >>= fun r3 =>
 z6j (if r1==0 then
  if r3==0 then
   some (.inl 1)
  else
   some (.inr ())
 else
  some (.inr ())) fun s5 =>
 if r1==0 then
  some 2
 else
  if decide (r1<2047) then
   some 3
  else
   if r3==0 then
    some 4
   else
    some 5
def z9k (a0:UInt64):Option (UInt64) :=
 z9e a0 >>= fun r1 =>
 if r1==5 then
  some 9221120237041090560
 else
  some a0
def z34 (a0:List UInt8) (s2:Int):Option (Sum (Sum Bool Unit) Int) :=
 if decide (s2<(a0.length:Int)) then
  idx a0 s2 >>= fun x4 =>
  if decide (x4<32) then
   some (.inl (.inl false))
  else
   idx a0 s2 >>= fun x7 =>
   if decide (126<x7) then
    some (.inl (.inl false))
   else
    some (.inr (w64 (s2+1)))
 else
  some (.inl (.inr ()))
def z73 (a0:List UInt8):Option (Bool) :=
 z6j (iter (z34 a0) 0) fun s1 =>
 some true
def z9g (a0:z04):Option (Int) :=
 if a0.Kind==1 then
  if a0.Bits==0 then
   if a0.Text==[] then
    some 0
   else
    some 8
  else
   some 8
 else
  if a0.Kind==2 then
   (if a0.Num==0 then
    if a0.Text==[] then
     z9k a0.Bits >>= fun r9 =>
     some (r9==a0.Bits)
    else
     some false
   else
    some false) >>= fun s6 =>
   if s6 then
    some 0
   else
    some 8
  else
   if a0.Kind==3 then
    (if a0.Num==0 then
     if a0.Bits==0 then
      if decide ((a0.Text.length:Int)≤30) then
       z73 a0.Text >>= fun r17 =>
       some r17
      else
       some false
     else
      some false
    else
     some false) >>= fun s13 =>
    if s13 then
     some 0
    else
     some 8
   else
    some 8
def z7m (a0:z0i):Option (Int) :=
 some (decide (a0.Value=(⟨0,0,0,[]⟩:z04))) >>= fun y2 =>
 if a0.Kind==1 then
  if a0.Key==[] then
   if y2 then
    some 0
   else
    some 8
  else
   some 8
 else
  (if a0.Kind==2 then
   some true
  else
   some (a0.Kind==3)) >>= fun s6 =>
  if s6 then
   z86 a0.Key >>= fun r9 =>
   if r9 then
    if y2 then
     some 0
    else
     some 8
   else
    some 8
  else
   if a0.Kind==4 then
    z86 a0.Key >>= fun r14 =>
    if r14 then
     z9g a0.Value >>= fun r17 =>
     if r17==0 then
      some 0
     else
      some 8
    else
     some 8
   else
    some 8
def z3a (a0:UInt32):Option (Bool) :=
 some (decide (a0.toUInt64<500000003)) >>= fun y1 =>
 some y1
def z7l (a0:z06):Option (Int) :=
 if decide (4<(a0.Preds.length:Int)) then
  some 4
 else
  z6z a0.Preds >>= fun r3 =>
  if !r3 then
   some 32
  else
   (z9z a0.Author >>= fun r7 =>
   if !r7 then
    some true
   else
    if decide (1000000000000<a0.Stamp) then
     some true
    else
     z7m a0.Act >>= fun r11 =>
     if r11 != 0 then
      some true
     else
      z3a a0.Sig.E >>= fun r14 =>
      if !r14 then
       some true
      else
       z3a a0.Sig.S >>= fun r17 =>
       some (!r17)) >>= fun s6 =>
   if s6 then
    some 8
   else
    some 0
def z5v (a0:UInt32) (a1:UInt64):Option (UInt32) :=
 z7h a0.toUInt64 a1 1000000007 >>= fun r1 =>
 some r1.toUInt32
def zea (a0:UInt32):Option (UInt32 × Int) :=
 z9z a0 >>= fun r1 =>
 if !r1 then
  some (0,2)
 else
  z5v a0 500000002 >>= fun r4 =>
  some (r4,0)
def zdi (a0:UInt64):Option (UInt32) :=
 z5v 4 a0 >>= fun r1 =>
 some r1
def zef (a0:UInt32):Option (UInt32) :=
 zdi a0.toUInt64 >>= fun r1 =>
 some r1
def zb4 (a0:UInt32) (a1:UInt32):Option (UInt32) :=
 some (((a0.toUInt64 * a1.toUInt64) % 1000000007).toUInt32) >>= fun y1 =>
 some y1
def z87 (a0:UInt32):Option ((List UInt8)) :=
 some [(a0 / 16777216).toUInt8,((a0 / 65536) % 256).toUInt8,((a0 / 256) % 256).toUInt8,(a0 % 256).toUInt8]
def z3w (r1:V3) (s5:UInt64 × Int):Option (Sum UInt64 (UInt64 × Int)) :=
 if decide (s5.2<8) then
  z5x r1 s5.2 >>= fun x7 =>
  some ((256 * s5.1)+x7.toUInt64) >>= fun y9 =>
  some (w64 (s5.2+1)) >>= fun y10 =>
  some (.inr (y9,y10))
 else
  some (.inl s5.1)
def z8o (a0:List UInt8):Option (UInt64) :=
 za1 a0 >>= fun r1 =>
 (iter (z3w r1) (0,0)) >>= fun s4 =>
 some s4
def z78 (a0:UInt32) (a1:UInt32) (a2:List UInt8):Option (UInt32) :=
 z87 a0 >>= fun r2 =>
 app 1 [99] r2 >>= fun x4 =>
 z87 a1 >>= fun r7 =>
 app 1 x4 r7 >>= fun x9 =>
 app 1 x9 a2 >>= fun x12 =>
 z8o x12 >>= fun r15 =>
 some ((r15 % 500000003).toUInt32) >>= fun y17 =>
 some y17
def z9h (a0:UInt32) (a1:List UInt8) (a2:z08):Option (Bool) :=
 z3a a2.E >>= fun r2 =>
 if !r2 then
  some false
 else
  z3a a2.S >>= fun r5 =>
  if !r5 then
   some false
  else
   z5v a0 a2.E.toUInt64 >>= fun r8 =>
   zea r8 >>= fun r10 =>
   zef a2.S >>= fun r12 =>
   zb4 r12 r10.1 >>= fun r14 =>
   z78 r14 a0 a1 >>= fun r16 =>
   some (r16==a2.E)
def zbs (a0:z06):Option (Bool) :=
 z8i a0 >>= fun r2 =>
 z9h a0.Author r2 a0.Sig >>= fun r4 =>
 some r4
def z8x (a0:z06):Option (Int) :=
 z7l a0 >>= fun r2 =>
 if r2 != 0 then
  z7l a0 >>= fun r5 =>
  some r5
 else
  zbs a0 >>= fun r7 =>
  if !r7 then
   some 22
  else
   some 0
end
section
open Go Go.RowKit
set_option maxRecDepth 100000
def z0c (a0:List V3) (a1:V3) (s4:Int × Int):Option (Sum Int (Int × Int)) :=
 if decide (s4.1<s4.2) then
  some (w64 ((z67 (UInt64.ofInt (w64 (s4.1+s4.2))) 1).toNat:Int)) >>= fun y6 =>
  idx a0 y6 >>= fun x7 =>
  z6u x7 a1 >>= fun r9 =>
  if decide (r9<0) then
   some (.inr (w64 (y6+1),s4.2))
  else
   some (.inr (s4.1,y6))
 else
  some (.inl s4.1)
def z0a (a0:List V3) (a1:V3):Option (Int × Bool) :=
 some (a0.length:Int) >>= fun y2 =>
 (iter (z0c a0 a1) (0,y2)) >>= fun s3 =>
 if decide (s3<y2) then
  idx a0 s3 >>= fun x13 =>
  z6u x13 a1 >>= fun r15 =>
  some (s3,r15==0)
 else
  some (s3,false)
theorem z21 (a0:List V3) (a1:V3):z2s Tryz.prog 64 [.rd (z02 aZ) a0,.rd aZ a1,.val (.func (.func 51) #[] #[])] [] (z0a a0 a1) (fun r nv=>⟨[.rd z09 r.1,.rd z0j r.2],[]⟩):=by
 refine z3o 49 Tryz.func64 Z Z Z fun H w=>?_
 refine gSR<|Eb Z (bx 1 Z) fun v1=>Za Z<|Zb Z<|gSR<|Zm Z<|Zq (z5y Z .rd Z tu22)<|Za Z<|z38 8 Z fun y2=>Zn<|gSR<|Zm Z<|Za Z<|Zb Z<|zax (fun (s3:Int) aa ww=>Sta (ctx 49 H [] w) [(0,.rd (z02 aZ) a0),(2,.val (.func (.func 51) #[] #[])),(4,.val (z05 v1 0)),(8,.rd z09 y2),(9,.rd z09 s3)] [(1,some (v1,.box 36 [.rd aZ a1]))] aa ww) ?_ (fun s3=>?_)
 ·
  refine z3e (fun (s4:Int × Int) aa ww=>Sta (ctx 49 H [] w) [(0,.rd (z02 aZ) a0),(2,.val (.func (.func 51) #[] #[])),(4,.val (z05 v1 0)),(8,.rd z09 y2),(9,.rd z09 s4.1),(10,.rd z09 s4.2)] [(1,some (v1,.box 36 [.rd aZ a1]))] aa ww) (fun aa ww h=>Zu h [1]) (fun s4=>?_)
  refine z1c<|gSR<|Zm Z<|Zm Z<|Zq (I.lss Z Z)<|Zj Z (fun h5=>?_) (fun h5=>?_)
  ·
   refine Zt<|z7x<|gSR<|Zm Z<|Zm Z<|Zq (I.add Z Z)<|Zq (I.toU Z tu3 Tryz.underlying109)<|Zq (U.shr Z Z (Int.natCast_nonneg _))<|Zq (U.toI Z Tryz.underlying109 tu3)<|Za Z<|z38 11 Z fun y6=>Zn<|z1c<|zbi [] mixed Z Z<|hTk 0 Z Z (mv Z)<|hTk 1 Z Z (mv Z)<|hTk 2 Z Z (mv Z)<|zap fun x7 h8=>hTk 3 Z Z (ixR Z Z h8 tu22 z30 Z)<|hTk 4 Z Z (ldR Z z51)<|hTk 5 Z Z (ld 1 Z Z fH z51 Z)<|znr 6 [] [] Z (by kernel_rfl) Z (gd0 Z) Z Tryz.func51 Z Z Z (z8f _ _) (Y2 Z Z) (cN) Z rN Z (fun _ _=>z4n) fun r9 n10=>hTk 7 Z Z (I.lss Z Z)<|z6e (by kernel_rfl)<|z15<|gIf Z Z (fun h11=>?_) (fun h11=>?_)
   ·
    refine z3f<|Zm Z<|Zq (I.add Z Z)<|Za Z<|z2p<|z5h<|z2q (fun aa ww h=>Zu h [1])
   ·
    refine z3f<|Zm Z<|Za Z<|z2p<|z5h<|z2q (fun aa ww h=>Zu h [1])
  ·
   refine z3j<|z26<|z24<|z65 (fun aa ww h=>Zu h [1])
 ·
  refine z1c<|zbi [] mixed Z Z<|hTk 0 Z Z (mv Z)<|hTk 1 Z Z (mv Z)<|hTk 2 Z Z (mv Z)<|hTk 3 Z Z (I.lss Z Z)<|hTk 4 Z Z (mv Z)<|hIf 39 Z Z (fun h12=>?_) (fun h12=>?_)
  ·
   refine hKn 38 Z Z h12<|Zg 5 Z Z (mv Z)<|Zg 6 Z Z (mv Z)<|Zg 7 Z Z (mv Z)<|zap fun x13 h14=>Zg 8 Z Z (ixR Z Z h14 tu22 z30 Z)<|Zg 9 Z Z (ldR Z z51)<|Zg 10 Z Z (ld 1 Z Z fH z51 Z)<|znr 11 [] [] Z (by kernel_rfl) Z Zx Z Tryz.func51 Z Z Z (z8f _ _) (Y2 Z Z) (cN) Z rN Z (fun _ _=>z4n) fun r15 n16=>Zg 12 Z Z (I.eql Z Z)<|hTk 13 Z Z (pkT Z Z)<|hTk 14 Z Z (asg Z)<|hTk 15 Z Z (asg Z)<|z6e (by kernel_rfl)<|z15<|z12<|Ze [] [] Z
  ·
   refine hKn 38 Z Z h12<|hSk 5 Z Z<|hSk 6 Z Z<|hSk 7 Z Z<|hSk 8 Z Z<|hSk 9 Z Z<|hSk 10 Z Z<|hSk 11 Z Z<|hSk 12 Z Z<|hTk 13 Z Z (pkF Z Z)<|hTk 14 Z Z (asg Z)<|hTk 15 Z Z (asg Z)<|z6e (by kernel_rfl)<|z15<|z12<|Ze [] [] Z
def zc4 (a0:z00) (a1:V3):Option (Int × Bool) :=
 z0a a0.IDs a1 >>= fun r3 =>
 some (r3.1,r3.2)
theorem zhb (a0:z00) (a1:V3):z2s Tryz.prog 60 [.rd z01 a0,.rd aZ a1] [] (zc4 a0 a1) (fun r nv=>⟨[.rd z09 r.1,.rd z0j r.2],[]⟩):=by
 refine z3o 12 Tryz.func60 Z Z Z fun H w=>?_
 refine gSR<|Eb Z (bx 1 Z) fun v1=>Eb Z (bx 2 Z) fun v2=>Za Z<|Zb Z<|gSR<|Zq (faB 1 Z Z Tryz.underlying25 Z (by exact z9t))<|Zq (ld 1 Z Z (fP (z0p _)) zar Z)<|Zq (ld 2 Z Z fH z51 Z)<|Zc [] [] Tryz.func64 Z (z21 _ _) fun r3 n4=>Zq (ext Z Z)<|Zq (ext Z Z)<|Za Z<|Zb Z<|z12<|Ze [] [] Z
def z6n (a0:z00) (s3:Int):Option (Sum (Sum Int Unit) Int) :=
 if decide (s3<(a0.IDs.length:Int)) then
  idx a0.IDs (w64 (s3 - 1)) >>= fun x5 =>
  idx a0.IDs s3 >>= fun x7 =>
  z6u x5 x7 >>= fun r9 =>
  if decide (0≤r9) then
   some (.inl (.inl 32))
  else
   some (.inr (w64 (s3+1)))
 else
  some (.inl (.inr ()))
def z7u (a0:z00) (s19:(List Int) × (List (List Int)) × (List Int) × Int) (x22:z06) (s26:(List (List Int)) × Int):Option (Sum (Sum (Sum (Sum Int ((List Int) × (List (List Int)) × (List Int))) ((List Int) × (List (List Int)) × (List Int) × Int)) ((List (List Int)))) ((List (List Int)) × Int)) :=
 if decide (s26.2<(x22.Preds.length:Int)) then
  idx x22.Preds s26.2 >>= fun x29 =>
  zc4 a0 x29 >>= fun r32 =>
  if !r32.2 then
   some (.inl (.inl (.inl (.inl 40))))
  else
   idx s26.1 r32.1 >>= fun x35 =>
   app 8 x35 [s19.2.2.2] >>= fun x38 =>
   some (.inr (s26.1.set (r32.1:Int).toNat x38,w64 (s26.2+1)))
 else
  some (.inl (.inr s26.1))
def z7t (a0:z00) (s19:(List Int) × (List (List Int)) × (List Int) × Int):Option (Sum (Sum Int ((List Int) × (List (List Int)) × (List Int))) ((List Int) × (List (List Int)) × (List Int) × Int)) :=
 if decide (s19.2.2.2<(a0.Ops.length:Int)) then
  idx a0.Ops s19.2.2.2 >>= fun x22 =>
  z6j (iter (z7u a0 s19 x22) (s19.2.1,0)) fun s25 =>
  idx s19.1 s19.2.2.2 >>= fun x42 =>
  idx (s19.1.set (s19.2.2.2:Int).toNat (x22.Preds.length:Int)) s19.2.2.2 >>= fun x44 =>
  if x44==0 then
   app 8 s19.2.2.1 [s19.2.2.2] >>= fun x48 =>
   some (.inr (s19.1.set (s19.2.2.2:Int).toNat (x22.Preds.length:Int),s25,x48,w64 (s19.2.2.2+1)))
  else
   some (.inr (s19.1.set (s19.2.2.2:Int).toNat (x22.Preds.length:Int),s25,s19.2.2.1,w64 (s19.2.2.2+1)))
 else
  some (.inl (.inr (s19.1,s19.2.1,s19.2.2.1)))
def z7q (x59:List Int) (s61:(List Int) × (List Int) × Int):Option (Sum ((List Int) × (List Int)) ((List Int) × (List Int) × Int)) :=
 if decide (s61.2.2<(x59.length:Int)) then
  idx x59 s61.2.2 >>= fun x64 =>
  idx s61.1 x64 >>= fun x66 =>
  idx s61.1 x64 >>= fun x68 =>
  idx (s61.1.set (x64:Int).toNat (w64 (x66 - 1))) x64 >>= fun x70 =>
  if x70==0 then
   app 8 s61.2.1 [x64] >>= fun x74 =>
   some (.inr (s61.1.set (x64:Int).toNat (w64 (x66 - 1)),x74,w64 (s61.2.2+1)))
  else
   some (.inr (s61.1.set (x64:Int).toNat (w64 (x66 - 1)),s61.2.1,w64 (s61.2.2+1)))
 else
  some (.inl (s61.1,s61.2.1))
def z94 (s18:(List Int) × (List (List Int)) × (List Int)) (s53:(List Int) × (List Int) × Int):Option (Sum Int ((List Int) × (List Int) × Int)) :=
 if decide (s53.2.2<(s53.2.1.length:Int)) then
  (idx s53.2.1 s53.2.2 >>= fun x57 =>
  idx s18.2.1 x57 >>= fun x59 =>
  iter (z7q x59) (s53.1,s53.2.1,0)) >>= fun s56 =>
  some (w64 (s53.2.2+1)) >>= fun y78 =>
  some (.inr (s56.1,s56.2,y78))
 else
  some (.inl s53.2.2)
def zd2 (a0:z00):Option (Int) :=
 z6j (iter (z6n a0) 1) fun s2 =>
 mkn 8 0 (a0.Ops.length:Int) >>= fun x12 =>
 mkn 24 ([]:List Int) (a0.Ops.length:Int) >>= fun x15 =>
 z6j (iter (z7t a0) (x12,x15,[],0)) fun s18 =>
 (iter (z94 s18) (s18.1,s18.2.2,0)) >>= fun s52 =>
 if decide (s52<(a0.Ops.length:Int)) then
  some 36
 else
  some 0
theorem zg9 (a0:z00):z2s Tryz.prog 38 [.rd z01 a0] [] (zd2 a0) (fun r nv=>⟨[.rd z09 r],[]⟩):=by
 refine z3o 133 Tryz.func38 Z Z Z fun H w=>?_
 refine gSR<|Eb Z (bx 1 Z) fun v1=>Zb Z<|zcy (fun (s2:Unit) aa ww=>Sta (ctx 133 H [] w) [(1,.val (z05 v1 0))] [(1,some (v1,.box 25 [.rd z01 a0]))] aa ww) ?_ (fun s2=>?_)
 ·
  refine gSR<|Zb Z<|z3e (fun (s3:Int) aa ww=>Sta (ctx 133 H [] w) [(1,.val (z05 v1 0)),(3,.rd z09 s3)] [(1,some (v1,.box 25 [.rd z01 a0]))] aa ww) (fun aa ww h=>h.sub [1] (sS Z<|sS Z<|sN) (y1 Z)) (fun s3=>?_)
  refine z1c<|gSR<|Zm Z<|Zq (faB 1 Z Z Tryz.underlying25 Z (by exact z9t))<|Zq (ld 1 Z Z (fP (z0p _)) zar Z)<|Zq (z5y Z .rd Z tu22)<|Zq (I.lss Z Z)<|Zj Z (fun h4=>?_) (fun h4=>?_)
  ·
   refine Zt<|z1c<|z7x<|z1c<|zbi [] mixed Z Z<|hTk 0 Z Z (faB 1 Z Z Tryz.underlying25 Z (by exact z9t))<|hTk 1 Z Z (ld 1 Z Z (fP (z0p _)) zar Z)<|hTk 2 Z Z (mv Z)<|hTk 3 Z Z (I.sub Z Z)<|zap fun x5 h6=>hTk 4 Z Z (ixR Z Z h6 tu22 z30 Z)<|hTk 5 Z Z (ldR Z z51)<|hTk 6 Z Z (faB 1 Z Z Tryz.underlying25 Z (by exact z9t))<|hTk 7 Z Z (ld 1 Z Z (fP (z0p _)) zar Z)<|hTk 8 Z Z (mv Z)<|zap fun x7 h8=>hTk 9 Z Z (ixR Z Z h8 tu22 z30 Z)<|hTk 10 Z Z (ldR Z z51)<|z6a 11 [] [] Z (by kernel_rfl) Z (gd0 Z) Z Tryz.func51 Z Z (z8f _ _) (Y2 Z Z) rN Z (fun _ _=>z4n) fun r9 n10=>hTk 12 Z Z (I.geq Z Z)<|z6e (by kernel_rfl)<|z15<|gIf Z Z (fun h11=>?_) (fun h11=>?_)
   ·
    refine gSR<|Zb Z<|z12<|z8k<|z1i<|zcc<|zcf<|zcp [] [] Z (eE Z<|eN) (rN)
   ·
    refine z6s<|z5h<|z15<|z3f<|Zm Z<|Zq (I.add Z Z)<|Za Z<|z2p<|z2q (fun aa ww h=>h.sub [1] (sS Z<|sS Z<|sN) (y1 Z))
  ·
   refine z3j<|z26<|z24<|zcx (fun aa ww h=>h.sub [1] (sS Z<|sN) (y1 Z))
 ·
  refine gSR<|Zq (faB 1 Z Z Tryz.underlying25 Z (by exact ze8))<|Zq (ld 1 Z Z (fP (z0r _)) ziq Z)<|Zq (z5y Z .rd Z tu23)<|z17 fun x12 h13=>Ef Z (mks (R:=z09) 44 Z Z h13 tu80 ti3 (Zr.num Z) Z) fun v14=>Zb Z<|gSR<|Zq (faB 1 Z Z Tryz.underlying25 Z (by exact ze8))<|Zq (ld 1 Z Z (fP (z0r _)) ziq Z)<|Zq (z5y Z .rd Z tu23)<|z17 fun x15 h16=>Ef Z (mksF 45 Z Z h16 Tryz.underlying97 ti80 Z) fun v17=>z126 (base:=100000) (lits:=[(1,some (v1,.box 25 [.rd z01 a0])),(44,some (v14,.list z09 3 x12)),(45,some (v17,.list zed 80 (z81 (fun _=>Value.slice none 0 0) x15)))]) z09 3 [1,44,45] (zxt h16) (Zi Z<|Zi Z<|Zi Z<|rN)<|Zb Z<|gSR<|Zb Z<|zcy (fun (s18:(List Int) × (List (List Int)) × (List Int)) aa ww=>∃ nv:Nat→Value,Sta (ctx 133 H [] w) [(1,.val (z05 v1 0)),(4,.val v14),(5,.val v17),(6,.val (nv 0))] ([(1,some (v1,.box 25 [.rd z01 a0])),(44,some (v14,.list z09 3 s18.1)),(45,some (v17,.list zed 80 (z81 (fun j=>nv (j+1)) s18.2.1))),(50,some ((nv 0),.list z09 3 s18.2.2))]++zkv 100000 z09 3 (fun j=>nv (j+1)) s18.2.1 0) aa ww) ?_ (fun s18=>?_)
  ·
   refine gSR<|Zq (faB 1 Z Z Tryz.underlying25 Z (by exact ze8))<|Zq (ld 1 Z Z (fP (z0r _)) ziq Z)<|Zq (z5y Z .rd Z tu23)<|Zm Z<|Zn<|zzz z09 3 56<|z3e (fun (s19:(List Int) × (List (List Int)) × (List Int) × Int) aa ww=>∃ nv:Nat→Value,Sta (ctx 133 H [] w) [(1,.val (z05 v1 0)),(4,.val v14),(5,.val v17),(6,.val (nv 0)),(45,.rd (z02 z03) a0.Ops),(46,.rd z09 (a0.Ops.length:Int)),(47,.rd z09 s19.2.2.2)] ([(1,some (v1,.box 25 [.rd z01 a0])),(44,some (v14,.list z09 3 s19.1)),(45,some (v17,.list zed 80 (z81 (fun j=>nv (j+1)) s19.2.1))),(55,some ((nv 0),.list z09 3 s19.2.2.1))]++zkv 100000 z09 3 (fun j=>nv (j+1)) s19.2.1 0) aa ww) (fun aa ww h=>⟨zws [(.slice none 0 0)] (fun _=>Value.slice none 0 0),h.subF (by repeat (first | refine z5b.cons Z ?_ | exact z5b.tail)) [1,44,45,56] (Zs Z Z Z Z<|sS Z<|sS Z<|sS Z<|sN) (Zi Z<|Zi Z<|Zi Z<|Zi Z<|rN) rfl⟩) (fun s19=>?_)
   refine gEx fun n20=>gSR<|Zq (I.lss Z Z)<|Zn<|z1c<|gIf Z Z (fun h21=>?_) (fun h21=>?_)
   ·
    refine Zt<|z1c<|z7x<|gSR<|Zm Z<|z17 fun x22 h23=>Zq (ixR Z Z h23 tu23 z8b Z)<|Zq (ldR Z z9x)<|Eb Z (z71 57 z8b (ZrE.rd (R:=z0w) (x:=0) (Zr.num Z) (ZrE.nilS (ZrE.rd (R:=z2y) (x:=0) (Zr.num Z) (ZrE.rd (R:=z0g) (x:=(⟨0,[],(⟨0,0,0,[]⟩:z04)⟩:z0i)) zlh (ZrE.rd (R:=z0f) (x:=(⟨0,0⟩:z08)) zjw ZrE.nil Z) Z) Z)) Z)) fun v24=>Za Z<|zcr aZ [.rd z0w 0,.rd (z02 aZ) [],.rd z2y 0,.rd z0g (⟨0,[],(⟨0,0,0,[]⟩:z04)⟩:z0i),.rd z0f (⟨0,0⟩:z08)] 57 [.rd z0w 0] [.rd z2y 0,.rd z0g (⟨0,[],(⟨0,0,0,[]⟩:z04)⟩:z0i),.rd z0f (⟨0,0⟩:z08)] Z Z Z<|zd7 (R:=z03) (⟨0,[],0,(⟨0,[],(⟨0,0,0,[]⟩:z04)⟩:z0i),(⟨0,0⟩:z08)⟩:z06) 57 Z (Sp.via (Sp.prod (Sp.prod (Sp.prod (Sp.prod (Sp.prod Sp.unit))))))<|Es (sto 57 Z Z fH Z z8b)<|Zn<|zcy (fun (s25:(List (List Int))) aa ww=>∃ nv:Nat→Value,Sta (ctx 133 H [] w) [(1,.val (z05 v1 0)),(4,.val v14),(5,.val v17),(6,.val (n20 0)),(7,.rd z09 s19.2.2.2),(8,.val (z05 v24 0)),(45,.rd (z02 z03) a0.Ops),(46,.rd z09 (a0.Ops.length:Int)),(47,.rd z09 s19.2.2.2)] ([(1,some (v1,.box 25 [.rd z01 a0])),(44,some (v14,.list z09 3 s19.1)),(45,some (v17,.list zed 80 (z81 (fun j=>nv (j+0)) s25))),(55,some ((n20 0),.list z09 3 s19.2.2.1)),(57,some (v24,.box 46 [.rd z03 x22]))]++zkv 100000 z09 3 (fun j=>nv (j+0)) s25 0) aa ww) ?_ (fun s25=>?_)
    ·
     refine gSR<|Zq (faB 57 Z Z Tryz.underlying46 Z (by exact z9t))<|Zq (ld 57 Z Z (fP (z10 _)) zar Z)<|Zq (z5y Z .rd Z tu22)<|Zm Z<|Zn<|z3e (fun (s26:(List (List Int)) × Int) aa ww=>∃ nv:Nat→Value,Sta (ctx 133 H [] w) [(1,.val (z05 v1 0)),(4,.val v14),(5,.val v17),(6,.val (n20 0)),(7,.rd z09 s19.2.2.2),(8,.val (z05 v24 0)),(45,.rd (z02 z03) a0.Ops),(46,.rd z09 (a0.Ops.length:Int)),(47,.rd z09 s19.2.2.2),(53,.rd (z02 aZ) x22.Preds),(54,.rd z09 (x22.Preds.length:Int)),(55,.rd z09 s26.2)] ([(1,some (v1,.box 25 [.rd z01 a0])),(44,some (v14,.list z09 3 s19.1)),(45,some (v17,.list zed 80 (z81 (fun j=>nv (j+0)) s26.1))),(55,some ((n20 0),.list z09 3 s19.2.2.1)),(57,some (v24,.box 46 [.rd z03 x22]))]++zkv 100000 z09 3 (fun j=>nv (j+0)) s26.1 0) aa ww) (fun aa ww h=>⟨zws [] (fun j=>n20 (j+1)),h.subF (by repeat (first | refine z5b.cons Z ?_ | exact z5b.tail)) [1,44,45,55,57] (Zs Z Z Z Z<|Zs Z Z Z Z<|Zs Z Z Z Z<|sN) (Zi Z<|Zi Z<|Zi Z<|Zi Z<|Zi Z<|rN) rfl⟩) (fun s26=>?_)
     refine gEx fun n27=>gSR<|Zq (I.lss Z Z)<|Zn<|z1c<|gIf Z Z (fun h28=>?_) (fun h28=>?_)
     ·
      refine Zt<|z1c<|z7x<|gSR<|z17 fun x29 h30=>Zq (ixR Z Z h30 tu22 z30 Z)<|Zq (ldR Z z51)<|Eb Z (z71 58 z30 (.zr (R:=aZ) (x:=(Vector.replicate 32 0)) zd4)) fun v31=>Es (sto 58 Z Z fH Z z30)<|Zn<|gSR<|Zq (ld 1 Z Z fH z75 Z)<|Zq (ld 58 Z Z fH z51 Z)<|call [] [] Z Tryz.func60 Z Z (zhb _ _) (Y2 Z Z) rN fun r32 n33=>Zm Z<|Zq (ext Z Z)<|Zq (ext Z Z)<|Za Z<|Zb Z<|z1c<|gSR<|Zm Z<|Zq (zge Z)<|Zj Z (fun h34=>?_) (fun h34=>?_)
      ·
       refine gSR<|Zb Z<|z12<|z1i<|z8k<|z1i<|zcc<|zcf<|z8k<|z1i<|zcc<|zcf<|zcp [] [] Z (eE Z<|eN) (rN)
      ·
       refine Zt<|z3f<|Zm Z<|Zm Z<|Zm Z<|Zm Z<|z17 fun x35 h36=>Zq (ixO 45 Z Z Z (zkk h36) Tryz.underlying97 ti80)<|Zq (ldF 45 Z Z h36 ty80 Z)<|Zm Z<|Ef Z (lit (R:=z09) ([s19.2.2.2]:List Int) 59 (pP Z Z<|pN) Z tu80 ti3 Z Z) fun v37=>z17 fun x38 h39=>lApF (base:=100000) (lits:=[(1,some (v1,.box 25 [.rd z01 a0])),(44,some (v14,.list z09 3 s19.1)),(55,some ((n20 0),.list z09 3 s19.2.2.1)),(57,some (v24,.box 46 [.rd z03 x22])),(58,some (v31,.box 36 [.rd aZ x29])),(59,some (v37,.list z09 3 [s19.2.2.2]))]) 45 [1,44,55,57,58,59] (by repeat (first | refine z5b.cons Z ?_ | exact z5b.tail)) Z Z Z h36 Z Z Z Z (.own 59 Z) h39 Z (fun _ h=>by cases h; rfl) (fun _ h=>by cases h; rfl) Z Z tu80 ti3 Z Z Z Tryz.underlying97 ti80 ty80 (Zi Z<|Zi Z<|Zi Z<|Zi Z<|Zi Z<|Zi Z<|rN) Z fun v40=>z2p<|z5h<|z15<|z3f<|Zq (I.add Z Z)<|Zm Z<|z2p<|z2q (fun aa ww h=>⟨zws [] (zuf (fun j=>n27 (j+0)) (r32.1:Int).toNat v40),h.subF (by repeat (first | refine z5b.cons Z ?_ | exact z5b.tail)) [1,44,45,55,57] (Zs Z Z Z Z<|Zs Z Z Z Z<|Zs Z Z Z Z<|sN) (Zi Z<|Zi Z<|Zi Z<|Zi Z<|Zi Z<|rN) rfl⟩)
     ·
      refine z3j<|z26<|z24<|zcx (fun aa ww h=>⟨zws [] (fun j=>n27 (j+0)),h.subF (by repeat (first | refine z5b.cons Z ?_ | exact z5b.tail)) [1,44,45,55,57] (Zs Z Z Z Z<|Zs Z Z Z Z<|sS Z<|sN) (Zi Z<|Zi Z<|Zi Z<|Zi Z<|Zi Z<|rN) rfl⟩)
    ·
     refine gEx fun n41=>gSR<|Zm Z<|Zm Z<|Zq (faB 57 Z Z Tryz.underlying46 Z (by exact z9t))<|Zq (ld 57 Z Z (fP (z10 _)) zar Z)<|Zq (z5y Z .rd Z tu22)<|z17 fun x42 h43=>Zq (ixO 44 Z Z Z h43 tu80 ti3)<|Es (sto 44 Z Z (Foc.el h43) Z ti3)<|Zn<|gSR<|Zm Z<|Zm Z<|z17 fun x44 h45=>Zq (ixO 44 Z Z Z h45 tu80 ti3)<|Zq (ld 44 Z Z (Foc.el h45) ty3 Z)<|Zq (I.eql Z Z)<|Zj Z (fun h46=>?_) (fun h46=>?_)
     ·
      refine z3f<|Zm Z<|Zm Z<|Ef Z (lit (R:=z09) ([s19.2.2.2]:List Int) 60 (pP Z Z<|pN) Z tu80 ti3 Z Z) fun v47=>z17 fun x48 h49=>Ef Z (apn 55 Z Z Z (.own 60 Z) h49 tu80 ti3 Z Z Z) fun v50=>Za Z<|z2p<|z5h<|z15<|z3f<|Zq (I.add Z Z)<|Zm Z<|z2p<|z2q (fun aa ww h=>⟨zws [v50] (fun j=>n41 (j+0)),h.subF (by repeat (first | refine z5b.cons Z ?_ | exact z5b.tail)) [1,44,45,55] (Zs Z Z Z Z<|sS Z<|sS Z<|sS Z<|sN) (Zi Z<|Zi Z<|Zi Z<|Zi Z<|rN) rfl⟩)
     ·
      refine z6s<|z5h<|z15<|z3f<|Zq (I.add Z Z)<|Zm Z<|z2p<|z2q (fun aa ww h=>⟨zws [(n20 0)] (fun j=>n41 (j+0)),h.subF (by repeat (first | refine z5b.cons Z ?_ | exact z5b.tail)) [1,44,45,55] (Zs Z Z Z Z<|sS Z<|sS Z<|sS Z<|sN) (Zi Z<|Zi Z<|Zi Z<|Zi Z<|rN) rfl⟩)
   ·
    refine z3j<|z26<|z24<|zcx (fun aa ww h=>⟨zws [(n20 0)] (fun j=>n20 (j+1)),h.subF (by repeat (first | refine z5b.cons Z ?_ | exact z5b.tail)) [1,44,45,55] (Zs Z Z Z Z<|sN) (Zi Z<|Zi Z<|Zi Z<|Zi Z<|rN) rfl⟩)
  ·
   refine gEx fun n51=>gSR<|Zb Z<|zax (fun (s52:Int) aa ww=>Sta (ctx 133 H [] w) [(1,.val (z05 v1 0)),(13,.rd z09 s52)] [(1,some (v1,.box 25 [.rd z01 a0]))] aa ww) ?_ (fun s52=>?_)
   ·
    refine z12b (base:=100000) (T:=3) (lits:=[(1,some (v1,.box 25 [.rd z01 a0])),(44,some (v14,.list z09 3 s18.1)),(50,some ((n51 0),.list z09 3 s18.2.2))]) (by repeat (first | refine z5b.cons Z ?_ | exact z5b.tail)) 45 Z [1,44,50] (Zi Z<|Zi Z<|Zi Z<|rN) Z Z<|z3e (fun (s53:(List Int) × (List Int) × Int) aa ww=>∃ nv:Nat→Value,Sta (ctx 133 H [] w) [(1,.val (z05 v1 0)),(4,.val v14),(5,.val v17),(6,.val (nv 0)),(13,.rd z09 s53.2.2)] [(1,some (v1,.box 25 [.rd z01 a0])),(44,some (v14,.list z09 3 s53.1)),(45,some (v17,.list (z02 z09) 80 s18.2.1)),(50,some ((nv 0),.list z09 3 s53.2.1))] aa ww) (fun aa ww h=>⟨nvl [(n51 0)],h.sub [1,44,45,50] (Zs Z Z Z Z<|sS Z<|sN) (Zi Z<|Zi Z<|Zi Z<|Zi Z<|rN)⟩) (fun s53=>?_)
    refine gEx fun n54=>z1c<|gSR<|Zm Z<|Zm Z<|Zq (z5y Z (.own 50 Z) Z tu80)<|Zq (I.lss Z Z)<|Zj Z (fun h55=>?_) (fun h55=>?_)
    ·
     refine Zt<|zax (fun (s56:(List Int) × (List Int)) aa ww=>∃ nv:Nat→Value,Sta (ctx 133 H [] w) [(1,.val (z05 v1 0)),(4,.val v14),(5,.val v17),(6,.val (nv 0)),(13,.rd z09 s53.2.2)] [(1,some (v1,.box 25 [.rd z01 a0])),(44,some (v14,.list z09 3 s56.1)),(45,some (v17,.list (z02 z09) 80 s18.2.1)),(50,some ((nv 0),.list z09 3 s56.2))] aa ww) ?_ (fun s56=>?_)
     ·
      refine z7x<|gSR<|Zm Z<|Zm Z<|Zm Z<|z17 fun x57 h58=>Zq (ixO 50 Z Z Z h58 tu80 ti3)<|Zq (ld 50 Z Z (Foc.el h58) ty3 Z)<|z17 fun x59 h60=>Zq (ixO 45 Z Z Z h60 Tryz.underlying97 ti80)<|Zq (ld 45 Z Z (Foc.el h60) ty80 Z)<|Zq (z5y Z .rd Z tu80)<|Zm Z<|Zn<|z3e (fun (s61:(List Int) × (List Int) × Int) aa ww=>∃ nv:Nat→Value,Sta (ctx 133 H [] w) [(1,.val (z05 v1 0)),(4,.val v14),(5,.val v17),(6,.val (nv 0)),(13,.rd z09 s53.2.2),(106,.rd (z02 z09) x59),(107,.rd z09 (x59.length:Int)),(108,.rd z09 s61.2.2)] [(1,some (v1,.box 25 [.rd z01 a0])),(44,some (v14,.list z09 3 s61.1)),(45,some (v17,.list (z02 z09) 80 s18.2.1)),(50,some ((nv 0),.list z09 3 s61.2.1))] aa ww) (fun aa ww h=>⟨nvl [(n54 0)],h.sub [1,44,45,50] (Zs Z Z Z Z<|Zs Z Z Z Z<|sN) (Zi Z<|Zi Z<|Zi Z<|Zi Z<|rN)⟩) (fun s61=>?_)
      refine gEx fun n62=>gSR<|Zq (I.lss Z Z)<|Zn<|z1c<|gIf Z Z (fun h63=>?_) (fun h63=>?_)
      ·
       refine Zt<|z1c<|z7x<|gSR<|z17 fun x64 h65=>Zq (ixR Z Z h65 tu80 ti3 Z)<|Zq (ldR Z ty3)<|Zb Z<|gSR<|Zm Z<|Zm Z<|z17 fun x66 h67=>Zq (ixO 44 Z Z Z h67 tu80 ti3)<|Zq (ld 44 Z Z (Foc.el h67) ty3 Z)<|Zq (I.sub Z Z)<|z17 fun x68 h69=>Zq (ixO 44 Z Z Z h69 tu80 ti3)<|Es (sto 44 Z Z (Foc.el h69) Z ti3)<|Zn<|gSR<|Zm Z<|Zm Z<|z17 fun x70 h71=>Zq (ixO 44 Z Z Z h71 tu80 ti3)<|Zq (ld 44 Z Z (Foc.el h71) ty3 Z)<|Zq (I.eql Z Z)<|Zj Z (fun h72=>?_) (fun h72=>?_)
       ·
        refine z3f<|Zm Z<|Zm Z<|Ef Z (lit (R:=z09) ([x64]:List Int) 61 (pP Z Z<|pN) Z tu80 ti3 Z Z) fun v73=>z17 fun x74 h75=>Ef Z (apn 50 Z Z Z (.own 61 Z) h75 tu80 ti3 Z Z Z) fun v76=>Za Z<|z2p<|z5h<|z15<|z3f<|Zq (I.add Z Z)<|Zm Z<|z2p<|z2q (fun aa ww h=>⟨nvl [v76],h.sub [1,44,45,50] (Zs Z Z Z Z<|Zs Z Z Z Z<|sN) (Zi Z<|Zi Z<|Zi Z<|Zi Z<|rN)⟩)
       ·
        refine z6s<|z5h<|z15<|z3f<|Zq (I.add Z Z)<|Zm Z<|z2p<|z2q (fun aa ww h=>⟨nvl [(n62 0)],h.sub [1,44,45,50] (Zs Z Z Z Z<|Zs Z Z Z Z<|sN) (Zi Z<|Zi Z<|Zi Z<|Zi Z<|rN)⟩)
      ·
       refine z3j<|z26<|z24<|z5h<|z65 (fun aa ww h=>⟨nvl [(n62 0)],h.sub [1,44,45,50] (Zs Z Z Z Z<|sS Z<|sN) (Zi Z<|Zi Z<|Zi Z<|Zi Z<|rN)⟩)
     ·
      refine gEx fun n77=>z3f<|Zm Z<|Zq (I.add Z Z)<|Za Z<|z38 13 Z fun y78=>z2p<|z2q (fun aa ww h=>⟨nvl [(n77 0)],h.sub [1,44,45,50] (Zs Z Z Z Z<|sS Z<|sN) (Zi Z<|Zi Z<|Zi Z<|Zi Z<|rN)⟩)
    ·
     refine z3j<|z26<|z24<|z65 (fun aa ww h=>h.sub [1] (sS Z<|sS Z<|sN) (y1 Z))
   ·
    refine z1c<|gSR<|Zm Z<|Zq (faB 1 Z Z Tryz.underlying25 Z (by exact ze8))<|Zq (ld 1 Z Z (fP (z0r _)) ziq Z)<|Zq (z5y Z .rd Z tu23)<|Zq (I.lss Z Z)<|Zj Z (fun h79=>?_) (fun h79=>?_)
    ·
     refine gSR<|Zb Z<|z12<|z1i<|zcp [] [] Z (eE Z<|eN) (rN)
    ·
     refine Zt<|gSR<|Zb Z<|z12<|zcp [] [] Z (eE Z<|eN) (rN)
def z97 (a0:z00) (s5:Int):Option (Sum (Sum Int Unit) Int) :=
 if decide (s5<(a0.Ops.length:Int)) then
  idx a0.Ops s5 >>= fun x7 =>
  zqa x7 >>= fun r10 =>
  (if r10.2 != 0 then
   some true
  else
   idx a0.IDs s5 >>= fun x15 =>
   if !decide (r10.1=x15) then
    some true
   else
    zdh x7 >>= fun r18 =>
    some (r18 != 0)) >>= fun s13 =>
  if s13 then
   some (.inl (.inl 8))
  else
   some (.inr (w64 (s5+1)))
 else
  some (.inl (.inr ()))
def z1g (a0:z00):Option (Int) :=
 if decide (60<(a0.Ops.length:Int)) then
  some 4
 else
  if (a0.IDs.length:Int) != (a0.Ops.length:Int) then
   some 8
  else
   z6j (iter (z97 a0) 0) fun s4 =>
   zd2 a0 >>= fun r21 =>
   some r21
theorem zb1 (a0:z00):z2s Tryz.prog 23 [.rd z01 a0] [zG1] (z1g a0) (fun r nv=>⟨[.rd z09 r],[(1001,some (.bool true,.glob 1 (z3l 64 z0w) z4a))]⟩):=by
 refine z3o 50 Tryz.func23 Z Z Z fun H w=>?_
 refine gSR<|Eb Z (bx 1 Z) fun v1=>Zb Z<|z1c<|gSR<|Zq (faB 1 Z Z Tryz.underlying25 Z (by exact ze8))<|Zq (ld 1 Z Z (fP (z0r _)) ziq Z)<|Zq (z5y Z .rd Z tu23)<|Zq (I.gtr Z Z)<|Zj Z (fun h2=>?_) (fun h2=>?_)
 ·
  refine gSR<|Zb Z<|z12<|z1i<|Ze [] [1001] Z
 ·
  refine Zt<|z1c<|gSR<|Zq (faB 1 Z Z Tryz.underlying25 Z (by exact z9t))<|Zq (ld 1 Z Z (fP (z0p _)) zar Z)<|Zq (z5y Z .rd Z tu22)<|Zq (faB 1 Z Z Tryz.underlying25 Z (by exact ze8))<|Zq (ld 1 Z Z (fP (z0r _)) ziq Z)<|Zq (z5y Z .rd Z tu23)<|Zq (I.neq Z Z)<|Zj Z (fun h3=>?_) (fun h3=>?_)
  ·
   refine gSR<|Zb Z<|z12<|z1i<|Ze [] [1001] Z
  ·
   refine Zt<|zcy (fun (s4:Unit) aa ww=>Sta (ctx 50 H [zG1] w) [(1,.val (z05 v1 0))] [(1,some (v1,.box 25 [.rd z01 a0])),zG1] aa ww) ?_ (fun s4=>?_)
   ·
    refine gSR<|Zq (faB 1 Z Z Tryz.underlying25 Z (by exact ze8))<|Zq (ld 1 Z Z (fP (z0r _)) ziq Z)<|Zq (z5y Z .rd Z tu23)<|Zm Z<|Zn<|z3e (fun (s5:Int) aa ww=>Sta (ctx 50 H [zG1] w) [(1,.val (z05 v1 0)),(19,.rd (z02 z03) a0.Ops),(20,.rd z09 (a0.Ops.length:Int)),(21,.rd z09 s5)] [(1,some (v1,.box 25 [.rd z01 a0])),zG1] aa ww) (fun aa ww h=>Zu h [1,1001]) (fun s5=>?_)
    refine gSR<|Zq (I.lss Z Z)<|Zn<|z1c<|gIf Z Z (fun h6=>?_) (fun h6=>?_)
    ·
     refine Zt<|z1c<|z7x<|gSR<|Zm Z<|z17 fun x7 h8=>Zq (ixR Z Z h8 tu23 z8b Z)<|Zq (ldR Z z9x)<|Eb Z (z71 1100 z8b (ZrE.rd (R:=z0w) (x:=0) (Zr.num Z) (ZrE.nilS (ZrE.rd (R:=z2y) (x:=0) (Zr.num Z) (ZrE.rd (R:=z0g) (x:=(⟨0,[],(⟨0,0,0,[]⟩:z04)⟩:z0i)) zlh (ZrE.rd (R:=z0f) (x:=(⟨0,0⟩:z08)) zjw ZrE.nil Z) Z) Z)) Z)) fun v9=>Za Z<|zcr aZ [.rd z0w 0,.rd (z02 aZ) [],.rd z2y 0,.rd z0g (⟨0,[],(⟨0,0,0,[]⟩:z04)⟩:z0i),.rd z0f (⟨0,0⟩:z08)] 1100 [.rd z0w 0] [.rd z2y 0,.rd z0g (⟨0,[],(⟨0,0,0,[]⟩:z04)⟩:z0i),.rd z0f (⟨0,0⟩:z08)] Z Z Z<|zd7 (R:=z03) (⟨0,[],0,(⟨0,[],(⟨0,0,0,[]⟩:z04)⟩:z0i),(⟨0,0⟩:z08)⟩:z06) 1100 Z (Sp.via (Sp.prod (Sp.prod (Sp.prod (Sp.prod (Sp.prod Sp.unit))))))<|Es (sto 1100 Z Z fH Z z8b)<|Zn<|gSR<|Zq (ld 1100 Z Z fH z9x Z)<|Zc [1001] [] Tryz.func36 Z (zkd _) fun r10 n11=>Zm Z<|Zq (ext Z Z)<|Zq (ext Z Z)<|Eb Z (z71 1101 z30 (.zr (R:=aZ) (x:=(Vector.replicate 32 0)) zd4)) fun v12=>Es (sto 1101 Z Z fH Z z30)<|Zb Z<|zax (fun (s13:Bool) aa ww=>Sta (ctx 50 H [zG1] w) [(1,.val (z05 v1 0)),(19,.rd (z02 z03) a0.Ops),(20,.rd z09 (a0.Ops.length:Int)),(21,.rd z09 s5),(46,.rd z0j s13)] [(1,some (v1,.box 25 [.rd z01 a0])),zG1] aa ww) ?_ (fun s13=>?_)
     ·
      refine zbi [1001] mixed Z Z<|hTk 0 Z Z (mv Z)<|hTk 1 Z Z (I.neq Z Z)<|hTk 2 Z Z (mv Z)<|hIf 33 Z Z (fun h14=>?_) (fun h14=>?_)
      ·
       refine hKn 32 Z Z h14<|hSk 3 Z Z<|hSk 4 Z Z<|hSk 5 Z Z<|hSk 6 Z Z<|hSk 7 Z Z<|hSk 8 Z Z<|hSk 9 Z Z<|hTk 10 Z Z (pkT Z Z)<|hTk 11 Z Z (mv Z)<|hSk 12 Z Z<|hSk 13 Z Z<|hSk 14 Z Z<|hTk 15 Z Z (pkT Z Z)<|z6e (by kernel_rfl)<|z65 (fun aa ww h=>Zu h [1,1001])
      ·
       refine hKn 32 Z Z h14<|Zg 3 Z Z (ld 1101 Z Z fH z51 Z)<|Zg 4 Z Z (faB 1 Z Z Tryz.underlying25 Z (by exact z9t))<|Zg 5 Z Z (ld 1 Z Z (fP (z0p _)) zar Z)<|Zg 6 Z Z (mv Z)<|zap fun x15 h16=>Zg 7 Z Z (ixR Z Z h16 tu22 z30 Z)<|Zg 8 Z Z (ldR Z z51)<|Zg 9 Z Z (neA Z Z eq36 Z Z gq36)<|hTk 10 Z Z (pkF Z Z)<|hTk 11 Z Z (mv Z)<|hIf 42 Z Z (fun h17=>?_) (fun h17=>?_)
       ·
        refine hKn 40 Z Z h17<|hKn 41 Z Z h17<|hSk 12 Z Z<|hSk 13 Z Z<|hSk 14 Z Z<|hTk 15 Z Z (pkT Z Z)<|z6e (by kernel_rfl)<|z65 (fun aa ww h=>Zu h [1,1001])
       ·
        refine hKn 40 Z Z h17<|hKn 41 Z Z h17<|Zg 12 Z Z (ld 1100 Z Z fH z9x Z)<|z6a 13 [1001] [] Z (by kernel_rfl) Z Zx Z Tryz.func35 Z Z (zg1 _) (Y1 Z) (y1 Z) Z (fun _ _=>z4n) fun r18 n19=>Zg 14 Z Z (I.neq Z Z)<|hTk 15 Z Z (pkF Z Z)<|z6e (by kernel_rfl)<|z65 (fun aa ww h=>Zu h [1,1001])
     ·
      refine gIf Z Z (fun h20=>?_) (fun h20=>?_)
      ·
       refine gSR<|Zb Z<|z12<|z8k<|z1i<|zcc<|zcf<|Ze [] [1001] Z
      ·
       refine z6s<|z5h<|z15<|z3f<|Zq (I.add Z Z)<|Zm Z<|z2p<|z2q (fun aa ww h=>Zu h [1,1001])
    ·
     refine z3j<|z26<|z24<|zcx (fun aa ww h=>Zu h [1,1001])
   ·
    refine gSR<|Zq (ld 1 Z Z fH z75 Z)<|Zc [] [] Tryz.func38 Z (zg9 _) fun r21 n22=>Zb Z<|z12<|Ze [] [1001] Z
def z68 (a0:List V3) (a1:V3) (s3:Int):Option (Sum (Sum Int Unit) Int) :=
 if decide (s3<(a0.length:Int)) then
  idx a0 s3 >>= fun x5 =>
  if decide (x5=a1) then
   some (.inl (.inl s3))
  else
   some (.inr (w64 (s3+1)))
 else
  some (.inl (.inr ()))
def z9v (a0:List V3) (a1:V3):Option (Int) :=
 z6j (iter (z68 a0 a1) 0) fun s2 =>
 some (-1)
def z5j (a0:List V3) (a1:List V3) (s2:Int):Option (Sum (Sum Bool Unit) Int) :=
 if decide (s2<(a1.length:Int)) then
  idx a1 s2 >>= fun x4 =>
  z9v a0 x4 >>= fun r6 =>
  if decide (r6<0) then
   some (.inl (.inl false))
  else
   some (.inr (w64 (s2+1)))
 else
  some (.inl (.inr ()))
def z47 (a0:List V3) (a1:List V3):Option (Bool) :=
 z6j (iter (z5j a0 a1) 0) fun s1 =>
 some true
def z2r (a0:z00) (s6:(List Int) × (List V3) × (List Bool) × Bool) (s9:Int):Option (Sum (Sum ((List Int)) ((List Int) × (List V3) × (List Bool) × Bool)) Int) :=
 if decide (s9<(a0.Ops.length:Int)) then
  (idx s6.2.2.1 s9 >>= fun x12 =>
  if !x12 then
   idx a0.Ops s9 >>= fun x15 =>
   z47 s6.2.1 x15.Preds >>= fun r17 =>
   some r17
  else
   some false) >>= fun s11 =>
  if s11 then
   app 8 s6.1 [s9] >>= fun x20 =>
   idx a0.IDs s9 >>= fun x22 =>
   app 32 s6.2.1 [x22] >>= fun x24 =>
   idx s6.2.2.1 s9 >>= fun x26 =>
   some (.inl (.inr (x20,x24,s6.2.2.1.set (s9:Int).toNat true,true)))
  else
   some (.inr (w64 (s9+1)))
 else
  some (.inl (.inr (s6.1,s6.2.1,s6.2.2.1,false)))
def z62 (a0:z00) (s6:(List Int) × (List V3) × (List Bool) × Bool):Option (Sum ((List Int)) ((List Int) × (List V3) × (List Bool) × Bool)) :=
 if s6.2.2.2 then
  iter (z2r a0 s6) 0
 else
  some (.inl s6.1)
def z9j (a0:z00):Option ((List Int)) :=
 mkn 1 false (a0.Ops.length:Int) >>= fun x2 =>
 (iter (z62 a0) ([],[],x2,true)) >>= fun s5 =>
 some s5
def z4f (a0:z00) (s6:Int):Option (Sum (Sum Int Unit) Int) :=
 if decide (s6<(a0.Ops.length:Int)) then
  idx a0.Ops s6 >>= fun x8 =>
  z47 a0.IDs x8.Preds >>= fun r10 =>
  if !r10 then
   some (.inl (.inl 40))
  else
   some (.inr (w64 (s6+1)))
 else
  some (.inl (.inr ()))
def z9b (a0:z00):Option (Int) :=
 z6z a0.IDs >>= fun r2 =>
 if !r2 then
  some 32
 else
  z6j (iter (z4f a0) 0) fun s5 =>
  z9j a0 >>= fun r13 =>
  if decide ((r13.length:Int)<(a0.Ops.length:Int)) then
   some 36
  else
   some 0
def z4e (a0:z00) (s5:Int):Option (Sum (Sum Int Unit) Int) :=
 if decide (s5<(a0.Ops.length:Int)) then
  idx a0.Ops s5 >>= fun x7 =>
  z8x x7 >>= fun r9 =>
  if r9 != 0 then
   some (.inl (.inl 8))
  else
   idx a0.Ops s5 >>= fun x12 =>
   idx a0.IDs s5 >>= fun x14 =>
   zce x12 >>= fun r16 =>
   if !decide (r16=x14) then
    some (.inl (.inl 8))
   else
    some (.inr (w64 (s5+1)))
 else
  some (.inl (.inr ()))
def zcq (a0:z00):Option (Int) :=
 if decide (60<(a0.Ops.length:Int)) then
  some 4
 else
  if (a0.IDs.length:Int) != (a0.Ops.length:Int) then
   some 8
  else
   z6j (iter (z4e a0) 0) fun s4 =>
   z9b a0 >>= fun r19 =>
   some r19
end
section
open Go Go.RowKit
set_option maxRecDepth 100000
def z33 (a0:z00) (s4:(List (V3 × Int)) × Int):Option (Sum ((List (V3 × Int))) ((List (V3 × Int)) × Int)) :=
 if decide (s4.2<(a0.IDs.length:Int)) then
  idx a0.IDs s4.2 >>= fun x6 =>
  some (.inr (zng s4.1 x6 s4.2,w64 (s4.2+1)))
 else
  some (.inl s4.1)
def z2o (a0:z00):Option ((List (V3 × Int))) :=
 (iter (z33 a0) (([]:List (V3 × Int)),0)) >>= fun s3 =>
 some s3
theorem z4v (a0:z00):z2s Tryz.prog 31 [.rd z01 a0] [] (z2o a0) (fun r nv=>⟨[.val (nv 0)],[(100,some (nv 0,.map aZ z09 r))]⟩):=by
 refine z3o 23 Tryz.func31 Z Z Z fun H w=>?_
 refine gSR<|Eb Z (bx 1 Z) fun v1=>Zb Z<|gSR<|Zq (faB 1 Z Z Tryz.underlying25 Z (by exact z9t))<|Zq (ld 1 Z Z (fP (z0p _)) zar Z)<|Zq (z5y Z .rd Z tu22)<|Ef Z (mkm aZ z09 2 (Or.inr ⟨_,_,Z,rfl⟩) Tryz.underlying65) fun v2=>Zb Z<|zax (fun (s3:(List (V3 × Int))) aa ww=>Sta (ctx 23 H [] w) [(3,.val v2)] [(2,some (v2,.map aZ z09 s3))] aa ww) ?_ (fun s3=>?_)
 ·
  refine gSR<|Zq (faB 1 Z Z Tryz.underlying25 Z (by exact z9t))<|Zq (ld 1 Z Z (fP (z0p _)) zar Z)<|Zq (z5y Z .rd Z tu22)<|Zm Z<|Zn<|z3e (fun (s4:(List (V3 × Int)) × Int) aa ww=>Sta (ctx 23 H [] w) [(3,.val v2),(11,.rd (z02 aZ) a0.IDs),(12,.rd z09 (a0.IDs.length:Int)),(13,.rd z09 s4.2)] [(2,some (v2,.map aZ z09 s4.1))] aa ww) (fun aa ww h=>Zu h [2]) (fun s4=>?_)
  refine gSR<|Zq (I.lss Z Z)<|Zn<|z1c<|gIf Z Z (fun h5=>?_) (fun h5=>?_)
  ·
   refine Zt<|z1c<|z7x<|gSR<|Zm Z<|z17 fun x6 h7=>Zq (ixR Z Z h7 tu22 z30 Z)<|Zq (ldR Z z51)<|Eb Z (z71 3 z30 (.zr (R:=aZ) (x:=(Vector.replicate 32 0)) zd4)) fun v8=>Za Z<|Es (sto 3 Z Z fH Z z30)<|Zn<|z3f<|Zm Z<|Zq (ld 3 Z Z fH z51 Z)<|Zm Z<|Es (mup 2 Z Z Z Z zv3 Tryz.underlying65)<|z2p<|z5h<|z15<|z3f<|Zq (I.add Z Z)<|Zm Z<|z2p<|z2q (fun aa ww h=>Zu h [2])
  ·
   refine z3j<|z26<|z24<|z65 (fun aa ww h=>Zu h [2])
 ·
  refine gSR<|Zm Z<|Zb Z<|z12<|Ze [v2] [2] Z
def z4s (a0:z00) (a1:List Bool) (s3:(List V3) × Int):Option (Sum ((List V3)) ((List V3) × Int)) :=
 if decide (s3.2<(a1.length:Int)) then
  idx a1 s3.2 >>= fun x6 =>
  if x6 then
   idx a0.IDs s3.2 >>= fun x9 =>
   app 32 s3.1 [x9] >>= fun x12 =>
   some (.inr (x12,w64 (s3.2+1)))
  else
   some (.inr (s3.1,w64 (s3.2+1)))
 else
  some (.inl s3.1)
def z6p (a0:z00) (a1:List Bool):Option ((List V3)) :=
 (iter (z4s a0 a1) ([],0)) >>= fun s2 =>
 some s2
theorem zaq (a0:z00) (a1:List Bool):z2s Tryz.prog 39 [.rd z01 a0,.rd (z02 z0j) a1] [] (z6p a0 a1) (fun r nv=>⟨[.val (nv 0)],[(100,some (nv 0,.list aZ 36 r))]⟩):=by
 refine z3o 26 Tryz.func39 Z Z Z fun H w=>?_
 refine gSR<|Eb Z (bx 1 Z) fun v1=>Zb Z<|gSR<|Zb Z<|zax (fun (s2:(List V3)) aa ww=>∃ nv:Nat→Value,Sta (ctx 26 H [] w) [(5,.val (nv 0))] [(3,some ((nv 0),.list aZ 36 s2))] aa ww) ?_ (fun s2=>?_)
 ·
  refine gSR<|Zm Z<|Zq (z5y Z .rd Z tu67)<|Zm Z<|Zn<|zzz aZ 36 6<|z3e (fun (s3:(List V3) × Int) aa ww=>∃ nv:Nat→Value,Sta (ctx 26 H [] w) [(1,.rd (z02 z0j) a1),(2,.val (z05 v1 0)),(5,.val (nv 0)),(8,.rd z09 (a1.length:Int)),(9,.rd z09 s3.2)] [(1,some (v1,.box 25 [.rd z01 a0])),(5,some ((nv 0),.list aZ 36 s3.1))] aa ww) (fun aa ww h=>⟨nvl [(.slice none 0 0)],Zu h [1,6]⟩) (fun s3=>?_)
  refine gEx fun n4=>gSR<|Zq (I.lss Z Z)<|Zn<|z1c<|gIf Z Z (fun h5=>?_) (fun h5=>?_)
  ·
   refine Zt<|z1c<|z7x<|gSR<|Zm Z<|Zb Z<|gSR<|Zm Z<|Zm Z<|z17 fun x6 h7=>Zq (ixR Z Z h7 tu67 ti4 Z)<|Zq (ldR Z ty4)<|Zj Z (fun h8=>?_) (fun h8=>?_)
   ·
    refine z3f<|Zm Z<|Zq (faB 1 Z Z Tryz.underlying25 Z (by exact z9t))<|Zq (ld 1 Z Z (fP (z0p _)) zar Z)<|Zm Z<|z17 fun x9 h10=>Zq (ixR Z Z h10 tu22 z30 Z)<|Zq (ldR Z z51)<|Ef Z (lit (R:=aZ) ([x9]:List V3) 7 (pP Z Z<|pN) Z tu22 z30 Z Z) fun v11=>zfs 7 [22] Z (fS Z<|fN)<|z17 fun x12 h13=>Ef Z (apn 5 Z Z Z .rd h13 tu22 z30 Z Z Z) fun v14=>Za Z<|z2p<|z5h<|z15<|z3f<|Zq (I.add Z Z)<|Zm Z<|z2p<|z2q (fun aa ww h=>⟨nvl [v14],Zu h [1,5]⟩)
   ·
    refine z6s<|z5h<|z15<|z3f<|Zq (I.add Z Z)<|Zm Z<|z2p<|z2q (fun aa ww h=>⟨nvl [(n4 0)],Zu h [1,5]⟩)
  ·
   refine z3j<|z26<|z24<|z65 (fun aa ww h=>⟨nvl [(n4 0)],Zu h [5]⟩)
 ·
  refine gEx fun n15=>gSR<|Zm Z<|Zb Z<|z12<|Ze [(n15 0)] [3] Z
def z5p (x7:List Bool) (s11:(List Bool) × Int):Option (Sum ((List Bool)) ((List Bool) × Int)) :=
 if decide (s11.2<(x7.length:Int)) then
  idx s11.1 s11.2 >>= fun x13 =>
  some (.inr (s11.1.set (s11.2:Int).toNat true,w64 (s11.2+1)))
 else
  some (.inl s11.1)
def z5w (r5:(List (V3 × Int))) (x19:z06) (s22:(List Bool) × Int):Option (Sum ((List Bool)) ((List Bool) × Int)) :=
 if decide (s22.2<(x19.Preds.length:Int)) then
  idx x19.Preds s22.2 >>= fun x24 =>
  idx s22.1 ((zbd r5 x24).getD 0) >>= fun x27 =>
  some (.inr (s22.1.set ((zbd r5 x24).getD 0:Int).toNat false,w64 (s22.2+1)))
 else
  some (.inl s22.1)
def z5f (a0:z00) (r5:(List (V3 × Int))) (s16:(List Bool) × Int):Option (Sum ((List Bool)) ((List Bool) × Int)) :=
 if decide (s16.2<(a0.Ops.length:Int)) then
  (idx a0.Ops s16.2 >>= fun x19 =>
  iter (z5w r5 x19) (s16.1,0)) >>= fun s18 =>
  some (.inr (s18,w64 (s16.2+1)))
 else
  some (.inl s16.1)
def z3c (a0:z00):Option ((List V3) × Int) :=
 z1g a0 >>= fun r2 =>
 if r2 != 0 then
  some ([],r2)
 else
  z2o a0 >>= fun r5 =>
  mkn 1 false (a0.IDs.length:Int) >>= fun x7 =>
  (iter (z5p x7) (x7,0)) >>= fun s10 =>
  (iter (z5f a0 r5) (s10,0)) >>= fun s15 =>
  z6p a0 s15 >>= fun r29 =>
  some (r29,0)
theorem z8v (a0:z00):z2s Tryz.prog 16 [.rd z01 a0] [zG1] (z3c a0) (fun r nv=>⟨[.val (nv 0),.rd z09 r.2],[(1001,some (.bool true,.glob 1 (z3l 64 z0w) z4a)),(100,some (nv 0,.list aZ 36 r.1))]⟩):=by
 refine z3o 56 Tryz.func16 Z Z Z fun H w=>?_
 refine gSR<|Eb Z (bx 1 Z) fun v1=>Za Z<|Zb Z<|z1c<|gSR<|Zq (ld 1 Z Z fH z75 Z)<|Zc [1001] [] Tryz.func23 Z (zb1 _) fun r2 n3=>Zb Z<|gSR<|Zm Z<|Zq (I.neq Z Z)<|Zj Z (fun h4=>?_) (fun h4=>?_)
 ·
  refine gSR<|Zm Z<|Za Z<|Zb Z<|z12<|z1i<|zpe aZ 36 2<|Ze [(.slice none 0 0)] [1001,2] Z
 ·
  refine Zt<|gSR<|Zq (ld 1 Z Z fH z75 Z)<|Zc [] [(100,3)] Tryz.func31 Z (z4v _) fun r5 n6=>Zb Z<|gSR<|Zq (faB 1 Z Z Tryz.underlying25 Z (by exact z9t))<|Zq (ld 1 Z Z (fP (z0p _)) zar Z)<|Zq (z5y Z .rd Z tu22)<|z17 fun x7 h8=>Ef Z (mks (R:=z0j) 4 Z Z h8 tu67 ti4 Zr.bool Z) fun v9=>Zb Z<|zax (fun (s10:(List Bool)) aa ww=>Sta (ctx 56 H [zG1] w) [(1,.val (z05 v1 0)),(5,.val (n6 0)),(6,.val v9)] [(1,some (v1,.box 25 [.rd z01 a0])),(3,some ((n6 0),.map aZ z09 r5)),(4,some (v9,.list z0j 4 s10)),zG1] aa ww) ?_ (fun s10=>?_)
  ·
   refine gSR<|Zm Z<|Zq (z5y Z (.own 4 Z) Z tu67)<|Zm Z<|Zn<|z3e (fun (s11:(List Bool) × Int) aa ww=>Sta (ctx 56 H [zG1] w) [(1,.val (z05 v1 0)),(5,.val (n6 0)),(6,.val v9),(24,.rd z09 (x7.length:Int)),(25,.rd z09 s11.2)] [(1,some (v1,.box 25 [.rd z01 a0])),(3,some ((n6 0),.map aZ z09 r5)),(4,some (v9,.list z0j 4 s11.1)),zG1] aa ww) (fun aa ww h=>Zu h [1,3,4,1001]) (fun s11=>?_)
   refine gSR<|Zq (I.lss Z Z)<|Zn<|z1c<|gIf Z Z (fun h12=>?_) (fun h12=>?_)
   ·
    refine Zt<|z1c<|z7x<|gSR<|Zm Z<|Zb Z<|z3f<|Zm Z<|Zm Z<|z17 fun x13 h14=>Zq (ixO 4 Z Z Z h14 tu67 ti4)<|Es (sto 4 Z Z (Foc.el h14) Z ti4)<|z2p<|z5h<|z15<|z3f<|Zq (I.add Z Z)<|Zm Z<|z2p<|z2q (fun aa ww h=>Zu h [1,3,4,1001])
   ·
    refine z3j<|z26<|z24<|z65 (fun aa ww h=>Zu h [1,3,4,1001])
  ·
   refine zax (fun (s15:(List Bool)) aa ww=>Sta (ctx 56 H [zG1] w) [(1,.val (z05 v1 0)),(6,.val v9)] [(1,some (v1,.box 25 [.rd z01 a0])),(4,some (v9,.list z0j 4 s15)),zG1] aa ww) ?_ (fun s15=>?_)
   ·
    refine gSR<|Zq (faB 1 Z Z Tryz.underlying25 Z (by exact ze8))<|Zq (ld 1 Z Z (fP (z0r _)) ziq Z)<|Zq (z5y Z .rd Z tu23)<|Zm Z<|Zn<|z3e (fun (s16:(List Bool) × Int) aa ww=>Sta (ctx 56 H [zG1] w) [(1,.val (z05 v1 0)),(5,.val (n6 0)),(6,.val v9),(33,.rd (z02 z03) a0.Ops),(34,.rd z09 (a0.Ops.length:Int)),(35,.rd z09 s16.2)] [(1,some (v1,.box 25 [.rd z01 a0])),(3,some ((n6 0),.map aZ z09 r5)),(4,some (v9,.list z0j 4 s16.1)),zG1] aa ww) (fun aa ww h=>Zu h [1,3,4,1001]) (fun s16=>?_)
    refine gSR<|Zq (I.lss Z Z)<|Zn<|z1c<|gIf Z Z (fun h17=>?_) (fun h17=>?_)
    ·
     refine Zt<|zax (fun (s18:(List Bool)) aa ww=>Sta (ctx 56 H [zG1] w) [(1,.val (z05 v1 0)),(5,.val (n6 0)),(6,.val v9),(33,.rd (z02 z03) a0.Ops),(34,.rd z09 (a0.Ops.length:Int)),(35,.rd z09 s16.2)] [(1,some (v1,.box 25 [.rd z01 a0])),(3,some ((n6 0),.map aZ z09 r5)),(4,some (v9,.list z0j 4 s18)),zG1] aa ww) ?_ (fun s18=>?_)
     ·
      refine z7x<|gSR<|z17 fun x19 h20=>Zq (ixR Z Z h20 tu23 z8b Z)<|Zq (ldR Z z9x)<|Eb Z (z71 1100 z8b (ZrE.rd (R:=z0w) (x:=0) (Zr.num Z) (ZrE.nilS (ZrE.rd (R:=z2y) (x:=0) (Zr.num Z) (ZrE.rd (R:=z0g) (x:=(⟨0,[],(⟨0,0,0,[]⟩:z04)⟩:z0i)) zlh (ZrE.rd (R:=z0f) (x:=(⟨0,0⟩:z08)) zjw ZrE.nil Z) Z) Z)) Z)) fun v21=>zcr aZ [.rd z0w 0,.rd (z02 aZ) [],.rd z2y 0,.rd z0g (⟨0,[],(⟨0,0,0,[]⟩:z04)⟩:z0i),.rd z0f (⟨0,0⟩:z08)] 1100 [.rd z0w 0] [.rd z2y 0,.rd z0g (⟨0,[],(⟨0,0,0,[]⟩:z04)⟩:z0i),.rd z0f (⟨0,0⟩:z08)] Z Z Z<|zd7 (R:=z03) (⟨0,[],0,(⟨0,[],(⟨0,0,0,[]⟩:z04)⟩:z0i),(⟨0,0⟩:z08)⟩:z06) 1100 Z (Sp.via (Sp.prod (Sp.prod (Sp.prod (Sp.prod (Sp.prod Sp.unit))))))<|Es (sto 1100 Z Z fH Z z8b)<|Zn<|gSR<|Zq (faB 1100 Z Z Tryz.underlying46 Z (by exact z9t))<|Zq (ld 1100 Z Z (fP (z10 _)) zar Z)<|Zq (z5y Z .rd Z tu22)<|Zm Z<|Zn<|z3e (fun (s22:(List Bool) × Int) aa ww=>Sta (ctx 56 H [zG1] w) [(1,.val (z05 v1 0)),(5,.val (n6 0)),(6,.val v9),(33,.rd (z02 z03) a0.Ops),(34,.rd z09 (a0.Ops.length:Int)),(35,.rd z09 s16.2),(40,.rd (z02 aZ) x19.Preds),(41,.rd z09 (x19.Preds.length:Int)),(42,.rd z09 s22.2)] [(1,some (v1,.box 25 [.rd z01 a0])),(3,some ((n6 0),.map aZ z09 r5)),(4,some (v9,.list z0j 4 s22.1)),zG1] aa ww) (fun aa ww h=>Zu h [1,3,4,1001]) (fun s22=>?_)
      refine gSR<|Zq (I.lss Z Z)<|Zn<|z1c<|gIf Z Z (fun h23=>?_) (fun h23=>?_)
      ·
       refine Zt<|z1c<|z7x<|gSR<|z17 fun x24 h25=>Zq (ixR Z Z h25 tu22 z30 Z)<|Zq (ldR Z z51)<|Eb Z (z71 1101 z30 (.zr (R:=aZ) (x:=(Vector.replicate 32 0)) zd4)) fun v26=>Es (sto 1101 Z Z fH Z z30)<|Zn<|z3f<|Zm Z<|Zm Z<|Zq (ld 1101 Z Z fH z51 Z)<|Zq (mlk Z (.own 3 Z Z) Z zv3 Tryz.underlying65 ti3 (Zr.num Z) Z)<|z17 fun x27 h28=>Zq (ixO 4 Z Z Z h28 tu67 ti4)<|Es (sto 4 Z Z (Foc.el h28) Z ti4)<|z2p<|z5h<|z15<|z3f<|Zq (I.add Z Z)<|Zm Z<|z2p<|z2q (fun aa ww h=>Zu h [1,3,4,1001])
      ·
       refine z3j<|z26<|z24<|z5h<|z65 (fun aa ww h=>Zu h [1,3,4,1001])
     ·
      refine z3f<|Zq (I.add Z Z)<|Zm Z<|z2p<|z2q (fun aa ww h=>Zu h [1,3,4,1001])
    ·
     refine z3j<|z26<|z24<|z65 (fun aa ww h=>Zu h [1,4,1001])
   ·
    refine gSR<|Zq (ld 1 Z Z fH z75 Z)<|Zm Z<|zfs 4 [6,54] Z (fS Z<|fS Z<|fN)<|Zc [] [(100,1102)] Tryz.func39 Z (zaq _ _) fun r29 n30=>Za Z<|Zb Z<|z12<|Ze [(n30 0)] [1001,1102] Z
def z83 (a0:V3) (c1_0:List Bool) (c2_0:List (V3 × Int)):Option (Bool) :=
 idx c1_0 ((zbd c2_0 a0).getD 0) >>= fun x2 =>
 some (!x2)
theorem zde (a0:V3) (p1_0:Value) (q1_0:Value) (c1_0:List Bool) (p2_0:Value) (q2_0:Value) (c2_0:List (V3 × Int)):z2s Tryz.prog 34 [.rd aZ a0,.val (z05 p1_0 0),.val (z05 p2_0 0)] [(1,some (p1_0,.box 67 [.val q1_0])),(2,some (q1_0,.list z0j 4 c1_0)),(3,some (p2_0,.box 65 [.val q2_0])),(4,some (q2_0,.map aZ z09 c2_0))] (z83 a0 c1_0 c2_0) (fun r nv=>⟨[.rd z0j r],[(1,some (p1_0,.box 67 [.val q1_0])),(2,some (q1_0,.list z0j 4 c1_0)),(3,some (p2_0,.box 65 [.val q2_0])),(4,some (q2_0,.map aZ z09 c2_0))]⟩):=by
 refine z3o 12 Tryz.func34 Z Z Z fun H w=>?_
 refine gSR<|Eb Z (bx 5 Z) fun v1=>Zb Z<|z1c<|zkh mixed (by kernel_rfl)<|Rq Z (ldV 1 Z Z .here zzl Z)<|Rq Z (ldV 3 Z Z .here sc65 Z)<|Rq Z (ld 5 Z Z fH z51 Z)<|Rq Z (mlk Z (.own 4 Z Z) Z zv3 Tryz.underlying65 ti3 (Zr.num Z) Z)<|za0 fun x2 h3=>Rq Z (ixO 2 Z Z Z h3 tu67 ti4)<|Rq Z (ld 2 Z Z (Foc.el h3) ty4 Z)<|Rq Z (zge Z)<|Rq Z (asg Z)<|zuk<|z15<|z12<|Ze [] [1,2,3,4] Z
def z0q (a0:List V3) (c1_0:List Bool) (c1_1:List (V3 × Int)) (s2:Int):Option (Sum (Sum Int Unit) Int) :=
 if decide (s2<(a0.length:Int)) then
  idx a0 s2 >>= fun x4 =>
  z83 x4 c1_0 c1_1 >>= fun r6 =>
  if r6 then
   some (.inl (.inl s2))
  else
   some (.inr (w64 (s2+1)))
 else
  some (.inl (.inr ()))
def z1l (a0:List V3) (c1_0:List Bool) (c1_1:List (V3 × Int)):Option (Int) :=
 z6j (iter (z0q a0 c1_0 c1_1) 0) fun s1 =>
 some (-1)
theorem z49 (a0:List V3) (p1_0:Value) (q1_0:Value) (c1_0:List Bool) (p1_1:Value) (q1_1:Value) (c1_1:List (V3 × Int)):z2s Tryz.prog 54 [.rd (z02 aZ) a0,.val (.func (.func 34) #[] #[z05 p1_0 0,z05 p1_1 0])] [(1,some (p1_0,.box 67 [.val q1_0])),(2,some (q1_0,.list z0j 4 c1_0)),(3,some (p1_1,.box 65 [.val q1_1])),(4,some (q1_1,.map aZ z09 c1_1))] (z1l a0 c1_0 c1_1) (fun r nv=>⟨[.rd z09 r],[(1,some (p1_0,.box 67 [.val q1_0])),(2,some (q1_0,.list z0j 4 c1_0)),(3,some (p1_1,.box 65 [.val q1_1])),(4,some (q1_1,.map aZ z09 c1_1))]⟩):=by
 refine z3o 19 Tryz.func54 Z Z Z fun H w=>?_
 refine gSR<|Zb Z<|zcy (fun (s1:Unit) aa ww=>Sta (ctx 19 H [(1,some (p1_0,.box 67 [.val q1_0])),(2,some (q1_0,.list z0j 4 c1_0)),(3,some (p1_1,.box 65 [.val q1_1])),(4,some (q1_1,.map aZ z09 c1_1))] w) [] [(2,some (q1_0,.list z0j 4 c1_0)),(1,some (p1_0,.box 67 [.val q1_0])),(4,some (q1_1,.map aZ z09 c1_1)),(3,some (p1_1,.box 65 [.val q1_1]))] aa ww) ?_ (fun s1=>?_)
 ·
  refine gSR<|Zm Z<|Zq (z5y Z .rd Z tu22)<|Zm Z<|Zn<|z3e (fun (s2:Int) aa ww=>Sta (ctx 19 H [(1,some (p1_0,.box 67 [.val q1_0])),(2,some (q1_0,.list z0j 4 c1_0)),(3,some (p1_1,.box 65 [.val q1_1])),(4,some (q1_1,.map aZ z09 c1_1))] w) [(0,.rd (z02 aZ) a0),(1,.val (.func (.func 34) #[] #[z05 p1_0 0,z05 p1_1 0])),(7,.rd z09 (a0.length:Int)),(8,.rd z09 s2)] [(2,some (q1_0,.list z0j 4 c1_0)),(1,some (p1_0,.box 67 [.val q1_0])),(4,some (q1_1,.map aZ z09 c1_1)),(3,some (p1_1,.box 65 [.val q1_1]))] aa ww) (fun aa ww h=>Zu h [2,1,4,3]) (fun s2=>?_)
  refine gSR<|Zq (I.lss Z Z)<|Zn<|z1c<|gIf Z Z (fun h3=>?_) (fun h3=>?_)
  ·
   refine Zt<|z1c<|z7x<|gSR<|Zm Z<|Zb Z<|gSR<|Zm Z<|Zm Z<|Zm Z<|z17 fun x4 h5=>Zq (ixR Z Z h5 tu22 z30 Z)<|Zq (ldR Z z51)<|zh9 [1,2,3,4] [(1,1),(2,2),(3,3),(4,4)] (gd0 Z) Z Z Tryz.func34 Z Z (zde _ _ _ _ _ _ _) (Y1 Z) (cQ 1 Z<|cQ 3 Z<|cN) (Zi Z<|Zi Z<|Zi Z<|Zi Z<|rN) fun r6 n7=>Zj Z (fun h8=>?_) (fun h8=>?_)
   ·
    refine gSR<|Zm Z<|Zb Z<|z12<|z8k<|z1i<|zcc<|zcf<|Ze [] [1,2,3,4] Z
   ·
    refine z6s<|z5h<|z15<|z3f<|Zq (I.add Z Z)<|Zm Z<|z2p<|z2q (fun aa ww h=>Zu h [2,1,4,3])
  ·
   refine z3j<|z26<|z24<|zcx (fun aa ww h=>Zu h [2,1,4,3])
 ·
  refine gSR<|Zb Z<|z12<|Ze [] [1,2,3,4] Z
def z0y (a0:List V3) (c1_0:List Bool) (c1_1:List (V3 × Int)):Option (Bool) :=
 z1l a0 c1_0 c1_1 >>= fun r1 =>
 some (decide (0≤r1)) >>= fun y3 =>
 some y3
theorem z3p (a0:List V3) (p1_0:Value) (q1_0:Value) (c1_0:List Bool) (p1_1:Value) (q1_1:Value) (c1_1:List (V3 × Int)):z2s Tryz.prog 33 [.rd (z02 aZ) a0,.val (.func (.func 34) #[] #[z05 p1_0 0,z05 p1_1 0])] [(1,some (p1_0,.box 67 [.val q1_0])),(2,some (q1_0,.list z0j 4 c1_0)),(3,some (p1_1,.box 65 [.val q1_1])),(4,some (q1_1,.map aZ z09 c1_1))] (z0y a0 c1_0 c1_1) (fun r nv=>⟨[.rd z0j r],[(1,some (p1_0,.box 67 [.val q1_0])),(2,some (q1_0,.list z0j 4 c1_0)),(3,some (p1_1,.box 65 [.val q1_1])),(4,some (q1_1,.map aZ z09 c1_1))]⟩):=by
 refine z3o 9 Tryz.func33 Z Z Z fun H w=>?_
 refine gSR<|Zb Z<|gSR<|Zm Z<|Zm Z<|Zc [1,2,3,4] [(1,1),(2,2),(3,3),(4,4)] Tryz.func54 Z (z49 _ _ _ _ _ _ _) fun r1 n2=>Zq (I.geq Z Z)<|Za Z<|z38 4 Z fun y3=>Zn<|z12<|Ze [] [1,2,3,4] Z
def z7i (a0:Int) (c1_0:List Bool) (c2_0:z00) (c3_0:List (V3 × Int)):Option (Bool) :=
 idx c1_0 a0 >>= fun x1 =>
 if !x1 then
  idx c2_0.Ops a0 >>= fun x4 =>
  z0y x4.Preds c1_0 c3_0 >>= fun r6 =>
  some (!r6)
 else
  some false
theorem zev (a0:Int) (p1_0:Value) (q1_0:Value) (c1_0:List Bool) (p2_0:Value) (c2_0:z00) (p3_0:Value) (q3_0:Value) (c3_0:List (V3 × Int)):z2s Tryz.prog 32 [.rd z09 a0,.val (z05 p1_0 0),.val (z05 p2_0 0),.val (z05 p3_0 0)] [(1,some (p1_0,.box 67 [.val q1_0])),(2,some (q1_0,.list z0j 4 c1_0)),(3,some (p2_0,.box 25 [.rd z01 c2_0])),(4,some (p3_0,.box 65 [.val q3_0])),(5,some (q3_0,.map aZ z09 c3_0))] (z7i a0 c1_0 c2_0 c3_0) (fun r nv=>⟨[.rd z0j r],[(1,some (p1_0,.box 67 [.val q1_0])),(2,some (q1_0,.list z0j 4 c1_0)),(3,some (p2_0,.box 25 [.rd z01 c2_0])),(4,some (p3_0,.box 65 [.val q3_0])),(5,some (q3_0,.map aZ z09 c3_0))]⟩):=by
 refine z3o 22 Tryz.func32 Z Z Z fun H w=>?_
 refine gSR<|Zb Z<|gSR<|Zq (ldV 1 Z Z .here zzl Z)<|Zm Z<|z17 fun x1 h2=>Zq (ixO 2 Z Z Z h2 tu67 ti4)<|Zq (ld 2 Z Z (Foc.el h2) ty4 Z)<|Zq (zge Z)<|Zm Z<|z2i 11 Z (fun h3=>?_) (fun h3=>?_)
 ·
  refine lKn 10 Z h3<|z2l Zx Z Z (faB 3 Z Z Tryz.underlying25 Z (by exact ze8))<|z2l Zx Z Z (ld 3 Z Z (fP (z0r _)) ziq Z)<|z2l Zx Z Z (mv Z)<|z17 fun x4 h5=>z2l Zx Z Z (ixR Z Z h5 tu23 z8b Z)<|z2l Zx Z Z (faR Z (z10 _) Tryz.underlying46 Z Z (by exact z9t))<|z2l Zx Z Z (ldR Z zar)<|z2l Zx Z Z (mkf mp0 (mp2 Z Z))<|zk6 [1,2,4,5] [(1,1),(2,2),(3,4),(4,5)] Zx Z Tryz.func33 Z Z (z3p _ _ _ _ _ _ _) (Y2 Z Z) (Zi Z<|Zi Z<|Zi Z<|Zi Z<|rN) fun r6 n7=>z2l Zx Z Z (zge Z)<|Zq (pkT Z Z)<|Zb Z<|z12<|Ze [] [1,2,3,4,5] Z
 ·
  refine lKn 10 Z h3<|Zk Z<|Zk Z<|Zk Z<|Zk Z<|Zk Z<|Zk Z<|Zk Z<|Zk Z<|Zk Z<|Zq (pkF Z Z)<|Zb Z<|z12<|Ze [] [1,2,3,4,5] Z
def z5r (a0:z00) (r5:(List (V3 × Int))) (s13:(List Bool) × (List V3) × Int) (s17:Int):Option (Sum Int Int) :=
 z7i s17 s13.1 a0 r5 >>= fun r18 =>
 if !r18 then
  some (w64 (s17+1)) >>= fun y21 =>
  some (.inr y21)
 else
  some (.inl s17)
def z6w (a0:z00) (r5:(List (V3 × Int))) (s13:(List Bool) × (List V3) × Int):Option (Sum ((List V3)) ((List Bool) × (List V3) × Int)) :=
 if decide (s13.2.2<(a0.IDs.length:Int)) then
  (iter (z5r a0 r5 s13) 0) >>= fun s16 =>
  idx s13.1 s16 >>= fun x22 =>
  idx a0.IDs s16 >>= fun x24 =>
  app 32 s13.2.1 [x24] >>= fun x27 =>
  some (.inr (s13.1.set (s16:Int).toNat true,x27,w64 (s13.2.2+1)))
 else
  some (.inl s13.2.1)
def z2n (a0:z00):Option ((List V3) × Int) :=
 z1g a0 >>= fun r2 =>
 if r2 != 0 then
  some ([],r2)
 else
  z2o a0 >>= fun r5 =>
  mkn 1 false (a0.IDs.length:Int) >>= fun x8 =>
  (iter (z6w a0 r5) (x8,[],0)) >>= fun s12 =>
  some (s12,0)
theorem z6t (a0:z00):z2s Tryz.prog 10 [.rd z01 a0] [zG1] (z2n a0) (fun r nv=>⟨[.val (nv 0),.rd z09 r.2],[(1001,some (.bool true,.glob 1 (z3l 64 z0w) z4a)),(100,some (nv 0,.list aZ 36 r.1))]⟩):=by
 refine z3o 46 Tryz.func10 Z Z Z fun H w=>?_
 refine gSR<|Eb Z (bx 1 Z) fun v1=>Za Z<|Zb Z<|z1c<|gSR<|Zq (ld 1 Z Z fH z75 Z)<|Zc [1001] [] Tryz.func23 Z (zb1 _) fun r2 n3=>Zb Z<|gSR<|Zm Z<|Zq (I.neq Z Z)<|Zj Z (fun h4=>?_) (fun h4=>?_)
 ·
  refine gSR<|Zm Z<|Za Z<|Zb Z<|z12<|z1i<|zpe aZ 36 2<|Ze [(.slice none 0 0)] [1001,2] Z
 ·
  refine Zt<|gSR<|Zq (ld 1 Z Z fH z75 Z)<|Zc [] [(100,3)] Tryz.func31 Z (z4v _) fun r5 n6=>Eb Z (z71 4 zzu (.val Z)) fun v7=>Es (zmt 4 Z Z (.here z07) Z z1j z07 zzu)<|Zn<|gSR<|Zq (faB 1 Z Z Tryz.underlying25 Z (by exact z9t))<|Zq (ld 1 Z Z (fP (z0p _)) zar Z)<|Zq (z5y Z .rd Z tu22)<|z17 fun x8 h9=>Ef Z (mks (R:=z0j) 5 Z Z h9 tu67 ti4 Zr.bool Z) fun v10=>Eb Z (z71 6 ti67 (.val Z)) fun v11=>Es (zmt 6 Z Z (.here z07) Z z1j z07 ti67)<|Zn<|gSR<|Zq (mkf mp0 (mp3 Z Z Z))<|Zb Z<|gSR<|Zb Z<|zax (fun (s12:(List V3)) aa ww=>∃ nv:Nat→Value,Sta (ctx 46 H [zG1] w) [(8,.val (nv 0))] [(1101,some ((nv 0),.list aZ 36 s12)),zG1] aa ww) ?_ (fun s12=>?_)
  ·
   refine gSR<|Zq (faB 1 Z Z Tryz.underlying25 Z (by exact z9t))<|Zq (ld 1 Z Z (fP (z0p _)) zar Z)<|Zq (z5y Z .rd Z tu22)<|Zm Z<|Zn<|zzz aZ 36 1104<|z3e (fun (s13:(List Bool) × (List V3) × Int) aa ww=>∃ nv:Nat→Value,Sta (ctx 46 H [zG1] w) [(1,.val (z05 v1 0)),(6,.val (z05 v11 0)),(7,.val (.func (.func 32) #[] #[z05 v11 0,z05 v1 0,z05 v7 0])),(8,.val (nv 0)),(24,.rd z09 (a0.IDs.length:Int)),(25,.rd z09 s13.2.2)] [(1,some (v1,.box 25 [.rd z01 a0])),(5,some (v10,.list z0j 4 s13.1)),(6,some (v11,.box 67 [.val v10])),(3,some ((n6 0),.map aZ z09 r5)),(4,some (v7,.box 65 [.val (n6 0)])),(1103,some ((nv 0),.list aZ 36 s13.2.1)),zG1] aa ww) (fun aa ww h=>⟨nvl [(.slice none 0 0)],Zu h [1,5,6,3,4,1104,1001]⟩) (fun s13=>?_)
   refine gEx fun n14=>gSR<|Zq (I.lss Z Z)<|Zn<|z1c<|gIf Z Z (fun h15=>?_) (fun h15=>?_)
   ·
    refine Zt<|z1c<|z7x<|gSR<|Zb Z<|zax (fun (s16:Int) aa ww=>Sta (ctx 46 H [zG1] w) [(1,.val (z05 v1 0)),(6,.val (z05 v11 0)),(7,.val (.func (.func 32) #[] #[z05 v11 0,z05 v1 0,z05 v7 0])),(8,.val (n14 0)),(9,.rd z09 s16),(24,.rd z09 (a0.IDs.length:Int)),(25,.rd z09 s13.2.2)] [(1,some (v1,.box 25 [.rd z01 a0])),(5,some (v10,.list z0j 4 s13.1)),(6,some (v11,.box 67 [.val v10])),(3,some ((n6 0),.map aZ z09 r5)),(4,some (v7,.box 65 [.val (n6 0)])),(1103,some ((n14 0),.list aZ 36 s13.2.1)),zG1] aa ww) ?_ (fun s16=>?_)
    ·
     refine z3e (fun (s17:Int) aa ww=>Sta (ctx 46 H [zG1] w) [(1,.val (z05 v1 0)),(6,.val (z05 v11 0)),(7,.val (.func (.func 32) #[] #[z05 v11 0,z05 v1 0,z05 v7 0])),(8,.val (n14 0)),(9,.rd z09 s17),(24,.rd z09 (a0.IDs.length:Int)),(25,.rd z09 s13.2.2)] [(1,some (v1,.box 25 [.rd z01 a0])),(5,some (v10,.list z0j 4 s13.1)),(6,some (v11,.box 67 [.val v10])),(3,some ((n6 0),.map aZ z09 r5)),(4,some (v7,.box 65 [.val (n6 0)])),(1103,some ((n14 0),.list aZ 36 s13.2.1)),zG1] aa ww) (fun aa ww h=>Zu h [1,5,6,3,4,1103,1001]) (fun s17=>?_)
     refine z1c<|gSR<|Zm Z<|Zm Z<|zh9 [6,5,1,4,3] [(1,6),(2,5),(3,1),(4,4),(5,3)] (gd0 Z) Z Z Tryz.func32 Z Z (zev _ _ _ _ _ _ _ _ _) (Y1 Z) (cQ 6 Z<|cQ 1 Z<|cQ 4 Z<|cN) (Zi Z<|Zi Z<|Zi Z<|Zi Z<|Zi Z<|rN) fun r18 n19=>Zq (zge Z)<|Zj Z (fun h20=>?_) (fun h20=>?_)
     ·
      refine Zt<|z7x<|z3f<|Zm Z<|Zq (I.add Z Z)<|Za Z<|z38 9 Z fun y21=>z2p<|z5h<|z2q (fun aa ww h=>Zu h [1,5,6,3,4,1103,1001])
     ·
      refine z3j<|z26<|z24<|z65 (fun aa ww h=>Zu h [1,5,6,3,4,1103,1001])
    ·
     refine gSR<|Zq (ldV 6 Z Z .here zzl Z)<|Zm Z<|z17 fun x22 h23=>Zq (ixO 5 Z Z Z h23 tu67 ti4)<|Es (sto 5 Z Z (Foc.el h23) Z ti4)<|Zn<|z3f<|Zm Z<|Zq (faB 1 Z Z Tryz.underlying25 Z (by exact z9t))<|Zq (ld 1 Z Z (fP (z0p _)) zar Z)<|Zm Z<|z17 fun x24 h25=>Zq (ixR Z Z h25 tu22 z30 Z)<|Zq (ldR Z z51)<|Ef Z (lit (R:=aZ) ([x24]:List V3) 1105 (pP Z Z<|pN) Z tu22 z30 Z Z) fun v26=>zfs 1105 [42] Z (fS Z<|fN)<|z17 fun x27 h28=>Ef Z (apn 1103 Z Z Z .rd h28 tu22 z30 Z Z Z) fun v29=>Za Z<|z2p<|z5h<|z15<|z3f<|Zq (I.add Z Z)<|Zm Z<|z2p<|z2q (fun aa ww h=>⟨nvl [v29],Zu h [1,5,6,3,4,1103,1001]⟩)
   ·
    refine z3j<|z26<|z24<|z65 (fun aa ww h=>⟨nvl [(n14 0)],Zu h [1103,1001]⟩)
  ·
   refine gEx fun n30=>gSR<|Zm Z<|Za Z<|Zb Z<|z12<|Ze [(n30 0)] [1001,1101] Z
def z61 (c1_0:List (V3 × Int)) (c3_0:z00) (rec:V3→(List (V3 × Int))→(List Bool)→z00→Option ((List Bool))) (x8:z06) (s10:(List Bool) × Int):Option (Sum ((List Bool)) ((List Bool) × Int)) :=
 if decide (s10.2<(x8.Preds.length:Int)) then
  idx x8.Preds s10.2 >>= fun x12 =>
  rec x12 c1_0 s10.1 c3_0 >>= fun r15 =>
  some (.inr (r15,w64 (s10.2+1)))
 else
  some (.inl s10.1)
def z4z (rec:V3→(List (V3 × Int))→(List Bool)→z00→Option ((List Bool))) (a0:V3) (c1_0:List (V3 × Int)) (c2_0:List Bool) (c3_0:z00):Option ((List Bool)) :=
 some ((zbd c1_0 a0).getD 0) >>= fun y2 =>
 idx c2_0 y2 >>= fun x3 =>
 if x3 then
  some c2_0
 else
  idx c2_0 y2 >>= fun x6 =>
  idx c3_0.Ops y2 >>= fun x8 =>
  iter (z61 c1_0 c3_0 rec x8) (c2_0.set (y2:Int).toNat true,0)
def z2c:Nat→V3→(List (V3 × Int))→(List Bool)→z00→Option ((List Bool))
 | 0,_,_,_,_=>none
 | N+1,a0,c1_0,c2_0,c3_0=>z4z (z2c N) a0 c1_0 c2_0 c3_0
theorem zeu (rec:V3→(List (V3 × Int))→(List Bool)→z00→Option ((List Bool))) (ih:∀ (a0:V3) (p1_0:Value) (q1_0:Value) (c1_0:List (V3 × Int)) (p2_0:Value) (q2_0:Value) (c2_0:List Bool) (p3_0:Value) (c3_0:z00) (p4_0:Value),z2s Tryz.prog 63 [.rd aZ a0,.val (z05 p1_0 0),.val (z05 p2_0 0),.val (z05 p3_0 0),.val (z05 p4_0 0)] [(1,some (p1_0,.box 65 [.val q1_0])),(2,some (q1_0,.map aZ z09 c1_0)),(3,some (p2_0,.box 67 [.val q2_0])),(4,some (q2_0,.list z0j 4 c2_0)),(5,some (p3_0,.box 25 [.rd z01 c3_0])),(6,some (p4_0,.box 98 [.val (.func (.func 63) #[] #[z05 p1_0 0,z05 p2_0 0,z05 p3_0 0,z05 p4_0 0])]))] (rec a0 c1_0 c2_0 c3_0) (fun r nv=>⟨[],[(1,some (p1_0,.box 65 [.val q1_0])),(2,some (q1_0,.map aZ z09 c1_0)),(3,some (p2_0,.box 67 [.val q2_0])),(4,some (q2_0,.list z0j 4 r)),(5,some (p3_0,.box 25 [.rd z01 c3_0])),(6,some (p4_0,.box 98 [.val (.func (.func 63) #[] #[z05 p1_0 0,z05 p2_0 0,z05 p3_0 0,z05 p4_0 0])]))]⟩)) (a0:V3) (p1_0:Value) (q1_0:Value) (c1_0:List (V3 × Int)) (p2_0:Value) (q2_0:Value) (c2_0:List Bool) (p3_0:Value) (c3_0:z00) (p4_0:Value):z2s Tryz.prog 63 [.rd aZ a0,.val (z05 p1_0 0),.val (z05 p2_0 0),.val (z05 p3_0 0),.val (z05 p4_0 0)] [(1,some (p1_0,.box 65 [.val q1_0])),(2,some (q1_0,.map aZ z09 c1_0)),(3,some (p2_0,.box 67 [.val q2_0])),(4,some (q2_0,.list z0j 4 c2_0)),(5,some (p3_0,.box 25 [.rd z01 c3_0])),(6,some (p4_0,.box 98 [.val (.func (.func 63) #[] #[z05 p1_0 0,z05 p2_0 0,z05 p3_0 0,z05 p4_0 0])]))] (z4z rec a0 c1_0 c2_0 c3_0) (fun r nv=>⟨[],[(1,some (p1_0,.box 65 [.val q1_0])),(2,some (q1_0,.map aZ z09 c1_0)),(3,some (p2_0,.box 67 [.val q2_0])),(4,some (q2_0,.list z0j 4 r)),(5,some (p3_0,.box 25 [.rd z01 c3_0])),(6,some (p4_0,.box 98 [.val (.func (.func 63) #[] #[z05 p1_0 0,z05 p2_0 0,z05 p3_0 0,z05 p4_0 0])]))]⟩):=by
 refine z3o 34 Tryz.func63 Z Z Z fun H w=>?_
 refine gSR<|Eb Z (bx 7 Z) fun v1=>Zn<|gSR<|Zq (ldV 1 Z Z .here sc65 Z)<|Zq (ld 7 Z Z fH z51 Z)<|Zq (mlk Z (.own 2 Z Z) Z zv3 Tryz.underlying65 ti3 (Zr.num Z) Z)<|Za Z<|z38 6 Z fun y2=>Zn<|z1c<|gSR<|Zq (ldV 3 Z Z .here zzl Z)<|Zm Z<|z17 fun x3 h4=>Zq (ixO 4 Z Z Z h4 tu67 ti4)<|Zq (ld 4 Z Z (Foc.el h4) ty4 Z)<|Zj Z (fun h5=>?_) (fun h5=>?_)
 ·
  refine z12<|z1i<|Ze [] [1,2,3,4,5,6] Z
 ·
  refine Zt<|gSR<|Zq (ldV 3 Z Z .here zzl Z)<|Zm Z<|z17 fun x6 h7=>Zq (ixO 4 Z Z Z h7 tu67 ti4)<|Es (sto 4 Z Z (Foc.el h7) Z ti4)<|Zn<|gSR<|Zq (faB 5 Z Z Tryz.underlying25 Z (by exact ze8))<|Zq (ld 5 Z Z (fP (z0r _)) ziq Z)<|Zm Z<|z17 fun x8 h9=>Zq (ixR Z Z h9 tu23 z8b Z)<|Zq (faR Z (z10 _) Tryz.underlying46 Z Z (by exact z9t))<|Zq (ldR Z zar)<|Zq (z5y Z .rd Z tu22)<|Zm Z<|Zn<|z3e (fun (s10:(List Bool) × Int) aa ww=>Sta (ctx 34 H [(1,some (p1_0,.box 65 [.val q1_0])),(2,some (q1_0,.map aZ z09 c1_0)),(3,some (p2_0,.box 67 [.val q2_0])),(4,some (q2_0,.list z0j 4 c2_0)),(5,some (p3_0,.box 25 [.rd z01 c3_0])),(6,some (p4_0,.box 98 [.val (.func (.func 63) #[] #[z05 p1_0 0,z05 p2_0 0,z05 p3_0 0,z05 p4_0 0])]))] w) [(4,.val (z05 p4_0 0)),(24,.rd (z02 aZ) x8.Preds),(25,.rd z09 (x8.Preds.length:Int)),(26,.rd z09 s10.2)] [(6,some (p4_0,.box 98 [.val (.func (.func 63) #[] #[z05 p1_0 0,z05 p2_0 0,z05 p3_0 0,z05 p4_0 0])])),(2,some (q1_0,.map aZ z09 c1_0)),(1,some (p1_0,.box 65 [.val q1_0])),(4,some (q2_0,.list z0j 4 s10.1)),(3,some (p2_0,.box 67 [.val q2_0])),(5,some (p3_0,.box 25 [.rd z01 c3_0]))] aa ww) (fun aa ww h=>Zu h [6,2,1,4,3,5]) (fun s10=>?_)
  refine gSR<|Zq (I.lss Z Z)<|Zn<|z1c<|gIf Z Z (fun h11=>?_) (fun h11=>?_)
  ·
   refine Zt<|z1c<|z7x<|gSR<|z17 fun x12 h13=>Zq (ixR Z Z h13 tu22 z30 Z)<|Zq (ldR Z z51)<|Eb Z (z71 8 z30 (.zr (R:=aZ) (x:=(Vector.replicate 32 0)) zd4)) fun v14=>Es (sto 8 Z Z fH Z z30)<|Zn<|z3f<|Zq (ldV 6 Z Z .here sc98 Z)<|Zq (ld 8 Z Z fH z51 Z)<|zh9 [1,2,3,4,5,6] [(1,1),(2,2),(3,3),(4,4),(5,5),(6,6)] (gd0 Z) Z Z Tryz.func63 Z Z (ih _ _ _ _ _ _ _ _ _ _) (Y1 Z) (cQ 1 Z<|cQ 3 Z<|cQ 5 Z<|cQ 6 Z<|cN) (Zi Z<|Zi Z<|Zi Z<|Zi Z<|Zi Z<|Zi Z<|rN) fun r15 n16=>z2p<|z5h<|z15<|z3f<|Zq (I.add Z Z)<|Zm Z<|z2p<|z2q (fun aa ww h=>Zu h [6,2,1,4,3,5])
  ·
   refine z3j<|z26<|z24<|Ze [] [1,2,3,4,5,6] Z
theorem z9r:∀ (N:Nat) (a0:V3) (p1_0:Value) (q1_0:Value) (c1_0:List (V3 × Int)) (p2_0:Value) (q2_0:Value) (c2_0:List Bool) (p3_0:Value) (c3_0:z00) (p4_0:Value),z2s Tryz.prog 63 [.rd aZ a0,.val (z05 p1_0 0),.val (z05 p2_0 0),.val (z05 p3_0 0),.val (z05 p4_0 0)] [(1,some (p1_0,.box 65 [.val q1_0])),(2,some (q1_0,.map aZ z09 c1_0)),(3,some (p2_0,.box 67 [.val q2_0])),(4,some (q2_0,.list z0j 4 c2_0)),(5,some (p3_0,.box 25 [.rd z01 c3_0])),(6,some (p4_0,.box 98 [.val (.func (.func 63) #[] #[z05 p1_0 0,z05 p2_0 0,z05 p3_0 0,z05 p4_0 0])]))] (z2c N a0 c1_0 c2_0 c3_0) (fun r nv=>⟨[],[(1,some (p1_0,.box 65 [.val q1_0])),(2,some (q1_0,.map aZ z09 c1_0)),(3,some (p2_0,.box 67 [.val q2_0])),(4,some (q2_0,.list z0j 4 r)),(5,some (p3_0,.box 25 [.rd z01 c3_0])),(6,some (p4_0,.box 98 [.val (.func (.func 63) #[] #[z05 p1_0 0,z05 p2_0 0,z05 p3_0 0,z05 p4_0 0])]))]⟩)
 | 0,a0,p1_0,q1_0,c1_0,p2_0,q2_0,c2_0,p3_0,c3_0,p4_0=>fun r hr=>absurd hr (by simp [z2c])
 | N+1,a0,p1_0,q1_0,c1_0,p2_0,q2_0,c2_0,p3_0,c3_0,p4_0=>zeu (z2c N) (z9r N) a0 p1_0 q1_0 c1_0 p2_0 q2_0 c2_0 p3_0 c3_0 p4_0
theorem zel (a0:V3) (p1_0:Value) (q1_0:Value) (c1_0:List (V3 × Int)) (p2_0:Value) (q2_0:Value) (c2_0:List Bool) (p3_0:Value) (c3_0:z00) (p4_0:Value):z2s Tryz.prog 63 [.rd aZ a0,.val (z05 p1_0 0),.val (z05 p2_0 0),.val (z05 p3_0 0),.val (z05 p4_0 0)] [(1,some (p1_0,.box 65 [.val q1_0])),(2,some (q1_0,.map aZ z09 c1_0)),(3,some (p2_0,.box 67 [.val q2_0])),(4,some (q2_0,.list z0j 4 c2_0)),(5,some (p3_0,.box 25 [.rd z01 c3_0])),(6,some (p4_0,.box 98 [.val (.func (.func 63) #[] #[z05 p1_0 0,z05 p2_0 0,z05 p3_0 0,z05 p4_0 0])]))] (z2c 1000 a0 c1_0 c2_0 c3_0) (fun r nv=>⟨[],[(1,some (p1_0,.box 65 [.val q1_0])),(2,some (q1_0,.map aZ z09 c1_0)),(3,some (p2_0,.box 67 [.val q2_0])),(4,some (q2_0,.list z0j 4 r)),(5,some (p3_0,.box 25 [.rd z01 c3_0])),(6,some (p4_0,.box 98 [.val (.func (.func 63) #[] #[z05 p1_0 0,z05 p2_0 0,z05 p3_0 0,z05 p4_0 0])]))]⟩):=z9r 1000 a0 p1_0 q1_0 c1_0 p2_0 q2_0 c2_0 p3_0 c3_0 p4_0
def z6x (a0:z00) (a1:List V3) (r2:(List (V3 × Int))) (s11:(List Bool) × Int):Option (Sum ((List Bool)) ((List Bool) × Int)) :=
 if decide (s11.2<(a1.length:Int)) then
  idx a1 s11.2 >>= fun x13 =>
  (z2c 1000) x13 r2 s11.1 a0 >>= fun r16 =>
  some (.inr (r16,w64 (s11.2+1)))
 else
  some (.inl s11.1)
def z6b (a0:z00) (a1:List V3):Option ((List Bool)) :=
 z2o a0 >>= fun r2 =>
 mkn 1 false (a0.IDs.length:Int) >>= fun x5 =>
 (iter (z6x a0 a1 r2) (x5,0)) >>= fun s10 =>
 some s10
theorem z8y (a0:z00) (a1:List V3):z2s Tryz.prog 40 [.rd z01 a0,.rd (z02 aZ) a1] [] (z6b a0 a1) (fun r nv=>⟨[.val (nv 0)],[(100,some (nv 0,.list z0j 4 r))]⟩):=by
 refine z3o 28 Tryz.func40 Z Z Z fun H w=>?_
 refine gSR<|Eb Z (bx 1 Z) fun v1=>Zb Z<|gSR<|Zq (ld 1 Z Z fH z75 Z)<|Zc [] [(100,2)] Tryz.func31 Z (z4v _) fun r2 n3=>Eb Z (z71 3 zzu (.val Z)) fun v4=>Es (zmt 3 Z Z (.here z07) Z z1j z07 zzu)<|Zn<|gSR<|Zq (faB 1 Z Z Tryz.underlying25 Z (by exact z9t))<|Zq (ld 1 Z Z (fP (z0p _)) zar Z)<|Zq (z5y Z .rd Z tu22)<|z17 fun x5 h6=>Ef Z (mks (R:=z0j) 4 Z Z h6 tu67 ti4 Zr.bool Z) fun v7=>Eb Z (z71 5 ti67 (.val Z)) fun v8=>Es (zmt 5 Z Z (.here z07) Z z1j z07 ti67)<|Zn<|gSR<|Eb Z (z71 6 ti98 (.val Z)) fun v9=>Zn<|gSR<|Zq (mkf mp0 (mp4 Z Z Z Z))<|Es (zmt 6 Z Z (.here z07) Z z1j z07 ti98)<|Zn<|zax (fun (s10:(List Bool)) aa ww=>Sta (ctx 28 H [] w) [(6,.val (z05 v8 0))] [(4,some (v7,.list z0j 4 s10)),(5,some (v8,.box 67 [.val v7]))] aa ww) ?_ (fun s10=>?_)
 ·
  refine gSR<|Zm Z<|Zq (z5y Z .rd Z tu22)<|Zm Z<|Zn<|z3e (fun (s11:(List Bool) × Int) aa ww=>Sta (ctx 28 H [] w) [(6,.val (z05 v8 0)),(7,.val (z05 v9 0)),(17,.rd (z02 aZ) a1),(18,.rd z09 (a1.length:Int)),(19,.rd z09 s11.2)] [(4,some (v7,.list z0j 4 s11.1)),(5,some (v8,.box 67 [.val v7])),(6,some (v9,.box 98 [.val (.func (.func 63) #[] #[z05 v4 0,z05 v8 0,z05 v1 0,z05 v9 0])])),(2,some ((n3 0),.map aZ z09 r2)),(3,some (v4,.box 65 [.val (n3 0)])),(1,some (v1,.box 25 [.rd z01 a0]))] aa ww) (fun aa ww h=>Zu h [4,5,6,2,3,1]) (fun s11=>?_)
  refine gSR<|Zq (I.lss Z Z)<|Zn<|z1c<|gIf Z Z (fun h12=>?_) (fun h12=>?_)
  ·
   refine Zt<|z1c<|z7x<|gSR<|z17 fun x13 h14=>Zq (ixR Z Z h14 tu22 z30 Z)<|Zq (ldR Z z51)<|Eb Z (z71 7 z30 (.zr (R:=aZ) (x:=(Vector.replicate 32 0)) zd4)) fun v15=>Es (sto 7 Z Z fH Z z30)<|Zn<|z3f<|Zq (ldV 6 Z Z .here sc98 Z)<|Zq (ld 7 Z Z fH z51 Z)<|zh9 [3,2,5,4,1,6] [(1,3),(2,2),(3,5),(4,4),(5,1),(6,6)] (gd0 Z) Z Z Tryz.func63 Z Z (zel _ _ _ _ _ _ _ _ _ _) (Y1 Z) (cQ 3 Z<|cQ 5 Z<|cQ 1 Z<|cQ 6 Z<|cN) (Zi Z<|Zi Z<|Zi Z<|Zi Z<|Zi Z<|Zi Z<|rN) fun r16 n17=>z2p<|z5h<|z15<|z3f<|Zq (I.add Z Z)<|Zm Z<|z2p<|z2q (fun aa ww h=>Zu h [4,5,6,2,3,1])
  ·
   refine z3j<|z26<|z24<|z65 (fun aa ww h=>Zu h [4,5])
 ·
  refine gSR<|Zq (ldV 5 Z Z .here zzl Z)<|Zb Z<|z12<|Ze [v7] [4] Z
def z41 (a0:z00) (a1:V3):Option (Int × Int) :=
 z1g a0 >>= fun r3 =>
 if r3 != 0 then
  some (0,r3)
 else
  z0a a0.IDs a1 >>= fun r6 =>
  if !r6.2 then
   some (0,6)
  else
   some (r6.1,0)
theorem z7k (a0:z00) (a1:V3):z2s Tryz.prog 43 [.rd z01 a0,.rd aZ a1] [zG1] (z41 a0 a1) (fun r nv=>⟨[.rd z09 r.1,.rd z09 r.2],[(1001,some (.bool true,.glob 1 (z3l 64 z0w) z4a))]⟩):=by
 refine z3o 24 Tryz.func43 Z Z Z fun H w=>?_
 refine gSR<|Eb Z (bx 1 Z) fun v1=>Eb Z (bx 2 Z) fun v2=>Za Z<|Zb Z<|z1c<|gSR<|Zq (ld 1 Z Z fH z75 Z)<|Zc [1001] [] Tryz.func23 Z (zb1 _) fun r3 n4=>Zb Z<|gSR<|Zm Z<|Zq (I.neq Z Z)<|Zj Z (fun h5=>?_) (fun h5=>?_)
 ·
  refine gSR<|Zm Z<|Za Z<|Zb Z<|z12<|z1i<|Ze [] [1001] Z
 ·
  refine Zt<|gSR<|Zq (faB 1 Z Z Tryz.underlying25 Z (by exact z9t))<|Zq (ld 1 Z Z (fP (z0p _)) zar Z)<|Zq (ld 2 Z Z fH z51 Z)<|Zc [] [] Tryz.func64 Z (z21 _ _) fun r6 n7=>Zm Z<|Zq (ext Z Z)<|Zq (ext Z Z)<|Za Z<|Zb Z<|z1c<|gSR<|Zm Z<|Zq (zge Z)<|Zj Z (fun h8=>?_) (fun h8=>?_)
  ·
   refine gSR<|Za Z<|Zb Z<|z12<|z1i<|Ze [] [1001] Z
  ·
   refine Zt<|gSR<|Zm Z<|Za Z<|Zb Z<|z12<|Ze [] [1001] Z
def z18 (a0:z00) (a1:V3):Option ((List V3) × Int) :=
 z41 a0 a1 >>= fun r3 =>
 if r3.2 != 0 then
  some ([],r3.2)
 else
  idx a0.Ops r3.1 >>= fun x6 =>
  z6b a0 x6.Preds >>= fun r8 =>
  z6p a0 r8 >>= fun r10 =>
  some (r10,0)
theorem z4o (a0:z00) (a1:V3):z2s Tryz.prog 20 [.rd z01 a0,.rd aZ a1] [zG1] (z18 a0 a1) (fun r nv=>⟨[.val (nv 0),.rd z09 r.2],[(1001,some (.bool true,.glob 1 (z3l 64 z0w) z4a)),(100,some (nv 0,.list aZ 36 r.1))]⟩):=by
 refine z3o 27 Tryz.func20 Z Z Z fun H w=>?_
 refine gSR<|Eb Z (bx 1 Z) fun v1=>Eb Z (bx 2 Z) fun v2=>Za Z<|Zb Z<|gSR<|Zq (ld 1 Z Z fH z75 Z)<|Zq (ld 2 Z Z fH z51 Z)<|Zc [1001] [] Tryz.func43 Z (z7k _ _) fun r3 n4=>Zm Z<|Zq (ext Z Z)<|Zq (ext Z Z)<|Za Z<|Zb Z<|z1c<|gSR<|Zm Z<|Zq (I.neq Z Z)<|Zj Z (fun h5=>?_) (fun h5=>?_)
 ·
  refine gSR<|Zm Z<|Za Z<|Zb Z<|z12<|z1i<|zpe aZ 36 3<|Ze [(.slice none 0 0)] [1001,3] Z
 ·
  refine Zt<|z1c<|zbi [28,31] mixed Z Z<|hTk 0 Z Z (ld 1 Z Z fH z75 Z)<|hTk 1 Z Z (ld 1 Z Z fH z75 Z)<|hTk 2 Z Z (faB 1 Z Z Tryz.underlying25 Z (by exact ze8))<|hTk 3 Z Z (ld 1 Z Z (fP (z0r _)) ziq Z)<|hTk 4 Z Z (mv Z)<|zap fun x6 h7=>hTk 5 Z Z (ixR Z Z h7 tu23 z8b Z)<|hTk 6 Z Z (faR Z (z10 _) Tryz.underlying46 Z Z (by exact z9t))<|hTk 7 Z Z (ldR Z zar)<|z6a 8 [] [(100,28)] Z (by kernel_rfl) Z (gd0 Z) Z Tryz.func40 Z Z (z8y _ _) (Y2 Z Z) rN Z (fun _ _=>z2x) fun r8 n9=>zqw 28 [25] Z (fS Z<|fN)<|z6a 9 [] [(100,31)] Z (by kernel_rfl) Z (gd0 Z) Z Tryz.func39 Z Z (zaq _ _) (Y2 Z Z) rN Z (fun _ _=>z2x) fun r10 n11=>Zf 10 Z Z z2x (asg Z)<|hTk 11 Z Z (asg Z)<|z6e (by kernel_rfl)<|z15<|z12<|Ze [(n11 0)] [1001,31] Z
def z60 (a0:z00) (a1:V3) (a2:V3):Option (Bool × Int) :=
 z41 a0 a1 >>= fun r4 =>
 if r4.2 != 0 then
  some (false,r4.2)
 else
  z41 a0 a2 >>= fun r7 =>
  if r7.2 != 0 then
   some (false,r7.2)
  else
   idx a0.Ops r7.1 >>= fun x10 =>
   z6b a0 x10.Preds >>= fun r12 =>
   idx r12 r4.1 >>= fun x14 =>
   some (x14,0)
theorem zbb (a0:z00) (a1:V3) (a2:V3):z2s Tryz.prog 21 [.rd z01 a0,.rd aZ a1,.rd aZ a2] [zG1] (z60 a0 a1 a2) (fun r nv=>⟨[.rd z0j r.1,.rd z09 r.2],[(1001,some (.bool true,.glob 1 (z3l 64 z0w) z4a))]⟩):=by
 refine z3o 40 Tryz.func21 Z Z Z fun H w=>?_
 refine gSR<|Eb Z (bx 1 Z) fun v1=>Eb Z (bx 2 Z) fun v2=>Eb Z (bx 3 Z) fun v3=>Za Z<|Zb Z<|gSR<|Zq (ld 1 Z Z fH z75 Z)<|Zq (ld 2 Z Z fH z51 Z)<|Zc [1001] [] Tryz.func43 Z (z7k _ _) fun r4 n5=>Zm Z<|Zq (ext Z Z)<|Zq (ext Z Z)<|Za Z<|Zb Z<|z1c<|gSR<|Zm Z<|Zq (I.neq Z Z)<|Zj Z (fun h6=>?_) (fun h6=>?_)
 ·
  refine gSR<|Zm Z<|Za Z<|Zb Z<|z12<|z1i<|Ze [] [1001] Z
 ·
  refine Zt<|gSR<|Zq (ld 1 Z Z fH z75 Z)<|Zq (ld 3 Z Z fH z51 Z)<|Zc [1001] [] Tryz.func43 Z (z7k _ _) fun r7 n8=>Zm Z<|Zq (ext Z Z)<|Zq (ext Z Z)<|Za Z<|Zb Z<|z1c<|gSR<|Zm Z<|Zq (I.neq Z Z)<|Zj Z (fun h9=>?_) (fun h9=>?_)
  ·
   refine gSR<|Zm Z<|Za Z<|Zb Z<|z12<|z1i<|Ze [] [1001] Z
  ·
   refine Zt<|z1c<|zbi [25] mixed Z Z<|hTk 0 Z Z (ld 1 Z Z fH z75 Z)<|hTk 1 Z Z (faB 1 Z Z Tryz.underlying25 Z (by exact ze8))<|hTk 2 Z Z (ld 1 Z Z (fP (z0r _)) ziq Z)<|hTk 3 Z Z (mv Z)<|zap fun x10 h11=>hTk 4 Z Z (ixR Z Z h11 tu23 z8b Z)<|hTk 5 Z Z (faR Z (z10 _) Tryz.underlying46 Z Z (by exact z9t))<|hTk 6 Z Z (ldR Z zar)<|hTk 8 Z Z (mv Z)<|z6a 7 [] [(100,25)] Z (by kernel_rfl) Z (gd0 Z) Z Tryz.func40 Z Z (z8y _ _) (Y2 Z Z) rN Z (fun _ _=>z2x) fun r12 n13=>zap fun x14 h15=>Zf 9 Z Z z2x (ixO 25 Z Z Z h15 tu67 ti4)<|hRun 10 Z (by kernel_rfl) (gd0 Z) Z Z zbx (ld 25 Z Z (Foc.el h15) ty4 Z)<|hTk 11 Z Z (asg Z)<|hTk 12 Z Z (asg Z)<|z6e (by kernel_rfl)<|z15<|z12<|Ze [] [1001] Z
def z5o (r6:(List (V3 × Int))) (x18:V3) (x21:z06) (s23:(List Int) × Int):Option (Sum ((List Int)) ((List Int) × Int)) :=
 if decide (s23.2<(x21.Preds.length:Int)) then
  idx x21.Preds s23.2 >>= fun x25 =>
  idx s23.1 ((zbd r6 x18).getD 0) >>= fun x28 =>
  idx s23.1 ((zbd r6 x25).getD 0) >>= fun x30 =>
  idx s23.1 ((zbd r6 x18).getD 0) >>= fun x32 =>
  some (.inr (s23.1.set ((zbd r6 x18).getD 0:Int).toNat (max x28 (w64 (x30+1))),w64 (s23.2+1)))
 else
  some (.inl s23.1)
def z5e (a0:z00) (r6:(List (V3 × Int))) (r8:(List V3) × Int) (s15:(List Int) × Int):Option (Sum ((List Int)) ((List Int) × Int)) :=
 if decide (s15.2<(r8.1.length:Int)) then
  (idx r8.1 s15.2 >>= fun x18 =>
  idx a0.Ops ((zbd r6 x18).getD 0) >>= fun x21 =>
  iter (z5o r6 x18 x21) (s15.1,0)) >>= fun s17 =>
  some (.inr (s17,w64 (s15.2+1)))
 else
  some (.inl s15.1)
def z2z (a0:z00) (a1:V3):Option (Int × Int) :=
 z41 a0 a1 >>= fun r3 =>
 if r3.2 != 0 then
  some (0,r3.2)
 else
  z2o a0 >>= fun r6 =>
  z2n a0 >>= fun r8 =>
  if r8.2 != 0 then
   some (0,r8.2)
  else
   mkn 8 0 (a0.IDs.length:Int) >>= fun x11 =>
   (iter (z5e a0 r6 r8) (x11,0)) >>= fun s14 =>
   idx s14 r3.1 >>= fun x35 =>
   some (x35,0)
set_option maxHeartbeats 4000000 in
theorem z8p (a0:z00) (a1:V3):z2s Tryz.prog 22 [.rd z01 a0,.rd aZ a1] [zG1] (z2z a0 a1) (fun r nv=>⟨[.rd z09 r.1,.rd z09 r.2],[(1001,some (.bool true,.glob 1 (z3l 64 z0w) z4a))]⟩):=by
 refine z3o 82 Tryz.func22 Z Z Z fun H w=>?_
 refine gSR<|Eb Z (bx 1 Z) fun v1=>Eb Z (bx 2 Z) fun v2=>Za Z<|Zb Z<|gSR<|Zq (ld 1 Z Z fH z75 Z)<|Zq (ld 2 Z Z fH z51 Z)<|Zc [1001] [] Tryz.func43 Z (z7k _ _) fun r3 n4=>Zm Z<|Zq (ext Z Z)<|Zq (ext Z Z)<|Za Z<|Zb Z<|z1c<|gSR<|Zm Z<|Zq (I.neq Z Z)<|Zj Z (fun h5=>?_) (fun h5=>?_)
 ·
  refine gSR<|Zm Z<|Za Z<|Zb Z<|z12<|z1i<|Ze [] [1001] Z
 ·
  refine Zt<|gSR<|Zq (ld 1 Z Z fH z75 Z)<|Zc [] [(100,3)] Tryz.func31 Z (z4v _) fun r6 n7=>Zb Z<|gSR<|Zq (ld 1 Z Z fH z75 Z)<|Zc [1001] [(100,4)] Tryz.func10 Z (z6t _) fun r8 n9=>Zm Z<|Zq (ext Z Z)<|Zq (ext Z Z)<|Za Z<|Zb Z<|z1c<|gSR<|Zm Z<|Zq (I.neq Z Z)<|Zj Z (fun h10=>?_) (fun h10=>?_)
  ·
   refine gSR<|Zm Z<|Za Z<|Zb Z<|z12<|z1i<|Ze [] [1001] Z
  ·
   refine Zt<|gSR<|Zq (faB 1 Z Z Tryz.underlying25 Z (by exact z9t))<|Zq (ld 1 Z Z (fP (z0p _)) zar Z)<|Zq (z5y Z .rd Z tu22)<|z17 fun x11 h12=>Ef Z (mks (R:=z09) 5 Z Z h12 tu80 ti3 (Zr.num Z) Z) fun v13=>Zb Z<|zax (fun (s14:(List Int)) aa ww=>Sta (ctx 82 H [zG1] w) [(6,.rd z09 r3.1),(10,.val v13)] [(5,some (v13,.list z09 3 s14)),zG1] aa ww) ?_ (fun s14=>?_)
   ·
    refine gSR<|Zm Z<|Zq (z5y Z (.own 4 Z) Z tu22)<|Zm Z<|Zn<|z3e (fun (s15:(List Int) × Int) aa ww=>Sta (ctx 82 H [zG1] w) [(2,.val (z05 v1 0)),(6,.rd z09 r3.1),(8,.val (n7 0)),(10,.val v13),(38,.val (n9 0)),(39,.rd z09 (r8.1.length:Int)),(40,.rd z09 s15.2)] [(1,some (v1,.box 25 [.rd z01 a0])),(3,some ((n7 0),.map aZ z09 r6)),(5,some (v13,.list z09 3 s15.1)),(4,some ((n9 0),.list aZ 36 r8.1)),zG1] aa ww) (fun aa ww h=>Zu h [1,3,5,4,1001]) (fun s15=>?_)
    refine gSR<|Zq (I.lss Z Z)<|Zn<|z1c<|gIf Z Z (fun h16=>?_) (fun h16=>?_)
    ·
     refine Zt<|zax (fun (s17:(List Int)) aa ww=>Sta (ctx 82 H [zG1] w) [(2,.val (z05 v1 0)),(6,.rd z09 r3.1),(8,.val (n7 0)),(10,.val v13),(38,.val (n9 0)),(39,.rd z09 (r8.1.length:Int)),(40,.rd z09 s15.2)] [(1,some (v1,.box 25 [.rd z01 a0])),(3,some ((n7 0),.map aZ z09 r6)),(5,some (v13,.list z09 3 s17)),(4,some ((n9 0),.list aZ 36 r8.1)),zG1] aa ww) ?_ (fun s17=>?_)
     ·
      refine z7x<|gSR<|z17 fun x18 h19=>Zq (ixO 4 Z Z Z h19 tu22 z30)<|Zq (ld 4 Z Z (Foc.el h19) z51 Z)<|Eb Z (z71 1100 z30 (.zr (R:=aZ) (x:=(Vector.replicate 32 0)) zd4)) fun v20=>Es (sto 1100 Z Z fH Z z30)<|Zn<|z1c<|zkh mixed (by kernel_rfl)<|Rq Z (faB 1 Z Z Tryz.underlying25 Z (by exact ze8))<|Rq Z (ld 1 Z Z (fP (z0r _)) ziq Z)<|Rq Z (mv Z)<|Rq Z (ld 1100 Z Z fH z51 Z)<|Rq Z (mlk Z (.own 3 Z Z) Z zv3 Tryz.underlying65 ti3 (Zr.num Z) Z)<|za0 fun x21 h22=>Rq Z (ixR Z Z h22 tu23 z8b Z)<|Rq Z (faR Z (z10 _) Tryz.underlying46 Z Z (by exact z9t))<|Rq Z (ldR Z zar)<|Rq Z (z5y Z .rd Z tu22)<|Rq Z (mv Z)<|zuk<|z15<|z3e (fun (s23:(List Int) × Int) aa ww=>Sta (ctx 82 H [zG1] w) [(2,.val (z05 v1 0)),(6,.rd z09 r3.1),(8,.val (n7 0)),(10,.val v13),(12,.val (z05 v20 0)),(38,.val (n9 0)),(39,.rd z09 (r8.1.length:Int)),(40,.rd z09 s15.2),(51,.rd (z02 aZ) x21.Preds),(52,.rd z09 (x21.Preds.length:Int)),(53,.rd z09 s23.2)] [(1,some (v1,.box 25 [.rd z01 a0])),(3,some ((n7 0),.map aZ z09 r6)),(5,some (v13,.list z09 3 s23.1)),(1100,some (v20,.box 36 [.rd aZ x18])),(4,some ((n9 0),.list aZ 36 r8.1)),zG1] aa ww) (fun aa ww h=>Zu h [1,3,5,1100,4,1001]) (fun s23=>?_)
      refine gSR<|Zq (I.lss Z Z)<|Zn<|z1c<|gIf Z Z (fun h24=>?_) (fun h24=>?_)
      ·
       refine Zt<|z1c<|z7x<|gSR<|z17 fun x25 h26=>Zq (ixR Z Z h26 tu22 z30 Z)<|Zq (ldR Z z51)<|Eb Z (z71 1101 z30 (.zr (R:=aZ) (x:=(Vector.replicate 32 0)) zd4)) fun v27=>Es (sto 1101 Z Z fH Z z30)<|Zn<|zs6 [(2,.val (z05 v1 0)),(6,.rd z09 r3.1),(8,.val (n7 0)),(10,.val v13),(12,.val (z05 v20 0)),(38,.val (n9 0)),(39,.rd z09 (r8.1.length:Int)),(40,.rd z09 s15.2),(51,.rd (z02 aZ) x21.Preds),(52,.rd z09 (x21.Preds.length:Int)),(53,.rd z09 s23.2),(14,.val (z05 v27 0))] [(1,some (v1,.box 25 [.rd z01 a0])),(3,some ((n7 0),.map aZ z09 r6)),(5,some (v13,.list z09 3 s23.1)),(1100,some (v20,.box 36 [.rd aZ x18])),(4,some ((n9 0),.list aZ 36 r8.1)),zG1,(1101,some (v27,.box 36 [.rd aZ x25]))] [1,3,5,1100,4,1001,1101] (Zs Z Z Z Z<|Zs Z Z Z Z<|Zs Z Z Z Z<|sN) (Zi Z<|Zi Z<|Zi Z<|Zi Z<|Zi Z<|Zi Z<|Zi Z<|rN)<|z7w fun x28 h29=>z7w fun x30 h31=>z7w fun x32 h33=>gOr [] [⟨1100,some ([], fun nv=>(v20,.box 36 [.rd aZ x18])),[]⟩,⟨3,some ([], fun nv=>((n7 0),.map aZ z09 r6)),[]⟩,⟨5,some ([], fun nv=>(v13,.list z09 3 s23.1)),[(19,some ([], fun nv=>(v13,.list z09 3 (s23.1.set ((zbd r6 x18).getD 0:Int).toNat (max x28 (w64 (x30+1)))))))]⟩,⟨1101,some ([], fun nv=>(v27,.box 36 [.rd aZ x25])),[]⟩] [pd 57 (.val v13),pd 58 (.val (n7 0)),pk 59 (.rd aZ x18) [(0,0,false)],pk 60 (.rd z09 ((zbd r6 x18).getD 0)) [(1,0,false)],pd 61 (.val v13),pd 62 (.val (n7 0)),pk 63 (.rd aZ x18) [(0,0,false)],pk 64 (.rd z09 ((zbd r6 x18).getD 0)) [(1,0,false)],pk 65 (.val (z05 v13 (((zbd r6 x18).getD 0:Int).toNat * 1))) [(2,0,false)],pk 66 (.rd z09 x28) [(2,0,false)],pd 67 (.val v13),pd 68 (.val (n7 0)),pk 69 (.rd aZ x25) [(3,0,false)],pk 70 (.rd z09 ((zbd r6 x25).getD 0)) [(1,0,false)],pk 71 (.val (z05 v13 (((zbd r6 x25).getD 0:Int).toNat * 1))) [(2,0,false)],pk 72 (.rd z09 x30) [(2,0,false)],pd 73 (.rd z09 (w64 (x30+1))),pd 74 (.rd z09 (max x28 (w64 (x30+1)))),pk 75 (.val (z05 v13 (((zbd r6 x18).getD 0:Int).toNat * 1))) [(2,0,false)],⟨none,[(2,0,true)],[],[]⟩] mixed (oC (oRn (fun nv E=>mv Z))<|oC (oRn (fun nv E=>mv Z))<|oC (oRn (fun nv E=>ld 1100 Z Z fH z51 Z))<|oC (oRn (fun nv E=>mlk Z (.own 3 Z Z) Z zv3 Tryz.underlying65 ti3 (Zr.num Z) Z))<|oC (oRn (fun nv E=>mv Z))<|oC (oRn (fun nv E=>mv Z))<|oC (oRn (fun nv E=>ld 1100 Z Z fH z51 Z))<|oC (oRn (fun nv E=>mlk Z (.own 3 Z Z) Z zv3 Tryz.underlying65 ti3 (Zr.num Z) Z))<|oC (oRn (fun nv E=>ixO 5 Z Z Z h29 tu80 ti3))<|oC (oRn (fun nv E=>ld 5 Z Z (Foc.el h29) ty3 Z))<|oC (oRn (fun nv E=>mv Z))<|oC (oRn (fun nv E=>mv Z))<|oC (oRn (fun nv E=>ld 1101 Z Z fH z51 Z))<|oC (oRn (fun nv E=>mlk Z (.own 3 Z Z) Z zv3 Tryz.underlying65 ti3 (Zr.num Z) Z))<|oC (oRn (fun nv E=>ixO 5 Z Z Z h31 tu80 ti3))<|oC (oRn (fun nv E=>ld 5 Z Z (Foc.el h31) ty3 Z))<|oC (oRn (fun nv E=>I.add Z Z))<|oC (oRn (fun nv E=>I.max Z Z))<|oC (oRn (fun nv E=>ixO 5 Z Z Z h33 tu80 ti3))<|oC (oEs 5 (fun nv E=>sto 5 Z Z (Foc.el h33) Z ti3))<|oN) fun n34=>z5h<|z15<|z3f<|Zq (I.add Z Z)<|Zm Z<|z2p<|z2q (fun aa ww h=>Zu h [1,3,5,1100,4,1001])
      ·
       refine z3j<|z26<|z24<|z5h<|z65 (fun aa ww h=>Zu h [1,3,5,4,1001])
     ·
      refine z3f<|Zq (I.add Z Z)<|Zm Z<|z2p<|z2q (fun aa ww h=>Zu h [1,3,5,4,1001])
    ·
     refine z3j<|z26<|z24<|z65 (fun aa ww h=>Zu h [5,1001])
   ·
    refine gSR<|Zm Z<|Zm Z<|z17 fun x35 h36=>Zq (ixO 5 Z Z Z h36 tu80 ti3)<|Zq (ld 5 Z Z (Foc.el h36) ty3 Z)<|Za Z<|Zb Z<|z12<|Ze [] [1001] Z
def z1r (a0:List V3) (a1:List V3) (s3:Int):Option (Sum (Sum Bool Unit) Int) :=
 if decide (s3<(a0.length:Int)) then
  idx a0 s3 >>= fun x5 =>
  idx a1 s3 >>= fun x7 =>
  if !decide (x5=x7) then
   some (.inl (.inl false))
  else
   some (.inr (w64 (s3+1)))
 else
  some (.inl (.inr ()))
def z1h (a0:List V3) (a1:List V3):Option (Bool) :=
 if (a0.length:Int) != (a1.length:Int) then
  some false
 else
  z6j (iter (z1r a0 a1) 0) fun s2 =>
  some true
theorem z2u (a0:List V3) (a1:List V3):z2s Tryz.prog 12 [.rd (z02 aZ) a0,.rd (z02 aZ) a1] [] (z1h a0 a1) (fun r nv=>⟨[.rd z0j r],[]⟩):=by
 refine z3o 26 Tryz.func12 Z Z Z fun H w=>?_
 refine gSR<|Zb Z<|z1c<|gSR<|Zm Z<|Zq (z5y Z .rd Z tu22)<|Zm Z<|Zq (z5y Z .rd Z tu22)<|Zq (I.neq Z Z)<|Zj Z (fun h1=>?_) (fun h1=>?_)
 ·
  refine gSR<|Zb Z<|z12<|z1i<|Ze [] [] Z
 ·
  refine Zt<|zcy (fun (s2:Unit) aa ww=>Sta (ctx 26 H [] w) [] [] aa ww) ?_ (fun s2=>?_)
  ·
   refine gSR<|Zb Z<|z3e (fun (s3:Int) aa ww=>Sta (ctx 26 H [] w) [(0,.rd (z02 aZ) a0),(1,.rd (z02 aZ) a1),(5,.rd z09 s3)] [] aa ww) (fun aa ww h=>Zu h []) (fun s3=>?_)
   refine z1c<|gSR<|Zm Z<|Zm Z<|Zq (z5y Z .rd Z tu22)<|Zq (I.lss Z Z)<|Zj Z (fun h4=>?_) (fun h4=>?_)
   ·
    refine Zt<|z1c<|z7x<|z1c<|zkh mixed (by kernel_rfl)<|Rq Z (mv Z)<|Rq Z (mv Z)<|za0 fun x5 h6=>Rq Z (ixR Z Z h6 tu22 z30 Z)<|Rq Z (ldR Z z51)<|Rq Z (mv Z)<|Rq Z (mv Z)<|za0 fun x7 h8=>Rq Z (ixR Z Z h8 tu22 z30 Z)<|Rq Z (ldR Z z51)<|Rq Z (neA Z Z eq36 Z Z gq36)<|zuk<|z15<|gIf Z Z (fun h9=>?_) (fun h9=>?_)
    ·
     refine gSR<|Zb Z<|z12<|z8k<|z1i<|zcc<|zcf<|Ze [] [] Z
    ·
     refine z6s<|z5h<|z15<|z3f<|Zm Z<|Zq (I.add Z Z)<|Za Z<|z2p<|z2q (fun aa ww h=>Zu h [])
   ·
    refine z3j<|z26<|z24<|zcx (fun aa ww h=>Zu h [])
  ·
   refine gSR<|Zb Z<|z12<|Ze [] [] Z
def z7z (a0:z06) (a1:z06):Option (Bool) :=
 if a0.Author==a1.Author then
  z1h a0.Preds a1.Preds >>= fun r4 =>
  if r4 then
   if a0.Stamp==a1.Stamp then
    if decide (a0.Act=a1.Act) then
     some (decide (a0.Sig=a1.Sig)) >>= fun y9 =>
     some y9
    else
     some false
   else
    some false
  else
   some false
 else
  some false
theorem zfe (a0:z06) (a1:z06):z2s Tryz.prog 42 [.rd z03 a0,.rd z03 a1] [] (z7z a0 a1) (fun r nv=>⟨[.rd z0j r],[]⟩):=by
 refine z3o 38 Tryz.func42 Z Z Z fun H w=>?_
 refine gSR<|Eb Z (bx 1 Z) fun v1=>Eb Z (bx 2 Z) fun v2=>Zb Z<|gSR<|Zq (faB 1 Z Z Tryz.underlying46 Z (by exact z8l))<|Zq (ld 1 Z Z (fP (z4m _)) zbt Z)<|Zq (faB 2 Z Z Tryz.underlying46 Z (by exact z8l))<|Zq (ld 2 Z Z (fP (z4m _)) zbt Z)<|Zq (W.eql Z Z)<|Zm Z<|z2i 10 Z (fun h3=>?_) (fun h3=>?_)
 ·
  refine lKn 9 Z h3<|z2l Zx Z Z (faB 1 Z Z Tryz.underlying46 Z (by exact z9t))<|z2l Zx Z Z (ld 1 Z Z (fP (z10 _)) zar Z)<|z2l Zx Z Z (faB 2 Z Z Tryz.underlying46 Z (by exact z9t))<|z2l Zx Z Z (ld 2 Z Z (fP (z10 _)) zar Z)<|zk6 [] [] Zx Z Tryz.func12 Z Z (z2u _ _) (Y2 Z Z) rN fun r4 n5=>Zq (pkT Z Z)<|Zm Z<|z2i 17 Z (fun h6=>?_) (fun h6=>?_)
  ·
   refine lKn 15 Z h6<|lKn 16 Z h6<|z2l Zx Z Z (faB 1 Z Z Tryz.underlying46 Z (by exact zzp))<|z2l Zx Z Z (ld 1 Z Z (fP (z8g _)) zye Z)<|z2l Zx Z Z (faB 2 Z Z Tryz.underlying46 Z (by exact zzp))<|z2l Zx Z Z (ld 2 Z Z (fP (z8g _)) zye Z)<|z2l Zx Z Z (U.eql Z Z)<|Zq (pkT Z Z)<|Zm Z<|z2i 24 Z (fun h7=>?_) (fun h7=>?_)
   ·
    refine lKn 22 Z h7<|lKn 23 Z h7<|z2l Zx Z Z (faB 1 Z Z Tryz.underlying46 Z (by exact zt1))<|z2l Zx Z Z (ld 1 Z Z (fP (z44 _)) ty42 Z)<|z2l Zx Z Z (faB 2 Z Z Tryz.underlying46 Z (by exact zt1))<|z2l Zx Z Z (ld 2 Z Z (fP (z44 _)) ty42 Z)<|z2l Zx Z Z (eqA Z Z eq42 Z Z gq42)<|Zq (pkT Z Z)<|Zm Z<|z2i 31 Z (fun h8=>?_) (fun h8=>?_)
    ·
     refine lKn 29 Z h8<|lKn 30 Z h8<|z2l Zx Z Z (faB 1 Z Z Tryz.underlying46 Z (by exact zku))<|z2l Zx Z Z (ld 1 Z Z (fP (z3z _)) ty44 Z)<|z2l Zx Z Z (faB 2 Z Z Tryz.underlying46 Z (by exact zku))<|z2l Zx Z Z (ld 2 Z Z (fP (z3z _)) ty44 Z)<|z2l Zx Z Z (eqA Z Z eq44 Z Z gq44)<|Zq (pkT Z Z)<|Za Z<|z38 4 Z fun y9=>Zn<|z12<|Ze [] [] Z
    ·
     refine lKn 29 Z h8<|lKn 30 Z h8<|Zk Z<|Zk Z<|Zk Z<|Zk Z<|Zk Z<|Zq (pkF Z Z)<|Zb Z<|z12<|Ze [] [] Z
   ·
    refine lKn 22 Z h7<|lKn 23 Z h7<|Zk Z<|Zk Z<|Zk Z<|Zk Z<|Zk Z<|Zq (pkF Z Z)<|Zm Z<|Zk Z<|Zk Z<|Zk Z<|Zk Z<|Zk Z<|Zq (pkF Z Z)<|Zb Z<|z12<|Ze [] [] Z
  ·
   refine lKn 15 Z h6<|lKn 16 Z h6<|Zk Z<|Zk Z<|Zk Z<|Zk Z<|Zk Z<|Zq (pkF Z Z)<|Zm Z<|Zk Z<|Zk Z<|Zk Z<|Zk Z<|Zk Z<|Zq (pkF Z Z)<|Zm Z<|Zk Z<|Zk Z<|Zk Z<|Zk Z<|Zk Z<|Zq (pkF Z Z)<|Zb Z<|z12<|Ze [] [] Z
 ·
  refine lKn 9 Z h3<|Zk Z<|Zk Z<|Zk Z<|Zk Z<|Zk Z<|Zq (pkF Z Z)<|Zm Z<|Zk Z<|Zk Z<|Zk Z<|Zk Z<|Zk Z<|Zq (pkF Z Z)<|Zm Z<|Zk Z<|Zk Z<|Zk Z<|Zk Z<|Zk Z<|Zq (pkF Z Z)<|Zm Z<|Zk Z<|Zk Z<|Zk Z<|Zk Z<|Zk Z<|Zq (pkF Z Z)<|Zb Z<|z12<|Ze [] [] Z
def z6h (a0:z00) (a1:z00) (s8:Int):Option (Sum (Sum Bool Unit) Int) :=
 if decide (s8<(a0.Ops.length:Int)) then
  idx a0.Ops s8 >>= fun x10 =>
  idx a1.Ops s8 >>= fun x12 =>
  z7z x10 x12 >>= fun r14 =>
  if !r14 then
   some (.inl (.inl false))
  else
   some (.inr (w64 (s8+1)))
 else
  some (.inl (.inr ()))
def z8e (a0:z00) (a1:z00):Option (Bool) :=
 z1h a0.IDs a1.IDs >>= fun r3 =>
 if !r3 then
  some false
 else
  if (a0.Ops.length:Int) != (a1.Ops.length:Int) then
   some false
  else
   z6j (iter (z6h a0 a1) 0) fun s7 =>
   some true
end
section
open Go Go.RowKit
set_option maxRecDepth 100000
theorem zfi (a0:z00) (a1:z00):z2s Tryz.prog 19 [.rd z01 a0,.rd z01 a1] [] (z8e a0 a1) (fun r nv=>⟨[.rd z0j r],[]⟩):=by
 refine z3o 40 Tryz.func19 Z Z Z fun H w=>?_
 refine gSR<|Eb Z (bx 1 Z) fun v1=>Eb Z (bx 2 Z) fun v2=>Zb Z<|z1c<|gSR<|Zq (faB 1 Z Z Tryz.underlying25 Z (by exact z9t))<|Zq (ld 1 Z Z (fP (z0p _)) zar Z)<|Zq (faB 2 Z Z Tryz.underlying25 Z (by exact z9t))<|Zq (ld 2 Z Z (fP (z0p _)) zar Z)<|Zc [] [] Tryz.func12 Z (z2u _ _) fun r3 n4=>Zq (zge Z)<|Zm Z<|z2i 12 Z (fun h5=>?_) (fun h5=>?_)
 ·
  refine lKn 11 Z h5<|Zk Z<|Zk Z<|Zk Z<|Zk Z<|Zk Z<|Zk Z<|Zk Z<|Zq (pkT Z Z)<|Zn<|zis Z<|gSR<|Zb Z<|z12<|z1i<|Ze [] [] Z
 ·
  refine lKn 11 Z h5<|z2l Zx Z Z (faB 1 Z Z Tryz.underlying25 Z (by exact ze8))<|z2l Zx Z Z (ld 1 Z Z (fP (z0r _)) ziq Z)<|z2l Zx Z Z (z5y Z .rd Z tu23)<|z2l Zx Z Z (faB 2 Z Z Tryz.underlying25 Z (by exact ze8))<|z2l Zx Z Z (ld 2 Z Z (fP (z0r _)) ziq Z)<|z2l Zx Z Z (z5y Z .rd Z tu23)<|z2l Zx Z Z (I.neq Z Z)<|Zq (pkF Z Z)<|Zj Z (fun h6=>?_) (fun h6=>?_)
  ·
   refine gKn 19 Z h6<|gSR<|Zb Z<|z12<|z1i<|Ze [] [] Z
  ·
   refine gKn 19 Z h6<|Zt<|zcy (fun (s7:Unit) aa ww=>Sta (ctx 40 H [] w) [] [] aa ww) ?_ (fun s7=>?_)
   ·
    refine gSR<|Zb Z<|z3e (fun (s8:Int) aa ww=>Sta (ctx 40 H [] w) [(2,.val (z05 v1 0)),(3,.val (z05 v2 0)),(5,.rd z09 s8)] [(1,some (v1,.box 25 [.rd z01 a0])),(2,some (v2,.box 25 [.rd z01 a1]))] aa ww) (fun aa ww h=>Zu h [1,2]) (fun s8=>?_)
    refine z1c<|gSR<|Zm Z<|Zq (faB 1 Z Z Tryz.underlying25 Z (by exact ze8))<|Zq (ld 1 Z Z (fP (z0r _)) ziq Z)<|Zq (z5y Z .rd Z tu23)<|Zq (I.lss Z Z)<|Zj Z (fun h9=>?_) (fun h9=>?_)
    ·
     refine Zt<|z1c<|z7x<|z1c<|zbi [] mixed Z Z<|hTk 0 Z Z (faB 1 Z Z Tryz.underlying25 Z (by exact ze8))<|hTk 1 Z Z (ld 1 Z Z (fP (z0r _)) ziq Z)<|hTk 2 Z Z (mv Z)<|zap fun x10 h11=>hTk 3 Z Z (ixR Z Z h11 tu23 z8b Z)<|hTk 4 Z Z (ldR Z z9x)<|hTk 5 Z Z (faB 2 Z Z Tryz.underlying25 Z (by exact ze8))<|hTk 6 Z Z (ld 2 Z Z (fP (z0r _)) ziq Z)<|hTk 7 Z Z (mv Z)<|zap fun x12 h13=>hTk 8 Z Z (ixR Z Z h13 tu23 z8b Z)<|hTk 9 Z Z (ldR Z z9x)<|z6a 10 [] [] Z (by kernel_rfl) Z (gd0 Z) Z Tryz.func42 Z Z (zfe _ _) (Y2 Z Z) rN Z (fun _ _=>zbx) fun r14 n15=>hTk 11 Z Z (zge Z)<|z6e (by kernel_rfl)<|z15<|gIf Z Z (fun h16=>?_) (fun h16=>?_)
     ·
      refine gSR<|Zb Z<|z12<|z8k<|z1i<|zcc<|zcf<|Ze [] [] Z
     ·
      refine z6s<|z5h<|z15<|z3f<|Zm Z<|Zq (I.add Z Z)<|Za Z<|z2p<|z2q (fun aa ww h=>Zu h [1,2])
    ·
     refine z3j<|z26<|z24<|zcx (fun aa ww h=>Zu h [])
   ·
    refine gSR<|Zb Z<|z12<|Ze [] [] Z
end
section
open Go Go.Shelf
def ztc:Go.Shelf.Ren:=⟨fun | 6=>50 | 15=>73 | 14=>72 | 28=>112 | 29=>113 | 20=>104 | 21=>105 | 22=>106 | 23=>107 | 24=>108 | 25=>109 | 26=>110 | 27=>111 | 46=>142 | 47=>143 | 48=>144 | 49=>145 | 50=>146 | 57=>166 | n=>n, fun | 22=>22 | 24=>36 | 25=>47 | 3=>3 | 39=>109 | 0=>0 | 53=>37 | 55=>38 | 4=>4 | 46=>137 | 45=>136 | 50=>85 | 5=>5 | 9=>9 | 66=>170 | 70=>174 | 76=>192 | 77=>193 | n=>n, fun | n=>n⟩
theorem z11o:Go.Proofs.SlLaysF0.n6 Tryz.prog ztc:={
 mixed:=by kernel_rfl
 f6:=⟨Tryz.f50.name, by decide,Tryz.func50.trans (congrArg some (by kernel_rfl))⟩
 f14:=⟨Tryz.f72.name, by decide,Tryz.func72.trans (congrArg some (by kernel_rfl))⟩
 f15:=Tryz.func73.trans (congrArg some (by kernel_rfl))
 f20:=⟨Tryz.f104.name, by decide,Tryz.func104.trans (congrArg some (by kernel_rfl))⟩
 f21:=⟨Tryz.f105.name, by decide,Tryz.func105.trans (congrArg some (by kernel_rfl))⟩
 f22:=⟨Tryz.f106.name, by decide,Tryz.func106.trans (congrArg some (by kernel_rfl))⟩
 f23:=⟨Tryz.f107.name, by decide,Tryz.func107.trans (congrArg some (by kernel_rfl))⟩
 f24:=⟨Tryz.f108.name, by decide,Tryz.func108.trans (congrArg some (by kernel_rfl))⟩
 f25:=⟨Tryz.f109.name, by decide,Tryz.func109.trans (congrArg some (by kernel_rfl))⟩
 f26:=⟨Tryz.f110.name, by decide,Tryz.func110.trans (congrArg some (by kernel_rfl))⟩
 f27:=⟨Tryz.f111.name, by decide,Tryz.func111.trans (congrArg some (by kernel_rfl))⟩
 f28:=Tryz.func112.trans (congrArg some (by kernel_rfl))
 f29:=Tryz.func113.trans (congrArg some (by kernel_rfl))
 f46:=⟨Tryz.f142.name, by decide,Tryz.func142.trans (congrArg some (by kernel_rfl))⟩
 f47:=Tryz.func143.trans (congrArg some (by kernel_rfl))
 f48:=Tryz.func144.trans (congrArg some (by kernel_rfl))
 f49:=⟨Tryz.f145.name, by decide,Tryz.func145.trans (congrArg some (by kernel_rfl))⟩
 f50:=⟨Tryz.f146.name, by decide,Tryz.func146.trans (congrArg some (by kernel_rfl))⟩
 f57:=⟨Tryz.f166.name, by decide,Tryz.func166.trans (congrArg some (by kernel_rfl))⟩
 t0:=Tryz.underlying0
 a0:=Tryz.isAgg0
 z0:=Tryz.sizeOf0
 v0:=Tryz.zeroValue0
 t3:=Tryz.underlying3
 a3:=Tryz.isAgg3
 z3:=Tryz.sizeOf3
 v3:=Tryz.zeroValue3
 t4:=Tryz.underlying4
 a4:=Tryz.isAgg4
 z4:=Tryz.sizeOf4
 v4:=Tryz.zeroValue4
 t5:=Tryz.underlying5
 a5:=Tryz.isAgg5
 z5:=Tryz.sizeOf5
 v5:=Tryz.zeroValue5
 t9:=Tryz.underlying9
 a9:=Tryz.isAgg9
 z9:=Tryz.sizeOf9
 v9:=Tryz.zeroValue9
 t22:=Tryz.underlying22
 a22:=Tryz.isAgg22
 z22:=Tryz.sizeOf22
 v22:=Tryz.zeroValue22
 t25:=Tryz.underlying47
 a25:=Tryz.isAgg47
 z25:=Tryz.sizeOf47
 v25:=Tryz.zeroValue47
 t39:=Tryz.underlying109
 a39:=Tryz.isAgg109
 z39:=Tryz.sizeOf109
 v39:=Tryz.zeroValue109
 t45:=Tryz.underlying136
 a45:=Tryz.isAgg136
 z45:=Tryz.sizeOf136
 v45:=Tryz.zeroValue136
 t46:=Tryz.underlying137
 a46:=Tryz.isAgg137
 z46:=Tryz.sizeOf137
 v46:=Tryz.zeroValue137
 t50:=Tryz.underlying85
 a50:=Tryz.isAgg85
 z50:=Tryz.sizeOf85
 v50:=Tryz.zeroValue85
 t53:=Tryz.underlying37
 a53:=Tryz.isAgg37
 z53:=Tryz.sizeOf37
 v53:=Tryz.zeroValue37
 t55:=Tryz.underlying38
 a55:=Tryz.isAgg38
 z55:=Tryz.sizeOf38
 v55:=Tryz.zeroValue38
 t66:=Tryz.underlying170
 a66:=Tryz.isAgg170
 z66:=Tryz.sizeOf170
 v66:=Tryz.zeroValue170
 t70:=Tryz.underlying174
 a70:=Tryz.isAgg174
 z70:=Tryz.sizeOf174
 v70:=Tryz.zeroValue174
 t76:=Tryz.underlying192
 a76:=Tryz.isAgg192
 z76:=Tryz.sizeOf192
 v76:=Tryz.zeroValue192
 t77:=Tryz.underlying193
 a77:=Tryz.isAgg193
 z77:=Tryz.sizeOf193
 v77:=Tryz.zeroValue193 }
end
section
open Go Go.Shelf Go.RowKit Go.Lib Go.Sort
def z8j (x:V3):List Value:=x.toList.map fun c=>Value.int .u8 (c.toNat:Int)
theorem zdn (x:V3):(z8j x).length=32:=by simp [z8j]
theorem zvc (x y:V3) (b c:Nat) (W:World) (hx:∀ j u,(z8j x)[j]? = some u→W.cell? ⟨b,0+j,none⟩=some u) (hy:∀ j u,(z8j y)[j]? = some u→W.cell? ⟨c,0+j,none⟩=some u) :
  (callFunc 114 #[.slice (some ⟨b,0,none⟩) 32 32,.slice (some ⟨c,0,none⟩) 32 32]).run Tryz.prog W=.ok (.value (.int .i64 (Lib.compareBytes x.toList y.toList))) W:=by
 have lx:x.toList.length=32:=by simp
 have ly:y.toList.length=32:=by simp
 have e:=zg6 (P:=Tryz.prog) (w:=W) (p:=some ⟨b,0,none⟩) (q:=some ⟨c,0,none⟩) (c:=32) (d:=32) (x:=x.toList) (y:=y.toList) (xs:=z8j x) (ys:=z8j y)
  ⟨by rw [zdn,lx],.inr ⟨b,0,none,32, by rfl, by omega, by decide,.inr rfl,hx⟩⟩ rfl ⟨by rw [zdn,ly],.inr ⟨c,0,none,32, by rfl, by omega, by decide,.inr rfl,hy⟩⟩ rfl
 rw [lx,ly] at e
 rw [run_callFunc_extern Tryz.func114 rfl rfl (by kernel_rfl) (by kernel_rfl),e]
 rfl
set_option maxHeartbeats 1000000 in
set_option maxRecDepth 100000 in
theorem zk7 (x y:V3) (b c:Nat) (W:World) (hx:∀ j u,(z8j x)[j]? = some u→W.cell? ⟨b,0+j,none⟩=some u) (hy:∀ j u,(z8j y)[j]? = some u→W.cell? ⟨c,0+j,none⟩=some u) :
  Calls Tryz.prog 74 #[.slice (some ⟨b,0,none⟩) 32 32,.slice (some ⟨c,0,none⟩) 32 32] W fun e w'=>e=.returned (.int .i64 (Lib.compareBytes x.toList y.toList))∧w'=W:=by
 have e:=zvc x y b c W hx hy
 go_enter Tryz.func74,Tryz.ntmps74
 go_wp2
 go_ret
 exact ⟨rfl,rfl⟩
theorem zny {w:World} {b j:Nat} {c:Array Value} {T:TypeId} {fr:Nat × Nat} {u:Value} (h:w.heap[b]? = some (.cells c T fr)) (hj:c[j]? = some u):w.cell? ⟨b,0+j,none⟩=some u:=by
 unfold World.cell?
 rw [h]
 simpa using hj
theorem zxw (W:World) (xs ys:List Value) (n j:Nat) (u:Value) (h:xs[j]? = some u):(((W.alloc (.cells xs.toArray 36)).alloc (.cells ys.toArray 36)).drewN n).cell? ⟨W.heap.size,0+j,none⟩=some u :=
 zny (c:=xs.toArray) (T:=36) (fr:=(0,0)) (by
  show ((W.heap.push _).push _)[W.heap.size]? = _
  rw [Array.getElem?_push_lt (by simp)]; simp) (by simpa using h)
theorem zys (W:World) (xs ys:List Value) (n j:Nat) (u:Value) (h:ys[j]? = some u):(((W.alloc (.cells xs.toArray 36)).alloc (.cells ys.toArray 36)).drewN n).cell? ⟨W.heap.size+1,0+j,none⟩=some u :=
 zny (c:=ys.toArray) (T:=36) (fr:=(0,0)) (by
  show ((W.heap.push _).push _)[W.heap.size+1]? = _
  have:W.heap.size+1=(W.heap.push (Obj.cells xs.toArray 36)).size:=by simp
  rw [this,Array.getElem?_push_size]) (by simpa using h)
set_option maxHeartbeats 1000000 in
set_option maxRecDepth 100000 in
theorem zpx (x y:V3) (W:World):Calls Tryz.prog 51 #[.agg (z8j x).toArray,.agg (z8j y).toArray] W fun e w'=>e=.returned (.int .i64 (Lib.compareBytes x.toList y.toList))∧∃ q os',w'=grow (W.drewN q) os':=by
 have c0:=zxw W (z8j x) (z8j y)
 have c1:=zys W (z8j x) (z8j y)
 go_enter Tryz.func51,Tryz.ntmps51
 go_wp2
 go_quiet (first | (go_at_call 74; refine Calls.quiet_of_same (zk7 x y _ _ _ (c0 _) (c1 _))))
 go_wp2
 go_ret
 exact ⟨rfl,nq,#[.cells (z8j x).toArray 36,.cells (z8j y).toArray 36],rfl⟩
end
section
open Go Go.RowKit Go.Sort
theorem zwx {α:Type} [Inhabited α] (enc:α→List Value) (k:Nat) (hk:∀ x,(enc x).length=k):∀ (l:List α) (t:Nat),t<l.length * k→(l.flatMap enc)[t]! = (enc l[t / k]!)[t % k]!
  | [],t,h=>by simp at h
  | x::l,t,h=>by
    have hx:=hk x
    have k0 : 0 < k := by rcases Nat.eq_zero_or_pos k with e | e; · subst e; simp at h
                          · exact e
    rw [List.flatMap_cons]
    by_cases ht:t<k
    · rw [List.getElem!_eq_getElem?_getD,List.getElem?_append_left (by omega),Nat.div_eq_of_lt ht,Nat.mod_eq_of_lt ht]
      simp
    · have hl : t - k < l.length * k := by
        simp only [List.length_cons,Nat.add_mul,Nat.one_mul] at h; omega
      have ih:=zwx enc k hk l (t - k) hl
      have e1:t / k=(t - k) / k+1:=by
        have h2:=Nat.add_div_right (t - k) k0
        rw [Nat.sub_add_cancel (by omega)] at h2; exact h2
      have e2:t % k=(t - k) % k:=by rw [Nat.mod_eq_sub_mod (by omega)]
      rw [List.getElem!_eq_getElem?_getD,List.getElem?_append_right (by omega),hx,e1,e2,← List.getElem!_eq_getElem?_getD,ih]
      simp
theorem zl6 {α:Type} (enc:α→List Value) (k:Nat) (hk:∀ x,(enc x).length=k):∀ l:List α,(l.flatMap enc).length=l.length * k
  | []=>by simp
  | x::l=>by rw [List.flatMap_cons,List.length_append,hk,zl6 enc k hk l,List.length_cons,Nat.add_mul,Nat.one_mul,Nat.add_comm]
theorem zrh {α:Type} [Inhabited α] (enc:α→List Value) (k:Nat) (hk:∀ x,(enc x).length=k) (l:List α):flatK enc k l.toArray=(l.flatMap enc).toArray:=by
  refine ext_get! (by rw [size_flatK]; simp only [List.size_toArray,zl6 enc k hk]) fun t ht=>?_
  rw [size_flatK,List.size_toArray] at ht
  rw [get_flatK _ _ _ _ (by simpa using ht)]
  have:=zwx enc k hk l t ht
  simp at this ⊢
  rw [this]
theorem zm1 {α:Type} [Inhabited α] (enc:α→List Value) (k:Nat) (hk:∀ x,(enc x).length=k) {w:World} {b:Nat} {C:Array Value} {T:TypeId} (l:List α) (hb:w.heap[b]? = some (.cells C T (0,0))) (hc:C.toList.take (l.length * k)=l.flatMap enc):HoldsK enc k w b 0 l.toArray:=by
  intro j hj
  rw [zrh enc k hk] at hj ⊢
  have hj':j<(l.flatMap enc).length:=by simpa using hj
  constructor
  · refine zny hb ?_
    have e:(C.toList.take (l.length * k))[j]? = (l.flatMap enc)[j]? := by rw [hc]
    rw [List.getElem?_take_of_lt (by rw [zl6 enc k hk] at hj'; exact hj'),List.getElem?_eq_getElem hj'] at e
    rw [← Array.getElem?_toList,e]
    have:((l.flatMap enc).toArray)[j]! = (l.flatMap enc)[j]:=by rw [getElem!_pos _ j (by simpa using hj')]; simp
    rw [this]; rfl
  · simp [World.frozen?,hb]
theorem zq5 {α:Type} [Inhabited α] (enc:α→List Value) (k:Nat) (w:World) (b n:Nat) (d:Array α) (os:Array Obj) {i:Nat} (hi:i<w.heap.size) (hne:i≠b):(sortWorldK enc k w b 0 n d os).heap[i]? = w.heap[i]? := by
  show (w.heap.modify b _++os)[i]? = _
  rw [Array.getElem?_append_left (by simpa using hi),Array.getElem?_modify,if_neg (fun e=>hne e.symm)]
theorem zy8 {α:Type} [Inhabited α] (enc:α→List Value) (k:Nat) (w:World) {b:Nat} (n:Nat) (d:Array α) (os:Array Obj) {C:Array Value} {T:TypeId} {fr:Nat × Nat} (hb:w.heap[b]? = some (.cells C T fr)):(sortWorldK enc k w b 0 n d os).heap[b]? = some (.cells (putCells id 0 (flatK enc k d) C) T fr):=by
  have hlt:b<w.heap.size:=(Array.getElem?_eq_some_iff.1 hb).1
  show (w.heap.modify b _++os)[b]? = _
  rw [Array.getElem?_append_left (by simpa using hlt),Array.getElem?_modify,if_pos rfl,hb]
  rfl
theorem zul {α:Type} [Inhabited α] (enc:α→List Value) (k:Nat) (hk:∀ x,(enc x).length=k) (l:List α) (C:Array Value) (hC:l.length * k≤C.size):(putCells id 0 (flatK enc k l.toArray) C).toList.take (l.length * k)=l.flatMap enc:=by
  rw [zrh enc k hk]
  apply List.ext_getElem?
  intro t
  by_cases ht:t<l.length * k
  · rw [List.getElem?_take_of_lt ht,Array.getElem?_toList]
    have hl:t<(l.flatMap enc).length:=by rw [zl6 enc k hk]; exact ht
    simp only [putCells,Array.getElem?_mapIdx,Nat.sub_zero,Nat.zero_add,List.size_toArray,Nat.zero_le,true_and]
    rw [Array.getElem?_eq_getElem (by omega),Option.map_some,if_pos hl,List.getElem?_eq_getElem hl]
    have:((l.flatMap enc).toArray)[t]! = (l.flatMap enc)[t]:=by rw [getElem!_pos _ t (by simpa using hl)]; simp
    rw [this]; rfl
  · rw [List.getElem?_eq_none (by simp; omega),List.getElem?_eq_none (by rw [zl6 enc k hk]; omega)]
theorem zli {S:Blk} {w:World}:∀ {l:List V3} {cs:List Value},z5d (z3l 32 u8R) S w cs l→cs=l.flatMap z8j
  | [],cs,h=>h
  | x::l,cs,h=>by
    obtain ⟨c,d,rfl,h1,h2⟩:=h
    rw [List.flatMap_cons,zli h2,zkj h1]; rfl
theorem zmb {S:Blk} {w:World}:∀ (l:List V3),z5d (z3l 32 u8R) S w (l.flatMap z8j) l
  | []=>rfl
  | x::l=>⟨z8j x,l.flatMap z8j,List.flatMap_cons,zh6 x.toList,zmb l⟩
theorem zwb {P : Program} {f g T : Nat} (srt : List V3 → List V3) (hlen : ∀ l, (srt l).length = l.length)
    (hnone:∀ (cap:Nat) (w:World),Calls P f #[.slice none 0 cap,.func (.func g) #[] #[]] w fun e w'=>e=.returned (.tuple #[])∧w'=w)
    (hsome:∀ (blk cap:Nat) (d:Array V3) (w:World),HoldsK z8j 32 w blk 0 d→blk<w.heap.size→d.size<4611686018427387904 →
      Calls P f #[.slice (some ⟨blk,0,none⟩) d.size cap,.func (.func g) #[] #[]] w fun e w'=>e=.returned (.tuple #[])∧∃ n os,w'=sortWorldK z8j 32 w blk 0 n (srt d.toList).toArray os)
    (p0:Value) (c0:List V3):z2s P f [.val p0,.val (.func (.func g) #[] #[])] [(1,some (p0,.list (z3l 32 u8R) T c0))] (chk (c0.length≤1000000) >>= fun _=>some (srt c0))
      (fun r nv=>⟨[],[(1,some (p0,.list (z3l 32 u8R) T r))]⟩):=by
  intro r hr H vs w hvs hres
  have hb:c0.length≤1000000∧r=srt c0:=by
    unfold chk at hr
    split at hr
    · rename_i h; simp at hr; exact ⟨h,hr.symm⟩
    · simp at hr
  obtain ⟨hlen0,rfl⟩:=hb
  match vs,hvs with
  | [v0,v1],hvs =>
  obtain ⟨h0,h1,_⟩:=hvs
  have e0:v0=p0:=h0.1
  have e1:v1=.func (.func g) #[] #[]:=h1.1
  subst e0; subst e1
  have hc:=hres.conts 1 v0 _ rfl
  have only:∀ r v c (q:z48),lr [(1,some (v0,q))] r=some (v,c)→r=1∧v=v0∧c=q:=fun r v c q h=>by
    rw [z1f] at h
    split at h
    · rename_i e; cases h; exact ⟨e.symm,rfl,rfl⟩
    · simp [lr,lk] at h
  rcases hc with ⟨rfl,rfl⟩ | ⟨b,o,k1,k2,b',cap,C,k3,rfl,k4,k5,k6,k7⟩
  · refine (hnone 0 w).mono fun e w' ⟨he,hw⟩=>?_
    subst hw
    refine ⟨fun _=>undef,[],he,trivial, fun r v c h=>?_, fun r v c r' v' c' h h' hne=>?_, fun r v c h b hb=>?_,zgp.rfl'⟩
    · obtain ⟨rfl,rfl,rfl⟩:=only _ _ _ _ h
      have:srt []=[]:=List.eq_nil_of_length_eq_zero (by rw [hlen]; rfl)
      exact .inl ⟨rfl,this⟩
    · exact absurd ((only _ _ _ _ h).1.trans (only _ _ _ _ h').1.symm) hne
    · obtain ⟨rfl,rfl,rfl⟩:=only _ _ _ _ h; cases hb
  · subst k3
    simp only [z4b,Option.some.injEq] at k1
    subst k1
    have hlt:b'<w.heap.size:=(Array.getElem?_eq_some_iff.1 k2).1
    have hrow:=zli k7
    have hsz:(z3l 32 u8R).sz=32:=rfl
    rw [hsz] at k6 hrow
    have hC:c0.length * 32≤C.size:=by rw [k6]; exact Nat.mul_le_mul_right _ k4
    refine (hsome b' cap c0.toArray w (zm1 z8j 32 zdn c0 k2 hrow) hlt (by simp; omega)).mono fun e w' ⟨he,n,os,hw⟩=>?_
    subst hw
    refine ⟨fun _=>undef,[],he,trivial, fun r v c h=>?_, fun r v c r' v' c' h h' hne=>?_, fun r v c h b hb=>?_,rfl,rfl,rfl,?_, fun i hi=>?_⟩
    · obtain ⟨rfl,rfl,rfl⟩:=only _ _ _ _ h
      refine .inr ⟨b',_,rfl,zy8 z8j 32 w n _ os k2,b',cap,_, by rw [hlen],rfl, by rw [hlen]; exact k4,k5,?_,?_⟩
      · rw [hsz,← k6]; simp [putCells]
      · rw [hsz,zul z8j 32 zdn (srt c0) C (by rw [hlen]; exact hC)]
        exact zmb _
    · exact absurd ((only _ _ _ _ h).1.trans (only _ _ _ _ h').1.symm) hne
    · obtain ⟨rfl,rfl,rfl⟩:=only _ _ _ _ h
      exact .inr ⟨1,_,_,rfl,hb⟩
    · show w.heap.size≤(w.heap.modify b' _++os).size
      simp
    · exact zq5 z8j 32 w b' n _ os hi.1 fun e=>hi.2 ⟨1,_,_,rfl, by rw [e]; rfl⟩
end
section
open Go
section
variable {σ β α ρ τ:Type}
theorem bs (x:α) (f:α→Option β):(some x >>= f)=f x:=rfl
theorem bS (x:α) (f:α→Option β):(some x >>= f)=f x:=Eq.trans (rfl:(some x >>= f)=f x) rfl
theorem zyd (r:ρ) (k:τ→Option ρ):z6j (some (.inl r)) k=some r:=rfl
theorem zwt (t:τ) (k:τ→Option ρ):z6j (some (.inr t)) k=k t:=rfl
theorem z1p {F:σ→Option (Sum β σ)} {s:σ} {b:β} (h:F s=some (.inl b)):iter F s=some b:=by rw [iter,h]; rfl
theorem z1x {F:σ→Option (Sum β σ)} {s s':σ} (h:F s=some (.inr s')):iter F s=iter F s':=by rw [iter,h]; rfl
theorem zdu {F:σ→Option (Sum β σ)} (I:σ→Prop) (μ:σ→Nat) (Q:β→Prop) (h:∀ s,I s→(∃ b,F s=some (.inl b)∧Q b)∨∃ s',F s=some (.inr s')∧I s'∧μ s'<μ s) (s:σ) (hs:I s):∃ b,iter F s=some b∧Q b:=by
 have key:∀ n s,μ s=n→I s→∃ b,iter F s=some b∧Q b:=by
  intro n
  induction n using Nat.strongRecOn with
  | _ n ih =>
   intro s hn hs
   rcases h s hs with ⟨b,h1,h2⟩ | ⟨s',h1,h2,h3⟩
   ·
    exact ⟨b,z1p h1,h2⟩
   ·
    rw [z1x h1]; exact ih (μ s') (hn ▸ h3) s' rfl h2
 exact key _ s rfl hs
theorem z6m {F:σ→Option (Sum β σ)} (n:Nat) (I:Nat→σ→Prop) (Q:β→Prop) (h1:∀ i s,i<n→I i s→∃ s',F s=some (.inr s')∧I (i+1) s') (h2:∀ s,I n s→∃ b,F s=some (.inl b)∧Q b) (s:σ) (i:Nat) (hi:i≤n) (hs:I i s):∃ b,iter F s=some b∧Q b:=by
 have key:∀ k i s,n - i=k→i≤n→I i s→∃ b,iter F s=some b∧Q b:=by
  intro k
  induction k with
  | zero =>
   intro i s hk hi hs
   have:i=n:=by omega
   subst this
   obtain ⟨b,h3,h4⟩:=h2 s hs
   exact ⟨b,z1p h3,h4⟩
  | succ k ih =>
   intro i s hk hi hs
   obtain ⟨s',h3,h4⟩:=h1 i s (by omega) hs
   rw [z1x h3]; exact ih (i+1) s' (by omega) (by omega) h4
 exact key _ i s rfl hi hs
theorem z2k {F:σ→Option (Sum β σ)} (n:Nat) (g:Nat→σ) {b:β} (h1:∀ i,i<n→F (g i)=some (.inr (g (i+1)))) (h2:F (g n)=some (.inl b)):iter F (g 0)=some b:=by
 obtain ⟨b',h3,rfl⟩:=z6m n (fun i s=>s=g i) (fun x=>x=b) (fun i s hi hs=>⟨_, by rw [hs]; exact h1 i hi,rfl⟩) (fun s hs=>⟨_, by rw [hs]; exact h2,rfl⟩) (g 0) 0 (Nat.zero_le _) rfl
 exact h3
theorem z0h {l:List α} {i:Nat} (h:i<l.length):idx l (i:Int)=some l[i]:=by simp [idx,h]
theorem zxg {l:List α} {i:Int} (h0:0≤i) (h:i.toNat<l.length):idx l i=some l[i.toNat]:=by simp [idx,h0,h]
theorem z6i {n:Nat} {v:Vector α n} {i:Nat} (h:i<n):z5x v (i:Int)=some v[i]:=by unfold z5x; rw [z0h (by simpa using h)]; simp
theorem zdp {n:Nat} {v:Vector α n} {i:Int} {x:α} {j:Nat} (hj:j<n):(z95 v i x)[j]=if i.toNat=j then x else v[j]:=by
 unfold z95; rw [Vector.getElem_setIfInBounds hj]
theorem z2j {p:Prop} [Decidable p] (h:p):chk p=some ():=by simp [chk,h]
theorem z28 {by_:Nat} {b c:List α} (h:(b.length+c.length) * by_≤140737488355328):app by_ b c=some (b++c):=by simp [app,h]
theorem zcu {by_:Nat} {x:α} {n:Nat} (h:by_ * n≤281474976710656) (h2:n≤9223372036854775807):mkn by_ x (n:Int)=some (List.replicate n x):=by
 unfold mkn; rw [if_pos ⟨by omega, by simpa using h, by omega⟩]; simp
theorem zgb {b:List α} {i j:Nat} (h:i≤j) (hj:j≤b.length):cut b (i:Int) (j:Int)=some ((b.drop i).take (j - i)):=by
 unfold cut; rw [if_pos ⟨by omega, by omega, by omega⟩]; simp
end
theorem z0t {x:Int} (h1:-9223372036854775808≤x) (h2:x≤9223372036854775807):w64 x=x:=zdf h1 h2
theorem z0l {n:Nat} (h:n<9223372036854775807):w64 ((n:Int)+1)=((n+1:Nat):Int):=by rw [z0t (by omega) (by omega)]; omega
theorem zac (a:UInt64) (n:Nat):(z67 a n).toNat=a.toNat / 2 ^ (min n 64):=by
 unfold z67
 have h1:=UInt64.toNat_lt a
 have h2:a.toNat / 2 ^ (min n 64)≤a.toNat:=Nat.div_le_self _ _
 simp; omega
theorem zhn (a:UInt64) (n:Nat):(zk1 a n).toNat=a.toNat * 2 ^ (min n 64) % 18446744073709551616:=by
 unfold zk1; simp
theorem z128 (a:UInt64) (k:Nat) (hk:k<64):((z67 a k &&& 1)==1)=a.toNat.testBit k:=by
 rw [Bool.eq_iff_iff,beq_iff_eq,← UInt64.toNat_inj,UInt64.toNat_and,zac,Nat.min_eq_left (by omega)]
 have:(1:UInt64).toNat=1:=rfl
 rw [this,Nat.and_one_is_mod,Nat.testBit_eq_decide_div_mod_eq]
 simp
end
section
open Go
def z5a (n:Nat):Nat:=if n=0 then 0 else n.log2+1
theorem zb0 (n k:Nat) (h:2 ^ k≤n):z5a n=k+z5a (n / 2 ^ k):=by
 have hp:0<2 ^ k:=Nat.pow_pos (by decide)
 have h1:n / 2 ^ k≠0:=by
  have:1≤n / 2 ^ k:=(Nat.le_div_iff_mul_le hp).2 (by rw [Nat.one_mul]; exact h)
  omega
 have h2:n≠0:=by omega
 unfold z5a
 rw [if_neg h1,if_neg h2]
 have h3:n.log2=k+(n / 2 ^ k).log2:=by
  rw [Nat.log2_eq_iff h2]
  have h4:=(Nat.log2_eq_iff h1).1 rfl
  refine ⟨?_,?_⟩
  ·
   rw [Nat.pow_add,Nat.mul_comm]; exact (Nat.le_div_iff_mul_le hp).1 h4.1
  ·
   rw [Nat.add_assoc,Nat.pow_add,Nat.mul_comm]; exact (Nat.div_lt_iff_lt_mul hp).1 h4.2
 omega
theorem zfd (n k:Nat) (h:n<2 ^ k):z5a n≤k:=by
 unfold z5a; split
 ·
  omega
 ·
  rename_i h0; have:=(Nat.log2_lt h0).2 h; omega
def zt2:ByteArray:=⟨#[0,1,2,2,3,3,3,3,4,4,4,4,4,4,4,4,5,5,5,5,5,5,5,5,5,5,5,5,5,5,5,5,6,6,6,6,6,6,6,6,6,6,6,6,6,6,6,6,6,6,6,6,6,6,6,6,6,6,6,6,6,6,6,6,7,7,7,7,7,7,7,7,7,7,7,7,7,7,7,7,7,7,7,7,7,7,7,7,7,7,7,7,7,7,7,7,7,7,7,7,7,7,7,7,7,7,7,7,7,7,7,7,7,7,7,7,7,7,7,7,7,7,7,7,7,7,7,7,8,8,8,8,8,8,8,8,8,8,8,8,8,8,8,8,8,8,8,8,8,8,8,8,8,8,8,8,8,8,8,8,8,8,8,8,8,8,8,8,8,8,8,8,8,8,8,8,8,8,8,8,8,8,8,8,8,8,8,8,8,8,8,8,8,8,8,8,8,8,8,8,8,8,8,8,8,8,8,8,8,8,8,8,8,8,8,8,8,8,8,8,8,8,8,8,8,8,8,8,8,8,8,8,8,8,8,8,8,8,8,8,8,8,8,8,8,8,8,8,8,8,8,8,8,8,8,8]⟩
set_option maxRecDepth 100000 in
theorem zv9:∀ x:Fin 256,zt2.data[x.val]? = some (UInt8.ofNat (z5a x.val)):=by decide +kernel
def z2f (n:Nat):List UInt8:=if h:n=0 then [] else UInt8.ofNat n::z2f (n / 256)
termination_by n
theorem zab:z2f 0=[]:=by rw [z2f]; simp
theorem zdx (n:Nat) (h:n≠0):z2f n=UInt8.ofNat n::z2f (n / 256):=by rw [z2f]; simp [h]
def z1k (n:Nat):List UInt8:=if n≤247 then [UInt8.ofNat n] else UInt8.ofNat (247+(z2f n).length)::(z2f n).reverse
theorem zj3 (n:Nat):(z2f n).length=(z5a n+7) / 8:=by
 induction n using Nat.strongRecOn with
 | _ n ih =>
  by_cases h:n=0
  ·
   subst h; rw [zab]; simp [z5a]
  ·
   rw [zdx n h,List.length_cons,ih (n / 256) (by omega)]
   by_cases h2:n<256
   ·
    have:n / 256=0:=by omega
    rw [this]
    have h3:z5a n≤8:=zfd n 8 h2
    have h4:1≤z5a n:=by unfold z5a; rw [if_neg h]; omega
    simp [z5a] at h3 h4 ⊢
    rw [if_neg h] at h3 h4 ⊢; omega
   ·
    have:=zb0 n 8 (by omega)
    rw [show (2:Nat) ^ 8=256 from rfl] at this
    omega
theorem zpl (n:Nat):∀ (i:Nat),i<(z2f n).length→(z2f n)[i]? = some (UInt8.ofNat (n / 256 ^ i)):=by
 induction n using Nat.strongRecOn with
 | _ n ih =>
  intro i hi
  by_cases h:n=0
  ·
   subst h; rw [zab] at hi; simp at hi
  ·
   rw [zdx n h] at hi ⊢
   cases i with
   | zero=>simp
   | succ i =>
    simp only [List.length_cons] at hi
    rw [List.getElem?_cons_succ,ih (n / 256) (by omega) i (by omega),Nat.div_div_eq_div_mul]
    congr 3
    rw [Nat.pow_succ,Nat.mul_comm]
theorem zho (n:Nat) (h:n<18446744073709551616):(z2f n).length≤8:=by
 rw [zj3]; have:=zfd n 64 (by simpa using h); omega
theorem z0z (n:Nat) (h:n<18446744073709551616):1≤(z1k n).length∧(z1k n).length≤9:=by
 unfold z1k; have:=zho n h; split <;> simp <;> omega
def z9f (n i:Nat):List UInt8:=UInt8.ofNat (247+(z2f n).length)::(List.replicate ((z2f n).length - i) 0++((z2f n).take i).reverse)
theorem zmw (n i:Nat) (h:i≤(z2f n).length):(z9f n i).length=(z2f n).length+1:=by simp [z9f]; omega
theorem zlx (n:Nat):(List.replicate ((z2f n).length+1) (0:UInt8)).set 0 (UInt8.ofNat (247+(z2f n).length))=z9f n 0:=by
 simp [z9f,List.replicate_succ]
theorem zlt (n i:Nat) (h:i<(z2f n).length):(z9f n i).set ((z2f n).length - i) (UInt8.ofNat (n / 2 ^ (8 * i)))=z9f n (i+1):=by
 have hg:=zpl n i h
 have he:n / 2 ^ (8 * i)=n / 256 ^ i:=by rw [Nat.pow_mul]
 rw [he]
 unfold z9f
 obtain ⟨m,hm⟩:∃ m,(z2f n).length - i=m+1:=⟨(z2f n).length - i - 1, by omega⟩
 have hm2:(z2f n).length - (i+1)=m:=by omega
 rw [hm,hm2,List.set_cons_succ,List.take_succ_eq_append_getElem h,List.reverse_append,List.reverse_singleton,List.replicate_succ']
 rw [List.getElem?_eq_getElem h,Option.some.injEq] at hg
 rw [hg,List.append_assoc,List.set_append_right _ _ (by simp)]
 simp
theorem zmk (n:Nat) (h:247<n):z9f n (z2f n).length=z1k n:=by
 unfold z9f z1k; rw [if_neg (by omega)]; simp
theorem zl4 (n m:Nat) (ds:List UInt8) (hm:m≠0) (h:z2f n=ds++z2f m):z2f n=(ds++[UInt8.ofNat (m % 256)])++z2f (m / 256):=by
 rw [h,zdx m hm,List.append_assoc]
 have:UInt8.ofNat (m % 256)=UInt8.ofNat m:=by
  apply UInt8.toNat_inj.1; simp
 rw [this]; rfl
theorem zif {α} {l a b:List α} (h:l=a++b):a.length≤l.length:=by rw [h]; simp
def zig (n:Int):Nat:=if 0≤n then (2 * n).toNat else (-2 * n - 1).toNat
theorem z119 {n:Int} (h1:-9223372036854775808≤n) (h2:n≤9223372036854775807):zig n<18446744073709551616:=by unfold zig; split <;> omega
end
section
open Go Go.RowKit
def zly (x:z04):Prop:=(fun _=>True) x.Kind∧inI x.Num∧(fun _=>True) x.Bits∧(fun s:List UInt8=>s.length≤9223372036854775807) x.Text∧True
def zq9 (x:z0i):Prop:=(fun _=>True) x.Kind∧(fun s:List UInt8=>s.length≤9223372036854775807) x.Key∧zly x.Value∧True
def zpt (x:z08):Prop:=(fun _=>True) x.E∧(fun _=>True) x.S∧True
def zbv (x:z06):Prop:=(fun _=>True) x.Author∧(fun l:List V3=>(∀ x∈l,(fun v:V3=>∀ x∈v.toList,(fun _=>True) x) x)∧l.length≤9223372036854775807) x.Preds∧(fun _=>True) x.Stamp∧zq9 x.Act∧zpt x.Sig∧True
def zat (x:z00):Prop:=(fun l:List V3=>(∀ x∈l,(fun v:V3=>∀ x∈v.toList,(fun _=>True) x) x)∧l.length≤9223372036854775807) x.IDs∧(fun l:List z06=>(∀ x∈l,zbv x)∧l.length≤9223372036854775807) x.Ops∧True
end
section
open Go
theorem zuu {n k:Nat} (hn:n<9223372036854775808) (hk:k<9223372036854775808):andI (n:Int) (k:Int)=((n &&& k:Nat):Int):=by
 show IntKind.i64.wrap (BitVec.toNat (BitVec.ofInt 64 (n:Int) &&& BitVec.ofInt 64 (k:Int)):Int)=_
 rw [BitVec.ofInt_natCast,BitVec.ofInt_natCast,BitVec.toNat_and,BitVec.toNat_ofNat,BitVec.toNat_ofNat,Nat.mod_eq_of_lt (by omega),Nat.mod_eq_of_lt (by omega)]
 have:=Nat.and_le_left (n:=n) (m:=k)
 exact zdf (by omega) (by omega)
def okb (c:UInt8):Bool:=decide (32≤c.toNat)&&decide (c.toNat≤126)
theorem zjn {b:List UInt8} {q:Nat} (h:q<b.length) (ha:(b[q]).toNat<128):z72 b q=((b[q]).toNat,1):=by
 unfold z72
 exact decode_ascii ⟨b.toArray⟩ q (by show q<b.toArray.size; simpa using h) ha
theorem zta {b:List UInt8} {q:Nat} (h:q<b.length) (ha:128≤(b[q]).toNat):128≤(z72 b q).1:=by
 unfold z72
 have e:((ByteArray.mk b.toArray).get! (q+0)).toNat=(b[q]).toNat:=by
  show ((ByteArray.mk b.toArray).get! q).toNat=_
  simp [ByteArray.get!,h]
 simp only [Utf8.decode,e]
 rw [if_neg (by omega)]
 repeat' split
 all_goals (first | (simp only [Utf8.runeError]; omega) | (rename_i h1; simp at h1; omega) | omega)
theorem zw0 (x:Int):zb5 x=some (decide (x<32) || decide (126<x)):=by
 unfold zb5
 cases decide (x<32) <;> rfl
theorem zoj (b:List UInt8):∀ (rest pre:List UInt8),b=pre++rest →
  (rest.all okb=true→iter (z1a b true) pre.length=some (.inr ()))∧(rest.all okb=false→∃ i:Nat,iter (z1a b true) pre.length=some (.inl (i:Int)))
 | [],pre,e=>by
  refine ⟨fun _=>z1p ?_, fun h=>by simp at h⟩
  subst e
  unfold z1a
  simp
 | c::rest,pre,e=>by
  have hlen:pre.length<b.length:=by rw [e]; simp
  have hget:b[pre.length]'hlen=c:=by subst e; simp
  have hF:z1a b true pre.length=if ((decide (((z72 b pre.length).1:Int)<32) || decide (126<((z72 b pre.length).1:Int)))==true) then some (.inl (.inl (pre.length:Int))) else some (.inr (pre.length+(z72 b pre.length).2)):=by
   unfold z1a
   rw [if_pos hlen]
   simp only [bs,zw0]
  cases hc:okb c with
  | false =>
   refine ⟨fun h=>by simp [hc] at h, fun _=>⟨pre.length,z1p ?_⟩⟩
   rw [hF,if_pos]
   by_cases h8:c.toNat<128
   ·
    rw [zjn hlen (by rw [hget]; exact h8),hget]
    simp only [okb,Bool.and_eq_false_iff,decide_eq_false_iff_not] at hc
    simp; omega
   ·
    have:=zta hlen (by rw [hget]; omega)
    simp; omega
  | true =>
   simp only [okb,Bool.and_eq_true,decide_eq_true_eq] at hc
   rw [zjn hlen (by rw [hget]; omega),hget,if_neg (by simp; omega)] at hF
   have ih:=zoj b rest (pre++[c]) (by simp [e])
   simp only [List.length_append,List.length_cons,List.length_nil,Nat.zero_add] at ih
   rw [z1x hF]
   have hc':okb c=true:=by simp [okb,hc]
   simpa [hc'] using ih
theorem zfy (b:List UInt8) (hb:b.length≤9223372036854775807):∀ (rest pre:List UInt8),b=pre++rest→iter (z34 b) (pre.length:Int)=some (if rest.all okb then .inr () else .inl false)
 | [],pre,e=>by
  refine z1p ?_
  subst e
  unfold z34
  simp
 | c::rest,pre,e=>by
  have hlen:pre.length<b.length:=by rw [e]; simp
  have hget:b[pre.length]'hlen=c:=by subst e; simp
  have hF:z34 b (pre.length:Int)=if okb c then some (.inr ((pre.length+1:Nat):Int)) else some (.inl (.inl false)):=by
   unfold z34
   rw [if_pos (by simp <;> omega)]
   simp only [z0h hlen,hget,bs,z0l (show pre.length<9223372036854775807 by omega)]
   simp only [okb,UInt8.lt_iff_toNat_lt,UInt8.reduceToNat]
   by_cases h1:c.toNat<32
   ·
    have:¬ 32≤c.toNat:=by omega
    simp [h1,this]
   ·
    by_cases h2:126<c.toNat
    ·
     have:¬ c.toNat≤126:=by omega
     simp [h1,h2,this]
    ·
     have h3:32≤c.toNat:=by omega
     have h4:c.toNat≤126:=by omega
     simp [h1,h2,h3,h4]
  cases hc:okb c with
  | false=>rw [hc] at hF; rw [z1p hF]; simp [hc]
  | true =>
   rw [hc] at hF
   rw [z1x hF]
   have ih:=zfy b hb rest (pre++[c]) (by simp [e])
   simp only [List.length_append,List.length_cons,List.length_nil,Nat.zero_add] at ih
   rw [ih]; simp [hc]
theorem zl9 (b:List UInt8) (hb:b.length≤9223372036854775807):z73 b=some (b.all okb):=by
 have h:=zfy b hb b [] rfl
 unfold z73
 rw [show (0:Int)=(([]:List UInt8).length:Int) from rfl,h]
 cases b.all okb <;> rfl
theorem zuj (b:List UInt8) (hb:b.length≤9223372036854775807):zdt b=some (if decide (30<(b.length:Int)) then (⟨0,0,0,[]⟩,4) else if b.all okb then (⟨3,0,0,b⟩,0) else (⟨0,0,0,[]⟩,8)):=by
 unfold zdt z3h z3d
 cases decide (30<(b.length:Int))
 ·
  simp only [Bool.false_eq_true,if_false]
  obtain ⟨h1,h2⟩:=zoj b b [] rfl
  simp only [List.length_nil] at h1 h2
  cases h:b.all okb
  ·
   obtain ⟨i,hi⟩:=h2 h
   rw [hi]
   simp only [zyd,bs]
   rw [if_pos (by simp)]; rfl
  ·
   rw [h1 h]; rfl
 ·
  rfl
theorem zv4 (a:UInt64):zc1 a=some (((a.toNat / 4503599627370496 % 2048:Nat):Int),a % 4503599627370496):=by
 unfold zc1
 simp only [bs]
 have h0:=UInt64.toNat_lt a
 rw [zac]
 have e1:(2:Nat) ^ (min 52 64)=4503599627370496:=by decide
 rw [e1,z0t (by omega) (by omega), show (2047:Int)=((2047:Nat):Int) from rfl,zuu (by omega) (by omega)]
 congr 2
 ·
  congr 1
  exact Nat.and_two_pow_sub_one_eq_mod _ 11
 ·
  apply UInt64.toNat_inj.1
  rw [UInt64.toNat_and,UInt64.toNat_mod]
  exact Nat.and_two_pow_sub_one_eq_mod _ 52
theorem z10z (a:UInt64):z7n a=some ((a.toNat / 4503599627370496 % 2048:Nat):Int):=by
 unfold z7n
 have h0:=UInt64.toNat_lt a
 simp only [bs,UInt64.toNat_div,UInt64.toNat_mod,UInt64.reduceToNat]
 rw [z0t (by omega) (by omega)]
 congr 2
 omega
def znk (a:UInt64):Nat:=a.toNat / 4503599627370496 % 2048
def zua (a:UInt64):Nat:=a.toNat % 4503599627370496
theorem zxz (a:UInt64):znk a<2048:=Nat.mod_lt _ (by omega)
def zy7 (a:UInt64):UInt8:=if znk a=2047 then (if zua a=0 then 4 else 5) else if znk a=0 then (if zua a=0 then 1 else 2) else 3
theorem zwz (a:UInt64):(a % 4503599627370496==0)=decide (zua a=0):=by
 rw [Bool.eq_iff_iff]
 simp only [beq_iff_eq,decide_eq_true_eq,← UInt64.toNat_inj,UInt64.toNat_mod]
 rfl
theorem zsr (a:UInt64):zc2 a=some (zy7 a):=by
 unfold zc2 zy7
 rw [zv4]
 simp only [bs]
 have hm:=zwz a
 have hne:(a % 4503599627370496 != 0)=!decide (zua a=0):=by rw [← hm]; rfl
 have he:((a.toNat / 4503599627370496 % 2048:Nat):Int)=(znk a:Int):=rfl
 rw [hne,he]
 by_cases h1:znk a=2047
 ·
  rw [h1]
  by_cases h2:zua a=0
  ·
   rw [decide_eq_true h2,if_pos h2]; rfl
  ·
   rw [decide_eq_false h2,if_neg h2]; rfl
 ·
  have e1:((znk a:Int)==2047)=false:=by simp; omega
  rw [if_neg h1,e1]
  simp only [Bool.false_eq_true,if_false,bs]
  by_cases h0:znk a=0
  ·
   rw [h0]
   by_cases h2:zua a=0
   ·
    rw [decide_eq_true h2,if_pos h2]; rfl
   ·
    rw [decide_eq_false h2,if_neg h2]; rfl
  ·
   have e0:((znk a:Int) != 0)=true:=by simp; omega
   rw [e0,if_neg h0]; rfl
theorem zrb (a:UInt64):z9e a=some (zy7 a):=by
 unfold z9e zaf zy7
 rw [z10z]
 simp only [bs]
 rw [zwz a]
 have hx:=zxz a
 show z6j (if ((znk a:Int)==0)=true then if decide (zua a=0)=true then some (.inl 1) else some (.inr ()) else some (.inr ())) (fun s5=>if ((znk a:Int)==0)=true then some 2 else if decide ((znk a:Int)<2047)=true then some 3 else if decide (zua a=0)=true then some 4 else some 5)=_
 by_cases h1:znk a=2047
 ·
  rw [h1]
  by_cases h2:zua a=0 <;> simp [h2,zwt,zyd]
 ·
  by_cases h0:znk a=0
  ·
   rw [h0]
   by_cases h2:zua a=0 <;> simp [h2,zwt,zyd]
  ·
   have e0:((znk a:Int)==0)=false:=by simp; omega
   have e2:decide ((znk a:Int)<2047)=true:=by simp; omega
   rw [e0,e2,if_neg h1,if_neg h0]; rfl
def zfj (a:UInt64):UInt64:=if zy7 a=5 then 9221120237041090560 else a
theorem zr8 (a:UInt64):zci a=some (zfj a):=by
 unfold zci zfj
 rw [zsr]
 simp only [bs]
 by_cases h:zy7 a=5 <;> simp [h]
theorem zt0 (a:UInt64):z9k a=some (zfj a):=by
 unfold z9k zfj
 rw [zrb]
 simp only [bs]
 by_cases h:zy7 a=5 <;> simp [h]
theorem zra (a:UInt64):zc0 a=some ⟨2,0,zfj a,[]⟩:=by
 unfold zc0; rw [zr8]; rfl
def okV (v:z04):Bool :=
 if v.Kind=1 then decide (v.Bits=0)&&decide (v.Text=[])
 else if v.Kind=2 then decide (v.Num=0)&&decide (v.Text=[])&&decide (zfj v.Bits=v.Bits)
 else if v.Kind=3 then decide (v.Num=0)&&decide (v.Bits=0)&&decide (v.Text.length≤30)&&v.Text.all okb
 else false
theorem zr2 (v:z04) (hb:v.Text.length≤9223372036854775807):z9g v=some (if okV v then 0 else 8):=by
 obtain ⟨K,n,f,t⟩:=v
 unfold z9g okV
 simp only at hb ⊢
 rw [zt0,zl9 t hb]
 by_cases h1:K=1
 ·
  subst h1
  by_cases hf:f=0 <;> by_cases ht:t=[] <;> simp [hf,ht]
 by_cases h2:K=2
 ·
  subst h2
  by_cases hn:n=0 <;> by_cases ht:t=[] <;> by_cases hc:zfj f=f <;> simp [hn,ht,hc,bs]
 by_cases h3:K=3
 ·
  subst h3
  by_cases hl:t.length≤30
  ·
   have hl':(t.length:Int)≤30:=by omega
   by_cases hn:n=0 <;> by_cases hf:f=0 <;> cases t.all okb <;> simp [hn,hf,hl,hl',bs]
  ·
   have hl':¬ (t.length:Int)≤30:=by omega
   by_cases hn:n=0 <;> by_cases hf:f=0 <;> simp [hn,hf,hl,hl',bs]
 ·
  simp [h1,h2,h3]
theorem zkw (v:z04) (hb:v.Text.length≤9223372036854775807):zaj v=some (if okV v then 0 else 8):=by
 obtain ⟨K,n,f,t⟩:=v
 unfold zaj zcz okV
 simp only at hb ⊢
 rw [zra,zuj t hb]
 by_cases h1:K=1
 ·
  subst h1
  by_cases hf:f=0 <;> by_cases ht:t=[] <;> simp [hf,ht,bs]
 by_cases h2:K=2
 ·
  subst h2
  by_cases hc:zfj f=f
  ·
   by_cases hn:n=0 <;> by_cases ht:t=[] <;> simp [hn,ht,hc,bs]
  ·
   have hc':¬ f=zfj f:=fun e=>hc e.symm
   by_cases hn:n=0 <;> by_cases ht:t=[] <;> simp [hn,ht,hc,hc',bs]
 by_cases h3:K=3
 ·
  subst h3
  by_cases hl:30<(t.length:Int)
  ·
   have h4:¬ t.length≤30:=by omega
   rw [decide_eq_true hl,decide_eq_false h4]
   simp [bs]
  ·
   have h4:t.length≤30:=by omega
   rw [decide_eq_false hl,decide_eq_true h4]
   cases t.all okb <;> by_cases hn:n=0 <;> by_cases hf:f=0 <;> simp [hn,hf,bs]
 ·
  have e1:(K==1)=false:=by simpa using h1
  have e2:(K==2)=false:=by simpa using h2
  have e3:(K==3)=false:=by simpa using h3
  simp only [e1,e2,e3,Bool.false_eq_true,if_false,bs,h1,h2,h3]
  by_cases h0:K=0
  ·
   subst h0
   split <;> rfl
  ·
   simp [h0]
end
section
open Go
theorem zsa:∀ (n:Nat) (a:UInt64) (ds:List UInt8) (N:Nat),a.toNat=n→z2f N=ds++z2f n→(z2f N).length≤8→iter z3v (a,ds)=some (z2f N):=by
 intro n
 induction n using Nat.strongRecOn with
 | _ n ih =>
  intro a ds N ha hd hl
  by_cases h0:n=0
  ·
   subst h0
   refine z1p ?_
   unfold z3v
   rw [if_neg (by simp [UInt64.lt_iff_toNat_lt,ha])]
   rw [zab,List.append_nil] at hd
   rw [hd]
  ·
   have hF:z3v (a,ds)=some (.inr (a / 256,ds++[(a % 256).toUInt8])):=by
    unfold z3v
    rw [if_pos (by simp [UInt64.lt_iff_toNat_lt,ha]; omega)]
    have:ds.length≤8:=Nat.le_trans (zif hd) hl
    simp only [z28 (show (ds.length+[(a % 256).toUInt8].length) * 1≤140737488355328 by simp; omega),bs]
   rw [z1x hF]
   have hd2:=zl4 N n ds h0 hd
   refine ih (n / 256) (Nat.div_lt_self (by omega) (by omega)) _ _ N ?_ ?_ hl
   ·
    simp [ha]
   ·
    rw [hd2]
    congr 2
    congr 1
    apply UInt8.toNat_inj.1
    simp [ha]
theorem zl0 (s:List UInt8) (hl:s.length≤8):∀ (i:Nat) (acc:List UInt8),i≤s.length→acc.length+i≤100→iter (z3t s) (acc,(i:Int) - 1)=some (acc++(s.take i).reverse)
 | 0,acc,_,_=>by
  refine z1p ?_
  unfold z3t
  rw [if_neg (by simp)]; simp
 | i+1,acc,hi,ha=>by
  have hlt:i<s.length:=by omega
  have e:((i+1:Nat):Int) - 1=(i:Int):=by omega
  have hF:z3t s (acc,((i+1:Nat):Int) - 1)=some (.inr (acc++[s[i]],(i:Int) - 1)):=by
   unfold z3t
   rw [e,if_pos (by simp)]
   simp only [z0h hlt,bs]
   rw [z28 (by simp; omega)]
   simp only [bs,z0t (show -9223372036854775808≤(i:Int) - 1 by omega) (by omega)]
  rw [z1x hF,zl0 s hl i _ (by omega) (by simp; omega)]
  have:List.take (i+1) s=List.take i s++[s[i]]:=by rw [List.take_add_one,List.getElem?_eq_getElem hlt]; rfl
  rw [this]; simp only [List.reverse_append,List.reverse_cons,List.reverse_nil,List.nil_append,List.append_assoc]
theorem z5z (a:UInt64):z2e a=some (z1k a.toNat):=by
 unfold z2e z1k
 have h0:=UInt64.toNat_lt a
 by_cases h:a.toNat≤247
 ·
  have h':decide (a≤247)=true:=by simpa [UInt64.le_iff_toNat_le] using h
  rw [if_pos h',if_pos h]
  congr 2
 ·
  have h':¬ decide (a≤247)=true:=by simpa [UInt64.le_iff_toNat_le] using h
  rw [if_neg h',if_neg h]
  have hd:=zho a.toNat h0
  rw [zsa a.toNat a [] a.toNat rfl rfl hd]
  simp only [bs]
  rw [z0t (show -9223372036854775808≤((z2f a.toNat).length:Int) - 1 by omega) (by omega),z0t (show -9223372036854775808≤247+((z2f a.toNat).length:Int) by omega) (by omega)]
  rw [zl0 _ hd _ _ (Nat.le_refl _) (by simp; omega)]
  simp only [bs,List.take_length]
  rw [show (247+((z2f a.toNat).length:Int))=((247+(z2f a.toNat).length:Nat):Int) by omega]
  congr 1
  show _::_=_
  congr 1
  apply UInt8.toNat_inj.1
  simp [UInt8.ofInt]
  omega
theorem zq4 (a:UInt64) (k:Nat) (hk:k=(z2f a.toNat).length) (hk8:k≤8):iter (z8z a (k:Int)) (z9f a.toNat 0,0)=some (z9f a.toNat k):=by
 refine z2k k (fun i=>(z9f a.toNat i,(i:Int))) (fun i hi=>?_) ?_
 ·
  have hf:=zmw a.toNat i (by omega)
  unfold z8z
  rw [if_pos (by simp; omega)]
  simp only [z0t (show -9223372036854775808≤8 * (i:Int) by omega) (by omega),z2j (show (0:Int)≤8 * (i:Int) by omega),bs,z0t (show -9223372036854775808≤(k:Int) - (i:Int) by omega) (by omega),z0l (show i<9223372036854775807 by omega)]
  rw [zxg (by omega) (by omega)]
  simp only [bs]
  have:=zlt a.toNat i (by omega)
  rw [← this]
  have e1:((k:Int) - (i:Int)).toNat=(z2f a.toNat).length - i:=by omega
  have e2:(z67 a (8 * (i:Int)).toNat).toUInt8=UInt8.ofNat (a.toNat / 2 ^ (8 * i)):=by
   apply UInt8.toNat_inj.1
   have e3:(8 * (i:Int)).toNat=8 * i:=by omega
   rw [e3]
   simp only [UInt64.toNat_toUInt8,zac,Nat.min_eq_left (show 8 * i≤64 by omega)]
   simp
  rw [e1,e2]
 ·
  unfold z8z
  rw [if_neg (by simp)]
theorem zdz (a:UInt64) (k:Nat) (hk:k<64):(z67 a k).toNat=a.toNat / 2 ^ k:=by rw [zac,Nat.min_eq_left (by omega)]
set_option maxRecDepth 100000 in
theorem zv5 (a:UInt64):z8d a=some (z5a a.toNat:Int):=by
 unfold z8d
 have h0:=UInt64.toNat_lt a
 have s1:∃ (y:UInt64) (n:Nat),(if decide (4294967296≤a) then some (z67 a 32,(32:Int)) else some (a,0))=some (y,(n:Int))∧y.toNat<2 ^ 32∧n≤32∧z5a a.toNat=n+z5a y.toNat:=by
  by_cases h:4294967296≤a.toNat
  ·
   refine ⟨z67 a 32,32, by rw [if_pos (by simpa [UInt64.le_iff_toNat_le] using h)]; rfl,?_, by omega,?_⟩
   ·
    rw [zdz a 32 (by omega)]; omega
   ·
    rw [zdz a 32 (by omega)]; exact zb0 _ 32 (by omega)
  ·
   exact ⟨a,0, by rw [if_neg (by simpa [UInt64.le_iff_toNat_le] using h)]; rfl, by omega, by omega, by omega⟩
 obtain ⟨y,n,e1,hy,hn,hb⟩:=s1
 rw [e1]; simp only [bs]
 have s2:∃ (z:UInt64) (k:Nat),(if decide (65536≤y) then some (z67 y 16) >>= fun y5=>some (w64 ((n:Int)+16)) >>= fun y6=>some (y5,y6) else some (y,(n:Int)))=some (z,(k:Int))∧z.toNat<2 ^ 16∧k≤48∧z5a a.toNat=k+z5a z.toNat:=by
  by_cases h:65536≤y.toNat
  ·
   refine ⟨z67 y 16,n+16, by rw [if_pos (by simpa [UInt64.le_iff_toNat_le] using h)]; simp only [bs,z0t (show -9223372036854775808≤(n:Int)+16 by omega) (by omega)]; rfl,?_, by omega,?_⟩
   ·
    rw [zdz y 16 (by omega)]; omega
   ·
    rw [zdz y 16 (by omega),hb,zb0 y.toNat 16 (by omega)]; omega
  ·
   exact ⟨y,n, by rw [if_neg (by simpa [UInt64.le_iff_toNat_le] using h)], by omega, by omega,hb⟩
 obtain ⟨z,k,e2,hz,hk,hb2⟩:=s2
 simp only [bs] at e2
 rw [e2]; simp only [bs]
 have s3:∃ (x:UInt64) (j:Nat),(if decide (256≤z) then some (w64 ((k:Int)+8)) >>= fun y9=>some (z67 z 8,y9) else some (z,(k:Int)))=some (x,(j:Int))∧x.toNat<256∧j≤56∧z5a a.toNat=j+z5a x.toNat:=by
  by_cases h:256≤z.toNat
  ·
   refine ⟨z67 z 8,k+8, by rw [if_pos (by simpa [UInt64.le_iff_toNat_le] using h)]; simp only [bs,z0t (show -9223372036854775808≤(k:Int)+8 by omega) (by omega)]; rfl,?_, by omega,?_⟩
   ·
    rw [zdz z 8 (by omega)]; omega
   ·
    rw [zdz z 8 (by omega),hb2,zb0 z.toNat 8 (by omega)]; omega
  ·
   exact ⟨z,k, by rw [if_neg (by simpa [UInt64.le_iff_toNat_le] using h)], by omega, by omega,hb2⟩
 obtain ⟨x,j,e3,hx,hj,hb3⟩:=s3
 simp only [bs] at e3
 rw [e3]; simp only [bs]
 have ht:=zv9 ⟨x.toNat,hx⟩
 have hx8:(x.toUInt8.toNat:Int)=((x.toNat:Nat):Int):=by simp; omega
 have hle:z5a x.toNat≤8:=zfd _ 8 (by omega)
 rw [hx8]
 have hlist:∀ (l:List UInt8),l=zt2.data.toList→idx l ((x.toNat:Nat):Int)=some (UInt8.ofNat (z5a x.toNat)):=fun l hl=>by
  subst hl
  unfold idx
  rw [if_pos (by omega)]
  simpa using ht
 refine Eq.trans (congrArg (fun o:Option UInt8=>o >>= fun x10=>some (w64 ((j:Int)+(x10.toNat:Int)))) (hlist _ ?hh)) ?_
 case hh=>rfl
 simp only [bs]
 have e4:((UInt8.ofNat (z5a x.toNat)).toNat:Int)=(z5a x.toNat:Int):=by simp; omega
 rw [e4,z0t (by omega) (by omega),hb3]
 simp
theorem z64 (a:UInt64):z56 a=some (z1k a.toNat):=by
 unfold z56
 have h0:=UInt64.toNat_lt a
 by_cases h:a.toNat≤247
 ·
  have h':decide (a≤247)=true:=by simpa [UInt64.le_iff_toNat_le] using h
  unfold z1k
  rw [if_pos h',if_pos h]
  congr 2
 ·
  have h':¬ decide (a≤247)=true:=by simpa [UInt64.le_iff_toNat_le] using h
  rw [if_neg h',zv5]
  have hd:=zho a.toNat h0
  have hl:=zj3 a.toNat
  have hb:z5a a.toNat≤64:=zfd _ 64 h0
  simp only [bs]
  rw [z0t (show -9223372036854775808≤(z5a a.toNat:Int)+7 by omega) (by omega)]
  have e1:Int.tdiv ((z5a a.toNat:Int)+7) 8=((z2f a.toNat).length:Int):=by
   rw [hl, show ((z5a a.toNat:Int)+7)=((z5a a.toNat+7:Nat):Int) by omega]
   rfl
  rw [e1,z0t (show -9223372036854775808≤((z2f a.toNat).length:Int) by omega) (by omega),z0l (by omega),zcu (by omega) (by omega)]
  simp only [bs]
  rw [show (0:Int)=((0:Nat):Int) from rfl,z0h (by simp)]
  simp only [bs,Int.toNat_natCast]
  rw [z0t (show -9223372036854775808≤247+((z2f a.toNat).length:Int) by omega) (by omega)]
  have e2:UInt8.ofInt (247+((z2f a.toNat).length:Int))=UInt8.ofNat (247+(z2f a.toNat).length):=by
   apply UInt8.toNat_inj.1
   rw [show (247+((z2f a.toNat).length:Int))=((247+(z2f a.toNat).length:Nat):Int) by omega]
   simp [UInt8.ofInt]
   omega
  have:=zlx a.toNat
  rw [e2,this]
  have:=zq4 a (z2f a.toNat).length rfl hd
  rw [show (0:Int)=((0:Nat):Int) from rfl] at this
  rw [this]
  simp only [bs]
  rw [zmk a.toNat (by omega)]
end
section
open Go
theorem okV3 {v:z04} (h:okV v=true) (k:v.Kind=3):v.Num=0∧v.Bits=0∧v.Text.length≤30∧v.Text.all okb=true:=by
 unfold okV at h; rw [if_neg (by rw [k]; decide),if_neg (by rw [k]; decide),if_pos k] at h
 simp only [Bool.and_eq_true,decide_eq_true_eq] at h
 exact ⟨h.1.1.1,h.1.1.2,h.1.2,h.2⟩
theorem zjl {v:z04} (h:okV v=true):v.Kind=1∨v.Kind=2∨v.Kind=3:=by
 by_cases h1:v.Kind=1
 ·
  exact .inl h1
 by_cases h2:v.Kind=2
 ·
  exact .inr (.inl h2)
 by_cases h3:v.Kind=3
 ·
  exact .inr (.inr h3)
 ·
  unfold okV at h; simp [h1,h2,h3] at h
theorem zvl (x:UInt64):(x ^^^ 18446744073709551615).toNat=18446744073709551615 - x.toNat:=by
 have e:x ^^^ 18446744073709551615 = ~~~x:=by
  apply UInt64.eq_of_toBitVec_eq
  rw [UInt64.toBitVec_xor,UInt64.toBitVec_not]
  exact BitVec.xor_allOnes
 rw [e,UInt64.toNat_not]; rfl
theorem zad (n:Int):(UInt64.ofInt n).toNat=(n % 18446744073709551616).toNat:=by
 simp [UInt64.ofInt]; omega
theorem z12t (n:Int) (h:inI n):((zk1 (UInt64.ofInt n) 1) ^^^ (UInt64.ofInt (zyb n 63))).toNat=zig n:=by
 obtain ⟨h1,h2⟩:=h
 have es:(zk1 (UInt64.ofInt n) 1).toNat=(n % 18446744073709551616).toNat * 2 % 18446744073709551616:=by
  rw [zhn,zad]; rfl
 by_cases h0:0≤n
 ·
  have e:zyb n 63=0:=by
   unfold zyb
   rw [show (2:Int) ^ (min 63 64)=9223372036854775808 from rfl,Int.fdiv_eq_ediv_of_nonneg _ (by omega)]; omega
  rw [e, show UInt64.ofInt 0=0 from rfl,UInt64.xor_zero,es]
  unfold zig; rw [if_pos h0]; omega
 ·
  have e:zyb n 63 = -1:=by
   unfold zyb
   rw [show (2:Int) ^ (min 63 64)=9223372036854775808 from rfl,Int.fdiv_eq_ediv_of_nonneg _ (by omega)]; omega
  rw [e, show UInt64.ofInt (-1)=18446744073709551615 from rfl,zvl,es]
  unfold zig; rw [if_neg h0]; omega
theorem zu3 (n:Int) (h:inI n):zca n=some (z1k (zig n)):=by
 unfold zca
 rw [z64,z12t n h]; rfl
theorem zmh (s:List UInt8) (h:s.length≤10000):za4 s=some (z1k s.length++s,0):=by
 unfold za4
 rw [if_neg (by simp; omega),z64]
 have e:(UInt64.ofInt (s.length:Int)).toNat=s.length:=by rw [zad]; omega
 have:=z0z s.length (by omega)
 simp only [bs,e]
 rw [z28 (by omega)]; rfl
def be8 (b:UInt64):List UInt8:=[(z67 b 56).toUInt8,(z67 b 48).toUInt8,(z67 b 40).toUInt8,(z67 b 32).toUInt8,(z67 b 24).toUInt8,(z67 b 16).toUInt8,(z67 b 8).toUInt8,(z67 b 0).toUInt8]
theorem zu7 (v:z04) (l:List UInt8) (k:Nat) (hl:l.length≤100) (hk:k≤56):z6o v (l,(k:Int))=some (.inr (l++[(z67 v.Bits k).toUInt8],(k:Int) - 8)):=by
 unfold z6o
 rw [if_pos (by simp)]
 simp only
 rw [z2j (by omega)]
 simp only [bs,Int.toNat_natCast]
 rw [z28 (by simp; omega)]
 simp only [bs]
 rw [z0t (by omega) (by omega)]
theorem zv8 (v:z04):iter (z6o v) ([v.Kind],56)=some (v.Kind::be8 v.Bits):=by
 have hs:=fun l k h1 h2=>zu7 v l k h1 h2
 rw [show (56:Int)=((56:Nat):Int) from rfl,z1x (hs [v.Kind] 56 (by simp) (by omega))]
 simp only [List.cons_append,List.nil_append, show ((56:Nat):Int) - 8=((48:Nat):Int) from rfl]
 rw [z1x (hs _ 48 (by simp) (by omega))]
 simp only [List.cons_append,List.nil_append, show ((48:Nat):Int) - 8=((40:Nat):Int) from rfl]
 rw [z1x (hs _ 40 (by simp) (by omega))]
 simp only [List.cons_append,List.nil_append, show ((40:Nat):Int) - 8=((32:Nat):Int) from rfl]
 rw [z1x (hs _ 32 (by simp) (by omega))]
 simp only [List.cons_append,List.nil_append, show ((32:Nat):Int) - 8=((24:Nat):Int) from rfl]
 rw [z1x (hs _ 24 (by simp) (by omega))]
 simp only [List.cons_append,List.nil_append, show ((24:Nat):Int) - 8=((16:Nat):Int) from rfl]
 rw [z1x (hs _ 16 (by simp) (by omega))]
 simp only [List.cons_append,List.nil_append, show ((16:Nat):Int) - 8=((8:Nat):Int) from rfl]
 rw [z1x (hs _ 8 (by simp) (by omega))]
 simp only [List.cons_append,List.nil_append, show ((8:Nat):Int) - 8=((0:Nat):Int) from rfl]
 rw [z1x (hs _ 0 (by simp) (by omega))]
 simp only [List.cons_append,List.nil_append]
 refine z1p ?_
 unfold z6o
 rw [if_neg (by simp)]; rfl
def zxy (v:z04):List UInt8:=v.Kind::(if v.Kind=1 then z1k (zig v.Num) else if v.Kind=2 then be8 v.Bits else z1k v.Text.length++v.Text)
theorem zry {n:Int} (h:inI n):zig n<18446744073709551616:=z119 h.1 h.2
theorem z11w (v:z04) (hI:inI v.Num) (hl:v.Text.length≤9223372036854775807):zau v=some (if okV v then (zxy v,0) else ([],8)):=by
 unfold zau
 rw [zkw v hl]
 cases hv:okV v
 ·
  rfl
 simp only [bs,if_true]
 rw [if_neg (by simp)]
 unfold zxy
 rcases zjl hv with k | k | k
 ·
  have h1:=z0z (zig v.Num) (zry hI)
  rw [k,zu3 v.Num hI]
  simp only [bs]
  rw [if_pos (by decide),z28 (by simp; omega)]; simp [bs]
 ·
  rw [k,if_neg (by decide),if_pos (by decide),if_neg (by decide),if_pos rfl,← k,zv8]; rfl
 ·
  have h3:=(okV3 hv k).2.2.1
  have h1:=z0z v.Text.length (by omega)
  rw [k,zmh v.Text (by omega)]
  rw [if_neg (by decide),if_neg (by decide),if_pos (by decide),if_neg (by decide),if_neg (by decide),z2j (by omega)]
  simp only [bs]
  rw [z28 (by simp; omega)]; rfl
theorem zml (n:Int) (h:inI n):z8t n=some (z1k (zig n)):=by
 obtain ⟨h1,h2⟩:=h
 unfold z8t
 by_cases h0:0≤n
 ·
  rw [if_pos (by simpa using h0),z5z]
  have e:(2 * UInt64.ofInt n).toNat=zig n:=by
   rw [UInt64.toNat_mul,zad, show (2:UInt64).toNat=2 from rfl]
   unfold zig; rw [if_pos h0]; omega
  rw [e]; rfl
 ·
  rw [if_neg (by simpa using h0),z5z]
  have e:((2 * UInt64.ofInt (w64 (0 - (w64 (n+1)))))+1).toNat=zig n:=by
   rw [z0t (x:=n+1) (by omega) (by omega),z0t (by omega) (by omega),UInt64.toNat_add,UInt64.toNat_mul,zad, show (2:UInt64).toNat=2 from rfl, show (1:UInt64).toNat=1 from rfl]
   unfold zig; rw [if_neg h0]; omega
  rw [e]; rfl
theorem zjd (s:List UInt8) (h:s.length≤100000):z6q s=some (z1k s.length++s):=by
 unfold z6q
 rw [z5z]
 have e:(UInt64.ofInt (s.length:Int)).toNat=s.length:=by rw [zad]; omega
 have:=z0z s.length (by omega)
 rw [e]
 simp only [bs]
 rw [z28 (by omega)]; rfl
theorem zs8 (v:z04) (l:List UInt8) (k:Nat) (hl:l.length≤100) (hk:k≤7):z4d v (l,(k:Int))=some (.inr (l++[(z67 v.Bits (8 * k)).toUInt8],(k:Int) - 1)):=by
 unfold z4d
 rw [if_pos (by simp)]
 simp only
 have e:w64 (8 * (k:Int))=((8 * k:Nat):Int):=by rw [z0t (by omega) (by omega)]; omega
 rw [e,z2j (by omega)]
 simp only [bs,Int.toNat_natCast]
 rw [z28 (by simp; omega)]
 simp only [bs]
 rw [z0t (by omega) (by omega)]
theorem zwa (v:z04):iter (z4d v) ([v.Kind],7)=some (v.Kind::be8 v.Bits):=by
 have hs:=fun l k h1 h2=>zs8 v l k h1 h2
 rw [show (7:Int)=((7:Nat):Int) from rfl,z1x (hs [v.Kind] 7 (by simp) (by omega))]
 simp only [List.cons_append,List.nil_append, show ((7:Nat):Int) - 1=((6:Nat):Int) from rfl]
 rw [z1x (hs _ 6 (by simp) (by omega))]
 simp only [List.cons_append,List.nil_append, show ((6:Nat):Int) - 1=((5:Nat):Int) from rfl]
 rw [z1x (hs _ 5 (by simp) (by omega))]
 simp only [List.cons_append,List.nil_append, show ((5:Nat):Int) - 1=((4:Nat):Int) from rfl]
 rw [z1x (hs _ 4 (by simp) (by omega))]
 simp only [List.cons_append,List.nil_append, show ((4:Nat):Int) - 1=((3:Nat):Int) from rfl]
 rw [z1x (hs _ 3 (by simp) (by omega))]
 simp only [List.cons_append,List.nil_append, show ((3:Nat):Int) - 1=((2:Nat):Int) from rfl]
 rw [z1x (hs _ 2 (by simp) (by omega))]
 simp only [List.cons_append,List.nil_append, show ((2:Nat):Int) - 1=((1:Nat):Int) from rfl]
 rw [z1x (hs _ 1 (by simp) (by omega))]
 simp only [List.cons_append,List.nil_append, show ((1:Nat):Int) - 1=((0:Nat):Int) from rfl]
 rw [z1x (hs _ 0 (by simp) (by omega))]
 simp only [List.cons_append,List.nil_append]
 refine z1p ?_
 unfold z4d
 rw [if_neg (by simp)]; rfl
theorem ztq (v:z04) (hI:inI v.Num) (hv:okV v=true):z9o v=some (zxy v):=by
 unfold zxy z9o
 rcases zjl hv with k | k | k
 ·
  have h1:=z0z (zig v.Num) (zry hI)
  rw [k,zml v.Num hI]
  simp only [bs]
  rw [if_pos (by decide),z28 (by simp; omega)]; simp [bs]
 ·
  rw [k,if_neg (by decide),if_pos (by decide),if_neg (by decide),if_pos rfl,← k,zwa]; rfl
 ·
  have h3:=(okV3 hv k).2.2.1
  have h1:=z0z v.Text.length (by omega)
  rw [k,zjd v.Text (by omega)]
  rw [if_neg (by decide),if_neg (by decide),if_neg (by decide),if_neg (by decide),z2j (by omega)]
  simp only [bs]
  rw [z28 (by simp; omega)]; rfl
end
section
open Go
theorem zw1 (a b:V3):∀ (n i:Nat),32 - i=n→i≤32→∃ r:Sum Int Unit,iter (z5i a b) (i:Int)=some r∧(z6j (some r) (fun _=>some 0)=some (Lib.compareBytes (a.toList.drop i) (b.toList.drop i))):=by
 intro n
 induction n with
 | zero =>
  intro i hn hi
  have:i=32:=by omega
  subst this
  refine ⟨.inr (),z1p ?_,?_⟩
  ·
   unfold z5i; rw [if_neg (by simp)]
  ·
   rw [List.drop_eq_nil_of_le (by simp),List.drop_eq_nil_of_le (by simp)]; rfl
 | succ n ih =>
  intro i hn hi
  have hlt:i<32:=by omega
  have da:a.toList.drop i=a[i]::a.toList.drop (i+1):=by rw [List.drop_eq_getElem_cons (by simpa using hlt)]; simp
  have db:b.toList.drop i=b[i]::b.toList.drop (i+1):=by rw [List.drop_eq_getElem_cons (by simpa using hlt)]; simp
  have hF:z5i a b (i:Int)=if decide (a[i]<b[i]) then some (.inl (.inl (-1))) else if decide (b[i]<a[i]) then some (.inl (.inl 1)) else some (.inr ((i+1:Nat):Int)):=by
   unfold z5i
   rw [if_pos (by simp; omega)]
   simp only [z6i hlt,bs,z0l (show i<9223372036854775807 by omega)]
  rw [da,db,Lib.compareBytes]
  by_cases h1:a[i]<b[i]
  ·
   rw [decide_eq_true h1] at hF
   exact ⟨_,z1p hF, by rw [if_pos h1]; rfl⟩
  ·
   rw [decide_eq_false h1] at hF
   by_cases h2:b[i]<a[i]
   ·
    rw [decide_eq_true h2] at hF
    exact ⟨_,z1p hF, by rw [if_neg h1,if_pos h2]; rfl⟩
   ·
    rw [decide_eq_false h2] at hF
    obtain ⟨r,k1,k2⟩:=ih (i+1) (by omega) (by omega)
    exact ⟨r, by rw [z1x hF]; exact k1, by rw [if_neg h1,if_neg h2]; exact k2⟩
theorem zm4 (a b:V3):z6c a b=some (Lib.compareBytes a.toList b.toList):=by
 obtain ⟨r,h1,h2⟩:=zw1 a b 32 0 rfl (by omega)
 unfold z6c
 rw [show (0:Int)=((0:Nat):Int) from rfl,h1]
 simpa using h2
theorem znb (a b:V3):z6u a b=some (Lib.compareBytes a.toList b.toList):=by
 unfold z6u zc9; rfl
def z6f:List V3→Bool
 | a::b::l=>!decide (0≤Lib.compareBytes a.toList b.toList)&&z6f (b::l)
 | _=>true
theorem zi5 (l:List V3) (hl:l.length≤9223372036854775807):∀ (n i:Nat),l.length - i=n→1≤i→i≤l.length→iter (z36 l) (i:Int)=some (if z6f (l.drop (i - 1)) then .inr () else .inl false):=by
 intro n
 induction n with
 | zero =>
  intro i hn h1 hi
  have:i=l.length:=by omega
  refine z1p ?_
  have e:l.drop (i - 1)=[l[i - 1]'(by omega)]:=by
   rw [List.drop_eq_getElem_cons (by omega),List.drop_eq_nil_of_le (by omega)]
  rw [e]
  unfold z36
  rw [if_neg (by simp; omega)]
  simp [z6f]
 | succ n ih =>
  intro i hn h1 hi
  have hlt:i<l.length:=by omega
  have e:l.drop (i - 1)=l[i - 1]::l[i]::l.drop (i+1):=by
   rw [List.drop_eq_getElem_cons (by omega), show i - 1+1=i by omega,List.drop_eq_getElem_cons hlt]
  have e':l.drop (i+1 - 1)=l[i]::l.drop (i+1):=by rw [Nat.add_sub_cancel,List.drop_eq_getElem_cons hlt]
  have hF:z36 l (i:Int)=if decide (0≤Lib.compareBytes (l[i - 1]).toList (l[i]).toList) then some (.inl (.inl false)) else some (.inr ((i+1:Nat):Int)):=by
   unfold z36
   rw [if_pos (by simp; omega),z0t (by omega) (by omega), show ((i:Int) - 1)=((i - 1:Nat):Int) by omega]
   simp only [z0h hlt,z0h (show i - 1<l.length by omega),bs,zm4,z0l (show i<9223372036854775807 by omega)]
  rw [e,z6f]
  cases hc:decide (0≤Lib.compareBytes (l[i - 1]).toList (l[i]).toList) with
  | true=>rw [hc] at hF; rw [z1p hF]; rfl
  | false =>
   rw [hc] at hF
   rw [z1x hF,ih (i+1) (by omega) (by omega) (by omega),e']; simp
theorem zlo (l:List V3) (hl:l.length≤9223372036854775807):z6z l=some (z6f l):=by
 unfold z6z
 cases l with
 | nil =>
  rw [z1p (b:=.inr ()) (by unfold z36; rw [if_neg (by simp)])]; rfl
 | cons x l =>
  have:=zi5 (x::l) hl _ 1 rfl (by omega) (by simp)
  rw [show (1:Int)=((1:Nat):Int) from rfl,this]
  simp only [Nat.sub_self,List.drop_zero]
  cases z6f (x::l) <;> rfl
theorem zla (l:List V3) (hl:l.length≤9223372036854775806):∀ (n i:Nat),l.length - i=n→i≤l.length→∃ r,iter (z0e l l) ((i:Int),(i:Int))=some r∧(z6f (l.drop i)=true→∃ c,r=.inr c)∧(z6f (l.drop i)=false→∃ (k:Nat) (c:Int),r=.inl ((k:Int),c)):=by
 intro n
 induction n with
 | zero =>
  intro i hn hi
  have:i=l.length:=by omega
  refine ⟨.inr (i:Int),z1p ?_, fun _=>⟨_,rfl⟩, fun h=>?_⟩
  ·
   unfold z0e
   rw [if_neg (by simp; omega)]
  ·
   rw [List.drop_eq_nil_of_le (by omega)] at h; simp [z6f] at h
 | succ n ih =>
  intro i hn hi
  have hlt:i<l.length:=by omega
  by_cases h2:i+1<l.length
  ·
   have e:l.drop i=l[i]::l[i+1]::l.drop (i+2):=by rw [List.drop_eq_getElem_cons hlt,List.drop_eq_getElem_cons h2]
   have e':l.drop (i+1)=l[i+1]::l.drop (i+2):=by rw [List.drop_eq_getElem_cons h2]
   have hF:z0e l l ((i:Int),(i:Int))=if decide (0≤Lib.compareBytes (l[i]).toList (l[i+1]).toList) then some (.inl (.inl ((i:Int),((i+1:Nat):Int)))) else some (.inr (((i+1:Nat):Int),((i+1:Nat):Int))):=by
    unfold z0e z9w
    rw [if_pos (by simp; omega)]
    simp only [z0h hlt,bs,z0l (show i<9223372036854775807 by omega)]
    rw [if_pos (by simp; omega),z0t (by omega) (by omega), show ((i+1:Nat):Int) - 1=(i:Int) by omega]
    simp only [z0h hlt,z0h h2,bs,znb]
   rw [e,z6f]
   cases hc:decide (0≤Lib.compareBytes (l[i]).toList (l[i+1]).toList) with
   | true =>
    rw [hc] at hF
    exact ⟨_,z1p hF, fun h=>by simp at h, fun _=>⟨i,_,rfl⟩⟩
   | false =>
    rw [hc] at hF
    obtain ⟨r,k1,k2,k3⟩:=ih (i+1) (by omega) (by omega)
    rw [e'] at k2 k3
    exact ⟨r, by rw [z1x hF]; exact k1, fun h=>k2 (by simpa using h), fun h=>k3 (by simpa using h)⟩
  ·
   have e:l.drop i=[l[i]]:=by rw [List.drop_eq_getElem_cons hlt,List.drop_eq_nil_of_le (by omega)]
   have hF:z0e l l ((i:Int),(i:Int))=some (.inr (((i+1:Nat):Int),((i+1:Nat):Int))):=by
    unfold z0e z9w
    rw [if_pos (by simp; omega)]
    simp only [z0h hlt,bs,z0l (show i<9223372036854775807 by omega)]
    rw [if_neg (by simp; omega)]
    simp only [bs]; rfl
   obtain ⟨r,k1,k2,k3⟩:=ih (i+1) (by omega) (by omega)
   rw [List.drop_eq_nil_of_le (by omega)] at k2 k3
   exact ⟨r, by rw [z1x hF]; exact k1, fun _=>k2 rfl, fun h=>by rw [e] at h; simp [z6f] at h⟩
theorem zpj (l:List V3) (hl:l.length≤9223372036854775806):zch l=some (z6f l):=by
 obtain ⟨r,k1,k2,k3⟩:=zla l hl _ 0 rfl (by omega)
 unfold zch z1t z23
 rw [show ((0:Int),(0:Int))=(((0:Nat):Int),((0:Nat):Int)) from rfl,k1]
 simp only [List.drop_zero] at k2 k3
 cases h:z6f l with
 | true=>obtain ⟨c,rfl⟩:=k2 h; rfl
 | false =>
  obtain ⟨k,c,rfl⟩:=k3 h
  simp only [zyd,bs]
  rw [decide_eq_true (by omega)]; rfl
def zi9 (l:List V3):List UInt8:=l.flatMap Vector.toList
theorem zf4 (l:List V3):(zi9 l).length=32 * l.length:=by
 induction l with
 | nil=>rfl
 | cons x l ih=>unfold zi9 at ih ⊢; rw [List.flatMap_cons,List.length_append,ih]; simp; omega
theorem zmi (l:List V3) (i:Nat) (hi:i<l.length):zi9 (l.take (i+1))=zi9 (l.take i)++(l[i]).toList:=by
 rw [List.take_add_one,List.getElem?_eq_getElem hi]; unfold zi9; rw [List.flatMap_append,Option.toList_some,List.flatMap_cons,List.flatMap_nil,List.append_nil]
theorem zyx (l:List V3) (h:l.length≤1000) (s:List UInt8) (hs:s.length≤9):iter (z4u l) (s,0)=some (s++zi9 l):=by
 have:=z2k (F:=z4u l) (b:=s++zi9 l) l.length (fun i=>(s++zi9 (l.take i),(i:Int))) (fun i hi=>?_) ?_
 ·
  simpa [zi9] using this
 ·
  unfold z4u
  have hf:=zf4 (l.take i)
  rw [if_pos (by simp; omega)]
  simp only [z0h hi,bs]
  rw [z28 (by simp at hf ⊢; omega)]
  simp only [bs,z0l (show i<9223372036854775807 by omega),zmi l i hi,List.append_assoc]
 ·
  unfold z4u
  rw [if_neg (by simp)]
  simp
theorem z114 (l:List V3) (h:l.length≤1000) (s:List UInt8) (hs:s.length≤9):iter (zai l) (s,0)=some (s++zi9 l):=by
 have:=z2k (F:=zai l) (b:=s++zi9 l) l.length (fun i=>(s++zi9 (l.take i),(i:Int))) (fun i hi=>?_) ?_
 ·
  simpa [zi9] using this
 ·
  unfold zai
  have hf:=zf4 (l.take i)
  rw [if_pos (by simp; omega)]
  simp only [z0h hi,bs]
  rw [z28 (by simp at hf ⊢; omega)]
  simp only [bs,z0l (show i<9223372036854775807 by omega),zmi l i hi,List.append_assoc]
 ·
  unfold zai
  rw [if_neg (by simp)]
  simp
theorem zht {n:Nat} (h:n<18446744073709551616):(UInt64.ofInt (n:Int)).toNat=n:=by
 simp [UInt64.ofInt]; omega
theorem zux (l:List V3) (h:l.length≤1000):zak l=some (z1k l.length++zi9 l):=by
 unfold zak
 have hn:=z0z l.length (by omega)
 rw [z5z,zht (by omega)]
 simp only [bs]
 rw [zyx l h _ (by omega)]; rfl
theorem zz8 (l:List V3) (h:l.length≤60) (hi:z6f l=true):zgw l=some (z1k l.length++zi9 l,0):=by
 unfold zgw
 have hn:=z0z l.length (by omega)
 rw [if_neg (by simp; omega),zpj l (by omega),hi,z64,zht (by omega)]
 simp only [bs,Bool.not_true,Bool.false_eq_true,if_false]
 rw [z114 l (by omega) _ (by omega)]; rfl
end
section
open Go
def nk:List UInt8→Nat
 | []=>0
 | a::l=>a.toNat * 256 ^ l.length+nk l
theorem zz2:∀ l:List UInt8,nk l<256 ^ l.length
 | []=>by simp [nk]
 | a::l=>by
  have ih:=zz2 l
  have ha:=UInt8.toNat_lt a
  simp only [nk,List.length_cons,Nat.pow_succ]
  have h1:(a.toNat+1) * 256 ^ l.length≤256 * 256 ^ l.length:=Nat.mul_le_mul_right _ (by omega)
  rw [Nat.add_mul,Nat.one_mul] at h1
  omega
theorem zs9:∀ a b:List UInt8,a.length=b.length→Lib.compareBytes a b=(if nk a<nk b then -1 else if nk b<nk a then 1 else 0)∧(nk a=nk b→a=b)
 | [],[],_=>by simp [Lib.compareBytes,nk]
 | [],_::_,h=>by simp at h
 | _::_,[],h=>by simp at h
 | a::x,b::y,h=>by
  have hl:x.length=y.length:=by simpa using h
  obtain ⟨i1,i2⟩:=zs9 x y hl
  have lx:=zz2 x
  have ly:=zz2 y
  simp only [Lib.compareBytes,nk,hl] at *
  have e:∀ u v:UInt8,u.toNat<v.toNat→u.toNat * 256 ^ y.length+256 ^ y.length≤v.toNat * 256 ^ y.length:=fun u v huv=>by
   have:=Nat.mul_le_mul_right (256 ^ y.length) (show u.toNat+1≤v.toNat from huv)
   rwa [Nat.add_mul,Nat.one_mul] at this
  by_cases h1:a<b
  ·
   have h1':a.toNat<b.toNat:=UInt8.lt_iff_toNat_lt.1 h1
   have:=e a b h1'
   rw [if_pos h1,if_pos (by omega)]
   exact ⟨rfl, fun h=>by omega⟩
  ·
   by_cases h2:b<a
   ·
    have h2':b.toNat<a.toNat:=UInt8.lt_iff_toNat_lt.1 h2
    have:=e b a h2'
    rw [if_neg h1,if_pos h2,if_neg (by omega),if_pos (by omega)]
    exact ⟨rfl, fun h=>by omega⟩
   ·
    have h3:a=b:=UInt8.toNat_inj.1 (by rw [UInt8.lt_iff_toNat_lt] at h1 h2; omega)
    subst h3
    rw [if_neg h1,if_neg h1,i1]
    refine ⟨?_, fun h=>by rw [i2 (by omega)]⟩
    by_cases c1:nk x<nk y
    ·
     rw [if_pos c1,if_pos (by omega)]
    ·
     by_cases c2:nk y<nk x
     ·
      rw [if_neg c1,if_pos c2,if_neg (by omega),if_pos (by omega)]
     ·
      rw [if_neg c1,if_neg c2,if_neg (by omega),if_neg (by omega)]
def kd (d:V3):Nat:=nk d.toList
theorem zpo (a b:V3):Lib.compareBytes a.toList b.toList=if kd a<kd b then -1 else if kd b<kd a then 1 else 0:=(zs9 a.toList b.toList (by simp)).1
theorem zj9 {a b:V3} (h:kd a=kd b):a=b:=by
 have:=(zs9 a.toList b.toList (by simp)).2 h
 exact Vector.toList_inj.1 this
theorem zon (a b:V3):z6u a b=some (if kd a<kd b then -1 else if kd b<kd a then 1 else 0):=by rw [znb,zpo]
theorem zth (a b:V3):z6c a b=some (if kd a<kd b then -1 else if kd b<kd a then 1 else 0):=by rw [zm4,zpo]
theorem zt3 (a b:V3):decide ((if kd a<kd b then (-1:Int) else if kd b<kd a then 1 else 0)<0)=decide (kd a<kd b):=by
 by_cases h:kd a<kd b
 ·
  simp [h]
 ·
  by_cases h2:kd b<kd a <;> simp [h,h2]
theorem zwy (a b:V3):decide (0≤(if kd a<kd b then (-1:Int) else if kd b<kd a then 1 else 0))=decide (kd b≤kd a):=by
 by_cases h:kd a<kd b
 ·
  have:¬ kd b≤kd a:=by omega
  simp [h,this]
 ·
  have h3:kd b≤kd a:=by omega
  by_cases h2:kd b<kd a <;> simp [h,h2,h3]
theorem z10n (a b:V3):((if kd a<kd b then (-1:Int) else if kd b<kd a then 1 else 0)==0)=decide (a=b):=by
 by_cases h:kd a<kd b
 ·
  have:a≠b:=fun e=>by rw [e] at h; omega
  simp [h,this]
 ·
  by_cases h2:kd b<kd a
  ·
   have:a≠b:=fun e=>by rw [e] at h2; omega
   simp [h,h2,this]
  ·
   have:a=b:=zj9 (by omega)
   simp [h,h2,this]
theorem zo6:∀ l:List V3,z6f l=true↔∀ i (h:i+1<l.length),kd (l[i]'(by omega))<kd l[i+1]
 | []=>by simp [z6f]
 | [a]=>by simp [z6f]
 | a::b::l=>by
  have ih:=zo6 (b::l)
  rw [z6f,Bool.and_eq_true,ih,zpo,zwy]
  constructor
  ·
   rintro ⟨h1,h2⟩ i hi
   cases i with
   | zero=>simpa using h1
   | succ i=>exact h2 i (by simpa using hi)
  ·
   intro h
   refine ⟨?_, fun i hi=>h (i+1) (by simpa using hi)⟩
   have:=h 0 (by simp)
   simpa using this
theorem z74:∀ l:List V3,z6f l=true↔l.Pairwise (fun a b=>kd a<kd b)
 | []=>by simp [z6f]
 | [a]=>by simp [z6f]
 | a::b::l=>by
  have ih:=z74 (b::l)
  rw [z6f,Bool.and_eq_true,ih,zpo,zwy]
  constructor
  ·
   rintro ⟨h1,h2⟩
   have h1':kd a<kd b:=by simpa using h1
   refine List.pairwise_cons.2 ⟨fun c hc=>?_,h2⟩
   rcases List.mem_cons.1 hc with rfl | hc
   ·
    exact h1'
   ·
    have:=(List.pairwise_cons.1 h2).1 c hc; omega
  ·
   intro h
   obtain ⟨h1,h2⟩:=List.pairwise_cons.1 h
   have:=h1 b (by simp)
   exact ⟨by simp; omega,h2⟩
theorem zrz (l:List V3) (hl:l.length≤9223372036854775807):∃ b,z0x l=some b∧(b=true↔∀ i (h:i+1<l.length),kd (l[i]'(by omega))≤kd l[i+1]):=by
 have key:∀ n,n<l.length→∃ r:Sum Bool Unit,iter (z0k l) (n:Int)=some r∧((r=.inr ()∧∀ i (h:i+1<l.length),i+1≤n→kd (l[i]'(by omega))≤kd l[i+1])∨(r=.inl false∧∃ i,∃ h:i+1<l.length,¬ kd (l[i]'(by omega))≤kd l[i+1])):=by
  intro n
  induction n with
  | zero =>
   intro h
   refine ⟨_,z1p ?_,.inl ⟨rfl, fun i _ h=>by omega⟩⟩
   unfold z0k
   rw [if_neg (by simp)]
  | succ n ih =>
   intro h
   have hF:z0k l ((n+1:Nat):Int)=if decide (kd l[n+1]<kd l[n]) then some (.inl (.inl false)) else some (.inr (n:Int)):=by
    unfold z0k
    rw [if_pos (by simp <;> omega),z0h h,z0t (by omega) (by omega), show (((n+1:Nat):Int) - 1)=(n:Int) by omega,z0h (by omega)]
    simp only [bS]
    rw [zon]
    simp only [bS]
    rw [zt3]
   by_cases hc:kd l[n+1]<kd l[n]
   ·
    rw [decide_eq_true hc,if_pos rfl] at hF
    exact ⟨_,z1p hF,.inr ⟨rfl,n,h, by omega⟩⟩
   ·
    rw [decide_eq_false hc,if_neg (by simp)] at hF
    obtain ⟨r,h1,h2⟩:=ih (by omega)
    refine ⟨r, by rw [z1x hF]; exact h1,?_⟩
    rcases h2 with ⟨h2,h3⟩ | h2
    ·
     refine .inl ⟨h2, fun i hi hn=>?_⟩
     by_cases hin:i=n
     ·
      subst hin; omega
     ·
      exact h3 i hi (by omega)
    ·
     exact .inr h2
 unfold z0x
 simp only [bS]
 by_cases h0:l.length=0
 ·
  refine ⟨true,?_, by simp; intro i hi; omega⟩
  rw [h0,z0t (by omega) (by omega),z1p (b:=.inr ())]
  ·
   rfl
  ·
   unfold z0k
   rw [if_neg (by simp)]
 ·
  obtain ⟨r,h1,h2⟩:=key (l.length - 1) (by omega)
  rw [z0t (by omega) (by omega), show ((l.length:Int) - 1)=((l.length - 1:Nat):Int) by omega,h1]
  rcases h2 with ⟨rfl,h3⟩ | ⟨rfl,i,hi,h3⟩
  ·
   exact ⟨true,rfl, by simp; exact fun i hi=>h3 i hi (by omega)⟩
  ·
   exact ⟨false,rfl, by simp; exact ⟨i,hi, by omega⟩⟩
theorem zjx {k n j:Nat} (h:j<n):zz5 k n (j:Int)=some (k+j):=by unfold zz5; rw [if_pos (by omega)]; simp
theorem zn8 {α:Type} (b:List α) (k n:Nat) (x:α) (h:k+n≤b.length):(clr b k n x).length=b.length:=by
 unfold clr
 simp only [List.length_append,List.length_take,List.length_replicate,List.length_drop]; omega
theorem znh (l:List V3) (s:Nat) (h1:1≤s) (hs:s<l.length) (hl:l.length≤9223372036854775806):∃ b:List V3 × Int,iter (z0s l s) (l,(s:Int),1)=some b∧b.1.length=l.length∧∃ j:Nat,b.2=(j:Int)∧j<l.length:=by
 refine z6m (F:=z0s l s) (l.length - s) (fun i st=>st.1.length=l.length∧st.2.2=(i:Int)∧1≤i∧∃ j:Nat,st.2.1=(j:Int)∧j+1≤s+i) _ ?_ ?_ _ 1 (by omega) ⟨rfl,rfl, by omega,s,rfl, by omega⟩
 ·
  rintro i ⟨c,j',i'⟩ hi ⟨e1,e2,e0,j,e3,e4⟩
  simp only at e1 e2 e3
  subst e2 e3
  unfold z0s
  rw [if_pos (by simp; omega)]
  simp only [Int.toNat_natCast]
  rw [zjx (by omega),z0t (x:=(i:Int) - 1) (by omega) (by omega), show ((i:Int) - 1)=((i - 1:Nat):Int) by omega,zjx (by omega)]
  simp only [bS]
  rw [z0h (by omega),z0h (by omega)]
  simp only [bS]
  by_cases hc:c[s+i]'(by omega)=c[s+(i - 1)]'(by omega)
  ·
   rw [decide_eq_true hc,if_neg (by simp)]
   exact ⟨_,rfl,e1,z0l (by omega), by omega,j,rfl, by omega⟩
  ·
   rw [decide_eq_false hc,if_pos (by simp),z0h (by omega)]
   simp only [bS]
   exact ⟨_,rfl, by simpa using e1,z0l (by omega), by omega,j+1,z0l (by omega), by omega⟩
 ·
  rintro ⟨c,j',i'⟩ ⟨e1,e2,e0,j,e3,e4⟩
  simp only at e1 e2 e3
  subst e2 e3
  unfold z0s
  rw [if_neg (by simp <;> omega)]
  exact ⟨_,rfl,e1,j,rfl, by omega⟩
theorem zpn (l:List V3) (hl:l.length≤9223372036854775806):∃ c,z13 l=some c∧(c.length=l.length↔∀ i (h:i+1<l.length),l[i]'(by omega)≠l[i+1]):=by
 have key:∀ k n,l.length - n=k→1≤n→n≤l.length→∃ r:Sum (List V3) Unit,iter (z0b l) (n:Int)=some r∧((r=.inr ()∧∀ i (h:i+1<l.length),n≤i+1→l[i]'(by omega)≠l[i+1])∨(∃ c,r=.inl c∧c.length≠l.length∧∃ i,∃ h:i+1<l.length,l[i]'(by omega)=l[i+1])):=by
  intro k
  induction k with
  | zero =>
   intro n hk h1 hn
   refine ⟨_,z1p ?_,.inl ⟨rfl, fun i _ h=>by omega⟩⟩
   unfold z0b
   rw [if_neg (by simp; omega)]
  | succ k ih =>
   intro n hk h1 hn
   have hlt:n<l.length:=by omega
   by_cases hc:l[n]=l[n - 1]
   ·
    obtain ⟨⟨c,j'⟩,e1,e2,j,e3,e4⟩:=znh l n h1 hlt hl
    simp only at e2 e3
    subst e3
    have hF:z0b l (n:Int)=some (.inl (.inl ((clr c j (c.length - j) (Vector.replicate 32 0)).take j))):=by
     unfold z0b
     rw [if_pos (by simp; omega),z0h hlt,z0t (by omega) (by omega), show ((n:Int) - 1)=((n - 1:Nat):Int) by omega,z0h (by omega)]
     simp only [bS]
     rw [decide_eq_true hc,if_pos rfl,z2j (by omega)]
     simp only [bS]
     rw [e1]
     simp only [bS]
     rw [z2j (by omega),z2j (by simp; omega)]
     simp only [bS,Int.toNat_natCast]
     rw [show (0:Int)=((0:Nat):Int) from rfl,zgb (by omega) (by rw [zn8 _ _ _ _ (by omega)]; omega)]
     simp
    refine ⟨_,z1p hF,.inr ⟨_,rfl,?_,n - 1, by omega,?_⟩⟩
    ·
     rw [List.length_take]; omega
    ·
     have:n - 1+1=n:=by omega
     simp only [this]; exact hc.symm
   ·
    have hF:z0b l (n:Int)=some (.inr ((n+1:Nat):Int)):=by
     unfold z0b
     rw [if_pos (by simp; omega),z0h hlt,z0t (x:=(n:Int) - 1) (by omega) (by omega), show ((n:Int) - 1)=((n - 1:Nat):Int) by omega,z0h (by omega)]
     simp only [bS]
     rw [decide_eq_false hc,if_neg (by simp),z0l (by omega)]
    obtain ⟨r,h2,h3⟩:=ih (n+1) (by omega) (by omega) (by omega)
    refine ⟨r, by rw [z1x hF]; exact h2,?_⟩
    rcases h3 with ⟨h3,h4⟩ | h3
    ·
     refine .inl ⟨h3, fun i hi hni=>?_⟩
     by_cases hin:i+1=n
     ·
      subst hin; exact fun e=>hc e.symm
     ·
      exact h4 i hi (by omega)
    ·
     exact .inr h3
 unfold z13
 by_cases h2:l.length<2
 ·
  rw [if_pos (by simp; omega)]
  exact ⟨l,rfl, by simp; intro i hi; omega⟩
 ·
  rw [if_neg (by simp; omega)]
  obtain ⟨r,e1,e2⟩:=key (l.length - 1) 1 rfl (by omega) (by omega)
  rw [show (1:Int)=((1:Nat):Int) from rfl,e1]
  rcases e2 with ⟨rfl,h3⟩ | ⟨c,rfl,h3,i,hi,h4⟩
  ·
   exact ⟨l,rfl, by simp; exact fun i hi=>h3 i hi (by omega)⟩
  ·
   exact ⟨c,rfl,⟨fun h=>absurd h h3, fun h=>absurd h4 (h i hi)⟩⟩
theorem zvs (l:List V3):z6f l=true↔(∀ i (h:i+1<l.length),kd (l[i]'(by omega))≤kd l[i+1])∧∀ i (h:i+1<l.length),l[i]'(by omega)≠l[i+1]:=by
 rw [zo6]
 constructor
 ·
  intro h
  refine ⟨fun i hi=>Nat.le_of_lt (h i hi), fun i hi e=>?_⟩
  have:=h i hi
  rw [e] at this; omega
 ·
  rintro ⟨h1,h2⟩ i hi
  have:=h1 i hi
  rcases Nat.lt_or_eq_of_le this with h | h
  ·
   exact h
  ·
   exact absurd (zj9 h) (h2 i hi)
end
section
open Go Go.Shelf Go.RowKit Go.Lib Go.Sort
def zzy (x y:V3):Int:=Lib.compareBytes x.toList y.toList
theorem zwk (x y:V3):ltOf zzy x y=decide (kd x<kd y):=by
 unfold ltOf zzy
 rw [zpo,zt3]
theorem z12r:SWO (ltOf zzy) where
 irrefl x:=by rw [zwk]; simp
 trans x y z h1 h2:=by rw [zwk] at *; simp at *; omega
 ntrans x y z h1 h2:=by rw [zwk] at *; simp at *; omega
def zqh (l:List V3):List V3:=l.mergeSort fun x y=>!(ltOf zzy) y x
theorem zmj (l:List V3):(zqh l).length=l.length:=List.length_mergeSort l
theorem ztn (l:List V3) (x:V3):x∈zqh l↔x∈l:=List.mem_mergeSort
theorem zlr (l:List V3):(zqh l).Pairwise fun x y=>kd x≤kd y:=by
 have h:=List.pairwise_mergeSort (le:=fun x y=>!(ltOf zzy) y x) (fun a b c h1 h2=>by
  rw [zwk] at *; simp at *; omega) (fun a b=>by rw [zwk,zwk]; simp; omega) l
 exact h.imp fun {a b} hab=>by rw [zwk] at hab; simp at hab; omega
def zyt (l:List V3):Option (List V3):=chk (l.length≤1000000) >>= fun _=>some (zqh l)
theorem zut (p0:Value) (c0:List V3):z2s Tryz.prog 50 [.val p0,.val (.func (.func 51) #[] #[])] [(1,some (p0,.list (z3l 32 u8R) 36 c0))] (zyt c0) (fun r nv=>⟨[],[(1,some (p0,.list (z3l 32 u8R) 36 r))]⟩):=by
 refine zwb zqh zmj (fun cap w=>?_) (fun blk cap d w hH hb hs=>?_) p0 c0
 ·
  exact AnyF.slices_SortFunc_none z11o none cap _ w
 ·
  have eg:∀ args w,(callFunc 51 args).run Tryz.prog w=.ok (.enter 51 args) w:=enters_of Tryz.func51 (by kernel_rfl) rfl
  exact AnyQ.slices_SortFunc_total z11o 32 Tryz.isAgg36 Tryz.sizeOf36 z8j zdn (fun x v hv=>by
   unfold z8j at hv
   obtain ⟨c,_,rfl⟩:=List.mem_map.1 hv
   rfl) zzy z12r 51 #[] blk 0 cap d w eg (fun m os dk _ x y=>zpx x y _) hH hb hs (fun x y h1 h2=>by
   rw [zwk] at h1 h2
   simp at h1 h2
   exact zj9 (by omega))
end
section
open Go Go.RowKit
set_option maxRecDepth 100000
def z4r (a0:V3) (c1_0:List (V3 × Int)):Option (Bool) :=
 some ((zbd c1_0 a0).getD 0) >>= fun y2 =>
 some ((zbd c1_0 a0).isSome) >>= fun y3 =>
 some y3
theorem z93 (a0:V3) (p1_0:Value) (q1_0:Value) (c1_0:List (V3 × Int)):z2s Tryz.prog 49 [.rd aZ a0,.val (z05 p1_0 0)] [(1,some (p1_0,.box 65 [.val q1_0])),(2,some (q1_0,.map aZ z09 c1_0))] (z4r a0 c1_0) (fun r nv=>⟨[.rd z0j r],[(1,some (p1_0,.box 65 [.val q1_0])),(2,some (q1_0,.map aZ z09 c1_0))]⟩):=by
 refine z3o 13 Tryz.func49 Z Z Z fun H w=>?_
 refine gSR<|Eb Z (bx 3 Z) fun v1=>Zb Z<|gSR<|Zq (ldV 1 Z Z .here sc65 Z)<|Zq (ld 3 Z Z fH z51 Z)<|Zq (mlk2 Z (.own 2 Z Z) Z zv3 Tryz.underlying65 ti3 (Zr.num Z) Z)<|Zm Z<|Zq (ext Z Z)<|Zq (ext Z Z)<|Za Z<|z38 4 Z fun y2=>Za Z<|z38 5 Z fun y3=>Zn<|gSR<|Zm Z<|Zb Z<|z12<|Ze [] [1,2] Z
def z3q (a0:List V3) (c1_0:List (V3 × Int)) (s2:Int):Option (Sum (Sum Int Unit) Int) :=
 if decide (s2<(a0.length:Int)) then
  idx a0 s2 >>= fun x4 =>
  z4r x4 c1_0 >>= fun r6 =>
  if r6 then
   some (.inl (.inl s2))
  else
   some (.inr (w64 (s2+1)))
 else
  some (.inl (.inr ()))
def z2g (a0:List V3) (c1_0:List (V3 × Int)):Option (Int) :=
 z6j (iter (z3q a0 c1_0) 0) fun s1 =>
 some (-1)
theorem z3r (a0:List V3) (q0:Value) (l0:List V3) (p1_0:Value) (q1_0:Value) (c1_0:List (V3 × Int)):z2s Tryz.prog 54 [.vw aZ q0 l0 a0,.val (.func (.func 49) #[] #[z05 p1_0 0])] [(1,some (q0,.list aZ 36 l0)),(2,some (p1_0,.box 65 [.val q1_0])),(3,some (q1_0,.map aZ z09 c1_0))] (z2g a0 c1_0) (fun r nv=>⟨[.rd z09 r],[(1,some (q0,.list aZ 36 l0)),(2,some (p1_0,.box 65 [.val q1_0])),(3,some (q1_0,.map aZ z09 c1_0))]⟩):=by
 refine z3o 19 Tryz.func54 Z Z Z fun H w=>?_
 refine gSR<|Zb Z<|zcy (fun (s1:Unit) aa ww=>Sta (ctx 19 H [(1,some (q0,.list aZ 36 l0)),(2,some (p1_0,.box 65 [.val q1_0])),(3,some (q1_0,.map aZ z09 c1_0))] w) [] [(1,some (q0,.list aZ 36 l0)),(3,some (q1_0,.map aZ z09 c1_0)),(2,some (p1_0,.box 65 [.val q1_0]))] aa ww) ?_ (fun s1=>?_)
 ·
  refine gSR<|Zm Z<|Zq (z5y Z (.vw 1 Z) Z tu22)<|Zm Z<|Zn<|z3e (fun (s2:Int) aa ww=>Sta (ctx 19 H [(1,some (q0,.list aZ 36 l0)),(2,some (p1_0,.box 65 [.val q1_0])),(3,some (q1_0,.map aZ z09 c1_0))] w) [(0,.vw aZ q0 l0 a0),(1,.val (.func (.func 49) #[] #[z05 p1_0 0])),(7,.rd z09 (a0.length:Int)),(8,.rd z09 s2)] [(1,some (q0,.list aZ 36 l0)),(3,some (q1_0,.map aZ z09 c1_0)),(2,some (p1_0,.box 65 [.val q1_0]))] aa ww) (fun aa ww h=>Zu h [1,3,2]) (fun s2=>?_)
  refine gSR<|Zq (I.lss Z Z)<|Zn<|z1c<|gIf Z Z (fun h3=>?_) (fun h3=>?_)
  ·
   refine Zt<|z1c<|z7x<|gSR<|Zm Z<|Zb Z<|gSR<|Zm Z<|Zm Z<|Zm Z<|z17 fun x4 h5=>Zq (ixQ 1 Z Z Z h5 tu22 z30)<|Zq (ldQ 1 Z Z z51 Z)<|zh9 [2,3] [(1,2),(2,3)] (gd0 Z) Z Z Tryz.func49 Z Z (z93 _ _ _ _) (Y1 Z) (cQ 2 Z<|cN) (Zi Z<|Zi Z<|rN) fun r6 n7=>Zj Z (fun h8=>?_) (fun h8=>?_)
   ·
    refine gSR<|Zm Z<|Zb Z<|z12<|z8k<|z1i<|zcc<|zcf<|Ze [] [1,2,3] Z
   ·
    refine z6s<|z5h<|z15<|z3f<|Zq (I.add Z Z)<|Zm Z<|z2p<|z2q (fun aa ww h=>Zu h [1,3,2])
  ·
   refine z3j<|z26<|z24<|zcx (fun aa ww h=>Zu h [1,3,2])
 ·
  refine gSR<|Zb Z<|z12<|Ze [] [1,2,3] Z
def z3y (c1_0:List (V3 × Int)) (s5:(List V3) × Int × Int):Option (Sum ((List V3) × Int) ((List V3) × Int × Int)) :=
 if decide (s5.2.2<(s5.1.length:Int)) then
  idx s5.1 s5.2.2 >>= fun x7 =>
  z4r x7 c1_0 >>= fun r10 =>
  if !r10 then
   idx s5.1 s5.2.1 >>= fun x13 =>
   some (w64 (s5.2.1+1)) >>= fun y15 =>
   some (w64 (s5.2.2+1)) >>= fun y16 =>
   some (.inr (s5.1.set (s5.2.1:Int).toNat x7,y15,y16))
  else
   some (w64 (s5.2.2+1)) >>= fun y17 =>
   some (.inr (s5.1,s5.2.1,y17))
 else
  some (.inl (s5.1,s5.2.1))
def z11 (c0:List V3) (c1_0:List (V3 × Int)):Option ((List V3)) :=
 z2g c0 c1_0 >>= fun r1 =>
 if r1==(-1) then
  some c0
 else
  (iter (z3y c1_0) (c0,r1,w64 (r1+1))) >>= fun s4 =>
  chk (0≤s4.2∧s4.2≤(s4.1.length:Int)∧(s4.1.length:Int)≤(s4.1.length:Int)) >>= fun u18 =>
  chk ((s4.2:Int).toNat+(((s4.1.length:Int):Int).toNat - (s4.2:Int).toNat)≤s4.1.length) >>= fun u20 =>
  cut (clr s4.1 ((s4.2:Int).toNat) (((s4.1.length:Int):Int).toNat - (s4.2:Int).toNat) (Vector.replicate 32 0)) 0 s4.2 >>= fun x22 =>
  some x22
theorem z40 (p0:Value) (c0:List V3) (p1_0:Value) (q1_0:Value) (c1_0:List (V3 × Int)):z2s Tryz.prog 48 [.val p0,.val (.func (.func 49) #[] #[z05 p1_0 0])] [(1,some (p0,.list aZ 36 c0)),(2,some (p1_0,.box 65 [.val q1_0])),(3,some (q1_0,.map aZ z09 c1_0))] (z11 c0 c1_0) (fun r nv=>⟨[.val (nv 0)],[(2,some (p1_0,.box 65 [.val q1_0])),(3,some (q1_0,.map aZ z09 c1_0)),(100,some (nv 0,.list aZ 36 r))]⟩):=by
 refine z3o 42 Tryz.func48 Z Z Z fun H w=>?_
 refine gSR<|Zb Z<|gSR<|Zm Z<|Zm Z<|call [1,2,3] [(1,1),(2,2),(3,3)] Z Tryz.func54 Z Z (z3r _ _ _ _ _ _) (aW Z<|aQ Z<|aN) (Zi Z<|Zi Z<|Zi Z<|rN) fun r1 n2=>Zb Z<|z1c<|gSR<|Zm Z<|Zq (I.eql Z Z)<|Zj Z (fun h3=>?_) (fun h3=>?_)
 ·
  refine gSR<|Zm Z<|Zb Z<|z12<|z1i<|Ze [p0] [2,3,1] Z
 ·
  refine Zt<|zax (fun (s4:(List V3) × Int) aa ww=>Sta (ctx 42 H [(1,some (p0,.list aZ 36 c0)),(2,some (p1_0,.box 65 [.val q1_0])),(3,some (q1_0,.map aZ z09 c1_0))] w) [(0,.val p0),(5,.rd z09 s4.2)] [(1,some (p0,.list aZ 36 s4.1)),(3,some (q1_0,.map aZ z09 c1_0)),(2,some (p1_0,.box 65 [.val q1_0]))] aa ww) ?_ (fun s4=>?_)
  ·
   refine gSR<|Zm Z<|Zq (I.add Z Z)<|Zb Z<|z3e (fun (s5:(List V3) × Int × Int) aa ww=>Sta (ctx 42 H [(1,some (p0,.list aZ 36 c0)),(2,some (p1_0,.box 65 [.val q1_0])),(3,some (q1_0,.map aZ z09 c1_0))] w) [(0,.val p0),(1,.val (.func (.func 49) #[] #[z05 p1_0 0])),(5,.rd z09 s5.2.1),(6,.rd z09 s5.2.2)] [(1,some (p0,.list aZ 36 s5.1)),(3,some (q1_0,.map aZ z09 c1_0)),(2,some (p1_0,.box 65 [.val q1_0]))] aa ww) (fun aa ww h=>Zu h [1,3,2]) (fun s5=>?_)
   refine z1c<|gSR<|Zm Z<|Zm Z<|Zq (z5y Z (.own 1 Z) Z tu22)<|Zq (I.lss Z Z)<|Zj Z (fun h6=>?_) (fun h6=>?_)
   ·
    refine Zt<|z1c<|z7x<|gSR<|Zm Z<|Zm Z<|z17 fun x7 h8=>Zq (ixO 1 Z Z Z h8 tu22 z30)<|Zq (ld 1 Z Z (Foc.el h8) z51 Z)<|Eb Z (z71 4 z30 (.zr (R:=aZ) (x:=(Vector.replicate 32 0)) zd4)) fun v9=>Es (sto 4 Z Z fH Z z30)<|Zn<|gSR<|Zm Z<|Zq (ld 4 Z Z fH z51 Z)<|zh9 [2,3] [(1,2),(2,3)] (gd0 Z) Z Z Tryz.func49 Z Z (z93 _ _ _ _) (Y1 Z) (cQ 2 Z<|cN) (Zi Z<|Zi Z<|rN) fun r10 n11=>Zq (zge Z)<|Zj Z (fun h12=>?_) (fun h12=>?_)
    ·
     refine gSR<|Zm Z<|Zm Z<|Zq (ld 4 Z Z fH z51 Z)<|z17 fun x13 h14=>Zq (ixO 1 Z Z Z h14 tu22 z30)<|Es (sto 1 Z Z (Foc.el h14) Z z30)<|Zn<|z3f<|Zm Z<|Zq (I.add Z Z)<|Za Z<|z38 5 Z fun y15=>z2p<|z5h<|z15<|z3f<|Zm Z<|Zq (I.add Z Z)<|Za Z<|z38 6 Z fun y16=>z2p<|z2q (fun aa ww h=>Zu h [1,3,2])
    ·
     refine z6s<|z5h<|z15<|z3f<|Zm Z<|Zq (I.add Z Z)<|Za Z<|z38 6 Z fun y17=>z2p<|z2q (fun aa ww h=>Zu h [1,3,2])
   ·
    refine z3j<|z26<|z24<|z65 (fun aa ww h=>Zu h [1,3,2])
  ·
   refine gSR<|Zm Z<|Zm Z<|z17 fun u18 h19=>Zq (zxh 1 Z Z (.to Z) .no (z8a h19) tu22 z30)<|z17 fun u20 h21=>EsV (clrS 1 Z Z (z8a h21) Z tu22 z30 zd4 Z)<|Zn<|gSR<|Zm Z<|Zm Z<|z17 fun x22 h23=>Ef Z (cutO 1 Z Z Z h23 tu22 z30) fun v24=>Zb Z<|z12<|Ze [v24] [2,3,1] Z
def z1z (a0:z00) (a1:List V3):Option ((List V3) × Int) :=
 z1g a0 >>= fun r2 =>
 if r2 != 0 then
  some ([],r2)
 else
  if decide (60<(a1.length:Int)) then
   some ([],4)
  else
   z2o a0 >>= fun r6 =>
   z0o a1 >>= fun r9 =>
   z11 r9 r6 >>= fun r11 =>
   zyt r11 >>= fun r13 =>
   z13 r13 >>= fun r15 =>
   some (r15,0)
theorem z63 (a0:z00) (a1:List V3):z2s Tryz.prog 28 [.rd z01 a0,.rd (z02 aZ) a1] [zG1] (z1z a0 a1) (fun r nv=>⟨[.val (nv 0),.rd z09 r.2],[(1001,some (.bool true,.glob 1 (z3l 64 z0w) z4a)),(100,some (nv 0,.list aZ 36 r.1))]⟩):=by
 refine z3o 27 Tryz.func28 Z Z Z fun H w=>?_
 refine gSR<|Eb Z (bx 1 Z) fun v1=>Za Z<|Zb Z<|z1c<|gSR<|Zq (ld 1 Z Z fH z75 Z)<|Zc [1001] [] Tryz.func23 Z (zb1 _) fun r2 n3=>Zb Z<|gSR<|Zm Z<|Zq (I.neq Z Z)<|Zj Z (fun h4=>?_) (fun h4=>?_)
 ·
  refine gSR<|Zm Z<|Za Z<|Zb Z<|z12<|z1i<|zpe aZ 36 2<|Ze [(.slice none 0 0)] [1001,2] Z
 ·
  refine Zt<|z1c<|gSR<|Zm Z<|Zq (z5y Z .rd Z tu22)<|Zq (I.gtr Z Z)<|Zj Z (fun h5=>?_) (fun h5=>?_)
  ·
   refine gSR<|Za Z<|Zb Z<|z12<|z1i<|zpe aZ 36 3<|Ze [(.slice none 0 0)] [1001,3] Z
  ·
   refine Zt<|gSR<|Zq (ld 1 Z Z fH z75 Z)<|Zc [] [(100,4)] Tryz.func31 Z (z4v _) fun r6 n7=>Eb Z (z71 5 zzu (.val Z)) fun v8=>Es (zmt 5 Z Z (.here z07) Z z1j z07 zzu)<|Zn<|gSR<|Zm Z<|Zc [] [(100,6)] Tryz.func41 Z (z1o _) fun r9 n10=>Zq (mkf mp0 (mp1 Z))<|Zc [6,5,4] [(100,7),(2,5),(3,4)] Tryz.func48 Z (z40 _ _ _ _ _) fun r11 n12=>Zb Z<|gSR<|Zm Z<|Zc [7] [(1,7)] Tryz.func50 Z (zut _ _) fun r13 n14=>Zn<|gSR<|Zm Z<|Zc [7] [(100,8)] Tryz.func52 Z (z5t _ _) fun r15 n16=>Za Z<|Zb Z<|z12<|Ze [(n16 0)] [1001,8] Z
def z5s (a0:z00) (r10:(List Bool)) (s12:(List V3) × (List z06) × Int):Option (Sum ((List V3) × (List z06)) ((List V3) × (List z06) × Int)) :=
 if decide (s12.2.2<(r10.length:Int)) then
  idx r10 s12.2.2 >>= fun x15 =>
  if x15 then
   idx a0.Ops s12.2.2 >>= fun x18 =>
   z0o x18.Preds >>= fun r21 =>
   idx a0.IDs s12.2.2 >>= fun x23 =>
   app 32 s12.1 [x23] >>= fun x25 =>
   app 112 s12.2.1 [(⟨x18.Author,r21,x18.Stamp,x18.Act,x18.Sig⟩:z06)] >>= fun x27 =>
   some (.inr (x25,x27,w64 (s12.2.2+1)))
  else
   some (.inr (s12.1,s12.2.1,w64 (s12.2.2+1)))
 else
  some (.inl (s12.1,s12.2.1))
def z1u (a0:z00) (a1:List V3):Option (z00 × Int) :=
 z1z a0 a1 >>= fun r3 =>
 if r3.2 != 0 then
  some ((⟨[],[]⟩:z00),r3.2)
 else
  some (decide (0<(r3.1.length:Int))) >>= fun y6 =>
  if y6 then
   some ((⟨[],[]⟩:z00),6)
  else
   (z6b a0 a1 >>= fun r10 =>
   iter (z5s a0 r10) ([],[],0)) >>= fun s9 =>
   some ((⟨s9.1,s9.2⟩:z00),0)
set_option maxHeartbeats 4000000 in
theorem z5l (a0:z00) (a1:List V3):z2s Tryz.prog 17 [.rd z01 a0,.rd (z02 aZ) a1] [zG1] (z1u a0 a1) (fun r nv=>⟨[.rd z01 r.1,.rd z09 r.2],[(1001,some (.bool true,.glob 1 (z3l 64 z0w) z4a))]⟩):=by
 refine z3o 65 Tryz.func17 Z Z Z fun H w=>?_
 refine gSR<|Eb Z (bx 1 Z) fun v1=>Eb Z (z71 2 z9s (ZrE.nilS (ZrE.nilS ZrE.nil))) fun v2=>Zb Z<|gSR<|Zq (ld 1 Z Z fH z75 Z)<|Zm Z<|Zc [1001] [(100,3)] Tryz.func28 Z (z63 _ _) fun r3 n4=>Zm Z<|Zq (ext Z Z)<|Zq (ext Z Z)<|Za Z<|Zb Z<|z1c<|z7x<|gSR<|Zm Z<|Zq (I.neq Z Z)<|Zb Z<|gIf Z Z (fun h5=>?_) (fun h5=>?_)
 ·
  refine gKn 20 Z h5<|gSR<|Zq (zqu [(0,1),(1,1)] Tryz.underlying25 z9s (ZrE.nilS (ZrE.nilS ZrE.nil)) Z (zgg.done Z))<|Zm Z<|Es (zqy 2 Z Z (z0d.cast (z0d.cons z07 (z0d.cons z07 z0d.nil)) Z) Z (z42.cons z1j (z42.cons z1j z42.nil)) (z0d.cast (z0d.cons z07 (z0d.cons z07 z0d.nil)) Z) z9s)<|Zb Z<|z12<|z8k<|z1i<|zlz aZ [.rd (z02 aZ) [],.val (.slice none 0 0)] 2 [] [.val (.slice none 0 0)] Z Z Z<|zlz z03 [.rd (z02 aZ) [],.rd (z02 z03) []] 2 [.rd (z02 aZ) []] [] Z Z Z<|zug (R:=z01) (⟨[],[]⟩:z00) 2 Z (Sp.via (Sp.prod (Sp.prod Sp.unit)))<|zcp [] [1001] Z (eC 2 Z Z z75<|eE Z<|eN) (y1 Z)
 ·
  refine gKn 20 Z h5<|gSR<|Zm Z<|Zq (z5y Z (.own 3 Z) Z tu22)<|Zq (I.gtr Z Z)<|Za Z<|z38 23 Z fun y6=>Zj Z (fun h7=>?_) (fun h7=>?_)
  ·
   refine gSR<|Zq (zqu [(0,1),(1,1)] Tryz.underlying25 z9s (ZrE.nilS (ZrE.nilS ZrE.nil)) Z (zgg.done Z))<|Es (zqy 2 Z Z (z0d.cast (z0d.cons z07 (z0d.cons z07 z0d.nil)) Z) Z (z42.cons z1j (z42.cons z1j z42.nil)) (z0d.cast (z0d.cons z07 (z0d.cons z07 z0d.nil)) Z) z9s)<|Zb Z<|z12<|z8k<|z1i<|zlz aZ [.rd (z02 aZ) [],.val (.slice none 0 0)] 2 [] [.val (.slice none 0 0)] Z Z Z<|zlz z03 [.rd (z02 aZ) [],.rd (z02 z03) []] 2 [.rd (z02 aZ) []] [] Z Z Z<|zug (R:=z01) (⟨[],[]⟩:z00) 2 Z (Sp.via (Sp.prod (Sp.prod Sp.unit)))<|zcp [] [1001] Z (eC 2 Z Z z75<|eE Z<|eN) (y1 Z)
  ·
   refine z6s<|z5h<|z15<|gSR<|Eb Z (z71 4 z9s (ZrE.nilS (ZrE.nilS ZrE.nil))) fun v8=>Zn<|zax (fun (s9:(List V3) × (List z06)) aa ww=>∃ nv:Nat→Value,Sta (ctx 65 H [zG1] w) [(4,.val (z05 v2 0)),(8,.val (z05 v8 0))] [(2,some (v2,.box 25 [.val (.slice none 0 0),.val (.slice none 0 0)])),(8,some ((nv 0),.list aZ 36 s9.1)),(9,some ((nv 1),.list z03 46 s9.2)),(4,some (v8,.box 25 [.val (nv 0),.val (nv 1)])),zG1] aa ww) ?_ (fun s9=>?_)
   ·
    refine gSR<|Zq (ld 1 Z Z fH z75 Z)<|Zm Z<|Zc [] [(100,1100)] Tryz.func40 Z (z8y _ _) fun r10 n11=>Zq (z5y Z (.own 1100 Z) Z tu67)<|Zm Z<|Zn<|zzz aZ 36 1105<|zzz z03 46 1106<|z3e (fun (s12:(List V3) × (List z06) × Int) aa ww=>∃ nv:Nat→Value,Sta (ctx 65 H [zG1] w) [(2,.val (z05 v1 0)),(4,.val (z05 v2 0)),(8,.val (z05 v8 0)),(30,.val (n11 0)),(31,.rd z09 (r10.length:Int)),(32,.rd z09 s12.2.2)] [(1,some (v1,.box 25 [.rd z01 a0])),(2,some (v2,.box 25 [.val (.slice none 0 0),.val (.slice none 0 0)])),(1103,some ((nv 0),.list aZ 36 s12.1)),(1104,some ((nv 1),.list z03 46 s12.2.1)),(4,some (v8,.box 25 [.val (nv 0),.val (nv 1)])),(1100,some ((n11 0),.list z0j 4 r10)),zG1] aa ww) (fun aa ww h=>⟨nvl [(.slice none 0 0),(.slice none 0 0)],Zu h [1,2,1105,1106,4,1100,1001]⟩) (fun s12=>?_)
    refine gEx fun n13=>gSR<|Zq (I.lss Z Z)<|Zn<|z1c<|gIf Z Z (fun h14=>?_) (fun h14=>?_)
    ·
     refine Zt<|z1c<|z7x<|gSR<|Zm Z<|z17 fun x15 h16=>Zq (ixO 1100 Z Z Z h16 tu67 ti4)<|Zq (ld 1100 Z Z (Foc.el h16) ty4 Z)<|Za Z<|Zb Z<|gSR<|Zm Z<|Zj Z (fun h17=>?_) (fun h17=>?_)
     ·
      refine gKn 36 Z h17<|gKn 10 Z h17<|gSR<|Zq (faB 1 Z Z Tryz.underlying25 Z (by exact ze8))<|Zq (ld 1 Z Z (fP (z0r _)) ziq Z)<|Zm Z<|z17 fun x18 h19=>Zq (ixR Z Z h19 tu23 z8b Z)<|Zq (ldR Z z9x)<|Eb Z (z71 1107 z8b (ZrE.rd (R:=z0w) (x:=0) (Zr.num Z) (ZrE.nilS (ZrE.rd (R:=z2y) (x:=0) (Zr.num Z) (ZrE.rd (R:=z0g) (x:=(⟨0,[],(⟨0,0,0,[]⟩:z04)⟩:z0i)) zlh (ZrE.rd (R:=z0f) (x:=(⟨0,0⟩:z08)) zjw ZrE.nil Z) Z) Z)) Z)) fun v20=>zcr aZ [.rd z0w 0,.rd (z02 aZ) [],.rd z2y 0,.rd z0g (⟨0,[],(⟨0,0,0,[]⟩:z04)⟩:z0i),.rd z0f (⟨0,0⟩:z08)] 1107 [.rd z0w 0] [.rd z2y 0,.rd z0g (⟨0,[],(⟨0,0,0,[]⟩:z04)⟩:z0i),.rd z0f (⟨0,0⟩:z08)] Z Z Z<|zd7 (R:=z03) (⟨0,[],0,(⟨0,[],(⟨0,0,0,[]⟩:z04)⟩:z0i),(⟨0,0⟩:z08)⟩:z06) 1107 Z (Sp.via (Sp.prod (Sp.prod (Sp.prod (Sp.prod (Sp.prod Sp.unit))))))<|Es (sto 1107 Z Z fH Z z8b)<|Zn<|gSR<|Zq (faB 1107 Z Z Tryz.underlying46 Z (by exact z9t))<|Zq (ld 1107 Z Z (fP (z10 _)) zar Z)<|Zc [] [(100,1108)] Tryz.func41 Z (z1o _) fun r21 n22=>Zq (faB 1107 Z Z Tryz.underlying46 Z (by exact z9t))<|lSpl (R:=z03) 1107 Z (Sp.via (Sp.prod (Sp.prod (Sp.prod (Sp.prod (Sp.prod Sp.unit))))))<|Es (zmt 1107 Z Z (z9a.cast (z9a.next z20 (z9a.here z20)) Z) Z z1j z07 z9t)<|Zn<|gPow [.rd z0w x18.Author,.rd (z02 aZ) r21,.rd z2y x18.Stamp,.rd z0g x18.Act,.rd z0f x18.Sig] 1107 1108 [.rd z0w x18.Author] [.rd z2y x18.Stamp,.rd z0g x18.Act,.rd z0f x18.Sig] Z Z Z Z Z<|gJoi (R:=z03) (⟨x18.Author,r21,x18.Stamp,x18.Act,x18.Sig⟩:z06) 1107 Z (Sp.via (Sp.prod (Sp.prod (Sp.prod (Sp.prod (Sp.prod Sp.unit))))))<|zs6 [(2,.val (z05 v1 0)),(4,.val (z05 v2 0)),(8,.val (z05 v8 0)),(30,.val (n11 0)),(31,.rd z09 (r10.length:Int)),(32,.rd z09 s12.2.2),(9,.rd z09 s12.2.2),(11,.val (z05 v20 0))] [(1,some (v1,.box 25 [.rd z01 a0])),(2,some (v2,.box 25 [.val (.slice none 0 0),.val (.slice none 0 0)])),(1103,some ((n13 0),.list aZ 36 s12.1)),(1104,some ((n13 1),.list z03 46 s12.2.1)),(4,some (v8,.box 25 [.val (n13 0),.val (n13 1)])),(1100,some ((n11 0),.list z0j 4 r10)),zG1,(1107,some (v20,.box 46 [.rd z03 (⟨x18.Author,r21,x18.Stamp,x18.Act,x18.Sig⟩:z06)]))] [1,2,1103,1104,4,1100,1001,1107] (Zs Z Z Z Z<|Zs Z Z Z Z<|sN) (Zi Z<|Zi Z<|Zi Z<|Zi Z<|Zi Z<|Zi Z<|Zi Z<|Zi Z<|rN)<|z7w fun x23 h24=>z7w fun x25 h26=>z7w fun x27 h28=>gOr [] [⟨4,some ([], fun nv=>(v8,.box 25 [.val (n13 0),.val (n13 1)])),[(15,some ([2], fun nv=>(v8,.box 25 [.val (nv 2),.val (n13 1)]))),(17,some ([2,4], fun nv=>(v8,.box 25 [.val (nv 2),.val (nv 4)])))]⟩,⟨1,some ([], fun nv=>(v1,.box 25 [.rd z01 a0])),[]⟩,⟨1109,none,[(7,none)]⟩,⟨1103,some ([], fun nv=>((n13 0),.list aZ 36 s12.1)),[(8,some ([2], fun nv=>((nv 2),.list aZ 36 x25)))]⟩,⟨1107,some ([], fun nv=>(v20,.box 46 [.rd z03 (⟨x18.Author,r21,x18.Stamp,x18.Act,x18.Sig⟩:z06)])),[]⟩,⟨1110,none,[(12,none)]⟩,⟨1104,some ([], fun nv=>((n13 1),.list z03 46 s12.2.1)),[(13,some ([4], fun nv=>((nv 4),.list z03 46 x27)))]⟩] [pk 47 (.val (z05 v8 (0+0))) [(0,0,false)],pk 48 (.val (n13 0)) [(0,0,false)],pk 49 (.val (z05 v1 (0+0))) [(1,0,false)],pk 50 (.rd (z02 aZ) a0.IDs) [(1,0,false)],pd 51 (.rd z09 s12.2.2),pd 52 (.rp aZ x23),pd 53 (.rd aZ x23),⟨some (54,[], fun nv=>.rd (z02 aZ) [x23]),[(2,0,true)],[1],[]⟩,⟨some (55,[2], fun nv=>.val (nv 2)),[(3,0,true)],[2],[]⟩,pk 56 (.val (z05 v8 (0+1))) [(0,0,false)],pk 57 (.val (n13 1)) [(0,0,false)],pk 58 (.rd z03 (⟨x18.Author,r21,x18.Stamp,x18.Act,x18.Sig⟩:z06)) [(4,0,false)],⟨some (59,[], fun nv=>.rd (z02 z03) [(⟨x18.Author,r21,x18.Stamp,x18.Act,x18.Sig⟩:z06)]),[(5,0,true)],[3],[]⟩,⟨some (60,[4], fun nv=>.val (nv 4)),[(6,0,true)],[4],[]⟩,pk 61 (.val (z05 v8 (0+0))) [(0,0,false)],⟨none,[(0,0,true),(3,1,false)],[],[]⟩,pk 62 (.val (z05 v8 (0+1))) [(0,1,false)],⟨none,[(6,1,false),(0,1,true)],[],[]⟩] mixed (oC (oRn (fun nv E=>faB 4 Z Z Tryz.underlying25 Z (by exact z9t)))<|oC (oRn (fun nv E=>ldV 4 Z Z (At.cast At.here Z) sc22 Z))<|oC (oRn (fun nv E=>faB 1 Z Z Tryz.underlying25 Z (by exact z9t)))<|oC (oRn (fun nv E=>ld 1 Z Z (fP (z0p _)) zar Z))<|oC (oRn (fun nv E=>mv Z))<|oC (oRn (fun nv E=>ixR Z Z h24 tu22 z30 Z))<|oC (oRn (fun nv E=>ldR Z z51))<|oC (oFz (A1:=fun nv=>[(1109,some ((nv 1),.list aZ 36 [x23]))]) 1109 1 (oEf 1109 1 (fun nv E=>lit (R:=aZ) ([x23]:List V3) 1109 (pP Z Z<|pN) Z tu22 z30 Z Z)))<|oC (oEf 1103 2 (fun nv E=>apn 1103 Z Z Z .rd h26 tu22 z30 Z Z Z))<|oC (oRn (fun nv E=>faB 4 Z Z Tryz.underlying25 Z (by exact ze8)))<|oC (oRn (fun nv E=>ldV 4 Z Z (At.cast (At.next z07 At.here) Z) sc23 Z))<|oC (oRn (fun nv E=>ld 1107 Z Z fH z9x Z))<|oC (oFz (A1:=fun nv=>[(1110,some ((nv 3),.list z03 46 [(⟨x18.Author,r21,x18.Stamp,x18.Act,x18.Sig⟩:z06)]))]) 1110 3 (oEf 1110 3 (fun nv E=>lit (R:=z03) ([(⟨x18.Author,r21,x18.Stamp,x18.Act,x18.Sig⟩:z06)]:List z06) 1110 (pP Z Z<|pN) Z tu23 z8b Z Z)))<|oC (oEf 1104 4 (fun nv E=>apn 1104 Z Z Z .rd h28 tu23 z8b Z Z Z))<|oC (oRn (fun nv E=>faB 4 Z Z Tryz.underlying25 Z (by exact z9t)))<|oC (oEs 4 (fun nv E=>zmt 4 Z Z (z9a.cast (z9a.here z07) Z) Z z1j z07 z9t))<|oC (oRn (fun nv E=>faB 4 Z Z Tryz.underlying25 Z (by exact ze8)))<|oC (oEs 4 (fun nv E=>zmt 4 Z Z (z9a.cast (z9a.next z07 (z9a.here z07)) Z) Z z1j z07 ze8))<|oN) fun n29=>z5h<|z15<|z3f<|Zq (I.add Z Z)<|Zm Z<|z2p<|z2q (fun aa ww h=>⟨nvl [(n29 2),(n29 4)],Zu h [1,2,1103,1104,4,1100,1001]⟩)
     ·
      refine gKn 36 Z h17<|gKn 10 Z h17<|z6s<|z5h<|z15<|z3f<|Zq (I.add Z Z)<|Zm Z<|z2p<|z2q (fun aa ww h=>⟨nvl [(n13 0),(n13 1)],Zu h [1,2,1103,1104,4,1100,1001]⟩)
    ·
     refine z3j<|z26<|z24<|z65 (fun aa ww h=>⟨nvl [(n13 0),(n13 1)],Zu h [2,1103,1104,4,1001]⟩)
   ·
    refine gEx fun n30=>gSR<|zup [.rd (z02 aZ) s9.1,.val (n30 1)] 4 8 [] [.val (n30 1)] Z Z Z Z Z<|zup [.rd (z02 aZ) s9.1,.rd (z02 z03) s9.2] 4 9 [.rd (z02 aZ) s9.1] [] Z Z Z Z Z<|zd7 (R:=z01) (⟨s9.1,s9.2⟩:z00) 4 Z (Sp.via (Sp.prod (Sp.prod Sp.unit)))<|Zq (ld 4 Z Z fH z75 Z)<|zcr aZ [.rd (z02 aZ) [],.val (.slice none 0 0)] 2 [] [.val (.slice none 0 0)] Z Z Z<|zcr z03 [.rd (z02 aZ) [],.rd (z02 z03) []] 2 [.rd (z02 aZ) []] [] Z Z Z<|zd7 (R:=z01) (⟨[],[]⟩:z00) 2 Z (Sp.via (Sp.prod (Sp.prod Sp.unit)))<|Es (sto 2 Z Z fH Z z9s)<|Zb Z<|z12<|zcp [] [1001] Z (eC 2 Z Z z75<|eE Z<|eN) (y1 Z)
end
section
open Go Go.Shelf Go.RowKit Go.Lib
theorem zvx {P:Program} {k:Nat} (w:World) (dT sT ty elem:TypeId) (g o dLen dCap:Nat) (a:Addr) (sLen sCap:Nat) (cur:Array Value) (t:TypeId) (cs:List Value)
  (hu:P.underlying dT=some (.slice elem)) (hs:(P.info? elem).map (·.size)=some k)
  (hg:w.heap[g]? = some (.cells cur t (0,0))) (hn:cs.length=Nat.min sLen dLen * k)
  (hsrc:∀ j v,cs[j]? = some v→w.cell? (a.add j)=some v) (hfit:o+cs.length≤cur.size) (h1:∀ v∈cs,v.oneCell'=true) :
  (Builtin.copy_ #[dT,sT] ty #[.slice (some ⟨g,o,none⟩) dLen dCap,.slice (some a) sLen sCap]).run P w =
   .ok (goInt (Nat.min sLen dLen)) (w.setRow g (cur.toList.take o++cs++cur.toList.drop (o+cs.length)).toArray):=by
 have hl:=run_firstCells_some (P:=P) w k (Nat.min sLen dLen) a sLen sCap cs hn hsrc
 have hst:=run_storeCells_at P g o t cs 0 cur w hg (by simpa using hfit) h1
 cases hq:P.info? elem with
 | none=>simp [hq] at hs
 | some i =>
  have hi:i.size=k:=by simpa [hq] using hs
  simp [Builtin.copy_,run_underlying hu,Builtin.lenOf,sizeOf,typeInfo,hq,hi,hl,hst]
theorem zvb {P:Program} (w:World) {o:Oper} {a:Act} {K:Act→World→Prop} {Q:Exit→Act→World→Prop} (d s:Operand) (t t':TypeId)
  (ho:o.op=.call { callee:=.builtin .copy,args:=#[d,s],argTypes:=#[t,t'] }) (v u:Value) (hd:a.eval d=v) (hs:a.eval s=u) {v':Value} {w':World}
  (hr:(Builtin.copy_ #[t,t'] o.type #[v,u]).run P w=.ok v' w') (h:K (a.put o.dst v') w'):o.wp P a w K Q:=by
 unfold Oper.wp execOp
 simp only [ho,resolve,invoke,builtin,Sem.run_bind,Sem.run_pure,Result.andThen_ok,List.map_toArray,List.map_cons,List.map_nil,hd,hs,hr]
 exact h
theorem zgc {P:Program} (w:World) {ops:Array Oper} {rest:List Oper} {o:Oper} {a:Act} {Q:Exit→Act→World→Prop} (hgd:o.guard=none) (d s:Operand) (t t':TypeId)
  (ho:o.op=.call { callee:=.builtin .copy,args:=#[d,s],argTypes:=#[t,t'] }) (v u:Value) (hd:a.eval d=v) (hs:a.eval s=u) {v':Value} {w':World}
  (hr:(Builtin.copy_ #[t,t'] o.type #[v,u]).run P w=.ok v' w') (h:wpList P ops Q rest (a.put o.dst v') w'):wpList P ops Q (o::rest) a w :=
 wpList_plain hgd fun _ hK=>zvb w d s t t' ho v u hd hs hr (hK _ _ h)
theorem zj7 {P:Program} {ops:Array Oper} {o:Oper} {a:Act} {w:World} {K:Act→World→Prop} {Q:Exit→Act→World→Prop} {E:Prop}
  (hg:o.guard=none) (d x:Operand) (dT sT:TypeId) (hop:o.op=Op.call { callee:=Callee.builtin Builtin.copy,args:=#[d,x],argTypes:=#[dT,sT] })
  (v u:Value) (hd:a.eval d=v) (hx:a.eval x=u) {v':Value} {w':World} (hr:(Builtin.copy_ #[dT,sT] o.type #[v,u]).run P w=.ok v' w') (hK:K (a.put o.dst v') w') :
  if Region.wanted o (yielded ops a.tmps)=true then Oper.wp P o a w K Q else E:=by
 have hw:Region.wanted o (yielded ops a.tmps)=true:=by simp [Region.wanted,hg]
 rw [if_pos hw]
 unfold Oper.wp
 simp [execOp,hop,resolve,invoke,builtin,hd,hx,hr,Result.andThen]
 exact hK
section
variable (b n c i vb vc:Nat) (xs ys:List Value) (C V:Array Value) (w:World)
theorem zri:TI Tryz.prog 36 (.agg (Array.replicate 32 (.int .u8 0))) 32 32:=z30
theorem zr4:(Tryz.prog.info? 36).map (·.size)=some 32:=by kernel_rfl
set_option maxHeartbeats 4000000 in
set_option maxRecDepth 100000 in
theorem zt9 (hi:i<n) (hroom:n+1≤c) (hc63:c≤9223372036854775807) (hvb:vb≠b) (hC:w.heap[b]? = some (.cells C 36 (0,0))) (hV:w.heap[vb]? = some (.cells V 36 (0,0)))
  (hCs:C.size=c * 32) (hxs:C.toList.take (n * 32)=xs) (hys:V.toList.take 32=ys) (hyl:ys.length=32) (h1x:∀ v∈xs,v.oneCell'=true) (h1y:∀ v∈ys,v.oneCell'=true) :
  Calls Tryz.prog 61 #[.slice (some ⟨b,0,none⟩) n c,.int .i64 i,.slice (some ⟨vb,0,none⟩) 1 vc] w fun e w' =>
   e=.returned (.slice (some ⟨b,0,none⟩) (n+1) c)∧∃ D,w'=w.drew.setRow b D∧D.size=C.size∧D.toList.take ((n+1) * 32)=xs.take (i * 32)++ys++xs.drop (i * 32):=by
 have hsz:=zr4
 have u22:Tryz.prog.underlying 22=some (.slice 36):=Tryz.underlying22
 have hcc:∀ j v,C.toList[j]? = some v→w.cell? ⟨b,j,none⟩=some v:=fun j v hj=>by
  rw [Array.getElem?_toList] at hj; unfold World.cell?; rw [hC]; exact hj
 have hcv:∀ j v,V.toList[j]? = some v→w.cell? ⟨vb,j,none⟩=some v:=fun j v hj=>by
  rw [Array.getElem?_toList] at hj; unfold World.cell?; rw [hV]; exact hj
 have hxl:xs.length=n * 32:=by rw [← hxs,List.length_take,Array.length_toList]; omega
 have hxg:∀ j v,xs[j]? = some v→C.toList[j]? = some v:=fun j v hj=>by
  rw [← hxs,List.getElem?_take] at hj; split at hj
  ·
   exact hj
  ·
   cases hj
 have hyg:∀ j v,ys[j]? = some v→V.toList[j]? = some v:=fun j v hj=>by
  rw [← hys,List.getElem?_take] at hj; split at hj
  ·
   exact hj
  ·
   cases hj
 have hVs:V.size≠0:=by
  have:ys.length≤V.size:=by rw [← hys,List.length_take,Array.length_toList]; omega
  omega
 have hov:∀ lb cb,(callFunc 88 #[.slice (some ⟨vb,0,none⟩) 1 vc,.slice (some ⟨b,(i+1) * 32,none⟩) lb cb]).run Tryz.prog w=.ok (.value (.bool false)) w:=fun lb cb=>by
  rw [run_callFunc_extern Tryz.func88 (by kernel_rfl) (by kernel_rfl) (by kernel_rfl) (e:=Extern.SlicesOverlaps.overlaps #[22,22] #[4]) (by kernel_rfl),
   Lib.run_overlaps_apart w 22 4 36 u22 32 Tryz.sizeOf36 ⟨vb,0,none⟩ ⟨b,(i+1) * 32,none⟩ 1 vc lb cb hvb 36 36 V.size C.size (by simp [World.shape?,hV]) (by simp [World.shape?,hC]) (by omega) (by simp [World.frozen?,hV]) (by simp [World.frozen?,hV])]
  rfl
 have hdl:(xs.drop (i * 32)).length=(n - i) * 32:=by rw [List.length_drop,hxl,Nat.sub_mul]
 have hmin1:Nat.min (n+1 - i) (n - i)=n - i:=by simp only [Nat.min_def]; split <;> omega
 have hcp1:∀ ty dc sc,(Builtin.copy_ #[22,22] ty #[.slice (some ⟨b,(i+1) * 32,none⟩) (n - i) dc,.slice (some ⟨b,i * 32,none⟩) (n+1 - i) sc]).run Tryz.prog w.drew =
   .ok (goInt ((n - i:Nat):Int)) (w.drew.setRow b (C.toList.take ((i+1) * 32)++xs.drop (i * 32)++C.toList.drop ((i+1) * 32+(xs.drop (i * 32)).length)).toArray):=fun ty dc sc=>by
  have e:=zvx (P:=Tryz.prog) w.drew 22 22 ty 36 b ((i+1) * 32) (n - i) dc ⟨b,i * 32,none⟩ (n+1 - i) sc C 36 (xs.drop (i * 32)) u22 hsz hC (by rw [hmin1,hdl])
   (fun j v hj=>by rw [Addr.add_lit]; exact hcc _ v (hxg _ v (by rwa [List.getElem?_drop] at hj))) (by rw [hdl,hCs]; omega) (fun v hv=>h1x v (List.mem_of_mem_drop hv))
  rw [hmin1] at e; exact e
 obtain ⟨D1,hD1⟩:∃ D1,D1=(C.toList.take ((i+1) * 32)++xs.drop (i * 32)++C.toList.drop ((i+1) * 32+(xs.drop (i * 32)).length)).toArray:=⟨_,rfl⟩
 rw [← hD1] at hcp1
 have hD1s:D1.size=C.size:=by
  rw [hD1]; simp only [List.size_toArray,List.length_append,List.length_take,List.length_drop,Array.length_toList,hxl]; omega
 obtain ⟨W1,hW1⟩:∃ W1,W1=w.drew.setRow b D1:=⟨_,rfl⟩
 have hB1:W1.heap[b]? = some (.cells D1 36 (0,0)):=by rw [hW1]; exact setRow_heap w.drew b C D1 36 (0,0) hC
 have hV1:W1.heap[vb]? = some (.cells V 36 (0,0)):=by rw [hW1,setRow_other w.drew b vb D1 hvb]; exact hV
 obtain ⟨D2,hD2⟩:∃ D2,D2=(D1.toList.take (i * 32)++ys++D1.toList.drop (i * 32+ys.length)).toArray:=⟨_,rfl⟩
 have hcp2:∀ ty dc,(Builtin.copy_ #[22,22] ty #[.slice (some ⟨b,i * 32,none⟩) (n+1 - i) dc,.slice (some ⟨vb,0,none⟩) 1 vc]).run Tryz.prog W1=.ok (goInt 1) (W1.setRow b D2):=fun ty dc=>by
  have hm:Nat.min 1 (n+1 - i)=1:=by simp only [Nat.min_def]; split <;> omega
  have e:=zvx (P:=Tryz.prog) W1 22 22 ty 36 b (i * 32) (n+1 - i) dc ⟨vb,0,none⟩ 1 vc D1 36 ys u22 hsz hB1 (by rw [hm,hyl])
   (fun j v hj=>by
    rw [Addr.add_lit,Nat.zero_add]
    have:=hyg j v hj
    rw [Array.getElem?_toList] at this
    unfold World.cell?; rw [hV1]; exact this) (by rw [hyl,hD1s,hCs]; omega) h1y
  rw [hm,← hD2] at e; exact e
 have hfin:D2.size=C.size∧D2.toList.take ((n+1) * 32)=xs.take (i * 32)++ys++xs.drop (i * 32):=by
  have t1:D1.toList.take (i * 32)=xs.take (i * 32):=by
   rw [hD1,← hxs,List.take_take]
   simp only [List.append_assoc]
   rw [List.take_append_of_le_length (by rw [List.length_take,Array.length_toList]; omega),List.take_take]
   congr 1; omega
  have t2:(D1.toList.drop ((i+1) * 32)).take ((n - i) * 32)=xs.drop (i * 32):=by
   have el:(C.toList.take ((i+1) * 32)).length=(i+1) * 32:=by rw [List.length_take,Array.length_toList]; omega
   rw [hD1]
   simp only [List.append_assoc]
   rw [List.drop_append,el,Nat.sub_self,List.drop_zero,List.drop_eq_nil_of_le (by rw [el]; omega),List.nil_append,List.take_append_of_le_length (by rw [hdl]; omega),List.take_of_length_le (by rw [hdl]; omega)]
  constructor
  ·
   rw [hD2]; simp only [List.size_toArray,List.length_append,List.length_take,List.length_drop,Array.length_toList,hyl]; omega
  ·
   rw [hD2]
   simp only [List.append_assoc]
   have el:(D1.toList.take (i * 32)).length=i * 32:=by rw [List.length_take,Array.length_toList]; omega
   rw [List.take_append,el,List.take_of_length_le (by rw [el]; omega),List.take_append,hyl,List.take_of_length_le (l:=ys) (by rw [hyl]; omega),t1,
    show i * 32+32=(i+1) * 32 by omega, show (n+1) * 32 - i * 32 - 32=(n - i) * 32 by omega,t2]
 have hz1:¬ ((1:Int)=0):=by decide
 have hz2:¬ ((i:Int)=(n:Int)):=by omega
 have hw1:IntKind.i64.wrap ((i:Int)+1)=(i:Int)+1:=by rw [IntKind.wrap_i64]; omega
 have hb1:(0:Int)≤(i:Int)+1:=by omega
 have hin:i≤n:=by omega
 have htn:((i:Int)+1).toNat=i+1:=by omega
 have hb2:¬ (c=i+1):=by omega
 have hb3:(i:Int)≤(n:Int)+1:=by omega
 have hb4:¬ (c=i):=by omega
 subst hW1
 clear hcc hcv hxg hyg hD1 hD2 hxs hys hC hV hB1 hV1 h1x h1y hdl hmin1 hxl hyl
 go_enter Tryz.func61,Tryz.ntmps61
 go_wp2_with (simp only [hov])
 go_region_law (refine zj7 rfl _ _ 22 22 rfl (.slice (some ⟨b,(i+1) * 32,none⟩) (n - i) (c - (i+1))) (.slice (some ⟨b,i * 32,none⟩) (n+1 - i) (c - i)) (by simp [Act.eval,Act.put]) (by simp [Act.eval,Act.put]) (hcp1 3 (c - (i+1)) (c - i)) ?_)
 go_wp2_with (at_builtin; refine zgc _ rfl _ _ 22 22 rfl _ _ rfl rfl (hcp2 _ _) ?_)
 go_ret
 exact ⟨rfl,D2, by rw [setRow_setRow],hfin⟩
set_option maxHeartbeats 4000000 in
set_option maxRecDepth 100000 in
theorem zvn (hi:i<n) (hnc:n≤c) (hroom:c<n+1) (hn:n≤1000000) (hvb:vb≠b) (hC:w.heap[b]? = some (.cells C 36 (0,0))) (hV:w.heap[vb]? = some (.cells V 36 (0,0)))
  (hCs:C.size=c * 32) (hxs:C.toList.take (n * 32)=xs) (hys:V.toList.take 32=ys) (hyl:ys.length=32) (h1x:∀ v∈xs,v.oneCell'=true) (h1y:∀ v∈ys,v.oneCell'=true) :
  Calls Tryz.prog 61 #[.slice (some ⟨b,0,none⟩) n c,.int .i64 i,.slice (some ⟨vb,0,none⟩) 1 vc] w fun e w' =>
   ∃ G,e=.returned (.slice (some ⟨w.heap.size,0,none⟩) (n+1) G)∧n+1≤G∧G≤maxLen∧∃ D,w'.heap[w.heap.size]? = some (.cells D 36 (0,0))∧w.grownBy w' none∧D.size=G * 32∧D.toList.take ((n+1) * 32)=xs.take (i * 32)++ys++xs.drop (i * 32):=by
 have hsz:=zr4
 have u22:Tryz.prog.underlying 22=some (.slice 36):=Tryz.underlying22
 have u3:Tryz.prog.underlying 3=some (.int .i64):=Tryz.underlying3
 have hcn:c=n:=by omega
 subst hcn
 have hcc:∀ j v,C.toList[j]? = some v→w.cell? ⟨b,j,none⟩=some v:=fun j v hj=>by
  rw [Array.getElem?_toList] at hj; unfold World.cell?; rw [hC]; exact hj
 have hxl:xs.length=c * 32:=by rw [← hxs,List.length_take,Array.length_toList]; omega
 have hxg:∀ j v,xs[j]? = some v→C.toList[j]? = some v:=fun j v hj=>by
  rw [← hxs,List.getElem?_take] at hj; split at hj
  ·
   exact hj
  ·
   cases hj
 have hyg:∀ j v,ys[j]? = some v→V.toList[j]? = some v:=fun j v hj=>by
  rw [← hys,List.getElem?_take] at hj; split at hj
  ·
   exact hj
  ·
   cases hj
 have hbw:b<w.heap.size:=(Array.getElem?_eq_some_iff.1 hC).1
 have hvw:vb<w.heap.size:=(Array.getElem?_eq_some_iff.1 hV).1
 have hkk:(c:Int)+1 - (i:Int)=((c+1 - i:Nat):Int):=by omega
 obtain ⟨i0,hi0,hz0,hzs,hzb⟩:=zri
 have hold:(Builtin.firstCells i0.size i (.slice (some ⟨b,0,none⟩) i c)).run Tryz.prog w.drew=.ok (xs.take (i * 32)).toArray w.drew:=by
  rw [hzs]
  exact run_firstCells_some w.drew 32 i ⟨b,0,none⟩ i c (xs.take (i * 32)) (by rw [List.length_take]; omega) (fun j v hj=>by
   rw [Addr.add_lit,Nat.zero_add]
   rw [List.getElem?_take] at hj
   split at hj
   ·
    exact hcc j v (hxg j v hj)
   ·
    cases hj)
 obtain ⟨G,hG⟩:∃ G,G=grownCap w (c+1) c 36:=⟨_,rfl⟩
 obtain ⟨ROW,hROW⟩:∃ ROW:Array Value,ROW=(xs.take (i * 32)).toArray++Builtin.zeroCells (Array.replicate 32 (.int .u8 0)) (c+1 - i)++Builtin.zeroCells (Array.replicate 32 (.int .u8 0)) (G - (c+1)):=⟨_,rfl⟩
 have hrz:∀ ty,(Builtin.append_ #[22,3] ty #[.slice (some ⟨b,0,none⟩) i c,.int .i64 ((c:Int)+1 - (i:Int))]).run Tryz.prog w =
   .ok (.slice (some ⟨w.heap.size,0,none⟩) (c+1) G) (w.drew.alloc (.cells ROW 36)):=fun ty=>by
  have h:=Lib.run_append_grow_zeros w 22 3 ty 36 i0 _ .i64 .i64 u22 u3 hi0 hz0 (some ⟨b,0,none⟩) i c (xs.take (i * 32)) hold (c+1 - i) (by omega) (by omega) (by omega) (by omega) (by rw [hzb]; omega) (by rw [hzb, show i+(c+1 - i)=c+1 by omega]; exact growslice_fits (by omega) (by omega))
  rw [show i+(c+1 - i)=c+1 by omega] at h
  rw [hkk,hROW,hG]
  exact h
 have hGn:c+1≤G:=by rw [hG]; exact grownCap_ge w _ _ _
 have hGm:G≤maxLen:=by rw [hG]; exact grownCap_le_maxLen w (c+1) c 36 (by unfold maxLen; omega)
 have hG63:G≤9223372036854775807:=by unfold maxLen at hGm; omega
 have hRs:ROW.size=G * 32:=by
  rw [hROW]; simp only [Array.size_append,List.size_toArray,List.length_take,size_zeroCells,Array.size_replicate,hxl]; omega
 have hRt:ROW.toList.take (i * 32)=xs.take (i * 32):=by
  rw [hROW]; simp only [Array.toList_append,List.append_assoc]
  rw [List.take_append_of_le_length (by rw [List.length_take]; omega),List.take_take]; congr 1; omega
 obtain ⟨D1,hD1⟩:∃ D1,D1=(ROW.toList.take (i * 32)++ys++ROW.toList.drop (i * 32+ys.length)).toArray:=⟨_,rfl⟩
 have hD1s:D1.size=G * 32:=by
  rw [hD1]; simp only [List.size_toArray,List.length_append,List.length_take,List.length_drop,Array.length_toList,hyl]; omega
 obtain ⟨D2,hD2⟩:∃ D2,D2=(D1.toList.take ((i+1) * 32)++xs.drop (i * 32)++D1.toList.drop ((i+1) * 32+(xs.drop (i * 32)).length)).toArray:=⟨_,rfl⟩
 have hdl:(xs.drop (i * 32)).length=(c - i) * 32:=by rw [List.length_drop,hxl,Nat.sub_mul]
 have hD2s:D2.size=G * 32:=by
  rw [hD2]; simp only [List.size_toArray,List.length_append,List.length_take,List.length_drop,Array.length_toList,hxl]; omega
 have hfin:D2.toList.take ((c+1) * 32)=xs.take (i * 32)++ys++xs.drop (i * 32):=by
  have e1:(ROW.toList.take (i * 32)).length=i * 32:=by rw [List.length_take,Array.length_toList]; omega
  have e2:D1.toList.take ((i+1) * 32)=xs.take (i * 32)++ys:=by
   rw [hD1]; simp only [List.append_assoc]
   rw [List.take_append,e1,List.take_of_length_le (by rw [e1]; omega),List.take_append_of_le_length (by rw [hyl]; omega),List.take_of_length_le (l:=ys) (by rw [hyl]; omega),hRt]
  have e3:(D1.toList.take ((i+1) * 32)).length=(i+1) * 32:=by rw [List.length_take,Array.length_toList]; omega
  rw [hD2]; simp only [List.append_assoc]
  rw [List.take_append,e3,List.take_of_length_le (by rw [e3]; omega),List.take_append_of_le_length (by rw [hdl]; omega),List.take_of_length_le (l:=xs.drop (i * 32)) (by rw [hdl]; omega),e2,List.append_assoc]
 have hcpA:∀ (W:World),W.heap=w.heap.push (.cells ROW 36)→∀ ty dc,(Builtin.copy_ #[22,22] ty #[.slice (some ⟨w.heap.size,i * 32,none⟩) (c+1 - i) dc,.slice (some ⟨vb,0,none⟩) 1 vc]).run Tryz.prog W=.ok (goInt 1) (W.setRow w.heap.size D1):=fun W hW ty dc=>by
  have hm:Nat.min 1 (c+1 - i)=1:=by simp only [Nat.min_def]; split <;> omega
  have hN:W.heap[w.heap.size]? = some (.cells ROW 36 (0,0)):=by rw [hW,Array.getElem?_push_size]
  have hV1:W.heap[vb]? = some (.cells V 36 (0,0)):=by rw [hW,Array.getElem?_push_lt hvw]; rw [← hV,Array.getElem?_eq_getElem hvw]
  have e:=zvx (P:=Tryz.prog) W 22 22 ty 36 w.heap.size (i * 32) (c+1 - i) dc ⟨vb,0,none⟩ 1 vc ROW 36 ys u22 hsz hN (by rw [hm,hyl])
   (fun j v hj=>by
    rw [Addr.add_lit,Nat.zero_add]
    have:=hyg j v hj
    rw [Array.getElem?_toList] at this
    unfold World.cell?; rw [hV1]; exact this) (by rw [hyl,hRs]; omega) h1y
  rw [hm,← hD1] at e; exact e
 have hcpB:∀ (W W0:World),W0.heap=w.heap.push (.cells ROW 36)→W.heap=(W0.setRow w.heap.size D1).heap→∀ ty dc sc,(Builtin.copy_ #[22,22] ty #[.slice (some ⟨w.heap.size,(i+1) * 32,none⟩) (c - i) dc,.slice (some ⟨b,i * 32,none⟩) (c - i) sc]).run Tryz.prog W=.ok (goInt ((c - i:Nat):Int)) (W.setRow w.heap.size D2):=fun W W0 hW0 hW ty dc sc=>by
  have hm:Nat.min (c - i) (c - i)=c - i:=Nat.min_self _
  have hN:W.heap[w.heap.size]? = some (.cells D1 36 (0,0)):=by rw [hW]; exact setRow_heap W0 w.heap.size ROW D1 36 (0,0) (by rw [hW0,Array.getElem?_push_size])
  have hB1:W.heap[b]? = some (.cells C 36 (0,0)):=by
   rw [hW,setRow_other W0 w.heap.size b D1 (by omega),hW0,Array.getElem?_push_lt hbw,← hC,Array.getElem?_eq_getElem hbw]
  have e:=zvx (P:=Tryz.prog) W 22 22 ty 36 w.heap.size ((i+1) * 32) (c - i) dc ⟨b,i * 32,none⟩ (c - i) sc D1 36 (xs.drop (i * 32)) u22 hsz hN (by rw [hm,hdl])
   (fun j v hj=>by
    rw [Addr.add_lit]
    have:=hxg _ v (by rwa [List.getElem?_drop] at hj)
    rw [Array.getElem?_toList] at this
    unfold World.cell?; rw [hB1]; exact this) (by rw [hdl,hD1s]; omega) (fun v hv=>h1x v (List.mem_of_mem_drop hv))
  rw [hm,← hD2] at e; exact e
 have hz1:¬ ((1:Int)=0):=by decide
 have hz2:¬ ((i:Int)=(c:Int)):=by omega
 have hz3:(c:Int)<(c:Int)+1:=by omega
 have hw1:IntKind.i64.wrap ((i:Int)+1)=(i:Int)+1:=by rw [IntKind.wrap_i64]; omega
 have hb1:(0:Int)≤(i:Int)+1:=by omega
 have hin:i≤c:=by omega
 have htn:((i:Int)+1).toNat=i+1:=by omega
 have hGi:¬ (G=i):=by omega
 have hGim:¬ (G=i+1):=by omega
 have hci:¬ (c=i):=by omega
 have hb3:(i:Int)≤(c:Int):=by omega
 have hE1:((w.alloc (.cells ROW 36)).drew).heap=w.heap.push (.cells ROW 36):=rfl
 have hF1:(((w.alloc (.cells ROW 36)).drew.setRow w.heap.size D1).drew).heap=(((w.alloc (.cells ROW 36)).drew).setRow w.heap.size D1).heap:=rfl
 clear hROW hold hG hRt hD1 hD2 hxs hys hC hV h1x h1y hdl hxl hyl hcc hxg hyg hi0 hz0 hzs hzb hkk hnc hroom
 go_enter Tryz.func61,Tryz.ntmps61
 go_wp2_with (first
  | (at_builtin; refine Lib.wpList_append_run _ rfl _ _ _ _ rfl _ _ rfl rfl _ _ (hrz _) ?_)
  | (at_builtin; refine zgc _ rfl _ _ 22 22 rfl _ _ rfl rfl (hcpA _ hE1 _ _) ?_))
 go_region_law (refine zj7 rfl _ _ 22 22 rfl (.slice (some ⟨w.heap.size,(i+1) * 32,none⟩) (c - i) (G - (i+1))) (.slice (some ⟨b,i * 32,none⟩) (c - i) (c - i)) (by simp [Act.eval,Act.put]) (by simp [Act.eval,Act.put]) (hcpB _ _ hE1 hF1 3 (G - (i+1)) (c - i)) ?_)
 go_wp2
 go_ret
 refine ⟨G,rfl,hGn,hGm,D2,?_,⟨rfl,rfl,rfl,?_, fun k hk _=>?_⟩,hD2s,hfin⟩
 ·
  exact setRow_heap _ w.heap.size D1 D2 36 (0,0) (setRow_heap ((w.alloc (.cells ROW 36)).drew) w.heap.size ROW D1 36 (0,0) (by rw [hE1,Array.getElem?_push_size]))
 ·
  rw [setRow_size]; show _≤((w.alloc (.cells ROW 36)).drew.setRow w.heap.size D1).heap.size; rw [setRow_size,hE1,Array.size_push]; omega
 ·
  rw [setRow_other _ w.heap.size k D2 (by omega)]; show ((w.alloc (.cells ROW 36)).drew.setRow w.heap.size D1).heap[k]? = _
  rw [setRow_other _ w.heap.size k D1 (by omega),hE1,Array.getElem?_push_lt hk,Array.getElem?_eq_getElem hk]
set_option maxHeartbeats 4000000 in
set_option maxRecDepth 100000 in
theorem zxj (p0 p1:Value) (h0:w.ownsRow 0 36 32 p0 n xs) (h1:w.ownsRow 0 36 32 p1 1 ys) (hn:n≤1000000) (h1y:∀ v∈ys,v.oneCell'=true) :
  Calls Tryz.prog 61 #[p0,.int .i64 n,p1] w fun e w'=>∃ v',e=.returned v'∧w'.ownsRow 0 36 32 v' (n+1) (xs++ys)∧w.grownBy w' p0.ownBlock∧∀ b,v'.ownBlock=some b→p0.ownBlock=some b∨w.heap.size≤b:=by
 have u22:Tryz.prog.underlying 22=some (.slice 36):=Tryz.underlying22
 obtain ⟨p,c,rfl⟩:=z35 h0
 obtain ⟨q,d,rfl⟩:=z35 h1
 obtain ⟨p',c',w',hrun,ho,hg,hs⟩:=zff (P:=Tryz.prog) (rt:=22) (w:=w) u22 zri (by simp [Value.cells]) (by decide) h0 (Rd.of_own h1) h1y (by omega) (by omega) (Nat.zero_le _)
 have hz1:¬ ((1:Int)=0):=by decide
 have hnc:n≤c:=by
  rcases h0.2 with ⟨e,rfl⟩ | ⟨g,cap,cur,e,_,_,h,_⟩
  ·
   omega
  ·
   simp only [Value.slice.injEq] at e; omega
 have hc63:c≤9223372036854775807:=by
  rcases h0.2 with ⟨e,rfl⟩ | ⟨g,cap,cur,e,_,_,_,h,_⟩
  ·
   simp only [Value.slice.injEq] at e; omega
  ·
   simp only [Value.slice.injEq] at e; unfold maxLen at h; omega
 have hin:n≤n:=Nat.le_refl _
 have hp0:p=none→n=0∧c=0:=fun e=>by
  rcases h0.2 with ⟨e',rfl⟩ | ⟨g,cap,cur,e',_⟩
  ·
   simp only [Value.slice.injEq] at e'; omega
  ·
   rw [e] at e'; simp at e'
 clear h0 h1 h1y
 go_enter Tryz.func61,Tryz.ntmps61
 cases p with
 | none =>
  obtain ⟨rfl,rfl⟩:=hp0 rfl
  clear hp0
  go_wp2_with (at_builtin; refine Lib.wpList_append_run _ rfl _ _ _ _ rfl _ _ rfl rfl _ _ hrun ?_)
  go_ret
  exact ⟨_,rfl,ho,hg,hs⟩
 | some a =>
  clear hp0
  obtain ⟨ab,ao,asp⟩:=a
  go_wp2_with (at_builtin; refine Lib.wpList_append_run _ rfl _ _ _ _ rfl _ _ rfl rfl _ _ hrun ?_)
  all_goals (go_ret; exact ⟨_,rfl,ho,hg,hs⟩)
end
end
section
open Go Go.RowKit
theorem relB {S S':Blk} {w w':World}:∀ {l:List UInt8} {cs:List Value},z5d u8R S w cs l→z5d u8R S' w' cs l
 | [],cs,h=>h
 | x::l,cs,h=>by
  obtain ⟨c,d,rfl,h1,h2⟩:=h
  exact ⟨c,d,rfl,h1,relB h2⟩
theorem relD {S S':Blk} {w w':World}:∀ {l:List V3} {cs:List Value},z5d (z3l 32 u8R) S w cs l→z5d (z3l 32 u8R) S' w' cs l
 | [],cs,h=>h
 | x::l,cs,h=>by
  obtain ⟨c,d,rfl,h1,h2⟩:=h
  exact ⟨c,d,rfl,relB h1,relD h2⟩
def insF (c0:List V3) (i:Int) (c1:List V3):Option (List V3) :=
 chk (0≤i∧i.toNat≤c0.length∧c0.length≤1000000∧c1.length=1) >>= fun _=>some (c0.take i.toNat++c1++c0.drop i.toNat)
theorem zzd (p0 p1:Value) (n i:Nat) (xs ys:List Value) (w:World) (hi:i≤n) (h0:w.ownsRow 0 36 32 p0 n xs) (h1:w.ownsRow 0 36 32 p1 1 ys) (hsep:∀ b,p0.ownBlock=some b→p1.ownBlock≠some b) (hn:n≤1000000)
  (h1x:∀ v∈xs,v.oneCell'=true) (h1y:∀ v∈ys,v.oneCell'=true) :
  Calls Tryz.prog 61 #[p0,.int .i64 i,p1] w fun e w'=>∃ v',e=.returned v'∧w'.ownsRow 0 36 32 v' (n+1) (xs.take (i * 32)++ys++xs.drop (i * 32))∧w.grownBy w' p0.ownBlock∧∀ b,v'.ownBlock=some b→p0.ownBlock=some b∨w.heap.size≤b:=by
 have hxl:=h0.1
 by_cases hin:i=n
 ·
  subst hin
  refine (zxj i xs ys w p0 p1 h0 h1 hn h1y).mono fun e w' ⟨v',a,b,c,d⟩=>⟨v',a,?_,c,d⟩
  rw [List.take_of_length_le (by omega),List.drop_eq_nil_of_le (by omega),List.append_nil]
  exact b
 ·
  rcases h0.2 with ⟨rfl,rfl⟩ | ⟨b,c,C,rfl,-,hC,hnc,hcm,hCs,hxs⟩
  ·
   omega
  rcases h1.2 with ⟨rfl,e⟩ | ⟨vb,vc,V,rfl,-,hV,-,-,hVs,hys⟩
  ·
   omega
  have hvb:vb≠b:=fun e=>hsep b rfl (by rw [e]; rfl)
  have hyl:ys.length=32:=by have:=h1.1; omega
  have hlen:(xs.take (i * 32)++ys++xs.drop (i * 32)).length=(n+1) * 32:=by
   simp only [List.length_append,List.length_take,List.length_drop,hyl]; omega
  by_cases hroom:n+1≤c
  ·
   refine (zt9 b n c i vb vc xs ys C V w (by omega) hroom (by unfold maxLen at hcm; omega) hvb hC hV hCs hxs (by simpa using hys) hyl h1x h1y).mono fun e w' ⟨a,D,a2,a3,a4⟩=>⟨_,a,?_,?_, fun b' hb'=>.inl hb'⟩
   ·
    refine ⟨hlen,.inr ⟨b,c,D,rfl,Nat.zero_le _,?_,hroom,hcm,a3.trans hCs,a4⟩⟩
    rw [a2]; exact setRow_heap w.drew b C D 36 (0,0) hC
   ·
    rw [a2]
    refine ⟨rfl,rfl,rfl,?_, fun k hk hne=>?_⟩
    ·
     rw [setRow_size]; exact Nat.le_refl _
    ·
     rw [setRow_other w.drew b k D (fun e=>hne (by rw [e]; rfl))]; rfl
  ·
   refine (zvn b n c i vb vc xs ys C V w (by omega) hnc (by omega) hn hvb hC hV hCs hxs (by simpa using hys) hyl h1x h1y).mono fun e w' ⟨G,a,g1,g2,D,a1,a2,a3,a4⟩=>⟨_,a,?_,?_, fun b' hb'=>.inr ?_⟩
   ·
    exact ⟨hlen,.inr ⟨w.heap.size,G,D,rfl,Nat.zero_le _,a1,g1,g2,a3,a4⟩⟩
   ·
    exact ⟨a2.os,a2.tape,a2.output,a2.size, fun k hk _=>a2.block k hk (by simp)⟩
   ·
    simp only [Value.ownBlock,Option.some.injEq] at hb'; omega
theorem zz1 (p0 p1:Value) (c0 c1:List V3) (i:Int):z2s Tryz.prog 61 [.val p0,.rd z09 i,.val p1] [(1,some (p0,.list (z3l 32 u8R) 36 c0)),(2,some (p1,.list (z3l 32 u8R) 36 c1))] (insF c0 i c1)
  (fun r nv=>⟨[.val (nv 0)],[(100,some (nv 0,.list (z3l 32 u8R) 36 r))]⟩):=by
 intro r hr H vs w hvs hres
 have hb:(0≤i∧i.toNat≤c0.length∧c0.length≤1000000∧c1.length=1)∧r=c0.take i.toNat++c1++c0.drop i.toNat:=by
  unfold insF chk at hr
  split at hr
  ·
   rename_i h; simp at hr; exact ⟨h, by rw [← hr,List.append_assoc]⟩
  ·
   simp at hr
 obtain ⟨⟨hi0,hi1,hn,hc1⟩,rfl⟩:=hb
 match vs,hvs with
 | [v0,v1,v2],hvs =>
 obtain ⟨h0,h1,h2,_⟩:=hvs
 have e0:v0=p0:=h0.1
 have e2:v2=p1:=h2.1
 have e1:v1=.int .i64 i:=z3g h1
 subst e0; subst e2; subst e1
 obtain ⟨j,rfl⟩:∃ j:Nat,i=(j:Int):=⟨i.toNat, by omega⟩
 simp only [Int.toNat_natCast] at hi1 ⊢
 obtain ⟨xs,x1,x2⟩:=z6l (hres.conts 1 v0 _ rfl)
 obtain ⟨ys,y1,y2⟩:=z6l (hres.conts 2 v2 _ rfl)
 rw [hc1] at y1
 have hsep:∀ b,v0.ownBlock=some b→v2.ownBlock≠some b:=fun b hb hb2=>by
  obtain ⟨p,c,rfl⟩:=z35 x1
  obtain ⟨q,d,rfl⟩:=z35 y1
  exact hres.excl 1 _ _ 2 _ _ rfl rfl (by decide) b (by rw [z6v]; exact hb) (by rw [z6v]; exact hb2)
 refine (zzd v0 v2 c0.length j xs ys w hi1 x1 y1 hsep hn x2.one y2.one).mono fun e w' ⟨v',he,hw,hg,hs⟩=>?_
 have only:∀ r v c (q:z48),lr [(100,some (v',q))] r=some (v,c)→r=100∧v=v'∧c=q:=fun r v c q h=>by
  rw [z1f] at h
  split at h
  ·
   rename_i e; cases h; exact ⟨e.symm,rfl,rfl⟩
  ·
   simp [lr,lk] at h
 have hlen:(c0.take j++c1++c0.drop j).length=c0.length+1:=by
  simp only [List.length_append,List.length_take,List.length_drop,hc1]; omega
 obtain ⟨p',c',rfl⟩:=z35 hw
 refine ⟨fun _=>.slice p' (c0.length+1) c',[.slice p' (c0.length+1) c'],he,⟨⟨rfl,rfl⟩,trivial⟩, fun r v c h=>?_, fun r v c r' v2' c2' h h' hne=>?_, fun r v c h b hb=>?_,hg.os,hg.tape,hg.output,hg.size, fun k hk=>?_⟩
 ·
  obtain ⟨rfl,rfl,rfl⟩:=only _ _ _ _ h
  refine zh0 (B:=0) (xs:=xs.take (j * 32)++ys++xs.drop (j * 32)) (by rw [hlen]; exact hw) ?_
  exact ((relD (x2.take j)).append (relD y2)).append (relD (x2.drop j))
 ·
  exact absurd ((only _ _ _ _ h).1.trans (only _ _ _ _ h').1.symm) hne
 ·
  obtain ⟨rfl,rfl,rfl⟩:=only _ _ _ _ h
  rw [z6v] at hb
  rcases hs b hb with h | h
  ·
   exact .inr ⟨1,_,_,rfl, by obtain ⟨p,c,rfl⟩:=z35 x1; rw [z6v]; exact h⟩
  ·
   exact .inl h
 ·
  refine hg.block k hk.1 fun e=>hk.2 ⟨1,_,_,rfl,?_⟩
  obtain ⟨p,c,rfl⟩:=z35 x1; rw [z6v]; exact e.symm
end
section
open Go Go.RowKit
set_option maxRecDepth 100000
def zbl (a0:UInt32):Option (Int) :=
 if decide (500000002≤(a0 - 1)) then
  some 2
 else
  some 0
theorem zfb (a0:UInt32):z2s Tryz.prog 100 [.rd z0w a0] [] (zbl a0) (fun r nv=>⟨[.rd z09 r],[]⟩):=by
 refine z3o 6 Tryz.func100 Z Z Z fun H w=>?_
 refine gSR<|Zb Z<|z1c<|gSR<|Zm Z<|Zq (W.sub Z Z)<|Zq (W.geq Z Z)<|Zj Z (fun h1=>?_) (fun h1=>?_)
 ·
  refine gSR<|Zb Z<|z12<|z1i<|Ze [] [] Z
 ·
  refine Zt<|gSR<|Zb Z<|z12<|Ze [] [] Z
def zaa (a0:UInt32):Option (UInt32 × Int) :=
 zbl a0 >>= fun r1 =>
 if r1 != 0 then
  some (0,r1)
 else
  z8r a0.toUInt64 >>= fun r4 =>
  some (r4,0)
theorem zeg (a0:UInt32):z2s Tryz.prog 70 [.rd z0w a0] [] (zaa a0) (fun r nv=>⟨[.rd z0w r.1,.rd z09 r.2],[]⟩):=by
 refine z3o 13 Tryz.func70 Z Z Z fun H w=>?_
 refine gSR<|Za Z<|Zb Z<|z1c<|gSR<|Zm Z<|Zc [] [] Tryz.func100 Z (zfb _) fun r1 n2=>Zb Z<|gSR<|Zm Z<|Zq (I.neq Z Z)<|Zj Z (fun h3=>?_) (fun h3=>?_)
 ·
  refine gSR<|Zm Z<|Za Z<|Zb Z<|z12<|z1i<|Ze [] [] Z
 ·
  refine Zt<|gSR<|Zm Z<|Zq (W.toU Z tu37 tu38)<|Zc [] [] Tryz.func85 Z (zc6 _) fun r4 n5=>Za Z<|Zb Z<|z12<|Ze [] [] Z
def ze0 (a0:UInt32) (a1:List UInt8):Option (UInt32 × Int) :=
 zbl a0 >>= fun r1 =>
 if r1 != 0 then
  some (0,r1)
 else
  za7 110 a1 [a0] >>= fun r5 =>
  if r5.2 != 0 then
   some (0,r5.2)
  else
   some (((r5.1 % 500000002).toUInt32)+1) >>= fun y8 =>
   some (y8,0)
theorem zki (a0:UInt32) (a1:List UInt8):z2s Tryz.prog 101 [.rd z0w a0,.rd (z02 u8R) a1] [zG1] (ze0 a0 a1) (fun r nv=>⟨[.rd z0w r.1,.rd z09 r.2],[(1001,some (.bool true,.glob 1 (z3l 64 z0w) z4a))]⟩):=by
 refine z3o 28 Tryz.func101 Z Z Z fun H w=>?_
 refine gSR<|Za Z<|Zb Z<|z1c<|gSR<|Zm Z<|Zc [] [] Tryz.func100 Z (zfb _) fun r1 n2=>Zb Z<|gSR<|Zm Z<|Zq (I.neq Z Z)<|Zj Z (fun h3=>?_) (fun h3=>?_)
 ·
  refine gSR<|Zm Z<|Za Z<|Zb Z<|z12<|z1i<|Ze [] [1001] Z
 ·
  refine Zt<|gSR<|Zm Z<|Zm Z<|Ef Z (lit (R:=z0w) ([a0]:List UInt32) 1 (pP Z Z<|pN) Z tu182 z8l Z Z) fun v4=>zfs 1 [17] Z (fS Z<|fN)<|Zc [1001] [] Tryz.func123 Z (zga _ _ _) fun r5 n6=>Zm Z<|Zq (ext Z Z)<|Zq (ext Z Z)<|Za Z<|Zb Z<|z1c<|gSR<|Zm Z<|Zq (I.neq Z Z)<|Zj Z (fun h7=>?_) (fun h7=>?_)
  ·
   refine gSR<|Zm Z<|Za Z<|Zb Z<|z12<|z1i<|Ze [] [1001] Z
  ·
   refine Zt<|gSR<|Zm Z<|Zq (U.rem Z Z (by decide))<|Zq (U.toW Z tu38 tu37)<|Zq (W.add Z Z)<|Za Z<|z38 4 Z fun y8=>Zb Z<|z12<|Ze [] [1001] Z
def zck (a0:UInt32) (a1:UInt32):Option (UInt32 × Int) :=
 if decide (500000003≤(max a0 a1)) then
  some (0,2)
 else
  z89 500000003 [a0,a1] >>= fun r3 =>
  some (r3,0)
theorem zid (a0:UInt32) (a1:UInt32):z2s Tryz.prog 102 [.rd z0w a0,.rd z0w a1] [] (zck a0 a1) (fun r nv=>⟨[.rd z0w r.1,.rd z09 r.2],[]⟩):=by
 refine z3o 14 Tryz.func102 Z Z Z fun H w=>?_
 refine gSR<|Za Z<|Zb Z<|z1c<|gSR<|Zm Z<|Zm Z<|Zq (W.max Z Z)<|Zq (W.geq Z Z)<|Zj Z (fun h1=>?_) (fun h1=>?_)
 ·
  refine gSR<|Za Z<|Zb Z<|z12<|z1i<|Ze [] [] Z
 ·
  refine Zt<|gSR<|Zm Z<|Zm Z<|Ef Z (lit (R:=z0w) ([a0,a1]:List UInt32) 1 (pP Z Z<|pP Z Z<|pN) Z tu182 z8l Z Z) fun v2=>zfs 1 [12] Z (fS Z<|fN)<|Zc [] [] Tryz.func122 Z (zb2 _ _) fun r3 n4=>Za Z<|Zb Z<|z12<|Ze [] [] Z
def ze2 (a0:UInt32) (a1:UInt32):Option (UInt32 × Int) :=
 if decide (500000003≤(max a0 a1)) then
  some (0,2)
 else
  some ((a0+a1) % 500000003) >>= fun y2 =>
  some (y2,0)
theorem zke (a0:UInt32) (a1:UInt32):z2s Tryz.prog 103 [.rd z0w a0,.rd z0w a1] [] (ze2 a0 a1) (fun r nv=>⟨[.rd z0w r.1,.rd z09 r.2],[]⟩):=by
 refine z3o 14 Tryz.func103 Z Z Z fun H w=>?_
 refine gSR<|Za Z<|Zb Z<|z1c<|gSR<|Zm Z<|Zm Z<|Zq (W.max Z Z)<|Zq (W.geq Z Z)<|Zj Z (fun h1=>?_) (fun h1=>?_)
 ·
  refine gSR<|Za Z<|Zb Z<|z12<|z1i<|Ze [] [] Z
 ·
  refine Zt<|gSR<|Zm Z<|Zm Z<|Zq (W.add Z Z)<|Zq (W.rem Z Z (by decide))<|Za Z<|z38 4 Z fun y2=>Zb Z<|z12<|Ze [] [] Z
def zf8 (a0:UInt32) (a1:List UInt8):Option (z08 × Int) :=
 ze0 a0 a1 >>= fun r2 =>
 if r2.2 != 0 then
  some ((⟨0,0⟩:z08),r2.2)
 else
  zaa a0 >>= fun r5 =>
  z8r r2.1.toUInt64 >>= fun r7 =>
  z7f r7 r5.1 a1 >>= fun r9 =>
  zck r9.1 a0 >>= fun r11 =>
  ze2 r2.1 r11.1 >>= fun r13 =>
  some ((⟨r9.1,r13.1⟩:z08),0)
theorem zlc (a0:UInt32) (a1:List UInt8):z2s Tryz.prog 71 [.rd z0w a0,.rd (z02 u8R) a1] [zG1] (zf8 a0 a1) (fun r nv=>⟨[.rd z0f r.1,.rd z09 r.2],[(1001,some (.bool true,.glob 1 (z3l 64 z0w) z4a))]⟩):=by
 refine z3o 55 Tryz.func71 Z Z Z fun H w=>?_
 refine gSR<|Eb Z (z71 1 zku (.zr (R:=z0f) (x:=(⟨0,0⟩:z08)) zjw)) fun v1=>Zb Z<|gSR<|Zm Z<|Zm Z<|Zc [1001] [] Tryz.func101 Z (zki _ _) fun r2 n3=>Zm Z<|Zq (ext Z Z)<|Zq (ext Z Z)<|Za Z<|Zb Z<|z1c<|gSR<|Zm Z<|Zq (I.neq Z Z)<|Zj Z (fun h4=>?_) (fun h4=>?_)
 ·
  refine gSR<|Zq (bld (x':=(⟨0,0⟩:z08)) [(0,1),(1,1)] Tryz.underlying44 zku Z zjw Z (Bld.done Z))<|Zm Z<|Es (sto 1 Z Z fH Z zku)<|Zb Z<|z12<|z1i<|zcp [] [1001] Z (eC 1 Z Z ty44<|eE Z<|eN) (y1 Z)
 ·
  refine Zt<|gSR<|Zm Z<|Zc [] [] Tryz.func70 Z (zeg _) fun r5 n6=>Zm Z<|Zq (ext Z Z)<|Zq (ext Z Z)<|Za Z<|Zb Z<|gSR<|Zm Z<|Zq (W.toU Z tu37 tu38)<|Zc [] [] Tryz.func85 Z (zc6 _) fun r7 n8=>Zm Z<|Zm Z<|Zc [1001] [] Tryz.func86 Z (zbp _ _ _) fun r9 n10=>Zm Z<|Zq (ext Z Z)<|Zq (ext Z Z)<|Za Z<|Zb Z<|gSR<|Zm Z<|Zm Z<|Zc [] [] Tryz.func102 Z (zid _ _) fun r11 n12=>Zm Z<|Zq (ext Z Z)<|Zq (ext Z Z)<|Za Z<|Zb Z<|gSR<|Zm Z<|Zm Z<|Zc [] [] Tryz.func103 Z (zke _ _) fun r13 n14=>Zm Z<|Zq (ext Z Z)<|Zq (ext Z Z)<|Za Z<|Zb Z<|gSR<|Zm Z<|Zm Z<|Zq (bld (x':=(⟨r9.1,r13.1⟩:z08)) [(0,1),(1,1)] Tryz.underlying44 zku Z zjw Z (Bld.cons (z7r _) Z Z<|Bld.cons (z92 _) Z Z<|Bld.done Z))<|Es (sto 1 Z Z fH Z zku)<|Zb Z<|z12<|zcp [] [1001] Z (eC 1 Z Z ty44<|eE Z<|eN) (y1 Z)
def zcl (a0:UInt32) (a1:z06):Option (z06 × Int) :=
 zaa a0 >>= fun r3 =>
 if r3.2 != 0 then
  some ((⟨0,[],0,(⟨0,[],(⟨0,0,0,[]⟩:z04)⟩:z0i),(⟨0,0⟩:z08)⟩:z06),r3.2)
 else
  z0o a1.Preds >>= fun r6 =>
  z8w (⟨({ a1 with Author:=r3.1 }).Author,r6,({ a1 with Author:=r3.1 }).Stamp,({ a1 with Author:=r3.1 }).Act,({ a1 with Author:=r3.1 }).Sig⟩:z06) >>= fun r8 =>
  if r8.2 != 0 then
   some ((⟨0,[],0,(⟨0,[],(⟨0,0,0,[]⟩:z04)⟩:z0i),(⟨0,0⟩:z08)⟩:z06),r8.2)
  else
   zf8 a0 r8.1 >>= fun r11 =>
   some ({ (⟨({ a1 with Author:=r3.1 }).Author,r6,({ a1 with Author:=r3.1 }).Stamp,({ a1 with Author:=r3.1 }).Act,({ a1 with Author:=r3.1 }).Sig⟩:z06) with Sig:=r11.1 },0)
theorem zqk (a0:UInt32) (a1:z06):z2s Tryz.prog 47 [.rd z0w a0,.rd z03 a1] [zG1] (zcl a0 a1) (fun r nv=>⟨[.rd z03 r.1,.rd z09 r.2],[(1001,some (.bool true,.glob 1 (z3l 64 z0w) z4a))]⟩):=by
 refine z3o 41 Tryz.func47 Z Z Z fun H w=>?_
 refine gSR<|Eb Z (bx 1 Z) fun v1=>Eb Z (z71 2 z8b (ZrE.rd (R:=z0w) (x:=0) (Zr.num Z) (ZrE.nilS (ZrE.rd (R:=z2y) (x:=0) (Zr.num Z) (ZrE.rd (R:=z0g) (x:=(⟨0,[],(⟨0,0,0,[]⟩:z04)⟩:z0i)) zlh (ZrE.rd (R:=z0f) (x:=(⟨0,0⟩:z08)) zjw ZrE.nil Z) Z) Z)) Z)) fun v2=>Zb Z<|gSR<|Zm Z<|Zc [] [] Tryz.func70 Z (zeg _) fun r3 n4=>Zm Z<|Zq (ext Z Z)<|Zq (ext Z Z)<|Za Z<|Zb Z<|z1c<|gSR<|Zm Z<|Zq (I.neq Z Z)<|Zj Z (fun h5=>?_) (fun h5=>?_)
 ·
  refine gSR<|Zq (zqu [(0,1),(1,1),(2,1),(3,6),(9,2)] Tryz.underlying46 z8b (ZrE.rd (R:=z0w) (x:=0) (Zr.num Z) (ZrE.nilS (ZrE.rd (R:=z2y) (x:=0) (Zr.num Z) (ZrE.rd (R:=z0g) (x:=(⟨0,[],(⟨0,0,0,[]⟩:z04)⟩:z0i)) zlh (ZrE.rd (R:=z0f) (x:=(⟨0,0⟩:z08)) zjw ZrE.nil Z) Z) Z)) Z) Z (zgg.done Z))<|Zm Z<|Es (zqy 2 Z Z (z0d.cast (z0d.cons z20 (z0d.cons z07 (z0d.cons z20 (z0d.cons z20 (z0d.cons z20 z0d.nil))))) Z) Z (z42.cons zbj (z42.cons z1j (z42.cons zbj (z42.cons zbj (z42.cons zbj z42.nil))))) (z0d.cast (z0d.cons z20 (z0d.cons z07 (z0d.cons z20 (z0d.cons z20 (z0d.cons z20 z0d.nil))))) Z) z8b)<|Zb Z<|z12<|z1i<|zlz aZ [.rd z0w 0,.rd (z02 aZ) [],.rd z2y 0,.rd z0g (⟨0,[],(⟨0,0,0,[]⟩:z04)⟩:z0i),.rd z0f (⟨0,0⟩:z08)] 2 [.rd z0w 0] [.rd z2y 0,.rd z0g (⟨0,[],(⟨0,0,0,[]⟩:z04)⟩:z0i),.rd z0f (⟨0,0⟩:z08)] Z Z Z<|zug (R:=z03) (⟨0,[],0,(⟨0,[],(⟨0,0,0,[]⟩:z04)⟩:z0i),(⟨0,0⟩:z08)⟩:z06) 2 Z (Sp.via (Sp.prod (Sp.prod (Sp.prod (Sp.prod (Sp.prod Sp.unit))))))<|zcp [] [1001] Z (eC 2 Z Z z9x<|eE Z<|eN) (y1 Z)
 ·
  refine Zt<|gSR<|Zm Z<|Zq (faB 1 Z Z Tryz.underlying46 Z (by exact z9t))<|Zq (ld 1 Z Z (fP (z10 _)) zar Z)<|Zc [] [(100,3)] Tryz.func41 Z (z1o _) fun r6 n7=>Zq (faB 1 Z Z Tryz.underlying46 Z (by exact z8l))<|Es (sto 1 Z Z (fP (z4m _)) Z z8l)<|Zq (faB 1 Z Z Tryz.underlying46 Z (by exact z9t))<|lSpl (R:=z03) 1 Z (Sp.via (Sp.prod (Sp.prod (Sp.prod (Sp.prod (Sp.prod Sp.unit))))))<|Es (zmt 1 Z Z (z9a.cast (z9a.next z20 (z9a.here z20)) Z) Z z1j z07 z9t)<|Zn<|gSR<|zup [.rd z0w (({ a1 with Author:=r3.1 }).Author),.rd (z02 aZ) r6,.rd z2y (({ a1 with Author:=r3.1 }).Stamp),.rd z0g (({ a1 with Author:=r3.1 }).Act),.rd z0f (({ a1 with Author:=r3.1 }).Sig)] 1 3 [.rd z0w (({ a1 with Author:=r3.1 }).Author)] [.rd z2y (({ a1 with Author:=r3.1 }).Stamp),.rd z0g (({ a1 with Author:=r3.1 }).Act),.rd z0f (({ a1 with Author:=r3.1 }).Sig)] Z Z Z Z Z<|zd7 (R:=z03) (⟨({ a1 with Author:=r3.1 }).Author,r6,({ a1 with Author:=r3.1 }).Stamp,({ a1 with Author:=r3.1 }).Act,({ a1 with Author:=r3.1 }).Sig⟩:z06) 1 Z (Sp.via (Sp.prod (Sp.prod (Sp.prod (Sp.prod (Sp.prod Sp.unit))))))<|Zq (ld 1 Z Z fH z9x Z)<|Zc [] [(100,4)] Tryz.func56 Z (zc5 _) fun r8 n9=>Zm Z<|Zq (ext Z Z)<|Zq (ext Z Z)<|Za Z<|Zb Z<|z1c<|gSR<|Zm Z<|Zq (I.neq Z Z)<|Zj Z (fun h10=>?_) (fun h10=>?_)
  ·
   refine gSR<|Zq (zqu [(0,1),(1,1),(2,1),(3,6),(9,2)] Tryz.underlying46 z8b (ZrE.rd (R:=z0w) (x:=0) (Zr.num Z) (ZrE.nilS (ZrE.rd (R:=z2y) (x:=0) (Zr.num Z) (ZrE.rd (R:=z0g) (x:=(⟨0,[],(⟨0,0,0,[]⟩:z04)⟩:z0i)) zlh (ZrE.rd (R:=z0f) (x:=(⟨0,0⟩:z08)) zjw ZrE.nil Z) Z) Z)) Z) Z (zgg.done Z))<|Zm Z<|Es (zqy 2 Z Z (z0d.cast (z0d.cons z20 (z0d.cons z07 (z0d.cons z20 (z0d.cons z20 (z0d.cons z20 z0d.nil))))) Z) Z (z42.cons zbj (z42.cons z1j (z42.cons zbj (z42.cons zbj (z42.cons zbj z42.nil))))) (z0d.cast (z0d.cons z20 (z0d.cons z07 (z0d.cons z20 (z0d.cons z20 (z0d.cons z20 z0d.nil))))) Z) z8b)<|Zb Z<|z12<|z1i<|zlz aZ [.rd z0w 0,.rd (z02 aZ) [],.rd z2y 0,.rd z0g (⟨0,[],(⟨0,0,0,[]⟩:z04)⟩:z0i),.rd z0f (⟨0,0⟩:z08)] 2 [.rd z0w 0] [.rd z2y 0,.rd z0g (⟨0,[],(⟨0,0,0,[]⟩:z04)⟩:z0i),.rd z0f (⟨0,0⟩:z08)] Z Z Z<|zug (R:=z03) (⟨0,[],0,(⟨0,[],(⟨0,0,0,[]⟩:z04)⟩:z0i),(⟨0,0⟩:z08)⟩:z06) 2 Z (Sp.via (Sp.prod (Sp.prod (Sp.prod (Sp.prod (Sp.prod Sp.unit))))))<|zcp [] [1001] Z (eC 2 Z Z z9x<|eE Z<|eN) (y1 Z)
  ·
   refine Zt<|gSR<|Zm Z<|Zm Z<|zfs 4 [27,8,35] Z (fS Z<|fS Z<|fS Z<|fN)<|Zc [1001] [] Tryz.func71 Z (zlc _ _) fun r11 n12=>Zm Z<|Zq (ext Z Z)<|Zq (ext Z Z)<|Zq (faB 1 Z Z Tryz.underlying46 Z (by exact zku))<|Es (sto 1 Z Z (fP (z3z _)) Z zku)<|Zn<|gSR<|Zq (ld 1 Z Z fH z9x Z)<|zcr aZ [.rd z0w 0,.rd (z02 aZ) [],.rd z2y 0,.rd z0g (⟨0,[],(⟨0,0,0,[]⟩:z04)⟩:z0i),.rd z0f (⟨0,0⟩:z08)] 2 [.rd z0w 0] [.rd z2y 0,.rd z0g (⟨0,[],(⟨0,0,0,[]⟩:z04)⟩:z0i),.rd z0f (⟨0,0⟩:z08)] Z Z Z<|zd7 (R:=z03) (⟨0,[],0,(⟨0,[],(⟨0,0,0,[]⟩:z04)⟩:z0i),(⟨0,0⟩:z08)⟩:z06) 2 Z (Sp.via (Sp.prod (Sp.prod (Sp.prod (Sp.prod (Sp.prod Sp.unit))))))<|Es (sto 2 Z Z fH Z z8b)<|Zb Z<|z12<|zcp [] [1001] Z (eC 2 Z Z z9x<|eE Z<|eN) (y1 Z)
def z14 (a0:UInt32) (a1:List V3):Option (z06) :=
 zcl a0 (⟨0,a1,0,(⟨1,[],(⟨0,0,0,[]⟩:z04)⟩:z0i),(⟨0,0⟩:z08)⟩:z06) >>= fun r2 =>
 some r2.1
theorem z37 (a0:UInt32) (a1:List V3):z2s Tryz.prog 26 [.rd z0w a0,.rd (z02 aZ) a1] [zG1] (z14 a0 a1) (fun r nv=>⟨[.rd z03 r],[(1001,some (.bool true,.glob 1 (z3l 64 z0w) z4a))]⟩):=by
 refine z3o 16 Tryz.func26 Z Z Z fun H w=>?_
 refine gSR<|Eb Z (z71 1 z8b (ZrE.rd (R:=z0w) (x:=0) (Zr.num Z) (ZrE.nilS (ZrE.rd (R:=z2y) (x:=0) (Zr.num Z) (ZrE.rd (R:=z0g) (x:=(⟨0,[],(⟨0,0,0,[]⟩:z04)⟩:z0i)) zlh (ZrE.rd (R:=z0f) (x:=(⟨0,0⟩:z08)) zjw ZrE.nil Z) Z) Z)) Z)) fun v1=>Zn<|gSR<|Zm Z<|Zm Z<|Zq (bld (x':=(⟨1,[],(⟨0,0,0,[]⟩:z04)⟩:z0i)) [(0,1),(1,1),(2,4)] Tryz.underlying42 zt1 Z zlh Z (Bld.cons (z5n _) Z Z<|Bld.done Z))<|Zq (bld (x':=(⟨0,a1,0,(⟨1,[],(⟨0,0,0,[]⟩:z04)⟩:z0i),(⟨0,0⟩:z08)⟩:z06)) [(0,1),(1,1),(2,1),(3,6),(9,2)] Tryz.underlying46 z8b Z zr46 Z (Bld.cons (z10 _) Z Z<|Bld.cons (z44 _) Z Z<|Bld.done Z))<|Zc [1001] [] Tryz.func47 Z (zqk _ _) fun r2 n3=>Zm Z<|Zq (ext Z Z)<|Zq (ext Z Z)<|Eb Z (z71 2 z8b (ZrE.rd (R:=z0w) (x:=0) (Zr.num Z) (ZrE.nilS (ZrE.rd (R:=z2y) (x:=0) (Zr.num Z) (ZrE.rd (R:=z0g) (x:=(⟨0,[],(⟨0,0,0,[]⟩:z04)⟩:z0i)) zlh (ZrE.rd (R:=z0f) (x:=(⟨0,0⟩:z08)) zjw ZrE.nil Z) Z) Z)) Z)) fun v4=>zcr aZ [.rd z0w 0,.rd (z02 aZ) [],.rd z2y 0,.rd z0g (⟨0,[],(⟨0,0,0,[]⟩:z04)⟩:z0i),.rd z0f (⟨0,0⟩:z08)] 2 [.rd z0w 0] [.rd z2y 0,.rd z0g (⟨0,[],(⟨0,0,0,[]⟩:z04)⟩:z0i),.rd z0f (⟨0,0⟩:z08)] Z Z Z<|zd7 (R:=z03) (⟨0,[],0,(⟨0,[],(⟨0,0,0,[]⟩:z04)⟩:z0i),(⟨0,0⟩:z08)⟩:z06) 2 Z (Sp.via (Sp.prod (Sp.prod (Sp.prod (Sp.prod (Sp.prod Sp.unit))))))<|Es (sto 2 Z Z fH Z z8b)<|Zb Z<|gSR<|Zq (ld 2 Z Z fH z9x Z)<|zcr aZ [.rd z0w 0,.rd (z02 aZ) [],.rd z2y 0,.rd z0g (⟨0,[],(⟨0,0,0,[]⟩:z04)⟩:z0i),.rd z0f (⟨0,0⟩:z08)] 1 [.rd z0w 0] [.rd z2y 0,.rd z0g (⟨0,[],(⟨0,0,0,[]⟩:z04)⟩:z0i),.rd z0f (⟨0,0⟩:z08)] Z Z Z<|zd7 (R:=z03) (⟨0,[],0,(⟨0,[],(⟨0,0,0,[]⟩:z04)⟩:z0i),(⟨0,0⟩:z08)⟩:z06) 1 Z (Sp.via (Sp.prod (Sp.prod (Sp.prod (Sp.prod (Sp.prod Sp.unit))))))<|Es (sto 1 Z Z fH Z z8b)<|Zn<|z12<|zcp [] [1001] Z (eC 1 Z Z z9x<|eN) (y1 Z)
def z16 (a0:z06):Option (V3) :=
 zqa a0 >>= fun r3 =>
 some r3.1
theorem z1n (a0:z06):z2s Tryz.prog 27 [.rd z03 a0] [zG1] (z16 a0) (fun r nv=>⟨[.rd aZ r],[(1001,some (.bool true,.glob 1 (z3l 64 z0w) z4a))]⟩):=by
 refine z3o 11 Tryz.func27 Z Z Z fun H w=>?_
 refine gSR<|Eb Z (bx 1 Z) fun v1=>Eb Z (z71 2 z30 (.zr (R:=aZ) (x:=(Vector.replicate 32 0)) zd4)) fun v2=>Zn<|gSR<|Zq (ld 1 Z Z fH z9x Z)<|Zc [1001] [] Tryz.func36 Z (zkd _) fun r3 n4=>Zm Z<|Zq (ext Z Z)<|Zq (ext Z Z)<|Eb Z (z71 3 z30 (.zr (R:=aZ) (x:=(Vector.replicate 32 0)) zd4)) fun v5=>Es (sto 3 Z Z fH Z z30)<|Zb Z<|gSR<|Zq (ld 3 Z Z fH z51 Z)<|Es (sto 2 Z Z fH Z z30)<|Zn<|z12<|zcp [] [1001] Z (eC 2 Z Z z51<|eN) (y1 Z)
def z58 (a0:V3) (a1:V3):Option ((List V3)) :=
 z6c a0 a1 >>= fun r3 =>
 if decide (0<r3) then
  some [a1,a0]
 else
  some [a0,a1]
theorem zbu (a0:V3) (a1:V3):z2s Tryz.prog 30 [.rd aZ a0,.rd aZ a1] [] (z58 a0 a1) (fun r nv=>⟨[.val (nv 0)],[(100,some (nv 0,.list aZ 36 r))]⟩):=by
 refine z3o 15 Tryz.func30 Z Z Z fun H w=>?_
 refine gSR<|Eb Z (bx 1 Z) fun v1=>Eb Z (bx 2 Z) fun v2=>Zb Z<|z1c<|gSR<|Zq (ld 1 Z Z fH z51 Z)<|Zq (ld 2 Z Z fH z51 Z)<|Zc [] [] Tryz.func15 Z (zfw _ _) fun r3 n4=>Zq (I.gtr Z Z)<|Zj Z (fun h5=>?_) (fun h5=>?_)
 ·
  refine gSR<|Zq (ld 2 Z Z fH z51 Z)<|Zq (ld 1 Z Z fH z51 Z)<|Ef Z (lit (R:=aZ) ([a1,a0]:List V3) 3 (pP Z Z<|pP Z Z<|pN) Z tu22 z30 Z Z) fun v6=>Zb Z<|z12<|z1i<|Ze [v6] [3] Z
 ·
  refine Zt<|gSR<|Zq (ld 1 Z Z fH z51 Z)<|Zq (ld 2 Z Z fH z51 Z)<|Ef Z (lit (R:=aZ) ([a0,a1]:List V3) 4 (pP Z Z<|pP Z Z<|pN) Z tu22 z30 Z Z) fun v7=>Zb Z<|z12<|Ze [v7] [4] Z
def zdy (a0:z06):Option (z06) :=
 z0o a0.Preds >>= fun r3 =>
 some (⟨a0.Author,r3,a0.Stamp,a0.Act,a0.Sig⟩:z06)
theorem zep (a0:z06):z2s Tryz.prog 62 [.rd z03 a0] [] (zdy a0) (fun r nv=>⟨[.rd z03 r],[]⟩):=by
 refine z3o 8 Tryz.func62 Z Z Z fun H w=>?_
 refine gSR<|Eb Z (bx 1 Z) fun v1=>Eb Z (z71 2 z8b (ZrE.rd (R:=z0w) (x:=0) (Zr.num Z) (ZrE.nilS (ZrE.rd (R:=z2y) (x:=0) (Zr.num Z) (ZrE.rd (R:=z0g) (x:=(⟨0,[],(⟨0,0,0,[]⟩:z04)⟩:z0i)) zlh (ZrE.rd (R:=z0f) (x:=(⟨0,0⟩:z08)) zjw ZrE.nil Z) Z) Z)) Z)) fun v2=>Zn<|gSR<|Zq (faB 1 Z Z Tryz.underlying46 Z (by exact z9t))<|Zq (ld 1 Z Z (fP (z10 _)) zar Z)<|Zc [] [(100,3)] Tryz.func41 Z (z1o _) fun r3 n4=>Zq (faB 1 Z Z Tryz.underlying46 Z (by exact z9t))<|lSpl (R:=z03) 1 Z (Sp.via (Sp.prod (Sp.prod (Sp.prod (Sp.prod (Sp.prod Sp.unit))))))<|Es (zmt 1 Z Z (z9a.cast (z9a.next z20 (z9a.here z20)) Z) Z z1j z07 z9t)<|Zn<|gSR<|zup [.rd z0w a0.Author,.rd (z02 aZ) r3,.rd z2y a0.Stamp,.rd z0g a0.Act,.rd z0f a0.Sig] 1 3 [.rd z0w a0.Author] [.rd z2y a0.Stamp,.rd z0g a0.Act,.rd z0f a0.Sig] Z Z Z Z Z<|zd7 (R:=z03) (⟨a0.Author,r3,a0.Stamp,a0.Act,a0.Sig⟩:z06) 1 Z (Sp.via (Sp.prod (Sp.prod (Sp.prod (Sp.prod (Sp.prod Sp.unit))))))<|Zq (ld 1 Z Z fH z9x Z)<|zcr aZ [.rd z0w 0,.rd (z02 aZ) [],.rd z2y 0,.rd z0g (⟨0,[],(⟨0,0,0,[]⟩:z04)⟩:z0i),.rd z0f (⟨0,0⟩:z08)] 2 [.rd z0w 0] [.rd z2y 0,.rd z0g (⟨0,[],(⟨0,0,0,[]⟩:z04)⟩:z0i),.rd z0f (⟨0,0⟩:z08)] Z Z Z<|zd7 (R:=z03) (⟨0,[],0,(⟨0,[],(⟨0,0,0,[]⟩:z04)⟩:z0i),(⟨0,0⟩:z08)⟩:z06) 2 Z (Sp.via (Sp.prod (Sp.prod (Sp.prod (Sp.prod (Sp.prod Sp.unit))))))<|Es (sto 2 Z Z fH Z z8b)<|Zn<|z12<|zcp [] [] Z (eC 2 Z Z z9x<|eN) (rN)
def ze3 (a0:z00) (a2:z06) (r5:Int × Bool) (r11:List V3) (s16:(List z06) × Int):Option (Sum ((List z06)) ((List z06) × Int)) :=
 if decide (s16.2<(r11.length:Int)) then
  some (decide (s16.2<r5.1)) >>= fun y19 =>
  if y19 then
   idx a0.Ops s16.2 >>= fun x21 =>
   zdy x21 >>= fun r23 =>
   app 112 s16.1 [r23] >>= fun x26 =>
   some (.inr (x26,w64 (s16.2+1)))
  else
   some (s16.2==r5.1) >>= fun y29 =>
   if y29 then
    zdy a2 >>= fun r31 =>
    app 112 s16.1 [r31] >>= fun x34 =>
    some (.inr (x34,w64 (s16.2+1)))
   else
    idx a0.Ops (w64 (s16.2 - 1)) >>= fun x37 =>
    zdy x37 >>= fun r39 =>
    app 112 s16.1 [r39] >>= fun x42 =>
    some (.inr (x42,w64 (s16.2+1)))
 else
  some (.inl s16.1)
def zdb (a0:z00) (a1:V3) (a2:z06):Option (z00 × Bool) :=
 zc4 a0 a1 >>= fun r5 =>
 if r5.2 then
  some (a0,false)
 else
  z0o a0.IDs >>= fun r8 =>
  insF r8 r5.1 [a1] >>= fun r11 =>
  (iter (ze3 a0 a2 r5 r11) ([],0)) >>= fun s15 =>
  some ((⟨r11,s15⟩:z00),true)
set_option maxHeartbeats 4000000 in
theorem zqf (a0:z00) (a1:V3) (a2:z06):z2s Tryz.prog 37 [.rd z01 a0,.rd aZ a1,.rd z03 a2] [] (zdb a0 a1 a2) (fun r nv=>⟨[.rd z01 r.1,.rd z0j r.2],[]⟩):=by
 refine z3o 74 Tryz.func37 Z Z Z fun H w=>?_
 refine gSR<|Eb Z (bx 1 Z) fun v1=>Eb Z (bx 2 Z) fun v2=>Eb Z (bx 3 Z) fun v3=>Eb Z (z71 4 z9s (ZrE.nilS (ZrE.nilS ZrE.nil))) fun v4=>Zb Z<|gSR<|Zq (ld 1 Z Z fH z75 Z)<|Zq (ld 2 Z Z fH z51 Z)<|Zc [] [] Tryz.func60 Z (zhb _ _) fun r5 n6=>Zm Z<|Zq (ext Z Z)<|Zq (ext Z Z)<|Za Z<|Zb Z<|z1c<|gSR<|Zm Z<|Zj Z (fun h7=>?_) (fun h7=>?_)
 ·
  refine gKn 17 Z h7<|gKn 9 Z h7<|gSR<|Zq (ld 1 Z Z fH z75 Z)<|zcr aZ [.rd (z02 aZ) [],.val (.slice none 0 0)] 4 [] [.val (.slice none 0 0)] Z Z Z<|zcr z03 [.rd (z02 aZ) [],.rd (z02 z03) []] 4 [.rd (z02 aZ) []] [] Z Z Z<|zd7 (R:=z01) (⟨[],[]⟩:z00) 4 Z (Sp.via (Sp.prod (Sp.prod Sp.unit)))<|Es (sto 4 Z Z fH Z z9s)<|Zb Z<|z12<|z1i<|zcp [] [] Z (eC 4 Z Z z75<|eE Z<|eN) (rN)
 ·
  refine gKn 17 Z h7<|gKn 9 Z h7<|Zt<|z1c<|zs6 [(3,.val (z05 v1 0)),(4,.val (z05 v2 0)),(5,.val (z05 v3 0)),(6,.val (z05 v4 0)),(8,.rd z09 r5.1)] [(1,some (v1,.box 25 [.rd z01 a0])),(2,some (v2,.box 36 [.rd aZ a1])),(3,some (v3,.box 46 [.rd z03 a2])),(4,some (v4,.box 25 [.val (.slice none 0 0),.val (.slice none 0 0)]))] [1,2,3,4] (Zs Z Z Z Z<|sS Z<|sN) (Zi Z<|Zi Z<|Zi Z<|Zi Z<|rN)<|z7w fun r8 h10=>z7w fun r11 h13=>gOr [] [⟨1,some ([], fun nv=>(v1,.box 25 [.rd z01 a0])),[]⟩,⟨5,none,[(2,some ([1], fun nv=>((nv 1),.list aZ 36 r8))),(6,none)]⟩,⟨2,some ([], fun nv=>(v2,.box 36 [.rd aZ a1])),[]⟩,⟨6,none,[(5,some ([2], fun nv=>((nv 2),.list aZ 36 [a1]))),(6,none)]⟩,⟨7,none,[(6,some ([3], fun nv=>((nv 3),.list aZ 36 r11)))]⟩,⟨8,none,[(8,some ([4], fun nv=>((nv 4),.box 25 [.val (.slice none 0 0),.val (.slice none 0 0)]))),(9,some ([3,4], fun nv=>((nv 4),.box 25 [.val (nv 3),.val (.slice none 0 0)])))]⟩] [pk 20 (.val (z05 v1 (0+0))) [(0,0,false)],pk 21 (.rd (z02 aZ) a0.IDs) [(0,0,false)],⟨some (22,[1], fun nv=>.val (nv 1)),[(1,0,true)],[1],[]⟩,pd 23 (.rd z09 r5.1),pk 24 (.rd aZ a1) [(2,0,false)],⟨some (25,[2], fun nv=>.val (nv 2)),[(3,0,true)],[2],[]⟩,⟨some (26,[3], fun nv=>.val (nv 3)),[(3,1,true),(1,1,true),(4,0,true)],[3],[]⟩,⟨some (27,[3], fun nv=>.agg [.val (nv 3),.val (.slice none 0 0)]),[],[],[]⟩,⟨some (10,[4], fun nv=>.val (z05 (nv 4) 0)),[(5,0,true)],[4],[]⟩,⟨none,[(5,1,true)],[],[]⟩] mixed (oC (oRn (fun nv E=>faB 1 Z Z Tryz.underlying25 Z (by exact z9t)))<|oC (oRn (fun nv E=>ld 1 Z Z (fP (z0p _)) zar Z))<|oC (oCl [1] [] [(100,5)] h10 Tryz.func41 Z (fun nv=>(z1o _)) (fun nv=>(Y1 Z)) (fun nv E=>rN))<|oC (oRn (fun nv E=>mv Z))<|oC (oRn (fun nv E=>ld 2 Z Z fH z51 Z))<|oC (oEf 6 2 (fun nv E=>lit (R:=aZ) ([a1]:List V3) 6 (pP Z Z<|pN) Z tu22 z30 Z Z))<|oC (oCl [3] [5,6] [(100,7)] h13 Tryz.func61 Z (fun nv=>(zz1 _ _ _ _ _)) (fun nv=>(aQ Z<|aQ Z<|aQ Z<|aN)) (fun nv E=>(Zi Z<|Zi Z<|rN)))<|oC (oRn (fun nv E=>zqu [(0,1),(1,1)] Tryz.underlying25 z9s (ZrE.nilS (ZrE.nilS ZrE.nil)) Z (zgg.cons Z Z z07 (z9a.cast (z9a.here z07) Z)<|zgg.done Z)))<|oC (oEb 8 4 (fun nv E=>z71 8 z9s (ZrE.nilS (ZrE.nilS ZrE.nil))))<|oC (oEs 8 (fun nv E=>zqy 8 Z Z (z0d.cast (z0d.cons z07 (z0d.cons z07 z0d.nil)) Z) Z (z42.cons z1j (z42.cons z1j z42.nil)) (z0d.cast (z0d.cons z07 (z0d.cons z07 z0d.nil)) Z) z9s))<|oN) fun n14=>z15<|zax (fun (s15:(List z06)) aa ww=>∃ nv:Nat→Value,Sta (ctx 74 H [] w) [(6,.val (z05 v4 0)),(10,.val (z05 (nv 0) 0))] [(4,some (v4,.box 25 [.val (.slice none 0 0),.val (.slice none 0 0)])),(7,some ((nv 1),.list aZ 36 r11)),(9,some ((nv 2),.list z03 46 s15)),(8,some ((nv 0),.box 25 [.val (nv 1),.val (nv 2)]))] aa ww) ?_ (fun s15=>?_)
  ·
   refine gSR<|Zq (faB 8 Z Z Tryz.underlying25 Z (by exact z9t))<|Zq (ldV 8 Z Z (At.cast At.here Z) sc22 Z)<|Zq (z5y Z (.own 7 Z) Z tu22)<|Zm Z<|Zn<|zzz z03 46 11<|z3e (fun (s16:(List z06) × Int) aa ww=>∃ nv:Nat→Value,Sta (ctx 74 H [] w) [(3,.val (z05 v1 0)),(5,.val (z05 v3 0)),(6,.val (z05 v4 0)),(8,.rd z09 r5.1),(10,.val (z05 (nv 0) 0)),(30,.rd z09 (r11.length:Int)),(31,.rd z09 s16.2)] [(1,some (v1,.box 25 [.rd z01 a0])),(3,some (v3,.box 46 [.rd z03 a2])),(4,some (v4,.box 25 [.val (.slice none 0 0),.val (.slice none 0 0)])),(7,some ((nv 1),.list aZ 36 r11)),(10,some ((nv 2),.list z03 46 s16.1)),(8,some ((nv 0),.box 25 [.val (nv 1),.val (nv 2)]))] aa ww) (fun aa ww h=>⟨nvl [(n14 4),(n14 3),(.slice none 0 0)],Zu h [1,3,4,7,11,8]⟩) (fun s16=>?_)
   refine gEx fun n17=>gSR<|Zq (I.lss Z Z)<|Zn<|z1c<|gIf Z Z (fun h18=>?_) (fun h18=>?_)
   ·
    refine Zt<|z1c<|z7x<|gSR<|Zm Z<|Zb Z<|z7x<|gSR<|Zm Z<|Zm Z<|Zq (I.lss Z Z)<|Za Z<|z38 46 Z fun y19=>Zj Z (fun h20=>?_) (fun h20=>?_)
    ·
     refine zs6 [(3,.val (z05 v1 0)),(5,.val (z05 v3 0)),(6,.val (z05 v4 0)),(8,.rd z09 r5.1),(10,.val (z05 (n17 0) 0)),(30,.rd z09 (r11.length:Int)),(31,.rd z09 s16.2),(11,.rd z09 s16.2)] [(1,some (v1,.box 25 [.rd z01 a0])),(3,some (v3,.box 46 [.rd z03 a2])),(4,some (v4,.box 25 [.val (.slice none 0 0),.val (.slice none 0 0)])),(7,some ((n17 1),.list aZ 36 r11)),(10,some ((n17 2),.list z03 46 s16.1)),(8,some ((n17 0),.box 25 [.val (n17 1),.val (n17 2)]))] [1,3,4,7,10,8] (Zs Z Z Z Z<|Zs Z Z Z Z<|sN) (Zi Z<|Zi Z<|Zi Z<|Zi Z<|Zi Z<|Zi Z<|rN)<|z7w fun x21 h22=>z7w fun r23 h25=>z7w fun x26 h27=>gOr [] [⟨8,some ([], fun nv=>((n17 0),.box 25 [.val (n17 1),.val (n17 2)])),[(11,some ([2], fun nv=>((n17 0),.box 25 [.val (n17 1),.val (nv 2)])))]⟩,⟨1,some ([], fun nv=>(v1,.box 25 [.rd z01 a0])),[]⟩,⟨12,none,[(8,none)]⟩,⟨10,some ([], fun nv=>((n17 2),.list z03 46 s16.1)),[(9,some ([2], fun nv=>((nv 2),.list z03 46 x26)))]⟩] [pk 50 (.val (z05 (n17 0) (0+1))) [(0,0,false)],pk 51 (.val (n17 2)) [(0,0,false)],pk 52 (.val (z05 v1 (0+1))) [(1,0,false)],pk 53 (.rd (z02 z03) a0.Ops) [(1,0,false)],pd 54 (.rd z09 s16.2),pd 55 (.rp z03 x21),pd 56 (.rd z03 x21),pd 57 (.rd z03 r23),⟨some (58,[], fun nv=>.rd (z02 z03) [r23]),[(2,0,true)],[1],[]⟩,⟨some (59,[2], fun nv=>.val (nv 2)),[(3,0,true)],[2],[]⟩,pk 60 (.val (z05 (n17 0) (0+1))) [(0,0,false)],⟨none,[(3,1,false),(0,0,true)],[],[]⟩] mixed (oC (oRn (fun nv E=>faB 8 Z Z Tryz.underlying25 Z (by exact ze8)))<|oC (oRn (fun nv E=>ldV 8 Z Z (At.cast (At.next z07 At.here) Z) sc23 Z))<|oC (oRn (fun nv E=>faB 1 Z Z Tryz.underlying25 Z (by exact ze8)))<|oC (oRn (fun nv E=>ld 1 Z Z (fP (z0r _)) ziq Z))<|oC (oRn (fun nv E=>mv Z))<|oC (oRn (fun nv E=>ixR Z Z h22 tu23 z8b Z))<|oC (oRn (fun nv E=>ldR Z z9x))<|oC (oCl [] [] [] h25 Tryz.func62 Z (fun nv=>(zep _)) (fun nv=>(Y1 Z)) (fun nv E=>rN))<|oC (oFz (A1:=fun nv=>[(12,some ((nv 1),.list z03 46 [r23]))]) 12 1 (oEf 12 1 (fun nv E=>lit (R:=z03) ([r23]:List z06) 12 (pP Z Z<|pN) Z tu23 z8b Z Z)))<|oC (oEf 10 2 (fun nv E=>apn 10 Z Z Z .rd h27 tu23 z8b Z Z Z))<|oC (oRn (fun nv E=>faB 8 Z Z Tryz.underlying25 Z (by exact ze8)))<|oC (oEs 8 (fun nv E=>zmt 8 Z Z (z9a.cast (z9a.next z07 (z9a.here z07)) Z) Z z1j z07 ze8))<|oN) fun n28=>z5h<|z5h<|z15<|z3f<|Zq (I.add Z Z)<|Zm Z<|z2p<|z2q (fun aa ww h=>⟨nvl [(n17 0),(n17 1),(n28 2)],Zu h [1,3,4,7,10,8]⟩)
    ·
     refine gSR<|Zm Z<|Zm Z<|Zq (I.eql Z Z)<|Za Z<|z38 61 Z fun y29=>Zj Z (fun h30=>?_) (fun h30=>?_)
     ·
      refine zs6 [(3,.val (z05 v1 0)),(5,.val (z05 v3 0)),(6,.val (z05 v4 0)),(8,.rd z09 r5.1),(10,.val (z05 (n17 0) 0)),(30,.rd z09 (r11.length:Int)),(31,.rd z09 s16.2)] [(1,some (v1,.box 25 [.rd z01 a0])),(3,some (v3,.box 46 [.rd z03 a2])),(4,some (v4,.box 25 [.val (.slice none 0 0),.val (.slice none 0 0)])),(7,some ((n17 1),.list aZ 36 r11)),(10,some ((n17 2),.list z03 46 s16.1)),(8,some ((n17 0),.box 25 [.val (n17 1),.val (n17 2)]))] [1,3,4,7,10,8] (Zs Z Z Z Z<|sS Z<|sS Z<|sS Z<|sN) (Zi Z<|Zi Z<|Zi Z<|Zi Z<|Zi Z<|Zi Z<|rN)<|z7w fun r31 h33=>z7w fun x34 h35=>gOr [] [⟨8,some ([], fun nv=>((n17 0),.box 25 [.val (n17 1),.val (n17 2)])),[(7,some ([2], fun nv=>((n17 0),.box 25 [.val (n17 1),.val (nv 2)])))]⟩,⟨3,some ([], fun nv=>(v3,.box 46 [.rd z03 a2])),[]⟩,⟨13,none,[(4,none)]⟩,⟨10,some ([], fun nv=>((n17 2),.list z03 46 s16.1)),[(5,some ([2], fun nv=>((nv 2),.list z03 46 x34)))]⟩] [pk 65 (.val (z05 (n17 0) (0+1))) [(0,0,false)],pk 66 (.val (n17 2)) [(0,0,false)],pk 67 (.rd z03 a2) [(1,0,false)],pd 68 (.rd z03 r31),⟨some (69,[], fun nv=>.rd (z02 z03) [r31]),[(2,0,true)],[1],[]⟩,⟨some (70,[2], fun nv=>.val (nv 2)),[(3,0,true)],[2],[]⟩,pk 71 (.val (z05 (n17 0) (0+1))) [(0,0,false)],⟨none,[(3,1,false),(0,0,true)],[],[]⟩] mixed (oC (oRn (fun nv E=>faB 8 Z Z Tryz.underlying25 Z (by exact ze8)))<|oC (oRn (fun nv E=>ldV 8 Z Z (At.cast (At.next z07 At.here) Z) sc23 Z))<|oC (oRn (fun nv E=>ld 3 Z Z fH z9x Z))<|oC (oCl [] [] [] h33 Tryz.func62 Z (fun nv=>(zep _)) (fun nv=>(Y1 Z)) (fun nv E=>rN))<|oC (oFz (A1:=fun nv=>[(13,some ((nv 1),.list z03 46 [r31]))]) 13 1 (oEf 13 1 (fun nv E=>lit (R:=z03) ([r31]:List z06) 13 (pP Z Z<|pN) Z tu23 z8b Z Z)))<|oC (oEf 10 2 (fun nv E=>apn 10 Z Z Z .rd h35 tu23 z8b Z Z Z))<|oC (oRn (fun nv E=>faB 8 Z Z Tryz.underlying25 Z (by exact ze8)))<|oC (oEs 8 (fun nv E=>zmt 8 Z Z (z9a.cast (z9a.next z07 (z9a.here z07)) Z) Z z1j z07 ze8))<|oN) fun n36=>z5h<|z5h<|z15<|z3f<|Zq (I.add Z Z)<|Zm Z<|z2p<|z2q (fun aa ww h=>⟨nvl [(n17 0),(n17 1),(n36 2)],Zu h [1,3,4,7,10,8]⟩)
     ·
      refine zs6 [(3,.val (z05 v1 0)),(5,.val (z05 v3 0)),(6,.val (z05 v4 0)),(8,.rd z09 r5.1),(10,.val (z05 (n17 0) 0)),(30,.rd z09 (r11.length:Int)),(31,.rd z09 s16.2),(11,.rd z09 s16.2)] [(1,some (v1,.box 25 [.rd z01 a0])),(3,some (v3,.box 46 [.rd z03 a2])),(4,some (v4,.box 25 [.val (.slice none 0 0),.val (.slice none 0 0)])),(7,some ((n17 1),.list aZ 36 r11)),(10,some ((n17 2),.list z03 46 s16.1)),(8,some ((n17 0),.box 25 [.val (n17 1),.val (n17 2)]))] [1,3,4,7,10,8] (Zs Z Z Z Z<|Zs Z Z Z Z<|sN) (Zi Z<|Zi Z<|Zi Z<|Zi Z<|Zi Z<|Zi Z<|rN)<|z7w fun x37 h38=>z7w fun r39 h41=>z7w fun x42 h43=>gOr [] [⟨8,some ([], fun nv=>((n17 0),.box 25 [.val (n17 1),.val (n17 2)])),[(12,some ([2], fun nv=>((n17 0),.box 25 [.val (n17 1),.val (nv 2)])))]⟩,⟨1,some ([], fun nv=>(v1,.box 25 [.rd z01 a0])),[]⟩,⟨14,none,[(9,none)]⟩,⟨10,some ([], fun nv=>((n17 2),.list z03 46 s16.1)),[(10,some ([2], fun nv=>((nv 2),.list z03 46 x42)))]⟩] [pk 34 (.val (z05 (n17 0) (0+1))) [(0,0,false)],pk 35 (.val (n17 2)) [(0,0,false)],pk 36 (.val (z05 v1 (0+1))) [(1,0,false)],pk 37 (.rd (z02 z03) a0.Ops) [(1,0,false)],pd 38 (.rd z09 s16.2),pd 39 (.rd z09 (w64 (s16.2 - 1))),pd 40 (.rp z03 x37),pd 41 (.rd z03 x37),pd 42 (.rd z03 r39),⟨some (43,[], fun nv=>.rd (z02 z03) [r39]),[(2,0,true)],[1],[]⟩,⟨some (44,[2], fun nv=>.val (nv 2)),[(3,0,true)],[2],[]⟩,pk 45 (.val (z05 (n17 0) (0+1))) [(0,0,false)],⟨none,[(3,1,false),(0,0,true)],[],[]⟩] mixed (oC (oRn (fun nv E=>faB 8 Z Z Tryz.underlying25 Z (by exact ze8)))<|oC (oRn (fun nv E=>ldV 8 Z Z (At.cast (At.next z07 At.here) Z) sc23 Z))<|oC (oRn (fun nv E=>faB 1 Z Z Tryz.underlying25 Z (by exact ze8)))<|oC (oRn (fun nv E=>ld 1 Z Z (fP (z0r _)) ziq Z))<|oC (oRn (fun nv E=>mv Z))<|oC (oRn (fun nv E=>I.sub Z Z))<|oC (oRn (fun nv E=>ixR Z Z h38 tu23 z8b Z))<|oC (oRn (fun nv E=>ldR Z z9x))<|oC (oCl [] [] [] h41 Tryz.func62 Z (fun nv=>(zep _)) (fun nv=>(Y1 Z)) (fun nv E=>rN))<|oC (oFz (A1:=fun nv=>[(14,some ((nv 1),.list z03 46 [r39]))]) 14 1 (oEf 14 1 (fun nv E=>lit (R:=z03) ([r39]:List z06) 14 (pP Z Z<|pN) Z tu23 z8b Z Z)))<|oC (oEf 10 2 (fun nv E=>apn 10 Z Z Z .rd h43 tu23 z8b Z Z Z))<|oC (oRn (fun nv E=>faB 8 Z Z Tryz.underlying25 Z (by exact ze8)))<|oC (oEs 8 (fun nv E=>zmt 8 Z Z (z9a.cast (z9a.next z07 (z9a.here z07)) Z) Z z1j z07 ze8))<|oN) fun n44=>z5h<|z5h<|z15<|z3f<|Zq (I.add Z Z)<|Zm Z<|z2p<|z2q (fun aa ww h=>⟨nvl [(n17 0),(n17 1),(n44 2)],Zu h [1,3,4,7,10,8]⟩)
   ·
    refine z3j<|z26<|z24<|z65 (fun aa ww h=>⟨nvl [(n17 0),(n17 1),(n17 2)],Zu h [4,7,10,8]⟩)
  ·
   refine gEx fun n45=>gSR<|zup [.rd (z02 aZ) r11,.val (n45 2)] 8 7 [] [.val (n45 2)] Z Z Z Z Z<|zup [.rd (z02 aZ) r11,.rd (z02 z03) s15] 8 9 [.rd (z02 aZ) r11] [] Z Z Z Z Z<|zd7 (R:=z01) (⟨r11,s15⟩:z00) 8 Z (Sp.via (Sp.prod (Sp.prod Sp.unit)))<|Zq (ld 8 Z Z fH z75 Z)<|zcr aZ [.rd (z02 aZ) [],.val (.slice none 0 0)] 4 [] [.val (.slice none 0 0)] Z Z Z<|zcr z03 [.rd (z02 aZ) [],.rd (z02 z03) []] 4 [.rd (z02 aZ) []] [] Z Z Z<|zd7 (R:=z01) (⟨[],[]⟩:z00) 4 Z (Sp.via (Sp.prod (Sp.prod Sp.unit)))<|Es (sto 4 Z Z fH Z z9s)<|Zb Z<|z12<|zcp [] [] Z (eC 4 Z Z z75<|eE Z<|eN) (rN)
def zdc (a0:List z06) (s4:Int):Option (Sum (Sum (z00 × Int) Unit) Int) :=
 if decide (s4<(a0.length:Int)) then
  idx a0 s4 >>= fun x6 =>
  zdh x6 >>= fun r9 =>
  if r9 != 0 then
   some (.inl (.inl ((⟨[],[]⟩:z00),r9)))
  else
   some (.inr (w64 (s4+1)))
 else
  some (.inl (.inr ()))
def zd5 (a0:List z06) (s14:(List V3) × (List z06) × Int):Option (Sum (Sum (z00 × Int) ((List V3) × (List z06))) ((List V3) × (List z06) × Int)) :=
 if decide (s14.2.2<(a0.length:Int)) then
  idx a0 s14.2.2 >>= fun x16 =>
  zqa x16 >>= fun r19 =>
  zdb (⟨s14.1,s14.2.1⟩:z00) r19.1 x16 >>= fun r22 =>
  if !r22.2 then
   some (.inl (.inl ((⟨[],[]⟩:z00),14)))
  else
   some (.inr (r22.1.IDs,r22.1.Ops,w64 (s14.2.2+1)))
 else
  some (.inl (.inr (s14.1,s14.2.1)))
def zg8 (a0:List z06):Option (z00 × Int) :=
 if decide (60<(a0.length:Int)) then
  some ((⟨[],[]⟩:z00),4)
 else
  z6j (iter (zdc a0) 0) fun s3 =>
  z6j (iter (zd5 a0) ([],[],0)) fun s13 =>
  zd2 (⟨s13.1,s13.2⟩:z00) >>= fun r26 =>
  if r26 != 0 then
   some ((⟨[],[]⟩:z00),r26)
  else
   some ((⟨s13.1,s13.2⟩:z00),0)
theorem zm8 (a0:List z06):z2s Tryz.prog 11 [.rd (z02 z03) a0] [zG1] (zg8 a0) (fun r nv=>⟨[.rd z01 r.1,.rd z09 r.2],[(1001,some (.bool true,.glob 1 (z3l 64 z0w) z4a))]⟩):=by
 refine z3o 62 Tryz.func11 Z Z Z fun H w=>?_
 refine gSR<|Eb Z (z71 1 z9s (ZrE.nilS (ZrE.nilS ZrE.nil))) fun v1=>Zb Z<|z1c<|gSR<|Zm Z<|Zq (z5y Z .rd Z tu23)<|Zq (I.gtr Z Z)<|Zj Z (fun h2=>?_) (fun h2=>?_)
 ·
  refine gSR<|Zq (zqu [(0,1),(1,1)] Tryz.underlying25 z9s (ZrE.nilS (ZrE.nilS ZrE.nil)) Z (zgg.done Z))<|Es (zqy 1 Z Z (z0d.cast (z0d.cons z07 (z0d.cons z07 z0d.nil)) Z) Z (z42.cons z1j (z42.cons z1j z42.nil)) (z0d.cast (z0d.cons z07 (z0d.cons z07 z0d.nil)) Z) z9s)<|Zb Z<|z12<|z1i<|zlz aZ [.rd (z02 aZ) [],.val (.slice none 0 0)] 1 [] [.val (.slice none 0 0)] Z Z Z<|zlz z03 [.rd (z02 aZ) [],.rd (z02 z03) []] 1 [.rd (z02 aZ) []] [] Z Z Z<|zug (R:=z01) (⟨[],[]⟩:z00) 1 Z (Sp.via (Sp.prod (Sp.prod Sp.unit)))<|zcp [] [1001] Z (eC 1 Z Z z75<|eE Z<|eN) (y1 Z)
 ·
  refine Zt<|zcy (fun (s3:Unit) aa ww=>Sta (ctx 62 H [zG1] w) [(0,.rd (z02 z03) a0),(2,.val (z05 v1 0))] [(1,some (v1,.box 25 [.val (.slice none 0 0),.val (.slice none 0 0)])),zG1] aa ww) ?_ (fun s3=>?_)
  ·
   refine gSR<|Zm Z<|Zq (z5y Z .rd Z tu23)<|Zm Z<|Zn<|z3e (fun (s4:Int) aa ww=>Sta (ctx 62 H [zG1] w) [(0,.rd (z02 z03) a0),(2,.val (z05 v1 0)),(19,.rd (z02 z03) a0),(20,.rd z09 (a0.length:Int)),(21,.rd z09 s4)] [(1,some (v1,.box 25 [.val (.slice none 0 0),.val (.slice none 0 0)])),zG1] aa ww) (fun aa ww h=>Zu h [1,1001]) (fun s4=>?_)
   refine gSR<|Zq (I.lss Z Z)<|Zn<|z1c<|gIf Z Z (fun h5=>?_) (fun h5=>?_)
   ·
    refine Zt<|z1c<|z7x<|gSR<|z17 fun x6 h7=>Zq (ixR Z Z h7 tu23 z8b Z)<|Zq (ldR Z z9x)<|Eb Z (z71 1100 z8b (ZrE.rd (R:=z0w) (x:=0) (Zr.num Z) (ZrE.nilS (ZrE.rd (R:=z2y) (x:=0) (Zr.num Z) (ZrE.rd (R:=z0g) (x:=(⟨0,[],(⟨0,0,0,[]⟩:z04)⟩:z0i)) zlh (ZrE.rd (R:=z0f) (x:=(⟨0,0⟩:z08)) zjw ZrE.nil Z) Z) Z)) Z)) fun v8=>zcr aZ [.rd z0w 0,.rd (z02 aZ) [],.rd z2y 0,.rd z0g (⟨0,[],(⟨0,0,0,[]⟩:z04)⟩:z0i),.rd z0f (⟨0,0⟩:z08)] 1100 [.rd z0w 0] [.rd z2y 0,.rd z0g (⟨0,[],(⟨0,0,0,[]⟩:z04)⟩:z0i),.rd z0f (⟨0,0⟩:z08)] Z Z Z<|zd7 (R:=z03) (⟨0,[],0,(⟨0,[],(⟨0,0,0,[]⟩:z04)⟩:z0i),(⟨0,0⟩:z08)⟩:z06) 1100 Z (Sp.via (Sp.prod (Sp.prod (Sp.prod (Sp.prod (Sp.prod Sp.unit))))))<|Es (sto 1100 Z Z fH Z z8b)<|Zn<|gSR<|Zq (ld 1100 Z Z fH z9x Z)<|Zc [1001] [] Tryz.func35 Z (zg1 _) fun r9 n10=>Zb Z<|gSR<|Zm Z<|Zq (I.neq Z Z)<|Zj Z (fun h11=>?_) (fun h11=>?_)
    ·
     refine gSR<|Zq (zqu [(0,1),(1,1)] Tryz.underlying25 z9s (ZrE.nilS (ZrE.nilS ZrE.nil)) Z (zgg.done Z))<|Zm Z<|Es (zqy 1 Z Z (z0d.cast (z0d.cons z07 (z0d.cons z07 z0d.nil)) Z) Z (z42.cons z1j (z42.cons z1j z42.nil)) (z0d.cast (z0d.cons z07 (z0d.cons z07 z0d.nil)) Z) z9s)<|Zb Z<|z12<|z8k<|z1i<|zcc<|zcf<|zlz aZ [.rd (z02 aZ) [],.val (.slice none 0 0)] 1 [] [.val (.slice none 0 0)] Z Z Z<|zlz z03 [.rd (z02 aZ) [],.rd (z02 z03) []] 1 [.rd (z02 aZ) []] [] Z Z Z<|zug (R:=z01) (⟨[],[]⟩:z00) 1 Z (Sp.via (Sp.prod (Sp.prod Sp.unit)))<|zcp [] [1001] Z (eC 1 Z Z z75<|eE Z<|eN) (y1 Z)
    ·
     refine z6s<|z5h<|z15<|z3f<|Zq (I.add Z Z)<|Zm Z<|z2p<|z2q (fun aa ww h=>Zu h [1,1001])
   ·
    refine z3j<|z26<|z24<|zcx (fun aa ww h=>Zu h [1,1001])
  ·
   refine gSR<|Eb Z (z71 1101 z9s (ZrE.nilS (ZrE.nilS ZrE.nil))) fun v12=>Zn<|zcy (fun (s13:(List V3) × (List z06)) aa ww=>Sta (ctx 62 H [zG1] w) [(2,.val (z05 v1 0)),(7,.val (z05 v12 0))] [(1,some (v1,.box 25 [.val (.slice none 0 0),.val (.slice none 0 0)])),(1101,some (v12,.box 25 [.rd (z02 aZ) s13.1,.rd (z02 z03) s13.2])),zG1] aa ww) ?_ (fun s13=>?_)
   ·
    refine gSR<|Zm Z<|Zq (z5y Z .rd Z tu23)<|Zm Z<|Zn<|gPnl aZ [.rd (z02 aZ) [],.val (.slice none 0 0)] 1101 [] [.val (.slice none 0 0)] Z Z Z<|gPnl z03 [.rd (z02 aZ) [],.rd (z02 z03) []] 1101 [.rd (z02 aZ) []] [] Z Z Z<|z3e (fun (s14:(List V3) × (List z06) × Int) aa ww=>Sta (ctx 62 H [zG1] w) [(2,.val (z05 v1 0)),(7,.val (z05 v12 0)),(32,.rd (z02 z03) a0),(33,.rd z09 (a0.length:Int)),(34,.rd z09 s14.2.2)] [(1,some (v1,.box 25 [.val (.slice none 0 0),.val (.slice none 0 0)])),(1101,some (v12,.box 25 [.rd (z02 aZ) s14.1,.rd (z02 z03) s14.2.1])),zG1] aa ww) (fun aa ww h=>Zu h [1,1101,1001]) (fun s14=>?_)
    refine gSR<|Zq (I.lss Z Z)<|Zn<|z1c<|gIf Z Z (fun h15=>?_) (fun h15=>?_)
    ·
     refine Zt<|z1c<|z7x<|gSR<|z17 fun x16 h17=>Zq (ixR Z Z h17 tu23 z8b Z)<|Zq (ldR Z z9x)<|Eb Z (z71 1102 z8b (ZrE.rd (R:=z0w) (x:=0) (Zr.num Z) (ZrE.nilS (ZrE.rd (R:=z2y) (x:=0) (Zr.num Z) (ZrE.rd (R:=z0g) (x:=(⟨0,[],(⟨0,0,0,[]⟩:z04)⟩:z0i)) zlh (ZrE.rd (R:=z0f) (x:=(⟨0,0⟩:z08)) zjw ZrE.nil Z) Z) Z)) Z)) fun v18=>zcr aZ [.rd z0w 0,.rd (z02 aZ) [],.rd z2y 0,.rd z0g (⟨0,[],(⟨0,0,0,[]⟩:z04)⟩:z0i),.rd z0f (⟨0,0⟩:z08)] 1102 [.rd z0w 0] [.rd z2y 0,.rd z0g (⟨0,[],(⟨0,0,0,[]⟩:z04)⟩:z0i),.rd z0f (⟨0,0⟩:z08)] Z Z Z<|zd7 (R:=z03) (⟨0,[],0,(⟨0,[],(⟨0,0,0,[]⟩:z04)⟩:z0i),(⟨0,0⟩:z08)⟩:z06) 1102 Z (Sp.via (Sp.prod (Sp.prod (Sp.prod (Sp.prod (Sp.prod Sp.unit))))))<|Es (sto 1102 Z Z fH Z z8b)<|Zn<|gSR<|Zq (ld 1102 Z Z fH z9x Z)<|Zc [1001] [] Tryz.func36 Z (zkd _) fun r19 n20=>Zm Z<|Zq (ext Z Z)<|Zq (ext Z Z)<|Eb Z (z71 1103 z30 (.zr (R:=aZ) (x:=(Vector.replicate 32 0)) zd4)) fun v21=>Es (sto 1103 Z Z fH Z z30)<|Zb Z<|gSR<|zd7 (R:=z01) (⟨s14.1,s14.2.1⟩:z00) 1101 Z (Sp.via (Sp.prod (Sp.prod Sp.unit)))<|Zq (ld 1101 Z Z fH z75 Z)<|Zq (ld 1103 Z Z fH z51 Z)<|Zq (ld 1102 Z Z fH z9x Z)<|Zc [] [] Tryz.func37 Z (zqf _ _ _) fun r22 n23=>Zm Z<|Zq (ext Z Z)<|Zq (ext Z Z)<|Eb Z (z71 1104 z9s (ZrE.nilS (ZrE.nilS ZrE.nil))) fun v24=>zcr aZ [.rd (z02 aZ) [],.val (.slice none 0 0)] 1104 [] [.val (.slice none 0 0)] Z Z Z<|zcr z03 [.rd (z02 aZ) [],.rd (z02 z03) []] 1104 [.rd (z02 aZ) []] [] Z Z Z<|zd7 (R:=z01) (⟨[],[]⟩:z00) 1104 Z (Sp.via (Sp.prod (Sp.prod Sp.unit)))<|Es (sto 1104 Z Z fH Z z9s)<|Zb Z<|z1c<|gSR<|Zm Z<|Zq (zge Z)<|Zj Z (fun h25=>?_) (fun h25=>?_)
     ·
      refine gSR<|Zq (zqu [(0,1),(1,1)] Tryz.underlying25 z9s (ZrE.nilS (ZrE.nilS ZrE.nil)) Z (zgg.done Z))<|Es (zqy 1 Z Z (z0d.cast (z0d.cons z07 (z0d.cons z07 z0d.nil)) Z) Z (z42.cons z1j (z42.cons z1j z42.nil)) (z0d.cast (z0d.cons z07 (z0d.cons z07 z0d.nil)) Z) z9s)<|Zb Z<|z12<|z1i<|z8k<|z1i<|zcc<|zcf<|zlz aZ [.rd (z02 aZ) [],.val (.slice none 0 0)] 1 [] [.val (.slice none 0 0)] Z Z Z<|zlz z03 [.rd (z02 aZ) [],.rd (z02 z03) []] 1 [.rd (z02 aZ) []] [] Z Z Z<|zug (R:=z01) (⟨[],[]⟩:z00) 1 Z (Sp.via (Sp.prod (Sp.prod Sp.unit)))<|zcp [] [1001] Z (eC 1 Z Z z75<|eE Z<|eN) (y1 Z)
     ·
      refine Zt<|z3f<|Zq (ld 1104 Z Z fH z75 Z)<|Es (sto 1101 Z Z fH Z z9s)<|z2p<|z5h<|z15<|z3f<|Zq (I.add Z Z)<|Zm Z<|z2p<|eSpl (R:=z01) 1101 Z (Sp.via (Sp.prod (Sp.prod Sp.unit)))<|z2q (fun aa ww h=>Zu h [1,1101,1001])
    ·
     refine z3j<|z26<|z24<|zcx (fun aa ww h=>Zu h [1,1101,1001])
   ·
    refine z1c<|gSR<|zd7 (R:=z01) (⟨s13.1,s13.2⟩:z00) 1101 Z (Sp.via (Sp.prod (Sp.prod Sp.unit)))<|Zq (ld 1101 Z Z fH z75 Z)<|Zc [] [] Tryz.func38 Z (zg9 _) fun r26 n27=>Zb Z<|gSR<|Zm Z<|Zq (I.neq Z Z)<|Zj Z (fun h28=>?_) (fun h28=>?_)
    ·
     refine gSR<|Zq (zqu [(0,1),(1,1)] Tryz.underlying25 z9s (ZrE.nilS (ZrE.nilS ZrE.nil)) Z (zgg.done Z))<|Zm Z<|Es (zqy 1 Z Z (z0d.cast (z0d.cons z07 (z0d.cons z07 z0d.nil)) Z) Z (z42.cons z1j (z42.cons z1j z42.nil)) (z0d.cast (z0d.cons z07 (z0d.cons z07 z0d.nil)) Z) z9s)<|Zb Z<|z12<|z1i<|zlz aZ [.rd (z02 aZ) [],.val (.slice none 0 0)] 1 [] [.val (.slice none 0 0)] Z Z Z<|zlz z03 [.rd (z02 aZ) [],.rd (z02 z03) []] 1 [.rd (z02 aZ) []] [] Z Z Z<|zug (R:=z01) (⟨[],[]⟩:z00) 1 Z (Sp.via (Sp.prod (Sp.prod Sp.unit)))<|zcp [] [1001] Z (eC 1 Z Z z75<|eE Z<|eN) (y1 Z)
    ·
     refine Zt<|gSR<|Zq (ld 1101 Z Z fH z75 Z)<|zcr aZ [.rd (z02 aZ) [],.val (.slice none 0 0)] 1 [] [.val (.slice none 0 0)] Z Z Z<|zcr z03 [.rd (z02 aZ) [],.rd (z02 z03) []] 1 [.rd (z02 aZ) []] [] Z Z Z<|zd7 (R:=z01) (⟨[],[]⟩:z00) 1 Z (Sp.via (Sp.prod (Sp.prod Sp.unit)))<|Es (sto 1 Z Z fH Z z9s)<|Zb Z<|z12<|zcp [] [1001] Z (eC 1 Z Z z75<|eE Z<|eN) (y1 Z)
def z7g  : Option (Bool) :=
 z14 1 [] >>= fun r1 =>
 z16 r1 >>= fun r4 =>
 z14 2 [r4] >>= fun r7 =>
 z16 r1 >>= fun r10 =>
 z14 3 [r10] >>= fun r13 =>
 z16 r7 >>= fun r17 =>
 z16 r13 >>= fun r19 =>
 z58 r17 r19 >>= fun r21 =>
 z14 4 r21 >>= fun r23 =>
 zg8 [r23,r13,r7,r1] >>= fun r27 =>
 z3c r27.1 >>= fun r30 =>
 z16 r23 >>= fun r32 =>
 z18 r27.1 r32 >>= fun r34 =>
 z16 r23 >>= fun r36 =>
 z2z r27.1 r36 >>= fun r38 =>
 z2n r27.1 >>= fun r40 =>
 z16 r7 >>= fun r42 =>
 z1u r27.1 [r42] >>= fun r45 =>
 if r27.2==0 then
  if r30.2==0 then
   z16 r23 >>= fun r51 =>
   z1h r30.1 [r51] >>= fun r54 =>
   if r54 then
    if r34.2==0 then
     if (r34.1.length:Int)==3 then
      if r38.2==0 then
       if r38.1==2 then
        if r40.2==0 then
         idx r21 0 >>= fun x62 =>
         idx r21 1 >>= fun x64 =>
         z16 r1 >>= fun r66 =>
         z16 r23 >>= fun r68 =>
         z1h r40.1 [r66,x62,x64,r68] >>= fun r71 =>
         if r71 then
          if r45.2==0 then
           z16 r1 >>= fun r75 =>
           z16 r7 >>= fun r77 =>
           z58 r75 r77 >>= fun r79 =>
           z1h r45.1.IDs r79 >>= fun r81 =>
           some r81
          else
           some false
         else
          some false
        else
         some false
       else
        some false
      else
       some false
     else
      some false
    else
     some false
   else
    some false
  else
   some false
 else
  some false
end
end Go.Proofs.YtfncjjgmldogiaaGreatDoor
