import Derived.Test.YthgpinfkodaefaaGreatDoorQb
set_option linter.unusedSimpArgs false
set_option linter.unusedVariables false
namespace Go.Proofs.YthgpinfkodaefaaGreatDoor
section
open Go Go.RowKit
set_option maxRecDepth 100000
theorem zr7 (a0:UInt32) (a1:UInt64):z36 Tryz.prog 161 [.rd z0z a0,.rd z3u a1] [] (zm5 a0 a1) (fun r nv=>⟨[.rd z0z r.1,.rd z0c r.2],[]⟩):=by
 refine z4g 13 Tryz.func161 Z Z Z fun H w=>?_
 refine gSR<|Za Z<|Zb Z<|z11<|gSR<|Zm Z<|Ef Z (lit (R:=z0z) ([a0]:List UInt32) 1 (pP Z Z<|pN) Z tu236 zb8 Z Z) fun v1=>zfz 1 [7] Z (fS Z<|fN)<|Zc [] [] Tryz.func200 Z (zkf _) fun r2 n3=>Zq (zlr Z)<|Zj Z (fun h4=>?_) (fun h4=>?_)
 ·
  refine gSR<|Za Z<|Zb Z<|z0w<|z1e<|Ze [] [] Z
 ·
  refine Zt<|gSR<|Zm Z<|Zm Z<|Zc [] [] Tryz.func151 Z (zgn _ _) fun r5 n6=>Za Z<|Zb Z<|z0w<|Ze [] [] Z
def zbj (a0:UInt64):Option (UInt32) :=
 zey 4 a0 >>= fun r1 =>
 some r1
theorem zfa (a0:UInt64):z36 Tryz.prog 106 [.rd z3u a0] [] (zbj a0) (fun r nv=>⟨[.rd z0z r],[]⟩):=by
 refine z4g 5 Tryz.func106 Z Z Z fun H w=>?_
 refine gSR<|Zb Z<|gSR<|Zm Z<|Zc [] [] Tryz.func151 Z (zgn _ _) fun r1 n2=>Zb Z<|z0w<|Ze [] [] Z
def zmu (a0:UInt32) (a1:UInt32):Option (UInt32 × Int) :=
 zdu [a0,a1] >>= fun r2 =>
 if !r2 then
  some (0,2)
 else
  zav 1000000007 [a0,a1] >>= fun r6 =>
  some (r6,0)
theorem zr1 (a0:UInt32) (a1:UInt32):z36 Tryz.prog 162 [.rd z0z a0,.rd z0z a1] [] (zmu a0 a1) (fun r nv=>⟨[.rd z0z r.1,.rd z0c r.2],[]⟩):=by
 refine z4g 15 Tryz.func162 Z Z Z fun H w=>?_
 refine gSR<|Za Z<|Zb Z<|z11<|gSR<|Zm Z<|Zm Z<|Ef Z (lit (R:=z0z) ([a0,a1]:List UInt32) 1 (pP Z Z<|pP Z Z<|pN) Z tu236 zb8 Z Z) fun v1=>zfz 1 [8] Z (fS Z<|fN)<|Zc [] [] Tryz.func200 Z (zkf _) fun r2 n3=>Zq (zlr Z)<|Zj Z (fun h4=>?_) (fun h4=>?_)
 ·
  refine gSR<|Za Z<|Zb Z<|z0w<|z1e<|Ze [] [] Z
 ·
  refine Zt<|gSR<|Zm Z<|Zm Z<|Ef Z (lit (R:=z0z) ([a0,a1]:List UInt32) 2 (pP Z Z<|pP Z Z<|pN) Z tu236 zb8 Z Z) fun v5=>zfz 2 [13] Z (fS Z<|fN)<|Zc [] [] Tryz.func160 Z (ze6 _ _) fun r6 n7=>Za Z<|Zb Z<|z0w<|Ze [] [] Z
def z3y (a2:List UInt32) (s4:(List UInt8) × Int):Option (Sum ((List UInt8)) ((List UInt8) × Int)) :=
 if decide (s4.2<(a2.length:Int)) then
  idx a2 s4.2 >>= fun x7 =>
  app 1 s4.1 [(z6f x7 24).toUInt8,(z6f x7 16).toUInt8,(z6f x7 8).toUInt8,x7.toUInt8] >>= fun x10 =>
  some (.inr (x10,w64 (s4.2+1)))
 else
  some (.inl s4.1)
def zc3 (r15:V3 × Int) (s19:UInt64 × Int):Option (Sum UInt64 (UInt64 × Int)) :=
 if decide (s19.2<(((r15.1.toList.drop 0).take 8).length:Int)) then
  idx ((r15.1.toList.drop 0).take 8) s19.2 >>= fun x21 =>
  some ((zpi s19.1 8) ||| x21.toUInt64) >>= fun y23 =>
  some (.inr (y23,w64 (s19.2+1)))
 else
  some (.inl s19.1)
def zdy (a0:UInt8) (a1:List UInt8) (a2:List UInt32):Option (UInt64 × Int) :=
 if decide (9991<(a1.length:Int)) then
  some (0,4)
 else
  (iter (z3y a2) ([a0],0)) >>= fun s3 =>
  zb0 [s3,a1] >>= fun r15 =>
  (iter (zc3 r15) (0,0)) >>= fun s18 =>
  some (s18,r15.2)
theorem zk1 (a0:UInt8) (a1:List UInt8) (a2:List UInt32):z36 Tryz.prog 159 [.rd u8R a0,.rd (z02 u8R) a1,.rd (z02 z0z) a2] [zG1] (zdy a0 a1 a2) (fun r nv=>⟨[.rd z3u r.1,.rd z0c r.2],[(1001,some (.bool true,.glob 1 (z4v 64 z0z) z58))]⟩):=by
 refine z4g 63 Tryz.func159 Z Z Z fun H w=>?_
 refine gSR<|Za Z<|Zb Z<|z11<|gSR<|Zm Z<|Zq (z5r Z .rd Z tu129)<|Zq (I.gtr Z Z)<|Zj Z (fun h1=>?_) (fun h1=>?_)
 ·
  refine gSR<|Za Z<|Zb Z<|z0w<|z1e<|Ze [] [1001] Z
 ·
  refine Zt<|gSR<|Zm Z<|Ef Z (lit (R:=u8R) ([a0]:List UInt8) 1 (pP Z Z<|pN) Z tu129 ti5 Z Z) fun v2=>Zb Z<|zb9 (fun (s3:(List UInt8)) aa ww=>∃ nv:Nat→Value,Sta (ctx 63 H [zG1] w) [(1,.rd (z02 u8R) a1),(8,.val (nv 0))] [(1,some ((nv 0),.list u8R 5 s3)),zG1] aa ww) ?_ (fun s3=>?_)
  ·
   refine gSR<|Zm Z<|Zq (z5r Z .rd Z tu236)<|Zm Z<|Zn<|z3l (fun (s4:(List UInt8) × Int) aa ww=>∃ nv:Nat→Value,Sta (ctx 63 H [zG1] w) [(1,.rd (z02 u8R) a1),(8,.val (nv 0)),(21,.rd (z02 z0z) a2),(22,.rd z0c (a2.length:Int)),(23,.rd z0c s4.2)] [(1,some ((nv 0),.list u8R 5 s4.1)),zG1] aa ww) (fun aa ww h=>⟨nvl [v2],Zu h [1,1001]⟩) (fun s4=>?_)
   refine gEx fun n5=>gSR<|Zq (I.lss Z Z)<|Zn<|z11<|gIf Z Z (fun h6=>?_) (fun h6=>?_)
   ·
    refine Zt<|z11<|z85<|gSR<|z0v fun x7 h8=>Zq (ixR Z Z h8 tu236 zb8 Z)<|Zq (ldR Z zeu)<|Zb Z<|z3d<|Zm Z<|Zm Z<|Zq (W.shr Z Z (Int.natCast_nonneg _))<|Zq (W.toB Z tu65 tu5)<|Zm Z<|Zq (W.shr Z Z (Int.natCast_nonneg _))<|Zq (W.toB Z tu65 tu5)<|Zm Z<|Zq (W.shr Z Z (Int.natCast_nonneg _))<|Zq (W.toB Z tu65 tu5)<|Zm Z<|Zq (W.toB Z tu65 tu5)<|Ef Z (lit (R:=u8R) ([(z6f x7 24).toUInt8,(z6f x7 16).toUInt8,(z6f x7 8).toUInt8,x7.toUInt8]:List UInt8) 1100 (pP Z Z<|pP Z Z<|pP Z Z<|pP Z Z<|pN) Z tu129 ti5 Z Z) fun v9=>z0v fun x10 h11=>Ef Z (apn 1 Z Z Z (.own 1100 Z) h11 tu129 ti5 Z Z Z) fun v12=>Za Z<|z2c<|z4r<|z0t<|z3d<|Zq (I.add Z Z)<|Zm Z<|z2c<|z2k (fun aa ww h=>⟨nvl [v12],Zu h [1,1001]⟩)
   ·
    refine z3f<|z1h<|z1k<|z4k (fun aa ww h=>⟨nvl [(n5 0)],Zu h [1,1001]⟩)
  ·
   refine gEx fun n13=>gSR<|Zm Z<|Zm Z<|zfz 1 [8,43] Z (fS Z<|fS Z<|fN)<|Ef Z (lit (R:=(z02 u8R)) ([s3,a1]:List (List UInt8)) 1101 (pP Z Z<|pP Z Z<|pN) Z tu201 zih Z Z) fun v14=>zfz 1101 [45] Z (fS Z<|fN)<|Zc [1001] [] Tryz.func163 Z (zfw _) fun r15 n16=>Zm Z<|Zq (ext Z Z)<|Zq (ext Z Z)<|Eb Z (z4w 1102 z3h (.zr (R:=aZ) (x:=(Vector.replicate 32 0)) zf6)) fun v17=>Es (sto 1102 Z Z fH Z z3h)<|Zb Z<|gSR<|Zb Z<|zb9 (fun (s18:UInt64) aa ww=>Sta (ctx 63 H [zG1] w) [(12,.rd z0c r15.2),(13,.rd z3u s18)] [zG1] aa ww) ?_ (fun s18=>?_)
   ·
    refine gSR<|z17z 1102 11 Z Z<|Zq (z1ai (i:=0) (j:=8) Z .no (.to Z) tu78 ti5 (by decide) Z Z Z)<|Zq (z5r Z .rd Z tu129)<|Zm Z<|Zn<|z3l (fun (s19:UInt64 × Int) aa ww=>Sta (ctx 63 H [zG1] w) [(12,.rd z0c r15.2),(13,.rd z3u s19.1),(49,.rd (z02 u8R) ((r15.1.toList.drop 0).take 8)),(50,.rd z0c (((r15.1.toList.drop 0).take 8).length:Int)),(51,.rd z0c s19.2)] [zG1] aa ww) (fun aa ww h=>Zu h [1001]) (fun s19=>?_)
    refine gSR<|Zq (I.lss Z Z)<|Zn<|z11<|gIf Z Z (fun h20=>?_) (fun h20=>?_)
    ·
     refine Zt<|z11<|z85<|gSR<|z0v fun x21 h22=>Zq (ixR Z Z h22 tu129 ti5 Z)<|Zq (ldR Z ty5)<|Zb Z<|z3d<|Zm Z<|Zq (U.shl Z Z (Int.natCast_nonneg _))<|Zm Z<|Zq (B.toU Z tu5 tu52)<|Zq (U.or Z Z)<|Za Z<|z3j 13 Z fun y23=>z2c<|z4r<|z0t<|z3d<|Zq (I.add Z Z)<|Zm Z<|z2c<|z2k (fun aa ww h=>Zu h [1001])
    ·
     refine z3f<|z1h<|z1k<|z4k (fun aa ww h=>Zu h [1001])
   ·
    refine gSR<|Zm Z<|Zm Z<|Za Z<|Zb Z<|z0w<|Ze [] [1001] Z
def z9u (a0:UInt32) (a1:UInt32) (a2:List UInt8):Option (UInt32 × Int) :=
 zdy 99 a2 [a0,a1] >>= fun r2 =>
 if r2.2 != 0 then
  some (0,r2.2)
 else
  some ((r2.1 % 500000003).toUInt32) >>= fun y5 =>
  some (y5,0)
theorem zf2 (a0:UInt32) (a1:UInt32) (a2:List UInt8):z36 Tryz.prog 114 [.rd z0z a0,.rd z0z a1,.rd (z02 u8R) a2] [zG1] (z9u a0 a1 a2) (fun r nv=>⟨[.rd z0z r.1,.rd z0c r.2],[(1001,some (.bool true,.glob 1 (z4v 64 z0z) z58))]⟩):=by
 refine z4g 24 Tryz.func114 Z Z Z fun H w=>?_
 refine gSR<|Za Z<|Zb Z<|gSR<|Zm Z<|Zm Z<|Zm Z<|Ef Z (lit (R:=z0z) ([a0,a1]:List UInt32) 1 (pP Z Z<|pP Z Z<|pN) Z tu236 zb8 Z Z) fun v1=>zfz 1 [14] Z (fS Z<|fN)<|Zc [1001] [] Tryz.func159 Z (zk1 _ _ _) fun r2 n3=>Zm Z<|Zq (ext Z Z)<|Zq (ext Z Z)<|Za Z<|Zb Z<|z11<|gSR<|Zm Z<|Zq (I.neq Z Z)<|Zj Z (fun h4=>?_) (fun h4=>?_)
 ·
  refine gSR<|Zm Z<|Za Z<|Zb Z<|z0w<|z1e<|Ze [] [1001] Z
 ·
  refine Zt<|gSR<|Zm Z<|Zq (U.rem Z Z (by decide))<|Zq (U.toW Z tu52 tu65)<|Za Z<|z3j 6 Z fun y5=>Zb Z<|z0w<|Ze [] [1001] Z
def zf9 (a0:UInt32) (a1:List UInt8) (a2:z08):Option (Int) :=
 zgt a0 >>= fun r2 =>
 if !r2 then
  some 2
 else
  if decide (9991<(a1.length:Int)) then
   some 4
  else
   if decide (500000003≤(max a2.E a2.S)) then
    some 22
   else
    zm5 a0 (500000003 - a2.E.toUInt64) >>= fun r7 =>
    zbj a2.S.toUInt64 >>= fun r9 =>
    zmu r9 r7.1 >>= fun r11 =>
    z9u r11.1 a0 a1 >>= fun r13 =>
    if r13.2 != 0 then
     some 22
    else
     if r13.1 != a2.E then
      some 22
     else
      some 0
theorem zng (a0:UInt32) (a1:List UInt8) (a2:z08):z36 Tryz.prog 117 [.rd z0z a0,.rd (z02 u8R) a1,.rd z0m a2] [zG1] (zf9 a0 a1 a2) (fun r nv=>⟨[.rd z0c r],[(1001,some (.bool true,.glob 1 (z4v 64 z0z) z58))]⟩):=by
 refine z4g 58 Tryz.func117 Z Z Z fun H w=>?_
 refine gSR<|Eb Z (bx 1 Z) fun v1=>Zb Z<|z11<|gSR<|Zm Z<|Zc [] [] Tryz.func153 Z (zhw _) fun r2 n3=>Zq (zlr Z)<|Zj Z (fun h4=>?_) (fun h4=>?_)
 ·
  refine gSR<|Zb Z<|z0w<|z1e<|Ze [] [1001] Z
 ·
  refine Zt<|z11<|gSR<|Zm Z<|Zq (z5r Z .rd Z tu129)<|Zq (I.gtr Z Z)<|Zj Z (fun h5=>?_) (fun h5=>?_)
  ·
   refine gSR<|Zb Z<|z0w<|z1e<|Ze [] [1001] Z
  ·
   refine Zt<|z11<|gSR<|Zq (faB 1 Z Z Tryz.underlying70 Z (by exact zb8))<|Zq (ld 1 Z Z (fP (zaf _)) zeu Z)<|Zq (faB 1 Z Z Tryz.underlying70 Z (by exact zb8))<|Zq (ld 1 Z Z (fP (zc8 _)) zeu Z)<|Zq (W.max Z Z)<|Zq (W.geq Z Z)<|Zj Z (fun h6=>?_) (fun h6=>?_)
   ·
    refine gSR<|Zb Z<|z0w<|z1e<|Ze [] [1001] Z
   ·
    refine Zt<|gSR<|Zm Z<|Zq (faB 1 Z Z Tryz.underlying70 Z (by exact zb8))<|Zq (ld 1 Z Z (fP (zaf _)) zeu Z)<|Zq (W.toU Z tu65 tu52)<|Zq (U.sub Z Z)<|Zc [] [] Tryz.func161 Z (zr7 _ _) fun r7 n8=>Zm Z<|Zq (ext Z Z)<|Zq (ext Z Z)<|Za Z<|Zb Z<|gSR<|Zq (faB 1 Z Z Tryz.underlying70 Z (by exact zb8))<|Zq (ld 1 Z Z (fP (zc8 _)) zeu Z)<|Zq (W.toU Z tu65 tu52)<|Zc [] [] Tryz.func106 Z (zfa _) fun r9 n10=>Zm Z<|Zc [] [] Tryz.func162 Z (zr1 _ _) fun r11 n12=>Zm Z<|Zq (ext Z Z)<|Zq (ext Z Z)<|Za Z<|Zb Z<|z11<|gSR<|Zm Z<|Zm Z<|Zm Z<|Zc [1001] [] Tryz.func114 Z (zf2 _ _ _) fun r13 n14=>Zm Z<|Zq (ext Z Z)<|Zq (ext Z Z)<|Za Z<|Zb Z<|gSR<|Zm Z<|Zq (I.neq Z Z)<|Zm Z<|z2i 52 Z (fun h15=>?_) (fun h15=>?_)
    ·
     refine lKn 51 Z h15<|Zk Z<|Zk Z<|Zk Z<|Zk Z<|Zq (pkT Z Z)<|Zn<|zll Z<|gSR<|Zb Z<|z0w<|z1e<|Ze [] [1001] Z
    ·
     refine lKn 51 Z h15<|z2x Zx Z Z (mv Z)<|z2x Zx Z Z (faB 1 Z Z Tryz.underlying70 Z (by exact zb8))<|z2x Zx Z Z (ld 1 Z Z (fP (zaf _)) zeu Z)<|z2x Zx Z Z (W.neq Z Z)<|Zq (pkF Z Z)<|Zj Z (fun h16=>?_) (fun h16=>?_)
     ·
      refine gKn 56 Z h16<|gSR<|Zb Z<|z0w<|z1e<|Ze [] [1001] Z
     ·
      refine gKn 56 Z h16<|Zt<|gSR<|Zb Z<|z0w<|Ze [] [1001] Z
def zg5 (a0:z05):Option (Int) :=
 zfe a0 >>= fun r2 =>
 if r2 != 0 then
  some r2
 else
  zbh a0 >>= fun r5 =>
  zf9 a0.Author r5.1 a0.Sig >>= fun r7 =>
  some r7
theorem zk9 (a0:z05):z36 Tryz.prog 79 [.rd z04 a0] [zG1] (zg5 a0) (fun r nv=>⟨[.rd z0c r],[(1001,some (.bool true,.glob 1 (z4v 64 z0z) z58))]⟩):=by
 refine z4g 22 Tryz.func79 Z Z Z fun H w=>?_
 refine gSR<|Eb Z (bx 1 Z) fun v1=>Zb Z<|z11<|gSR<|Zq (ld 1 Z Z fH zgr Z)<|Zc [] [] Tryz.func107 Z (zi0 _) fun r2 n3=>Zb Z<|gSR<|Zm Z<|Zq (I.neq Z Z)<|Zj Z (fun h4=>?_) (fun h4=>?_)
 ·
  refine gSR<|Zm Z<|Zb Z<|z0w<|z1e<|Ze [] [1001] Z
 ·
  refine Zt<|gSR<|Zq (ld 1 Z Z fH zgr Z)<|Zc [] [(100,2)] Tryz.func77 Z (zfu _) fun r5 n6=>Zm Z<|Zq (ext Z Z)<|Zq (ext Z Z)<|Za Z<|Zb Z<|gSR<|Zq (faB 1 Z Z Tryz.underlying72 Z (by exact zb8))<|Zq (ld 1 Z Z (fP (z6i _)) zeu Z)<|Zm Z<|Zq (faB 1 Z Z Tryz.underlying72 Z (by exact zpm))<|Zq (ld 1 Z Z (fP (z5m _)) ty70 Z)<|zfz 2 [14,4,18] Z (fS Z<|fS Z<|fS Z<|fN)<|Zc [1001] [] Tryz.func117 Z (zng _ _ _) fun r7 n8=>Zb Z<|z0w<|Ze [] [1001] Z
def z5g (s4:UInt64 × (List UInt8)):Option (Sum ((List UInt8)) (UInt64 × (List UInt8))) :=
 if decide (0<s4.1) then
  app 1 s4.2 [(s4.1 % 256).toUInt8] >>= fun x8 =>
  some (.inr (s4.1 / 256,x8))
 else
  some (.inl s4.2)
def z5i (s3:(List UInt8)) (s15:(List UInt8) × Int):Option (Sum ((List UInt8)) ((List UInt8) × Int)) :=
 if decide (0≤s15.2) then
  idx s3 s15.2 >>= fun x18 =>
  app 1 s15.1 [x18] >>= fun x21 =>
  some (w64 (s15.2 - 1)) >>= fun y24 =>
  some (.inr (x21,y24))
 else
  some (.inl s15.1)
def z2v (a0:UInt64):Option ((List UInt8)) :=
 if decide (a0≤247) then
  some [a0.toUInt8]
 else
  (iter (z5g) (a0,[])) >>= fun s3 =>
  (some (w64 ((s3.length:Int) - 1)) >>= fun y14 =>
  iter (z5i s3) ([UInt8.ofInt (w64 (247+(s3.length:Int)))],y14)) >>= fun s13 =>
  some s13
def z6v (a0:List V3) (s4:(List UInt8) × Int):Option (Sum ((List UInt8)) ((List UInt8) × Int)) :=
 if decide (s4.2<(a0.length:Int)) then
  idx a0 s4.2 >>= fun x7 =>
  app 1 s4.1 x7.toList >>= fun x9 =>
  some (w64 (s4.2+1)) >>= fun y12 =>
  some (.inr (x9,y12))
 else
  some (.inl s4.1)
def zdn (a0:List V3):Option ((List UInt8)) :=
 z2v (UInt64.ofInt (a0.length:Int)) >>= fun r1 =>
 (iter (z6v a0) (r1,0)) >>= fun s3 =>
 some s3
def z8y (a0:List UInt8):Option ((List UInt8)) :=
 z2v (UInt64.ofInt (a0.length:Int)) >>= fun r1 =>
 app 1 r1 a0 >>= fun x3 =>
 some x3
def zbd (a0:Int):Option ((List UInt8)) :=
 if decide (0≤a0) then
  z2v (2 * (UInt64.ofInt a0)) >>= fun r2 =>
  some r2
 else
  z2v ((2 * (UInt64.ofInt (w64 (0 - (w64 (a0+1))))))+1) >>= fun r4 =>
  some r4
def z5z (a0:z03) (s11:(List UInt8) × Int):Option (Sum ((List UInt8)) ((List UInt8) × Int)) :=
 if decide (0≤s11.2) then
  chk (0≤w64 (8 * s11.2)) >>= fun u14 =>
  app 1 s11.1 [(z86 a0.Bits ((w64 (8 * s11.2):Int).toNat)).toUInt8] >>= fun x17 =>
  some (w64 (s11.2 - 1)) >>= fun y20 =>
  some (.inr (x17,y20))
 else
  some (.inl s11.1)
def zcu (a0:z03):Option ((List UInt8)) :=
 if a0.Kind==1 then
  zbd a0.Num >>= fun r4 =>
  app 1 [a0.Kind] r4 >>= fun x6 =>
  some x6
 else
  if a0.Kind==2 then
   (iter (z5z a0) ([a0.Kind],7)) >>= fun s10 =>
   some s10
  else
   chk (a0.Text.length≤281474976710656) >>= fun u22 =>
   z8y a0.Text >>= fun r24 =>
   app 1 [a0.Kind] r24 >>= fun x26 =>
   some x26
def zaw (a0:z05):Option ((List UInt8)) :=
 z2v a0.Author.toUInt64 >>= fun r3 =>
 app 1 [111] r3 >>= fun x5 =>
 zdn a0.Preds >>= fun r8 =>
 app 1 x5 r8 >>= fun x10 =>
 z2v a0.Stamp >>= fun r13 =>
 app 1 x10 r13 >>= fun x15 =>
 app 1 x15 [a0.Act.Kind] >>= fun x19 =>
 (if a0.Act.Kind != 1 then
  chk (a0.Act.Key.length≤281474976710656) >>= fun u24 =>
  z8y a0.Act.Key >>= fun r26 =>
  app 1 x19 r26 >>= fun x28 =>
  some x28
 else
  some x19) >>= fun s22 =>
 if a0.Act.Kind==4 then
  zcu a0.Act.Value >>= fun r33 =>
  app 1 s22 r33 >>= fun x35 =>
  some x35
 else
  some s22
def zcb (a0:z05):Option ((List UInt8)) :=
 zaw a0 >>= fun r2 =>
 z2v a0.Sig.E.toUInt64 >>= fun r4 =>
 app 1 r2 r4 >>= fun x6 =>
 z2v a0.Sig.S.toUInt64 >>= fun r9 =>
 app 1 x6 r9 >>= fun x11 =>
 some x11
def zfx  : Option ((Vector UInt32 8)) :=
 some (#v[1779033703,3144134277,1013904242,2773480762,1359893119,2600822924,528734635,1541459225]:Vector UInt32 8)
def z6r (a0:Int) (s3:(List UInt8)):Option (Sum ((List UInt8)) ((List UInt8))) :=
 if (Int.tmod (w64 ((w64 (a0+(s3.length:Int)))+8)) 64) != 0 then
  app 1 s3 [0] >>= fun x7 =>
  some (.inr x7)
 else
  some (.inl s3)
def z6l (a0:Int) (s12:(List UInt8) × Int):Option (Sum ((List UInt8)) ((List UInt8) × Int)) :=
 if decide (0≤s12.2) then
  chk (0≤w64 (8 * s12.2)) >>= fun u15 =>
  app 1 s12.1 [(z86 (8 * (UInt64.ofInt a0)) ((w64 (8 * s12.2):Int).toNat)).toUInt8] >>= fun x18 =>
  some (w64 (s12.2 - 1)) >>= fun y21 =>
  some (.inr (x18,y21))
 else
  some (.inl s12.1)
def zdq (a0:Int):Option ((List UInt8)) :=
 (iter (z6r a0) [128]) >>= fun s2 =>
 (iter (z6l a0) (s2,7)) >>= fun s11 =>
 some s11
def z2t (a0:UInt32) (a1:Int):Option (UInt32) :=
 chk (0≤a1) >>= fun u1 =>
 chk (0≤w64 (32 - a1)) >>= fun u3 =>
 some ((z6f a0 ((a1:Int).toNat)) ||| (zot a0 ((w64 (32 - a1):Int).toNat))) >>= fun y5 =>
 some y5
def zcw  : Option ((List UInt32)) :=
 some [1116352408,1899447441,3049323471,3921009573,961987163,1508970993,2453635748,2870763221,3624381080,310598401,607225278,1426881987,1925078388,2162078206,2614888103,3248222580,3835390401,4022224774,264347078,604807628,770255983,1249150122,1555081692,1996064986,2554220882,2821834349,2952996808,3210313671,3336571891,3584528711,113926993,338241895,666307205,773529912,1294757372,1396182291,1695183700,1986661051,2177026350,2456956037,2730485921,2820302411,3259730800,3345764771,3516065817,3600352804,4094571909,275423344,430227734,506948616,659060556,883997877,958139571,1322822218,1537002063,1747873779,1955562222,2024104815,2227730452,2361852424,2428436474,2756734187,3204031479,3329325298]
def z5k (a1:List UInt8) (s4:(List UInt32) × Int):Option (Sum ((List UInt32)) ((List UInt32) × Int)) :=
 if decide (s4.2<16) then
  idx a1 (w64 (4 * s4.2)) >>= fun x7 =>
  idx a1 (w64 ((w64 (4 * s4.2))+1)) >>= fun x9 =>
  idx a1 (w64 ((w64 (4 * s4.2))+2)) >>= fun x11 =>
  idx a1 (w64 ((w64 (4 * s4.2))+3)) >>= fun x13 =>
  app 4 s4.1 [(((((x7.toUInt32 * 256)+x9.toUInt32) * 256)+x11.toUInt32) * 256)+x13.toUInt32] >>= fun x16 =>
  some (w64 (s4.2+1)) >>= fun y19 =>
  some (.inr (x16,y19))
 else
  some (.inl s4.1)
def z5d (s22:(List UInt32) × Int):Option (Sum ((List UInt32)) ((List UInt32) × Int)) :=
 if decide (s22.2<64) then
  idx s22.1 (w64 (s22.2 - 15)) >>= fun x25 =>
  idx s22.1 (w64 (s22.2 - 2)) >>= fun x27 =>
  idx s22.1 (w64 (s22.2 - 16)) >>= fun x29 =>
  idx s22.1 (w64 (s22.2 - 7)) >>= fun x31 =>
  z2t x25 7 >>= fun r33 =>
  z2t x25 18 >>= fun r36 =>
  z2t x27 17 >>= fun r39 =>
  z2t x27 19 >>= fun r42 =>
  app 4 s22.1 [((x29+x31)+((r33 ^^^ r36) ^^^ (z6f x25 3)))+((r39 ^^^ r42) ^^^ (z6f x27 10))] >>= fun x45 =>
  some (w64 (s22.2+1)) >>= fun y48 =>
  some (.inr (x45,y48))
 else
  some (.inl s22.1)
def z3i (s21:(List UInt32)) (r50:(List UInt32)) (s54:(Vector UInt32 8) × Int):Option (Sum ((Vector UInt32 8)) ((Vector UInt32 8) × Int)) :=
 if decide (s54.2<64) then
  z7h s54.1 0 >>= fun x56 =>
  z7h s54.1 1 >>= fun x58 =>
  z7h s54.1 2 >>= fun x60 =>
  z7h s54.1 4 >>= fun x62 =>
  z7h s54.1 5 >>= fun x64 =>
  z7h s54.1 6 >>= fun x66 =>
  z7h s54.1 7 >>= fun x68 =>
  idx r50 s54.2 >>= fun x70 =>
  idx s21 s54.2 >>= fun x72 =>
  z2t x62 6 >>= fun r74 =>
  z2t x62 11 >>= fun r76 =>
  z2t x62 25 >>= fun r78 =>
  some ((((x68+((r74 ^^^ r76) ^^^ r78))+((x62 &&& x64) ^^^ ((~~~x62) &&& x66)))+x70)+x72) >>= fun y80 =>
  z2t x56 2 >>= fun r81 =>
  z2t x56 13 >>= fun r83 =>
  z2t x56 22 >>= fun r85 =>
  some (((r81 ^^^ r83) ^^^ r85)+(((x56 &&& x58) ^^^ (x56 &&& x60)) ^^^ (x58 &&& x60))) >>= fun y87 =>
  z7h s54.1 3 >>= fun x88 =>
  some (w64 (s54.2+1)) >>= fun y90 =>
  some (.inr ((#v[y80+y87,x56,x58,x60,x88+y80,x62,x64,x66]:Vector UInt32 8),y90))
 else
  some (.inl s54.1)
def z1l (s53:(Vector UInt32 8)) (s92:(Vector UInt32 8) × Int):Option (Sum ((Vector UInt32 8)) ((Vector UInt32 8) × Int)) :=
 if decide (s92.2<8) then
  z7h s92.1 s92.2 >>= fun x94 =>
  z7h s53 s92.2 >>= fun x96 =>
  z7h s92.1 s92.2 >>= fun x98 =>
  some (w64 (s92.2+1)) >>= fun y100 =>
  some (.inr (ze2 s92.1 s92.2 (x94+x96),y100))
 else
  some (.inl s92.1)
def zbg (a0:Vector UInt32 8) (a1:List UInt8):Option ((Vector UInt32 8)) :=
 (iter (z5k a1) ([],0)) >>= fun s3 =>
 (iter (z5d) (s3,16)) >>= fun s21 =>
 zcw >>= fun r50 =>
 (iter (z3i s21 r50) (a0,0)) >>= fun s53 =>
 (iter (z1l s53) (a0,0)) >>= fun s91 =>
 some s91
def z5j (a1:List UInt8) (s4:(Vector UInt32 8) × Int):Option (Sum ((Vector UInt32 8)) ((Vector UInt32 8) × Int)) :=
 if decide ((w64 (s4.2+64))≤(a1.length:Int)) then
  cut a1 s4.2 (w64 (s4.2+64)) >>= fun x6 =>
  zbg s4.1 x6 >>= fun r8 =>
  some (w64 (s4.2+64)) >>= fun y10 =>
  some (.inr (r8,y10))
 else
  some (.inl s4.1)
def zbe (a0:Vector UInt32 8) (a1:List UInt8):Option ((Vector UInt32 8)) :=
 (iter (z5j a1) (a0,0)) >>= fun s3 =>
 some s3
def z56 (a0:Vector UInt32 8) (s5:V3 × Int):Option (Sum (V3) (V3 × Int)) :=
 if decide (s5.2<32) then
  z7h a0 (w64 (Int.tdiv s5.2 4)) >>= fun x7 =>
  chk (0≤w64 (24 - (w64 (8 * (Int.tmod s5.2 4))))) >>= fun u9 =>
  z7h s5.1 s5.2 >>= fun x11 =>
  some (w64 (s5.2+1)) >>= fun y13 =>
  some (.inr (ze2 s5.1 s5.2 ((z6f x7 ((w64 (24 - (w64 (8 * (Int.tmod s5.2 4)))):Int).toNat)).toUInt8),y13))
 else
  some (.inl s5.1)
def zaz (a0:Vector UInt32 8):Option (V3) :=
 (iter (z56 a0) ((Vector.replicate 32 0),0)) >>= fun s4 =>
 some s4
def zd7 (a0:List UInt8):Option (V3) :=
 zfx >>= fun r2 =>
 app 1 ([]:List UInt8) a0 >>= fun x5 =>
 zdq (a0.length:Int) >>= fun r8 =>
 app 1 x5 r8 >>= fun x10 =>
 zbe r2 x10 >>= fun r13 =>
 zaz r13 >>= fun r15 =>
 some r15
def zff (a0:z05):Option (V3) :=
 zcb a0 >>= fun r3 =>
 zd7 r3 >>= fun r5 =>
 some r5
def z7e (a0:V3) (a1:V3) (s4:Int):Option (Sum (Sum Int Unit) Int) :=
 if decide (s4<32) then
  z7h a0 s4 >>= fun x6 =>
  z7h a1 s4 >>= fun x8 =>
  if decide (x6<x8) then
   some (.inl (.inl (-1)))
  else
   z7h a0 s4 >>= fun x11 =>
   z7h a1 s4 >>= fun x13 =>
   if decide (x13<x11) then
    some (.inl (.inl 1))
   else
    some (.inr (w64 (s4+1)))
 else
  some (.inl (.inr ()))
def z5s (a0:V3) (a1:V3):Option (Int) :=
 z4x (iter (z7e a0 a1) 0) fun s3 =>
 some 0
theorem zjl (a0:V3) (a1:V3):z36 Tryz.prog 85 [.rd aZ a0,.rd aZ a1] [] (z5s a0 a1) (fun r nv=>⟨[.rd z0c r],[]⟩):=by
 refine z4g 24 Tryz.func85 Z Z Z fun H w=>?_
 refine gSR<|Eb Z (bx 1 Z) fun v1=>Eb Z (bx 2 Z) fun v2=>Zb Z<|zb3 (fun (s3:Unit) aa ww=>Sta (ctx 24 H [] w) [] [] aa ww) ?_ (fun s3=>?_)
 ·
  refine gSR<|Zb Z<|z3l (fun (s4:Int) aa ww=>Sta (ctx 24 H [] w) [(2,.val (z07 v1 0)),(3,.val (z07 v2 0)),(5,.rd z0c s4)] [(1,some (v1,.box 78 [.rd aZ a0])),(2,some (v2,.box 78 [.rd aZ a1]))] aa ww) (fun aa ww h=>Zu h [1,2]) (fun s4=>?_)
  refine z11<|gSR<|Zm Z<|Zq (I.lss Z Z)<|Zj Z (fun h5=>?_) (fun h5=>?_)
  ·
   refine Zt<|z11<|z85<|z11<|z11<|zlk mixed (by kernel_rfl)<|Rq Z (mv Z)<|za6 fun x6 h7=>Rq Z (ixB 1 Z Z Z h7 tu78 ti5)<|Rq Z (ld 1 Z Z (fP (.el h7)) ty5 Z)<|Rq Z (mv Z)<|za6 fun x8 h9=>Rq Z (ixB 2 Z Z Z h9 tu78 ti5)<|Rq Z (ld 2 Z Z (fP (.el h9)) ty5 Z)<|Rq Z (B.lss Z Z)<|zyk<|z0t<|gIf Z Z (fun h10=>?_) (fun h10=>?_)
   ·
    refine gSR<|Zb Z<|z0w<|z1e<|z88<|z1e<|zb5<|zag<|Ze [] [] Z
   ·
    refine Zt<|z11<|zlk mixed (by kernel_rfl)<|Rq Z (mv Z)<|za6 fun x11 h12=>Rq Z (ixB 1 Z Z Z h12 tu78 ti5)<|Rq Z (ld 1 Z Z (fP (.el h12)) ty5 Z)<|Rq Z (mv Z)<|za6 fun x13 h14=>Rq Z (ixB 2 Z Z Z h14 tu78 ti5)<|Rq Z (ld 2 Z Z (fP (.el h14)) ty5 Z)<|Rq Z (B.gtr Z Z)<|zyk<|z0t<|gIf Z Z (fun h15=>?_) (fun h15=>?_)
    ·
     refine gSR<|Zb Z<|z0w<|z88<|z1e<|zb5<|zag<|Ze [] [] Z
    ·
     refine z5o<|z4r<|z0t<|z3d<|Zm Z<|Zq (I.add Z Z)<|Za Z<|z2c<|z2k (fun aa ww h=>Zu h [1,2])
  ·
   refine z3f<|z1h<|z1k<|za9 (fun aa ww h=>Zu h [])
 ·
  refine gSR<|Zb Z<|z0w<|Ze [] [] Z
def z4b (a0:List V3) (s2:Int):Option (Sum (Sum Bool Unit) Int) :=
 if decide (s2<(a0.length:Int)) then
  idx a0 (w64 (s2 - 1)) >>= fun x4 =>
  idx a0 s2 >>= fun x6 =>
  z5s x4 x6 >>= fun r8 =>
  if decide (0≤r8) then
   some (.inl (.inl false))
  else
   some (.inr (w64 (s2+1)))
 else
  some (.inl (.inr ()))
def z95 (a0:List V3):Option (Bool) :=
 z4x (iter (z4b a0) 1) fun s1 =>
 some true
def z60 (a2:UInt64) (s2:UInt64 × UInt64 × UInt64):Option (Sum UInt64 (UInt64 × UInt64 × UInt64)) :=
 if decide (0<s2.2.1) then
  (if (s2.2.1 % 2)==1 then
   chk (a2≠0) >>= fun u6 =>
   some ((s2.2.2 * s2.1) % a2) >>= fun y8 =>
   some y8
  else
   some s2.2.2) >>= fun s4 =>
  chk (a2≠0) >>= fun u9 =>
  some ((s2.1 * s2.1) % a2) >>= fun y11 =>
  some (.inr (y11,s2.2.1 / 2,s4))
 else
  some (.inl s2.2.2)
def za3 (a0:UInt64) (a1:UInt64) (a2:UInt64):Option (UInt64) :=
 (iter (z60 a2) (a0,a1,1)) >>= fun s1 =>
 some s1
def zd4 (a0:UInt32):Option (Bool) :=
 if decide (1≤a0) then
  if decide (a0<1000000007) then
   za3 a0.toUInt64 500000003 1000000007 >>= fun r3 =>
   some (r3==1)
  else
   some false
 else
  some false
def z6o (a0:List UInt8) (s4:Int):Option (Sum (Sum Bool Unit) Int) :=
 if decide (s4<(a0.length:Int)) then
  idx a0 s4 >>= fun x6 =>
  if decide (x6<33) then
   some (.inl (.inl false))
  else
   idx a0 s4 >>= fun x9 =>
   if decide (126<x9) then
    some (.inl (.inl false))
   else
    some (.inr (w64 (s4+1)))
 else
  some (.inl (.inr ()))
def zaj (a0:List UInt8):Option (Bool) :=
 if decide ((a0.length:Int)<1) then
  some false
 else
  if decide (20<(a0.length:Int)) then
   some false
  else
   z4x (iter (z6o a0) 0) fun s3 =>
   some true
def za4 (a0:UInt64):Option (Int) :=
 some (w64 (((a0 % 9223372036854775808) / 4503599627370496).toNat:Int)) >>= fun y1 =>
 some y1
def zdx (a0:UInt64):Option (UInt64) :=
 some (a0 % 4503599627370496) >>= fun y1 =>
 some y1
def zcl (a0:UInt64):Option (UInt8) :=
 za4 a0 >>= fun r1 =>
 zdx a0 >>= fun r3 =>
 z4x (if r1==0 then
  if r3==0 then
   some (.inl 1)
  else
   some (.inr ())
 else
  some (.inr ())) fun s5 =>
 if r1==0 then
  some 2
 else
  if decide (r1<2047) then
   some 3
  else
   if r3==0 then
    some 4
   else
    some 5
def zcg (a0:UInt64):Option (UInt64) :=
 zcl a0 >>= fun r1 =>
 if r1==5 then
  some 9221120237041090560
 else
  some a0
def z48 (a0:List UInt8) (s2:Int):Option (Sum (Sum Bool Unit) Int) :=
 if decide (s2<(a0.length:Int)) then
  idx a0 s2 >>= fun x4 =>
  if decide (x4<32) then
   some (.inl (.inl false))
  else
   idx a0 s2 >>= fun x7 =>
   if decide (126<x7) then
    some (.inl (.inl false))
   else
    some (.inr (w64 (s2+1)))
 else
  some (.inl (.inr ()))
def z9j (a0:List UInt8):Option (Bool) :=
 z4x (iter (z48 a0) 0) fun s1 =>
 some true
def zci (a0:z03):Option (Int) :=
 if a0.Kind==1 then
  if a0.Bits==0 then
   if a0.Text==[] then
    some 0
   else
    some 8
  else
   some 8
 else
  if a0.Kind==2 then
   (if a0.Num==0 then
    if a0.Text==[] then
     zcg a0.Bits >>= fun r9 =>
     some (r9==a0.Bits)
    else
     some false
   else
    some false) >>= fun s6 =>
   if s6 then
    some 0
   else
    some 8
  else
   if a0.Kind==3 then
    (if a0.Num==0 then
     if a0.Bits==0 then
      if decide ((a0.Text.length:Int)≤30) then
       z9j a0.Text >>= fun r17 =>
       some r17
      else
       some false
     else
      some false
    else
     some false) >>= fun s13 =>
    if s13 then
     some 0
    else
     some 8
   else
    some 8
def za8 (a0:z06):Option (Int) :=
 some (decide (a0.Value=(⟨0,0,0,[]⟩:z03))) >>= fun y2 =>
 if a0.Kind==1 then
  if a0.Key==[] then
   if y2 then
    some 0
   else
    some 8
  else
   some 8
 else
  (if a0.Kind==2 then
   some true
  else
   some (a0.Kind==3)) >>= fun s6 =>
  if s6 then
   zaj a0.Key >>= fun r9 =>
   if r9 then
    if y2 then
     some 0
    else
     some 8
   else
    some 8
  else
   if a0.Kind==4 then
    zaj a0.Key >>= fun r14 =>
    if r14 then
     zci a0.Value >>= fun r17 =>
     if r17==0 then
      some 0
     else
      some 8
    else
     some 8
   else
    some 8
def z4m (a0:UInt32):Option (Bool) :=
 some (decide (a0.toUInt64<500000003)) >>= fun y1 =>
 some y1
def z9w (a0:z05):Option (Int) :=
 if decide (4<(a0.Preds.length:Int)) then
  some 4
 else
  z95 a0.Preds >>= fun r3 =>
  if !r3 then
   some 32
  else
   (zd4 a0.Author >>= fun r7 =>
   if !r7 then
    some true
   else
    if decide (1000000000000<a0.Stamp) then
     some true
    else
     za8 a0.Act >>= fun r11 =>
     if r11 != 0 then
      some true
     else
      z4m a0.Sig.E >>= fun r14 =>
      if !r14 then
       some true
      else
       z4m a0.Sig.S >>= fun r17 =>
       some (!r17)) >>= fun s6 =>
   if s6 then
    some 8
   else
    some 0
def z7p (a0:UInt32) (a1:UInt64):Option (UInt32) :=
 za3 a0.toUInt64 a1 1000000007 >>= fun r1 =>
 some r1.toUInt32
def zho (a0:UInt32):Option (UInt32 × Int) :=
 zd4 a0 >>= fun r1 =>
 if !r1 then
  some (0,2)
 else
  z7p a0 500000002 >>= fun r4 =>
  some (r4,0)
def zgg (a0:UInt64):Option (UInt32) :=
 z7p 4 a0 >>= fun r1 =>
 some r1
def zhi (a0:UInt32):Option (UInt32) :=
 zgg a0.toUInt64 >>= fun r1 =>
 some r1
def zeb (a0:UInt32) (a1:UInt32):Option (UInt32) :=
 some (((a0.toUInt64 * a1.toUInt64) % 1000000007).toUInt32) >>= fun y1 =>
 some y1
def zax (a0:UInt32):Option ((List UInt8)) :=
 some [(a0 / 16777216).toUInt8,((a0 / 65536) % 256).toUInt8,((a0 / 256) % 256).toUInt8,(a0 % 256).toUInt8]
def z5e (r1:V3) (s5:UInt64 × Int):Option (Sum UInt64 (UInt64 × Int)) :=
 if decide (s5.2<8) then
  z7h r1 s5.2 >>= fun x7 =>
  some ((256 * s5.1)+x7.toUInt64) >>= fun y9 =>
  some (w64 (s5.2+1)) >>= fun y10 =>
  some (.inr (y9,y10))
 else
  some (.inl s5.1)
def zbo (a0:List UInt8):Option (UInt64) :=
 zd7 a0 >>= fun r1 =>
 (iter (z5e r1) (0,0)) >>= fun s4 =>
 some s4
def z9i (a0:UInt32) (a1:UInt32) (a2:List UInt8):Option (UInt32) :=
 zax a0 >>= fun r2 =>
 app 1 [99] r2 >>= fun x4 =>
 zax a1 >>= fun r7 =>
 app 1 x4 r7 >>= fun x9 =>
 app 1 x9 a2 >>= fun x12 =>
 zbo x12 >>= fun r15 =>
 some ((r15 % 500000003).toUInt32) >>= fun y17 =>
 some y17
def zcf (a0:UInt32) (a1:List UInt8) (a2:z08):Option (Bool) :=
 z4m a2.E >>= fun r2 =>
 if !r2 then
  some false
 else
  z4m a2.S >>= fun r5 =>
  if !r5 then
   some false
  else
   z7p a0 a2.E.toUInt64 >>= fun r8 =>
   zho r8 >>= fun r10 =>
   zhi a2.S >>= fun r12 =>
   zeb r12 r10.1 >>= fun r14 =>
   z9i r14 a0 a1 >>= fun r16 =>
   some (r16==a2.E)
def zex (a0:z05):Option (Bool) :=
 zaw a0 >>= fun r2 =>
 zcf a0.Author r2 a0.Sig >>= fun r4 =>
 some r4
def zbk (a0:z05):Option (Int) :=
 z9w a0 >>= fun r2 =>
 if r2 != 0 then
  z9w a0 >>= fun r5 =>
  some r5
 else
  zex a0 >>= fun r7 =>
  if !r7 then
   some 22
  else
   some 0
end
section
open Go Go.RowKit
set_option maxRecDepth 100000
def z0g (a0:List V3) (a1:V3) (s4:Int × Int):Option (Sum Int (Int × Int)) :=
 if decide (s4.1<s4.2) then
  some (w64 ((z86 (UInt64.ofInt (w64 (s4.1+s4.2))) 1).toNat:Int)) >>= fun y6 =>
  idx a0 y6 >>= fun x7 =>
  z8c x7 a1 >>= fun r9 =>
  if decide (r9<0) then
   some (.inr (w64 (y6+1),s4.2))
  else
   some (.inr (s4.1,y6))
 else
  some (.inl s4.1)
def z0e (a0:List V3) (a1:V3):Option (Int × Bool) :=
 some (a0.length:Int) >>= fun y2 =>
 (iter (z0g a0 a1) (0,y2)) >>= fun s3 =>
 if decide (s3<y2) then
  idx a0 s3 >>= fun x13 =>
  z8c x13 a1 >>= fun r15 =>
  some (s3,r15==0)
 else
  some (s3,false)
theorem z2g (a0:List V3) (a1:V3):z36 Tryz.prog 122 [.rd (z02 aZ) a0,.rd aZ a1,.val (.func (.func 89) #[] #[])] [] (z0e a0 a1) (fun r nv=>⟨[.rd z0c r.1,.rd z0f r.2],[]⟩):=by
 refine z4g 49 Tryz.func122 Z Z Z fun H w=>?_
 refine gSR<|Eb Z (bx 1 Z) fun v1=>Za Z<|Zb Z<|gSR<|Zm Z<|Zq (z5r Z .rd Z tu24)<|Za Z<|z3j 8 Z fun y2=>Zn<|gSR<|Zm Z<|Za Z<|Zb Z<|zb9 (fun (s3:Int) aa ww=>Sta (ctx 49 H [] w) [(0,.rd (z02 aZ) a0),(2,.val (.func (.func 89) #[] #[])),(4,.val (z07 v1 0)),(8,.rd z0c y2),(9,.rd z0c s3)] [(1,some (v1,.box 78 [.rd aZ a1]))] aa ww) ?_ (fun s3=>?_)
 ·
  refine z3l (fun (s4:Int × Int) aa ww=>Sta (ctx 49 H [] w) [(0,.rd (z02 aZ) a0),(2,.val (.func (.func 89) #[] #[])),(4,.val (z07 v1 0)),(8,.rd z0c y2),(9,.rd z0c s4.1),(10,.rd z0c s4.2)] [(1,some (v1,.box 78 [.rd aZ a1]))] aa ww) (fun aa ww h=>Zu h [1]) (fun s4=>?_)
  refine z11<|gSR<|Zm Z<|Zm Z<|Zq (I.lss Z Z)<|Zj Z (fun h5=>?_) (fun h5=>?_)
  ·
   refine Zt<|z85<|gSR<|Zm Z<|Zm Z<|Zq (I.add Z Z)<|Zq (I.toU Z tu3 Tryz.underlying149)<|Zq (U.shr Z Z (Int.natCast_nonneg _))<|Zq (U.toI Z Tryz.underlying149 tu3)<|Za Z<|z3j 11 Z fun y6=>Zn<|z11<|zb6 [] mixed Z Z<|hTk 0 Z Z (mv Z)<|hTk 1 Z Z (mv Z)<|hTk 2 Z Z (mv Z)<|zd3 fun x7 h8=>hTk 3 Z Z (ixR Z Z h8 tu24 z3h Z)<|hTk 4 Z Z (ldR Z z6s)<|hTk 5 Z Z (ld 1 Z Z fH z6s Z)<|zt0 6 [] [] Z (by kernel_rfl) Z (gd0 Z) Z Tryz.func89 Z Z Z (z9b _ _) (Y2 Z Z) (cN) Z rN Z (fun _ _=>z4j) fun r9 n10=>hTk 7 Z Z (I.lss Z Z)<|z4h (by kernel_rfl)<|z0t<|gIf Z Z (fun h11=>?_) (fun h11=>?_)
   ·
    refine z3d<|Zm Z<|Zq (I.add Z Z)<|Za Z<|z2c<|z4r<|z2k (fun aa ww h=>Zu h [1])
   ·
    refine z3d<|Zm Z<|Za Z<|z2c<|z4r<|z2k (fun aa ww h=>Zu h [1])
  ·
   refine z3f<|z1h<|z1k<|z4k (fun aa ww h=>Zu h [1])
 ·
  refine z11<|zb6 [] mixed Z Z<|hTk 0 Z Z (mv Z)<|hTk 1 Z Z (mv Z)<|hTk 2 Z Z (mv Z)<|hTk 3 Z Z (I.lss Z Z)<|hTk 4 Z Z (mv Z)<|hIf 39 Z Z (fun h12=>?_) (fun h12=>?_)
  ·
   refine hKn 38 Z Z h12<|Zg 5 Z Z (mv Z)<|Zg 6 Z Z (mv Z)<|Zg 7 Z Z (mv Z)<|zd3 fun x13 h14=>Zg 8 Z Z (ixR Z Z h14 tu24 z3h Z)<|Zg 9 Z Z (ldR Z z6s)<|Zg 10 Z Z (ld 1 Z Z fH z6s Z)<|zt0 11 [] [] Z (by kernel_rfl) Z Zx Z Tryz.func89 Z Z Z (z9b _ _) (Y2 Z Z) (cN) Z rN Z (fun _ _=>z4j) fun r15 n16=>Zg 12 Z Z (I.eql Z Z)<|hTk 13 Z Z (pkT Z Z)<|hTk 14 Z Z (asg Z)<|hTk 15 Z Z (asg Z)<|z4h (by kernel_rfl)<|z0t<|z0w<|Ze [] [] Z
  ·
   refine hKn 38 Z Z h12<|hSk 5 Z Z<|hSk 6 Z Z<|hSk 7 Z Z<|hSk 8 Z Z<|hSk 9 Z Z<|hSk 10 Z Z<|hSk 11 Z Z<|hSk 12 Z Z<|hTk 13 Z Z (pkF Z Z)<|hTk 14 Z Z (asg Z)<|hTk 15 Z Z (asg Z)<|z4h (by kernel_rfl)<|z0t<|z0w<|Ze [] [] Z
def ze9 (a0:z00) (a1:V3):Option (Int × Bool) :=
 z0e a0.IDs a1 >>= fun r3 =>
 some (r3.1,r3.2)
theorem zhu (a0:z00) (a1:V3):z36 Tryz.prog 84 [.rd z01 a0,.rd aZ a1] [] (ze9 a0 a1) (fun r nv=>⟨[.rd z0c r.1,.rd z0f r.2],[]⟩):=by
 refine z4g 12 Tryz.func84 Z Z Z fun H w=>?_
 refine gSR<|Eb Z (bx 1 Z) fun v1=>Eb Z (bx 2 Z) fun v2=>Za Z<|Zb Z<|gSR<|Zq (faB 1 Z Z Tryz.underlying27 Z (by exact zae))<|Zq (ld 1 Z Z (fP (z0o _)) ze3 Z)<|Zq (ld 2 Z Z fH z6s Z)<|Zc [] [] Tryz.func122 Z (z2g _ _) fun r3 n4=>Zq (ext Z Z)<|Zq (ext Z Z)<|Za Z<|Zb Z<|z0w<|Ze [] [] Z
def z8v (a0:z00) (s3:Int):Option (Sum (Sum Int Unit) Int) :=
 if decide (s3<(a0.IDs.length:Int)) then
  idx a0.IDs (w64 (s3 - 1)) >>= fun x5 =>
  idx a0.IDs s3 >>= fun x7 =>
  z8c x5 x7 >>= fun r9 =>
  if decide (0≤r9) then
   some (.inl (.inl 32))
  else
   some (.inr (w64 (s3+1)))
 else
  some (.inl (.inr ()))
def zad (a0:z00) (s19:(List Int) × (List (List Int)) × (List Int) × Int) (x22:z05) (s26:(List (List Int)) × Int):Option (Sum (Sum (Sum (Sum Int ((List Int) × (List (List Int)) × (List Int))) ((List Int) × (List (List Int)) × (List Int) × Int)) ((List (List Int)))) ((List (List Int)) × Int)) :=
 if decide (s26.2<(x22.Preds.length:Int)) then
  idx x22.Preds s26.2 >>= fun x29 =>
  ze9 a0 x29 >>= fun r32 =>
  if !r32.2 then
   some (.inl (.inl (.inl (.inl 40))))
  else
   idx s26.1 r32.1 >>= fun x35 =>
   app 8 x35 [s19.2.2.2] >>= fun x38 =>
   some (.inr (s26.1.set (r32.1:Int).toNat x38,w64 (s26.2+1)))
 else
  some (.inl (.inr s26.1))
def zaa (a0:z00) (s19:(List Int) × (List (List Int)) × (List Int) × Int):Option (Sum (Sum Int ((List Int) × (List (List Int)) × (List Int))) ((List Int) × (List (List Int)) × (List Int) × Int)) :=
 if decide (s19.2.2.2<(a0.Ops.length:Int)) then
  idx a0.Ops s19.2.2.2 >>= fun x22 =>
  z4x (iter (zad a0 s19 x22) (s19.2.1,0)) fun s25 =>
  idx s19.1 s19.2.2.2 >>= fun x42 =>
  idx (s19.1.set (s19.2.2.2:Int).toNat (x22.Preds.length:Int)) s19.2.2.2 >>= fun x44 =>
  if x44==0 then
   app 8 s19.2.2.1 [s19.2.2.2] >>= fun x48 =>
   some (.inr (s19.1.set (s19.2.2.2:Int).toNat (x22.Preds.length:Int),s25,x48,w64 (s19.2.2.2+1)))
  else
   some (.inr (s19.1.set (s19.2.2.2:Int).toNat (x22.Preds.length:Int),s25,s19.2.2.1,w64 (s19.2.2.2+1)))
 else
  some (.inl (.inr (s19.1,s19.2.1,s19.2.2.1)))
def zac (x59:List Int) (s61:(List Int) × (List Int) × Int):Option (Sum ((List Int) × (List Int)) ((List Int) × (List Int) × Int)) :=
 if decide (s61.2.2<(x59.length:Int)) then
  idx x59 s61.2.2 >>= fun x64 =>
  idx s61.1 x64 >>= fun x66 =>
  idx s61.1 x64 >>= fun x68 =>
  idx (s61.1.set (x64:Int).toNat (w64 (x66 - 1))) x64 >>= fun x70 =>
  if x70==0 then
   app 8 s61.2.1 [x64] >>= fun x74 =>
   some (.inr (s61.1.set (x64:Int).toNat (w64 (x66 - 1)),x74,w64 (s61.2.2+1)))
  else
   some (.inr (s61.1.set (x64:Int).toNat (w64 (x66 - 1)),s61.2.1,w64 (s61.2.2+1)))
 else
  some (.inl (s61.1,s61.2.1))
def zc9 (s18:(List Int) × (List (List Int)) × (List Int)) (s53:(List Int) × (List Int) × Int):Option (Sum Int ((List Int) × (List Int) × Int)) :=
 if decide (s53.2.2<(s53.2.1.length:Int)) then
  (idx s53.2.1 s53.2.2 >>= fun x57 =>
  idx s18.2.1 x57 >>= fun x59 =>
  iter (zac x59) (s53.1,s53.2.1,0)) >>= fun s56 =>
  some (w64 (s53.2.2+1)) >>= fun y78 =>
  some (.inr (s56.1,s56.2,y78))
 else
  some (.inl s53.2.2)
def ziw (a0:z00):Option (Int) :=
 z4x (iter (z8v a0) 1) fun s2 =>
 mkn 8 0 (a0.Ops.length:Int) >>= fun x12 =>
 mkn 24 ([]:List Int) (a0.Ops.length:Int) >>= fun x15 =>
 z4x (iter (zaa a0) (x12,x15,[],0)) fun s18 =>
 (iter (zc9 s18) (s18.1,s18.2.2,0)) >>= fun s52 =>
 if decide (s52<(a0.Ops.length:Int)) then
  some 36
 else
  some 0
theorem zr2 (a0:z00):z36 Tryz.prog 94 [.rd z01 a0] [] (ziw a0) (fun r nv=>⟨[.rd z0c r],[]⟩):=by
 refine z4g 133 Tryz.func94 Z Z Z fun H w=>?_
 refine gSR<|Eb Z (bx 1 Z) fun v1=>Zb Z<|zb3 (fun (s2:Unit) aa ww=>Sta (ctx 133 H [] w) [(1,.val (z07 v1 0))] [(1,some (v1,.box 27 [.rd z01 a0]))] aa ww) ?_ (fun s2=>?_)
 ·
  refine gSR<|Zb Z<|z3l (fun (s3:Int) aa ww=>Sta (ctx 133 H [] w) [(1,.val (z07 v1 0)),(3,.rd z0c s3)] [(1,some (v1,.box 27 [.rd z01 a0]))] aa ww) (fun aa ww h=>h.sub [1] (sS Z<|sS Z<|sN) (y1 Z)) (fun s3=>?_)
  refine z11<|gSR<|Zm Z<|Zq (faB 1 Z Z Tryz.underlying27 Z (by exact zae))<|Zq (ld 1 Z Z (fP (z0o _)) ze3 Z)<|Zq (z5r Z .rd Z tu24)<|Zq (I.lss Z Z)<|Zj Z (fun h4=>?_) (fun h4=>?_)
  ·
   refine Zt<|z11<|z85<|z11<|zb6 [] mixed Z Z<|hTk 0 Z Z (faB 1 Z Z Tryz.underlying27 Z (by exact zae))<|hTk 1 Z Z (ld 1 Z Z (fP (z0o _)) ze3 Z)<|hTk 2 Z Z (mv Z)<|hTk 3 Z Z (I.sub Z Z)<|zd3 fun x5 h6=>hTk 4 Z Z (ixR Z Z h6 tu24 z3h Z)<|hTk 5 Z Z (ldR Z z6s)<|hTk 6 Z Z (faB 1 Z Z Tryz.underlying27 Z (by exact zae))<|hTk 7 Z Z (ld 1 Z Z (fP (z0o _)) ze3 Z)<|hTk 8 Z Z (mv Z)<|zd3 fun x7 h8=>hTk 9 Z Z (ixR Z Z h8 tu24 z3h Z)<|hTk 10 Z Z (ldR Z z6s)<|z7s 11 [] [] Z (by kernel_rfl) Z (gd0 Z) Z Tryz.func89 Z Z (z9b _ _) (Y2 Z Z) rN Z (fun _ _=>z4j) fun r9 n10=>hTk 12 Z Z (I.geq Z Z)<|z4h (by kernel_rfl)<|z0t<|gIf Z Z (fun h11=>?_) (fun h11=>?_)
   ·
    refine gSR<|Zb Z<|z0w<|z88<|z1e<|zb5<|zag<|zdc [] [] Z (eE Z<|eN) (rN)
   ·
    refine z5o<|z4r<|z0t<|z3d<|Zm Z<|Zq (I.add Z Z)<|Za Z<|z2c<|z2k (fun aa ww h=>h.sub [1] (sS Z<|sS Z<|sN) (y1 Z))
  ·
   refine z3f<|z1h<|z1k<|za9 (fun aa ww h=>h.sub [1] (sS Z<|sN) (y1 Z))
 ·
  refine gSR<|Zq (faB 1 Z Z Tryz.underlying27 Z (by exact zf7))<|Zq (ld 1 Z Z (fP (z0n _)) zkh Z)<|Zq (z5r Z .rd Z tu25)<|z0v fun x12 h13=>Ef Z (mks (R:=z0c) 44 Z Z h13 tu157 ti3 (Zr.num Z) Z) fun v14=>Zb Z<|gSR<|Zq (faB 1 Z Z Tryz.underlying27 Z (by exact zf7))<|Zq (ld 1 Z Z (fP (z0n _)) zkh Z)<|Zq (z5r Z .rd Z tu25)<|z0v fun x15 h16=>Ef Z (mksF 45 Z Z h16 Tryz.underlying176 z139 Z) fun v17=>z1as (base:=100000) (lits:=[(1,some (v1,.box 27 [.rd z01 a0])),(44,some (v14,.list z0c 3 x12)),(45,some (v17,.list zhk 157 (zam (fun _=>Value.slice none 0 0) x15)))]) z0c 3 [1,44,45] (z159 h16) (Zi Z<|Zi Z<|Zi Z<|rN)<|Zb Z<|gSR<|Zb Z<|zb3 (fun (s18:(List Int) × (List (List Int)) × (List Int)) aa ww=>∃ nv:Nat→Value,Sta (ctx 133 H [] w) [(1,.val (z07 v1 0)),(4,.val v14),(5,.val v17),(6,.val (nv 0))] ([(1,some (v1,.box 27 [.rd z01 a0])),(44,some (v14,.list z0c 3 s18.1)),(45,some (v17,.list zhk 157 (zam (fun j=>nv (j+1)) s18.2.1))),(50,some ((nv 0),.list z0c 3 s18.2.2))]++zpo 100000 z0c 3 (fun j=>nv (j+1)) s18.2.1 0) aa ww) ?_ (fun s18=>?_)
  ·
   refine gSR<|Zq (faB 1 Z Z Tryz.underlying27 Z (by exact zf7))<|Zq (ld 1 Z Z (fP (z0n _)) zkh Z)<|Zq (z5r Z .rd Z tu25)<|Zm Z<|Zn<|zzn z0c 3 56<|z3l (fun (s19:(List Int) × (List (List Int)) × (List Int) × Int) aa ww=>∃ nv:Nat→Value,Sta (ctx 133 H [] w) [(1,.val (z07 v1 0)),(4,.val v14),(5,.val v17),(6,.val (nv 0)),(45,.rd (z02 z04) a0.Ops),(46,.rd z0c (a0.Ops.length:Int)),(47,.rd z0c s19.2.2.2)] ([(1,some (v1,.box 27 [.rd z01 a0])),(44,some (v14,.list z0c 3 s19.1)),(45,some (v17,.list zhk 157 (zam (fun j=>nv (j+1)) s19.2.1))),(55,some ((nv 0),.list z0c 3 s19.2.2.1))]++zpo 100000 z0c 3 (fun j=>nv (j+1)) s19.2.1 0) aa ww) (fun aa ww h=>⟨nvlF [(.slice none 0 0)] (fun _=>Value.slice none 0 0),h.subF (by repeat (first | refine z75.cons Z ?_ | exact z75.tail)) [1,44,45,56] (Zs Z Z Z Z<|sS Z<|sS Z<|sS Z<|sN) (Zi Z<|Zi Z<|Zi Z<|Zi Z<|rN) rfl⟩) (fun s19=>?_)
   refine gEx fun n20=>gSR<|Zq (I.lss Z Z)<|Zn<|z11<|gIf Z Z (fun h21=>?_) (fun h21=>?_)
   ·
    refine Zt<|z11<|z85<|gSR<|Zm Z<|z0v fun x22 h23=>Zq (ixR Z Z h23 tu25 zbb Z)<|Zq (ldR Z zgr)<|Eb Z (z4w 57 zbb (ZrE.rd (R:=z0z) (x:=0) (Zr.num Z) (ZrE.nilS (ZrE.rd (R:=z3u) (x:=0) (Zr.num Z) (ZrE.rd (R:=z0h) (x:=(⟨0,[],(⟨0,0,0,[]⟩:z03)⟩:z06)) zlw (ZrE.rd (R:=z0m) (x:=(⟨0,0⟩:z08)) zpq ZrE.nil Z) Z) Z)) Z)) fun v24=>Za Z<|z89 aZ [.rd z0z 0,.rd (z02 aZ) [],.rd z3u 0,.rd z0h (⟨0,[],(⟨0,0,0,[]⟩:z03)⟩:z06),.rd z0m (⟨0,0⟩:z08)] 57 [.rd z0z 0] [.rd z3u 0,.rd z0h (⟨0,[],(⟨0,0,0,[]⟩:z03)⟩:z06),.rd z0m (⟨0,0⟩:z08)] Z Z Z<|zb2 (R:=z04) (⟨0,[],0,(⟨0,[],(⟨0,0,0,[]⟩:z03)⟩:z06),(⟨0,0⟩:z08)⟩:z05) 57 Z (Sp.via (Sp.prod (Sp.prod (Sp.prod (Sp.prod (Sp.prod Sp.unit))))))<|Es (sto 57 Z Z fH Z zbb)<|Zn<|zb3 (fun (s25:(List (List Int))) aa ww=>∃ nv:Nat→Value,Sta (ctx 133 H [] w) [(1,.val (z07 v1 0)),(4,.val v14),(5,.val v17),(6,.val (n20 0)),(7,.rd z0c s19.2.2.2),(8,.val (z07 v24 0)),(45,.rd (z02 z04) a0.Ops),(46,.rd z0c (a0.Ops.length:Int)),(47,.rd z0c s19.2.2.2)] ([(1,some (v1,.box 27 [.rd z01 a0])),(44,some (v14,.list z0c 3 s19.1)),(45,some (v17,.list zhk 157 (zam (fun j=>nv (j+0)) s25))),(55,some ((n20 0),.list z0c 3 s19.2.2.1)),(57,some (v24,.box 72 [.rd z04 x22]))]++zpo 100000 z0c 3 (fun j=>nv (j+0)) s25 0) aa ww) ?_ (fun s25=>?_)
    ·
     refine gSR<|Zq (faB 57 Z Z Tryz.underlying72 Z (by exact zae))<|Zq (ld 57 Z Z (fP (z1c _)) ze3 Z)<|Zq (z5r Z .rd Z tu24)<|Zm Z<|Zn<|z3l (fun (s26:(List (List Int)) × Int) aa ww=>∃ nv:Nat→Value,Sta (ctx 133 H [] w) [(1,.val (z07 v1 0)),(4,.val v14),(5,.val v17),(6,.val (n20 0)),(7,.rd z0c s19.2.2.2),(8,.val (z07 v24 0)),(45,.rd (z02 z04) a0.Ops),(46,.rd z0c (a0.Ops.length:Int)),(47,.rd z0c s19.2.2.2),(53,.rd (z02 aZ) x22.Preds),(54,.rd z0c (x22.Preds.length:Int)),(55,.rd z0c s26.2)] ([(1,some (v1,.box 27 [.rd z01 a0])),(44,some (v14,.list z0c 3 s19.1)),(45,some (v17,.list zhk 157 (zam (fun j=>nv (j+0)) s26.1))),(55,some ((n20 0),.list z0c 3 s19.2.2.1)),(57,some (v24,.box 72 [.rd z04 x22]))]++zpo 100000 z0c 3 (fun j=>nv (j+0)) s26.1 0) aa ww) (fun aa ww h=>⟨nvlF [] (fun j=>n20 (j+1)),h.subF (by repeat (first | refine z75.cons Z ?_ | exact z75.tail)) [1,44,45,55,57] (Zs Z Z Z Z<|Zs Z Z Z Z<|Zs Z Z Z Z<|sN) (Zi Z<|Zi Z<|Zi Z<|Zi Z<|Zi Z<|rN) rfl⟩) (fun s26=>?_)
     refine gEx fun n27=>gSR<|Zq (I.lss Z Z)<|Zn<|z11<|gIf Z Z (fun h28=>?_) (fun h28=>?_)
     ·
      refine Zt<|z11<|z85<|gSR<|z0v fun x29 h30=>Zq (ixR Z Z h30 tu24 z3h Z)<|Zq (ldR Z z6s)<|Eb Z (z4w 58 z3h (.zr (R:=aZ) (x:=(Vector.replicate 32 0)) zf6)) fun v31=>Es (sto 58 Z Z fH Z z3h)<|Zn<|gSR<|Zq (ld 1 Z Z fH z7q Z)<|Zq (ld 58 Z Z fH z6s Z)<|call [] [] Z Tryz.func84 Z Z (zhu _ _) (Y2 Z Z) rN fun r32 n33=>Zm Z<|Zq (ext Z Z)<|Zq (ext Z Z)<|Za Z<|Zb Z<|z11<|gSR<|Zm Z<|Zq (zlr Z)<|Zj Z (fun h34=>?_) (fun h34=>?_)
      ·
       refine gSR<|Zb Z<|z0w<|z1e<|z88<|z1e<|zb5<|zag<|z88<|z1e<|zb5<|zag<|zdc [] [] Z (eE Z<|eN) (rN)
      ·
       refine Zt<|z3d<|Zm Z<|Zm Z<|Zm Z<|Zm Z<|z0v fun x35 h36=>Zq (ixO 45 Z Z Z (zoa h36) Tryz.underlying176 z139)<|Zq (ldF 45 Z Z h36 z16e Z)<|Zm Z<|Ef Z (lit (R:=z0c) ([s19.2.2.2]:List Int) 59 (pP Z Z<|pN) Z tu157 ti3 Z Z) fun v37=>z0v fun x38 h39=>lApF (base:=100000) (lits:=[(1,some (v1,.box 27 [.rd z01 a0])),(44,some (v14,.list z0c 3 s19.1)),(55,some ((n20 0),.list z0c 3 s19.2.2.1)),(57,some (v24,.box 72 [.rd z04 x22])),(58,some (v31,.box 78 [.rd aZ x29])),(59,some (v37,.list z0c 3 [s19.2.2.2]))]) 45 [1,44,55,57,58,59] (by repeat (first | refine z75.cons Z ?_ | exact z75.tail)) Z Z Z h36 Z Z Z Z (.own 59 Z) h39 Z (fun _ h=>by cases h; rfl) (fun _ h=>by cases h; rfl) Z Z tu157 ti3 Z Z Z Tryz.underlying176 z139 z16e (Zi Z<|Zi Z<|Zi Z<|Zi Z<|Zi Z<|Zi Z<|rN) Z fun v40=>z2c<|z4r<|z0t<|z3d<|Zq (I.add Z Z)<|Zm Z<|z2c<|z2k (fun aa ww h=>⟨nvlF [] (updF (fun j=>n27 (j+0)) (r32.1:Int).toNat v40),h.subF (by repeat (first | refine z75.cons Z ?_ | exact z75.tail)) [1,44,45,55,57] (Zs Z Z Z Z<|Zs Z Z Z Z<|Zs Z Z Z Z<|sN) (Zi Z<|Zi Z<|Zi Z<|Zi Z<|Zi Z<|rN) rfl⟩)
     ·
      refine z3f<|z1h<|z1k<|za9 (fun aa ww h=>⟨nvlF [] (fun j=>n27 (j+0)),h.subF (by repeat (first | refine z75.cons Z ?_ | exact z75.tail)) [1,44,45,55,57] (Zs Z Z Z Z<|Zs Z Z Z Z<|sS Z<|sN) (Zi Z<|Zi Z<|Zi Z<|Zi Z<|Zi Z<|rN) rfl⟩)
    ·
     refine gEx fun n41=>gSR<|Zm Z<|Zm Z<|Zq (faB 57 Z Z Tryz.underlying72 Z (by exact zae))<|Zq (ld 57 Z Z (fP (z1c _)) ze3 Z)<|Zq (z5r Z .rd Z tu24)<|z0v fun x42 h43=>Zq (ixO 44 Z Z Z h43 tu157 ti3)<|Es (sto 44 Z Z (Foc.el h43) Z ti3)<|Zn<|gSR<|Zm Z<|Zm Z<|z0v fun x44 h45=>Zq (ixO 44 Z Z Z h45 tu157 ti3)<|Zq (ld 44 Z Z (Foc.el h45) ty3 Z)<|Zq (I.eql Z Z)<|Zj Z (fun h46=>?_) (fun h46=>?_)
     ·
      refine z3d<|Zm Z<|Zm Z<|Ef Z (lit (R:=z0c) ([s19.2.2.2]:List Int) 60 (pP Z Z<|pN) Z tu157 ti3 Z Z) fun v47=>z0v fun x48 h49=>Ef Z (apn 55 Z Z Z (.own 60 Z) h49 tu157 ti3 Z Z Z) fun v50=>Za Z<|z2c<|z4r<|z0t<|z3d<|Zq (I.add Z Z)<|Zm Z<|z2c<|z2k (fun aa ww h=>⟨nvlF [v50] (fun j=>n41 (j+0)),h.subF (by repeat (first | refine z75.cons Z ?_ | exact z75.tail)) [1,44,45,55] (Zs Z Z Z Z<|sS Z<|sS Z<|sS Z<|sN) (Zi Z<|Zi Z<|Zi Z<|Zi Z<|rN) rfl⟩)
     ·
      refine z5o<|z4r<|z0t<|z3d<|Zq (I.add Z Z)<|Zm Z<|z2c<|z2k (fun aa ww h=>⟨nvlF [(n20 0)] (fun j=>n41 (j+0)),h.subF (by repeat (first | refine z75.cons Z ?_ | exact z75.tail)) [1,44,45,55] (Zs Z Z Z Z<|sS Z<|sS Z<|sS Z<|sN) (Zi Z<|Zi Z<|Zi Z<|Zi Z<|rN) rfl⟩)
   ·
    refine z3f<|z1h<|z1k<|za9 (fun aa ww h=>⟨nvlF [(n20 0)] (fun j=>n20 (j+1)),h.subF (by repeat (first | refine z75.cons Z ?_ | exact z75.tail)) [1,44,45,55] (Zs Z Z Z Z<|sN) (Zi Z<|Zi Z<|Zi Z<|Zi Z<|rN) rfl⟩)
  ·
   refine gEx fun n51=>gSR<|Zb Z<|zb9 (fun (s52:Int) aa ww=>Sta (ctx 133 H [] w) [(1,.val (z07 v1 0)),(13,.rd z0c s52)] [(1,some (v1,.box 27 [.rd z01 a0]))] aa ww) ?_ (fun s52=>?_)
   ·
    refine z1ay (base:=100000) (T:=3) (lits:=[(1,some (v1,.box 27 [.rd z01 a0])),(44,some (v14,.list z0c 3 s18.1)),(50,some ((n51 0),.list z0c 3 s18.2.2))]) (by repeat (first | refine z75.cons Z ?_ | exact z75.tail)) 45 Z [1,44,50] (Zi Z<|Zi Z<|Zi Z<|rN) Z Z<|z3l (fun (s53:(List Int) × (List Int) × Int) aa ww=>∃ nv:Nat→Value,Sta (ctx 133 H [] w) [(1,.val (z07 v1 0)),(4,.val v14),(5,.val v17),(6,.val (nv 0)),(13,.rd z0c s53.2.2)] [(1,some (v1,.box 27 [.rd z01 a0])),(44,some (v14,.list z0c 3 s53.1)),(45,some (v17,.list (z02 z0c) 157 s18.2.1)),(50,some ((nv 0),.list z0c 3 s53.2.1))] aa ww) (fun aa ww h=>⟨nvl [(n51 0)],h.sub [1,44,45,50] (Zs Z Z Z Z<|sS Z<|sN) (Zi Z<|Zi Z<|Zi Z<|Zi Z<|rN)⟩) (fun s53=>?_)
    refine gEx fun n54=>z11<|gSR<|Zm Z<|Zm Z<|Zq (z5r Z (.own 50 Z) Z tu157)<|Zq (I.lss Z Z)<|Zj Z (fun h55=>?_) (fun h55=>?_)
    ·
     refine Zt<|zb9 (fun (s56:(List Int) × (List Int)) aa ww=>∃ nv:Nat→Value,Sta (ctx 133 H [] w) [(1,.val (z07 v1 0)),(4,.val v14),(5,.val v17),(6,.val (nv 0)),(13,.rd z0c s53.2.2)] [(1,some (v1,.box 27 [.rd z01 a0])),(44,some (v14,.list z0c 3 s56.1)),(45,some (v17,.list (z02 z0c) 157 s18.2.1)),(50,some ((nv 0),.list z0c 3 s56.2))] aa ww) ?_ (fun s56=>?_)
     ·
      refine z85<|gSR<|Zm Z<|Zm Z<|Zm Z<|z0v fun x57 h58=>Zq (ixO 50 Z Z Z h58 tu157 ti3)<|Zq (ld 50 Z Z (Foc.el h58) ty3 Z)<|z0v fun x59 h60=>Zq (ixO 45 Z Z Z h60 Tryz.underlying176 z139)<|Zq (ld 45 Z Z (Foc.el h60) z16e Z)<|Zq (z5r Z .rd Z tu157)<|Zm Z<|Zn<|z3l (fun (s61:(List Int) × (List Int) × Int) aa ww=>∃ nv:Nat→Value,Sta (ctx 133 H [] w) [(1,.val (z07 v1 0)),(4,.val v14),(5,.val v17),(6,.val (nv 0)),(13,.rd z0c s53.2.2),(106,.rd (z02 z0c) x59),(107,.rd z0c (x59.length:Int)),(108,.rd z0c s61.2.2)] [(1,some (v1,.box 27 [.rd z01 a0])),(44,some (v14,.list z0c 3 s61.1)),(45,some (v17,.list (z02 z0c) 157 s18.2.1)),(50,some ((nv 0),.list z0c 3 s61.2.1))] aa ww) (fun aa ww h=>⟨nvl [(n54 0)],h.sub [1,44,45,50] (Zs Z Z Z Z<|Zs Z Z Z Z<|sN) (Zi Z<|Zi Z<|Zi Z<|Zi Z<|rN)⟩) (fun s61=>?_)
      refine gEx fun n62=>gSR<|Zq (I.lss Z Z)<|Zn<|z11<|gIf Z Z (fun h63=>?_) (fun h63=>?_)
      ·
       refine Zt<|z11<|z85<|gSR<|z0v fun x64 h65=>Zq (ixR Z Z h65 tu157 ti3 Z)<|Zq (ldR Z ty3)<|Zb Z<|gSR<|Zm Z<|Zm Z<|z0v fun x66 h67=>Zq (ixO 44 Z Z Z h67 tu157 ti3)<|Zq (ld 44 Z Z (Foc.el h67) ty3 Z)<|Zq (I.sub Z Z)<|z0v fun x68 h69=>Zq (ixO 44 Z Z Z h69 tu157 ti3)<|Es (sto 44 Z Z (Foc.el h69) Z ti3)<|Zn<|gSR<|Zm Z<|Zm Z<|z0v fun x70 h71=>Zq (ixO 44 Z Z Z h71 tu157 ti3)<|Zq (ld 44 Z Z (Foc.el h71) ty3 Z)<|Zq (I.eql Z Z)<|Zj Z (fun h72=>?_) (fun h72=>?_)
       ·
        refine z3d<|Zm Z<|Zm Z<|Ef Z (lit (R:=z0c) ([x64]:List Int) 61 (pP Z Z<|pN) Z tu157 ti3 Z Z) fun v73=>z0v fun x74 h75=>Ef Z (apn 50 Z Z Z (.own 61 Z) h75 tu157 ti3 Z Z Z) fun v76=>Za Z<|z2c<|z4r<|z0t<|z3d<|Zq (I.add Z Z)<|Zm Z<|z2c<|z2k (fun aa ww h=>⟨nvl [v76],h.sub [1,44,45,50] (Zs Z Z Z Z<|Zs Z Z Z Z<|sN) (Zi Z<|Zi Z<|Zi Z<|Zi Z<|rN)⟩)
       ·
        refine z5o<|z4r<|z0t<|z3d<|Zq (I.add Z Z)<|Zm Z<|z2c<|z2k (fun aa ww h=>⟨nvl [(n62 0)],h.sub [1,44,45,50] (Zs Z Z Z Z<|Zs Z Z Z Z<|sN) (Zi Z<|Zi Z<|Zi Z<|Zi Z<|rN)⟩)
      ·
       refine z3f<|z1h<|z1k<|z4r<|z4k (fun aa ww h=>⟨nvl [(n62 0)],h.sub [1,44,45,50] (Zs Z Z Z Z<|sS Z<|sN) (Zi Z<|Zi Z<|Zi Z<|Zi Z<|rN)⟩)
     ·
      refine gEx fun n77=>z3d<|Zm Z<|Zq (I.add Z Z)<|Za Z<|z3j 13 Z fun y78=>z2c<|z2k (fun aa ww h=>⟨nvl [(n77 0)],h.sub [1,44,45,50] (Zs Z Z Z Z<|sS Z<|sN) (Zi Z<|Zi Z<|Zi Z<|Zi Z<|rN)⟩)
    ·
     refine z3f<|z1h<|z1k<|z4k (fun aa ww h=>h.sub [1] (sS Z<|sS Z<|sN) (y1 Z))
   ·
    refine z11<|gSR<|Zm Z<|Zq (faB 1 Z Z Tryz.underlying27 Z (by exact zf7))<|Zq (ld 1 Z Z (fP (z0n _)) zkh Z)<|Zq (z5r Z .rd Z tu25)<|Zq (I.lss Z Z)<|Zj Z (fun h79=>?_) (fun h79=>?_)
    ·
     refine gSR<|Zb Z<|z0w<|z1e<|zdc [] [] Z (eE Z<|eN) (rN)
    ·
     refine Zt<|gSR<|Zb Z<|z0w<|zdc [] [] Z (eE Z<|eN) (rN)
def zc6 (a0:z00) (s5:Int):Option (Sum (Sum Int Unit) Int) :=
 if decide (s5<(a0.Ops.length:Int)) then
  idx a0.Ops s5 >>= fun x7 =>
  z109 x7 >>= fun r10 =>
  (if r10.2 != 0 then
   some true
  else
   idx a0.IDs s5 >>= fun x15 =>
   if !decide (r10.1=x15) then
    some true
   else
    zg5 x7 >>= fun r18 =>
    some (r18 != 0)) >>= fun s13 =>
  if s13 then
   some (.inl (.inl 8))
  else
   some (.inr (w64 (s5+1)))
 else
  some (.inl (.inr ()))
def z4a (a0:z00):Option (Int) :=
 if decide (60<(a0.Ops.length:Int)) then
  some 4
 else
  if (a0.IDs.length:Int) != (a0.Ops.length:Int) then
   some 8
  else
   z4x (iter (zc6 a0) 0) fun s4 =>
   ziw a0 >>= fun r21 =>
   some r21
theorem zc7 (a0:z00):z36 Tryz.prog 60 [.rd z01 a0] [zG1] (z4a a0) (fun r nv=>⟨[.rd z0c r],[(1001,some (.bool true,.glob 1 (z4v 64 z0z) z58))]⟩):=by
 refine z4g 50 Tryz.func60 Z Z Z fun H w=>?_
 refine gSR<|Eb Z (bx 1 Z) fun v1=>Zb Z<|z11<|gSR<|Zq (faB 1 Z Z Tryz.underlying27 Z (by exact zf7))<|Zq (ld 1 Z Z (fP (z0n _)) zkh Z)<|Zq (z5r Z .rd Z tu25)<|Zq (I.gtr Z Z)<|Zj Z (fun h2=>?_) (fun h2=>?_)
 ·
  refine gSR<|Zb Z<|z0w<|z1e<|Ze [] [1001] Z
 ·
  refine Zt<|z11<|gSR<|Zq (faB 1 Z Z Tryz.underlying27 Z (by exact zae))<|Zq (ld 1 Z Z (fP (z0o _)) ze3 Z)<|Zq (z5r Z .rd Z tu24)<|Zq (faB 1 Z Z Tryz.underlying27 Z (by exact zf7))<|Zq (ld 1 Z Z (fP (z0n _)) zkh Z)<|Zq (z5r Z .rd Z tu25)<|Zq (I.neq Z Z)<|Zj Z (fun h3=>?_) (fun h3=>?_)
  ·
   refine gSR<|Zb Z<|z0w<|z1e<|Ze [] [1001] Z
  ·
   refine Zt<|zb3 (fun (s4:Unit) aa ww=>Sta (ctx 50 H [zG1] w) [(1,.val (z07 v1 0))] [(1,some (v1,.box 27 [.rd z01 a0])),zG1] aa ww) ?_ (fun s4=>?_)
   ·
    refine gSR<|Zq (faB 1 Z Z Tryz.underlying27 Z (by exact zf7))<|Zq (ld 1 Z Z (fP (z0n _)) zkh Z)<|Zq (z5r Z .rd Z tu25)<|Zm Z<|Zn<|z3l (fun (s5:Int) aa ww=>Sta (ctx 50 H [zG1] w) [(1,.val (z07 v1 0)),(19,.rd (z02 z04) a0.Ops),(20,.rd z0c (a0.Ops.length:Int)),(21,.rd z0c s5)] [(1,some (v1,.box 27 [.rd z01 a0])),zG1] aa ww) (fun aa ww h=>Zu h [1,1001]) (fun s5=>?_)
    refine gSR<|Zq (I.lss Z Z)<|Zn<|z11<|gIf Z Z (fun h6=>?_) (fun h6=>?_)
    ·
     refine Zt<|z11<|z85<|gSR<|Zm Z<|z0v fun x7 h8=>Zq (ixR Z Z h8 tu25 zbb Z)<|Zq (ldR Z zgr)<|Eb Z (z4w 1100 zbb (ZrE.rd (R:=z0z) (x:=0) (Zr.num Z) (ZrE.nilS (ZrE.rd (R:=z3u) (x:=0) (Zr.num Z) (ZrE.rd (R:=z0h) (x:=(⟨0,[],(⟨0,0,0,[]⟩:z03)⟩:z06)) zlw (ZrE.rd (R:=z0m) (x:=(⟨0,0⟩:z08)) zpq ZrE.nil Z) Z) Z)) Z)) fun v9=>Za Z<|z89 aZ [.rd z0z 0,.rd (z02 aZ) [],.rd z3u 0,.rd z0h (⟨0,[],(⟨0,0,0,[]⟩:z03)⟩:z06),.rd z0m (⟨0,0⟩:z08)] 1100 [.rd z0z 0] [.rd z3u 0,.rd z0h (⟨0,[],(⟨0,0,0,[]⟩:z03)⟩:z06),.rd z0m (⟨0,0⟩:z08)] Z Z Z<|zb2 (R:=z04) (⟨0,[],0,(⟨0,[],(⟨0,0,0,[]⟩:z03)⟩:z06),(⟨0,0⟩:z08)⟩:z05) 1100 Z (Sp.via (Sp.prod (Sp.prod (Sp.prod (Sp.prod (Sp.prod Sp.unit))))))<|Es (sto 1100 Z Z fH Z zbb)<|Zn<|gSR<|Zq (ld 1100 Z Z fH zgr Z)<|Zc [1001] [] Tryz.func80 Z (ztu _) fun r10 n11=>Zm Z<|Zq (ext Z Z)<|Zq (ext Z Z)<|Eb Z (z4w 1101 z3h (.zr (R:=aZ) (x:=(Vector.replicate 32 0)) zf6)) fun v12=>Es (sto 1101 Z Z fH Z z3h)<|Zb Z<|zb9 (fun (s13:Bool) aa ww=>Sta (ctx 50 H [zG1] w) [(1,.val (z07 v1 0)),(19,.rd (z02 z04) a0.Ops),(20,.rd z0c (a0.Ops.length:Int)),(21,.rd z0c s5),(46,.rd z0f s13)] [(1,some (v1,.box 27 [.rd z01 a0])),zG1] aa ww) ?_ (fun s13=>?_)
     ·
      refine zb6 [1001] mixed Z Z<|hTk 0 Z Z (mv Z)<|hTk 1 Z Z (I.neq Z Z)<|hTk 2 Z Z (mv Z)<|hIf 33 Z Z (fun h14=>?_) (fun h14=>?_)
      ·
       refine hKn 32 Z Z h14<|hSk 3 Z Z<|hSk 4 Z Z<|hSk 5 Z Z<|hSk 6 Z Z<|hSk 7 Z Z<|hSk 8 Z Z<|hSk 9 Z Z<|hTk 10 Z Z (pkT Z Z)<|hTk 11 Z Z (mv Z)<|hSk 12 Z Z<|hSk 13 Z Z<|hSk 14 Z Z<|hTk 15 Z Z (pkT Z Z)<|z4h (by kernel_rfl)<|z4k (fun aa ww h=>Zu h [1,1001])
      ·
       refine hKn 32 Z Z h14<|Zg 3 Z Z (ld 1101 Z Z fH z6s Z)<|Zg 4 Z Z (faB 1 Z Z Tryz.underlying27 Z (by exact zae))<|Zg 5 Z Z (ld 1 Z Z (fP (z0o _)) ze3 Z)<|Zg 6 Z Z (mv Z)<|zd3 fun x15 h16=>Zg 7 Z Z (ixR Z Z h16 tu24 z3h Z)<|Zg 8 Z Z (ldR Z z6s)<|Zg 9 Z Z (neA Z Z eq78 Z Z gq78)<|hTk 10 Z Z (pkF Z Z)<|hTk 11 Z Z (mv Z)<|hIf 42 Z Z (fun h17=>?_) (fun h17=>?_)
       ·
        refine hKn 40 Z Z h17<|hKn 41 Z Z h17<|hSk 12 Z Z<|hSk 13 Z Z<|hSk 14 Z Z<|hTk 15 Z Z (pkT Z Z)<|z4h (by kernel_rfl)<|z4k (fun aa ww h=>Zu h [1,1001])
       ·
        refine hKn 40 Z Z h17<|hKn 41 Z Z h17<|Zg 12 Z Z (ld 1100 Z Z fH zgr Z)<|z7s 13 [1001] [] Z (by kernel_rfl) Z Zx Z Tryz.func79 Z Z (zk9 _) (Y1 Z) (y1 Z) Z (fun _ _=>z4j) fun r18 n19=>Zg 14 Z Z (I.neq Z Z)<|hTk 15 Z Z (pkF Z Z)<|z4h (by kernel_rfl)<|z4k (fun aa ww h=>Zu h [1,1001])
     ·
      refine gIf Z Z (fun h20=>?_) (fun h20=>?_)
      ·
       refine gSR<|Zb Z<|z0w<|z88<|z1e<|zb5<|zag<|Ze [] [1001] Z
      ·
       refine z5o<|z4r<|z0t<|z3d<|Zq (I.add Z Z)<|Zm Z<|z2c<|z2k (fun aa ww h=>Zu h [1,1001])
    ·
     refine z3f<|z1h<|z1k<|za9 (fun aa ww h=>Zu h [1,1001])
   ·
    refine gSR<|Zq (ld 1 Z Z fH z7q Z)<|Zc [] [] Tryz.func94 Z (zr2 _) fun r21 n22=>Zb Z<|z0w<|Ze [] [1001] Z
def z8b (a0:List V3) (a1:V3) (s3:Int):Option (Sum (Sum Int Unit) Int) :=
 if decide (s3<(a0.length:Int)) then
  idx a0 s3 >>= fun x5 =>
  if decide (x5=a1) then
   some (.inl (.inl s3))
  else
   some (.inr (w64 (s3+1)))
 else
  some (.inl (.inr ()))
def z3g (a0:List V3) (a1:V3):Option (Int) :=
 z4x (iter (z8b a0 a1) 0) fun s2 =>
 some (-1)
def z7l (a0:List V3) (a1:List V3) (s2:Int):Option (Sum (Sum Bool Unit) Int) :=
 if decide (s2<(a1.length:Int)) then
  idx a1 s2 >>= fun x4 =>
  z3g a0 x4 >>= fun r6 =>
  if decide (r6<0) then
   some (.inl (.inl false))
  else
   some (.inr (w64 (s2+1)))
 else
  some (.inl (.inr ()))
def z5u (a0:List V3) (a1:List V3):Option (Bool) :=
 z4x (iter (z7l a0 a1) 0) fun s1 =>
 some true
def z3r (a0:z00) (s6:(List Int) × (List V3) × (List Bool) × Bool) (s9:Int):Option (Sum (Sum ((List Int)) ((List Int) × (List V3) × (List Bool) × Bool)) Int) :=
 if decide (s9<(a0.Ops.length:Int)) then
  (idx s6.2.2.1 s9 >>= fun x12 =>
  if !x12 then
   idx a0.Ops s9 >>= fun x15 =>
   z5u s6.2.1 x15.Preds >>= fun r17 =>
   some r17
  else
   some false) >>= fun s11 =>
  if s11 then
   app 8 s6.1 [s9] >>= fun x20 =>
   idx a0.IDs s9 >>= fun x22 =>
   app 32 s6.2.1 [x22] >>= fun x24 =>
   idx s6.2.2.1 s9 >>= fun x26 =>
   some (.inl (.inr (x20,x24,s6.2.2.1.set (s9:Int).toNat true,true)))
  else
   some (.inr (w64 (s9+1)))
 else
  some (.inl (.inr (s6.1,s6.2.1,s6.2.2.1,false)))
def z7t (a0:z00) (s6:(List Int) × (List V3) × (List Bool) × Bool):Option (Sum ((List Int)) ((List Int) × (List V3) × (List Bool) × Bool)) :=
 if s6.2.2.2 then
  iter (z3r a0 s6) 0
 else
  some (.inl s6.1)
def zcq (a0:z00):Option ((List Int)) :=
 mkn 1 false (a0.Ops.length:Int) >>= fun x2 =>
 (iter (z7t a0) ([],[],x2,true)) >>= fun s5 =>
 some s5
def z64 (a0:z00) (s6:Int):Option (Sum (Sum Int Unit) Int) :=
 if decide (s6<(a0.Ops.length:Int)) then
  idx a0.Ops s6 >>= fun x8 =>
  z5u a0.IDs x8.Preds >>= fun r10 =>
  if !r10 then
   some (.inl (.inl 40))
  else
   some (.inr (w64 (s6+1)))
 else
  some (.inl (.inr ()))
def zch (a0:z00):Option (Int) :=
 z95 a0.IDs >>= fun r2 =>
 if !r2 then
  some 32
 else
  z4x (iter (z64 a0) 0) fun s5 =>
  zcq a0 >>= fun r13 =>
  if decide ((r13.length:Int)<(a0.Ops.length:Int)) then
   some 36
  else
   some 0
def z63 (a0:z00) (s5:Int):Option (Sum (Sum Int Unit) Int) :=
 if decide (s5<(a0.Ops.length:Int)) then
  idx a0.Ops s5 >>= fun x7 =>
  zbk x7 >>= fun r9 =>
  if r9 != 0 then
   some (.inl (.inl 8))
  else
   idx a0.Ops s5 >>= fun x12 =>
   idx a0.IDs s5 >>= fun x14 =>
   zff x12 >>= fun r16 =>
   if !decide (r16=x14) then
    some (.inl (.inl 8))
   else
    some (.inr (w64 (s5+1)))
 else
  some (.inl (.inr ()))
def za1 (a0:z00):Option (Int) :=
 if decide (60<(a0.Ops.length:Int)) then
  some 4
 else
  if (a0.IDs.length:Int) != (a0.Ops.length:Int) then
   some 8
  else
   z4x (iter (z63 a0) 0) fun s4 =>
   zch a0 >>= fun r19 =>
   some r19
end
section
open Go Go.Shelf
def zxp:Go.Shelf.Ren:=⟨fun | 6=>88 | 15=>96 | 14=>126 | 28=>137 | 29=>138 | 20=>166 | 21=>167 | 22=>168 | 23=>169 | 24=>170 | 25=>171 | 26=>172 | 27=>173 | 46=>207 | 47=>176 | 48=>177 | 49=>208 | 50=>209 | 57=>227 | n=>n, fun | 22=>24 | 24=>78 | 25=>141 | 3=>3 | 39=>149 | 0=>0 | 53=>65 | 55=>52 | 4=>4 | 46=>179 | 45=>178 | 50=>139 | 5=>5 | 9=>9 | 66=>216 | 70=>220 | 76=>247 | 77=>248 | n=>n, fun | n=>n⟩
theorem z18n:Go.Proofs.SlLaysF0.n6 Tryz.prog zxp:={
 mixed:=by kernel_rfl
 f6:=⟨Tryz.f88.name, by decide,Tryz.func88.trans (congrArg some (by kernel_rfl))⟩
 f14:=⟨Tryz.f126.name, by decide,Tryz.func126.trans (congrArg some (by kernel_rfl))⟩
 f15:=Tryz.func96.trans (congrArg some (by kernel_rfl))
 f20:=⟨Tryz.f166.name, by decide,Tryz.func166.trans (congrArg some (by kernel_rfl))⟩
 f21:=⟨Tryz.f167.name, by decide,Tryz.func167.trans (congrArg some (by kernel_rfl))⟩
 f22:=⟨Tryz.f168.name, by decide,Tryz.func168.trans (congrArg some (by kernel_rfl))⟩
 f23:=⟨Tryz.f169.name, by decide,Tryz.func169.trans (congrArg some (by kernel_rfl))⟩
 f24:=⟨Tryz.f170.name, by decide,Tryz.func170.trans (congrArg some (by kernel_rfl))⟩
 f25:=⟨Tryz.f171.name, by decide,Tryz.func171.trans (congrArg some (by kernel_rfl))⟩
 f26:=⟨Tryz.f172.name, by decide,Tryz.func172.trans (congrArg some (by kernel_rfl))⟩
 f27:=⟨Tryz.f173.name, by decide,Tryz.func173.trans (congrArg some (by kernel_rfl))⟩
 f28:=Tryz.func137.trans (congrArg some (by kernel_rfl))
 f29:=Tryz.func138.trans (congrArg some (by kernel_rfl))
 f46:=⟨Tryz.f207.name, by decide,Tryz.func207.trans (congrArg some (by kernel_rfl))⟩
 f47:=Tryz.func176.trans (congrArg some (by kernel_rfl))
 f48:=Tryz.func177.trans (congrArg some (by kernel_rfl))
 f49:=⟨Tryz.f208.name, by decide,Tryz.func208.trans (congrArg some (by kernel_rfl))⟩
 f50:=⟨Tryz.f209.name, by decide,Tryz.func209.trans (congrArg some (by kernel_rfl))⟩
 f57:=⟨Tryz.f227.name, by decide,Tryz.func227.trans (congrArg some (by kernel_rfl))⟩
 t0:=Tryz.underlying0
 a0:=Tryz.isAgg0
 z0:=Tryz.sizeOf0
 v0:=Tryz.zeroValue0
 t3:=Tryz.underlying3
 a3:=Tryz.isAgg3
 z3:=Tryz.sizeOf3
 v3:=Tryz.zeroValue3
 t4:=Tryz.underlying4
 a4:=Tryz.isAgg4
 z4:=Tryz.sizeOf4
 v4:=Tryz.zeroValue4
 t5:=Tryz.underlying5
 a5:=Tryz.isAgg5
 z5:=Tryz.sizeOf5
 v5:=Tryz.zeroValue5
 t9:=Tryz.underlying9
 a9:=Tryz.isAgg9
 z9:=Tryz.sizeOf9
 v9:=Tryz.zeroValue9
 t22:=Tryz.underlying24
 a22:=Tryz.isAgg24
 z22:=Tryz.sizeOf24
 v22:=Tryz.zeroValue24
 t25:=Tryz.underlying141
 a25:=Tryz.isAgg141
 z25:=Tryz.sizeOf141
 v25:=Tryz.zeroValue141
 t39:=Tryz.underlying149
 a39:=Tryz.isAgg149
 z39:=Tryz.sizeOf149
 v39:=Tryz.zeroValue149
 t45:=Tryz.underlying178
 a45:=Tryz.isAgg178
 z45:=Tryz.sizeOf178
 v45:=Tryz.zeroValue178
 t46:=Tryz.underlying179
 a46:=Tryz.isAgg179
 z46:=Tryz.sizeOf179
 v46:=Tryz.zeroValue179
 t50:=Tryz.underlying139
 a50:=Tryz.isAgg139
 z50:=Tryz.sizeOf139
 v50:=Tryz.zeroValue139
 t53:=Tryz.underlying65
 a53:=Tryz.isAgg65
 z53:=Tryz.sizeOf65
 v53:=Tryz.zeroValue65
 t55:=Tryz.underlying52
 a55:=Tryz.isAgg52
 z55:=Tryz.sizeOf52
 v55:=Tryz.zeroValue52
 t66:=Tryz.underlying216
 a66:=Tryz.isAgg216
 z66:=Tryz.sizeOf216
 v66:=Tryz.zeroValue216
 t70:=Tryz.underlying220
 a70:=Tryz.isAgg220
 z70:=Tryz.sizeOf220
 v70:=Tryz.zeroValue220
 t76:=Tryz.underlying247
 a76:=Tryz.isAgg247
 z76:=Tryz.sizeOf247
 v76:=Tryz.zeroValue247
 t77:=Tryz.underlying248
 a77:=Tryz.isAgg248
 z77:=Tryz.sizeOf248
 v77:=Tryz.zeroValue248 }
end
section
open Go Go.Shelf Go.RowKit Go.Lib Go.Sort
def zb7 (x:V3):List Value:=x.toList.map fun c=>Value.int .u8 (c.toNat:Int)
theorem zgh (x:V3):(zb7 x).length=32:=by simp [zb7]
theorem z122 (x y:V3) (b c:Nat) (W:World) (hx:∀ j u,(zb7 x)[j]? = some u→W.cell? ⟨b,0+j,none⟩=some u) (hy:∀ j u,(zb7 y)[j]? = some u→W.cell? ⟨c,0+j,none⟩=some u) :
  (callFunc 174 #[.slice (some ⟨b,0,none⟩) 32 32,.slice (some ⟨c,0,none⟩) 32 32]).run Tryz.prog W=.ok (.value (.int .i64 (Lib.compareBytes x.toList y.toList))) W:=by
 have lx:x.toList.length=32:=by simp
 have ly:y.toList.length=32:=by simp
 have e:=zkc (P:=Tryz.prog) (w:=W) (p:=some ⟨b,0,none⟩) (q:=some ⟨c,0,none⟩) (c:=32) (d:=32) (x:=x.toList) (y:=y.toList) (xs:=zb7 x) (ys:=zb7 y)
  ⟨by rw [zgh,lx],.inr ⟨b,0,none,32, by rfl, by omega, by decide,.inr rfl,hx⟩⟩ rfl ⟨by rw [zgh,ly],.inr ⟨c,0,none,32, by rfl, by omega, by decide,.inr rfl,hy⟩⟩ rfl
 rw [lx,ly] at e
 rw [run_callFunc_extern Tryz.func174 rfl rfl (by kernel_rfl) (by kernel_rfl),e]
 rfl
set_option maxHeartbeats 1000000 in
set_option maxRecDepth 100000 in
theorem zov (x y:V3) (b c:Nat) (W:World) (hx:∀ j u,(zb7 x)[j]? = some u→W.cell? ⟨b,0+j,none⟩=some u) (hy:∀ j u,(zb7 y)[j]? = some u→W.cell? ⟨c,0+j,none⟩=some u) :
  Calls Tryz.prog 127 #[.slice (some ⟨b,0,none⟩) 32 32,.slice (some ⟨c,0,none⟩) 32 32] W fun e w'=>e=.returned (.int .i64 (Lib.compareBytes x.toList y.toList))∧w'=W:=by
 have e:=z122 x y b c W hx hy
 go_enter Tryz.func127,Tryz.ntmps127
 go_wp2
 go_ret
 exact ⟨rfl,rfl⟩
theorem zop {w:World} {b j:Nat} {c:Array Value} {T:TypeId} {fr:Nat × Nat} {u:Value} (h:w.heap[b]? = some (.cells c T fr)) (hj:c[j]? = some u):w.cell? ⟨b,0+j,none⟩=some u:=by
 unfold World.cell?
 rw [h]
 simpa using hj
theorem z15j (W:World) (xs ys:List Value) (n j:Nat) (u:Value) (h:xs[j]? = some u):(((W.alloc (.cells xs.toArray 78)).alloc (.cells ys.toArray 78)).drewN n).cell? ⟨W.heap.size,0+j,none⟩=some u :=
 zop (c:=xs.toArray) (T:=78) (fr:=(0,0)) (by
  show ((W.heap.push _).push _)[W.heap.size]? = _
  rw [Array.getElem?_push_lt (by simp)]; simp) (by simpa using h)
theorem z14m (W:World) (xs ys:List Value) (n j:Nat) (u:Value) (h:ys[j]? = some u):(((W.alloc (.cells xs.toArray 78)).alloc (.cells ys.toArray 78)).drewN n).cell? ⟨W.heap.size+1,0+j,none⟩=some u :=
 zop (c:=ys.toArray) (T:=78) (fr:=(0,0)) (by
  show ((W.heap.push _).push _)[W.heap.size+1]? = _
  have:W.heap.size+1=(W.heap.push (Obj.cells xs.toArray 78)).size:=by simp
  rw [this,Array.getElem?_push_size]) (by simpa using h)
set_option maxHeartbeats 1000000 in
set_option maxRecDepth 100000 in
theorem zw0 (x y:V3) (W:World):Calls Tryz.prog 89 #[.agg (zb7 x).toArray,.agg (zb7 y).toArray] W fun e w'=>e=.returned (.int .i64 (Lib.compareBytes x.toList y.toList))∧∃ q os',w'=grow (W.drewN q) os':=by
 have c0:=z15j W (zb7 x) (zb7 y)
 have c1:=z14m W (zb7 x) (zb7 y)
 go_enter Tryz.func89,Tryz.ntmps89
 go_wp2
 go_quiet (first | (go_at_call 127; refine Calls.quiet_of_same (zov x y _ _ _ (c0 _) (c1 _))))
 go_wp2
 go_ret
 exact ⟨rfl,nq,#[.cells (zb7 x).toArray 78,.cells (zb7 y).toArray 78],rfl⟩
end
section
open Go Go.RowKit Go.Sort
theorem z141 {α:Type} [Inhabited α] (enc:α→List Value) (k:Nat) (hk:∀ x,(enc x).length=k):∀ (l:List α) (t:Nat),t<l.length * k→(l.flatMap enc)[t]! = (enc l[t / k]!)[t % k]!
  | [],t,h=>by simp at h
  | x::l,t,h=>by
    have hx:=hk x
    have k0 : 0 < k := by rcases Nat.eq_zero_or_pos k with e | e; · subst e; simp at h
                          · exact e
    rw [List.flatMap_cons]
    by_cases ht:t<k
    · rw [List.getElem!_eq_getElem?_getD,List.getElem?_append_left (by omega),Nat.div_eq_of_lt ht,Nat.mod_eq_of_lt ht]
      simp
    · have hl : t - k < l.length * k := by
        simp only [List.length_cons,Nat.add_mul,Nat.one_mul] at h; omega
      have ih:=z141 enc k hk l (t - k) hl
      have e1:t / k=(t - k) / k+1:=by
        have h2:=Nat.add_div_right (t - k) k0
        rw [Nat.sub_add_cancel (by omega)] at h2; exact h2
      have e2:t % k=(t - k) % k:=by rw [Nat.mod_eq_sub_mod (by omega)]
      rw [List.getElem!_eq_getElem?_getD,List.getElem?_append_right (by omega),hx,e1,e2,← List.getElem!_eq_getElem?_getD,ih]
      simp
theorem zro {α:Type} (enc:α→List Value) (k:Nat) (hk:∀ x,(enc x).length=k):∀ l:List α,(l.flatMap enc).length=l.length * k
  | []=>by simp
  | x::l=>by rw [List.flatMap_cons,List.length_append,hk,zro enc k hk l,List.length_cons,Nat.add_mul,Nat.one_mul,Nat.add_comm]
theorem z10a {α:Type} [Inhabited α] (enc:α→List Value) (k:Nat) (hk:∀ x,(enc x).length=k) (l:List α):flatK enc k l.toArray=(l.flatMap enc).toArray:=by
  refine ext_get! (by rw [size_flatK]; simp only [List.size_toArray,zro enc k hk]) fun t ht=>?_
  rw [size_flatK,List.size_toArray] at ht
  rw [get_flatK _ _ _ _ (by simpa using ht)]
  have:=z141 enc k hk l t ht
  simp at this ⊢
  rw [this]
theorem zqz {α:Type} [Inhabited α] (enc:α→List Value) (k:Nat) (hk:∀ x,(enc x).length=k) {w:World} {b:Nat} {C:Array Value} {T:TypeId} (l:List α) (hb:w.heap[b]? = some (.cells C T (0,0))) (hc:C.toList.take (l.length * k)=l.flatMap enc):HoldsK enc k w b 0 l.toArray:=by
  intro j hj
  rw [z10a enc k hk] at hj ⊢
  have hj':j<(l.flatMap enc).length:=by simpa using hj
  constructor
  · refine zop hb ?_
    have e:(C.toList.take (l.length * k))[j]? = (l.flatMap enc)[j]? := by rw [hc]
    rw [List.getElem?_take_of_lt (by rw [zro enc k hk] at hj'; exact hj'),List.getElem?_eq_getElem hj'] at e
    rw [← Array.getElem?_toList,e]
    have:((l.flatMap enc).toArray)[j]! = (l.flatMap enc)[j]:=by rw [getElem!_pos _ j (by simpa using hj')]; simp
    rw [this]; rfl
  · simp [World.frozen?,hb]
theorem zvj {α:Type} [Inhabited α] (enc:α→List Value) (k:Nat) (w:World) (b n:Nat) (d:Array α) (os:Array Obj) {i:Nat} (hi:i<w.heap.size) (hne:i≠b):(sortWorldK enc k w b 0 n d os).heap[i]? = w.heap[i]? := by
  show (w.heap.modify b _++os)[i]? = _
  rw [Array.getElem?_append_left (by simpa using hi),Array.getElem?_modify,if_neg (fun e=>hne e.symm)]
theorem z16v {α:Type} [Inhabited α] (enc:α→List Value) (k:Nat) (w:World) {b:Nat} (n:Nat) (d:Array α) (os:Array Obj) {C:Array Value} {T:TypeId} {fr:Nat × Nat} (hb:w.heap[b]? = some (.cells C T fr)):(sortWorldK enc k w b 0 n d os).heap[b]? = some (.cells (putCells id 0 (flatK enc k d) C) T fr):=by
  have hlt:b<w.heap.size:=(Array.getElem?_eq_some_iff.1 hb).1
  show (w.heap.modify b _++os)[b]? = _
  rw [Array.getElem?_append_left (by simpa using hlt),Array.getElem?_modify,if_pos rfl,hb]
  rfl
theorem z13h {α:Type} [Inhabited α] (enc:α→List Value) (k:Nat) (hk:∀ x,(enc x).length=k) (l:List α) (C:Array Value) (hC:l.length * k≤C.size):(putCells id 0 (flatK enc k l.toArray) C).toList.take (l.length * k)=l.flatMap enc:=by
  rw [z10a enc k hk]
  apply List.ext_getElem?
  intro t
  by_cases ht:t<l.length * k
  · rw [List.getElem?_take_of_lt ht,Array.getElem?_toList]
    have hl:t<(l.flatMap enc).length:=by rw [zro enc k hk]; exact ht
    simp only [putCells,Array.getElem?_mapIdx,Nat.sub_zero,Nat.zero_add,List.size_toArray,Nat.zero_le,true_and]
    rw [Array.getElem?_eq_getElem (by omega),Option.map_some,if_pos hl,List.getElem?_eq_getElem hl]
    have:((l.flatMap enc).toArray)[t]! = (l.flatMap enc)[t]:=by rw [getElem!_pos _ t (by simpa using hl)]; simp
    rw [this]; rfl
  · rw [List.getElem?_eq_none (by simp; omega),List.getElem?_eq_none (by rw [zro enc k hk]; omega)]
theorem zpv {S:Blk} {w:World}:∀ {l:List V3} {cs:List Value},z73 (z4v 32 u8R) S w cs l→cs=l.flatMap zb7
  | [],cs,h=>h
  | x::l,cs,h=>by
    obtain ⟨c,d,rfl,h1,h2⟩:=h
    rw [List.flatMap_cons,zpv h2,zp3 h1]; rfl
theorem zq9 {S:Blk} {w:World}:∀ (l:List V3),z73 (z4v 32 u8R) S w (l.flatMap zb7) l
  | []=>rfl
  | x::l=>⟨zb7 x,l.flatMap zb7,List.flatMap_cons,zma x.toList,zq9 l⟩
theorem z120 {P : Program} {f g T : Nat} (srt : List V3 → List V3) (hlen : ∀ l, (srt l).length = l.length)
    (hnone:∀ (cap:Nat) (w:World),Calls P f #[.slice none 0 cap,.func (.func g) #[] #[]] w fun e w'=>e=.returned (.tuple #[])∧w'=w)
    (hsome:∀ (blk cap:Nat) (d:Array V3) (w:World),HoldsK zb7 32 w blk 0 d→blk<w.heap.size→d.size<4611686018427387904 →
      Calls P f #[.slice (some ⟨blk,0,none⟩) d.size cap,.func (.func g) #[] #[]] w fun e w'=>e=.returned (.tuple #[])∧∃ n os,w'=sortWorldK zb7 32 w blk 0 n (srt d.toList).toArray os)
    (p0:Value) (c0:List V3):z36 P f [.val p0,.val (.func (.func g) #[] #[])] [(1,some (p0,.list (z4v 32 u8R) T c0))] (chk (c0.length≤1000000) >>= fun _=>some (srt c0))
      (fun r nv=>⟨[],[(1,some (p0,.list (z4v 32 u8R) T r))]⟩):=by
  intro r hr H vs w hvs hres
  have hb:c0.length≤1000000∧r=srt c0:=by
    unfold chk at hr
    split at hr
    · rename_i h; simp at hr; exact ⟨h,hr.symm⟩
    · simp at hr
  obtain ⟨hlen0,rfl⟩:=hb
  match vs,hvs with
  | [v0,v1],hvs =>
  obtain ⟨h0,h1,_⟩:=hvs
  have e0:v0=p0:=h0.1
  have e1:v1=.func (.func g) #[] #[]:=h1.1
  subst e0; subst e1
  have hc:=hres.conts 1 v0 _ rfl
  have only:∀ r v c (q:z43),lr [(1,some (v0,q))] r=some (v,c)→r=1∧v=v0∧c=q:=fun r v c q h=>by
    rw [z12] at h
    split at h
    · rename_i e; cases h; exact ⟨e.symm,rfl,rfl⟩
    · simp [lr,lk] at h
  rcases hc with ⟨rfl,rfl⟩ | ⟨b,o,k1,k2,b',cap,C,k3,rfl,k4,k5,k6,k7⟩
  · refine (hnone 0 w).mono fun e w' ⟨he,hw⟩=>?_
    subst hw
    refine ⟨fun _=>undef,[],he,trivial, fun r v c h=>?_, fun r v c r' v' c' h h' hne=>?_, fun r v c h b hb=>?_,zkk.rfl'⟩
    · obtain ⟨rfl,rfl,rfl⟩:=only _ _ _ _ h
      have:srt []=[]:=List.eq_nil_of_length_eq_zero (by rw [hlen]; rfl)
      exact .inl ⟨rfl,this⟩
    · exact absurd ((only _ _ _ _ h).1.trans (only _ _ _ _ h').1.symm) hne
    · obtain ⟨rfl,rfl,rfl⟩:=only _ _ _ _ h; cases hb
  · subst k3
    simp only [z5b,Option.some.injEq] at k1
    subst k1
    have hlt:b'<w.heap.size:=(Array.getElem?_eq_some_iff.1 k2).1
    have hrow:=zpv k7
    have hsz:(z4v 32 u8R).sz=32:=rfl
    rw [hsz] at k6 hrow
    have hC:c0.length * 32≤C.size:=by rw [k6]; exact Nat.mul_le_mul_right _ k4
    refine (hsome b' cap c0.toArray w (zqz zb7 32 zgh c0 k2 hrow) hlt (by simp; omega)).mono fun e w' ⟨he,n,os,hw⟩=>?_
    subst hw
    refine ⟨fun _=>undef,[],he,trivial, fun r v c h=>?_, fun r v c r' v' c' h h' hne=>?_, fun r v c h b hb=>?_,rfl,rfl,rfl,?_, fun i hi=>?_⟩
    · obtain ⟨rfl,rfl,rfl⟩:=only _ _ _ _ h
      refine .inr ⟨b',_,rfl,z16v zb7 32 w n _ os k2,b',cap,_, by rw [hlen],rfl, by rw [hlen]; exact k4,k5,?_,?_⟩
      · rw [hsz,← k6]; simp [putCells]
      · rw [hsz,z13h zb7 32 zgh (srt c0) C (by rw [hlen]; exact hC)]
        exact zq9 _
    · exact absurd ((only _ _ _ _ h).1.trans (only _ _ _ _ h').1.symm) hne
    · obtain ⟨rfl,rfl,rfl⟩:=only _ _ _ _ h
      exact .inr ⟨1,_,_,rfl,hb⟩
    · show w.heap.size≤(w.heap.modify b' _++os).size
      simp
    · exact zvj zb7 32 w b' n _ os hi.1 fun e=>hi.2 ⟨1,_,_,rfl, by rw [e]; rfl⟩
end
section
open Go
section
variable {σ β α ρ τ:Type}
theorem bs (x:α) (f:α→Option β):(some x >>= f)=f x:=rfl
theorem bS (x:α) (f:α→Option β):(some x >>= f)=f x:=Eq.trans (rfl:(some x >>= f)=f x) rfl
theorem or_l (r:ρ) (k:τ→Option ρ):z4x (some (.inl r)) k=some r:=rfl
theorem zn7 (t:τ) (k:τ→Option ρ):z4x (some (.inr t)) k=k t:=rfl
theorem z14 {F:σ→Option (Sum β σ)} {s:σ} {b:β} (h:F s=some (.inl b)):iter F s=some b:=by rw [iter,h]; rfl
theorem z17 {F:σ→Option (Sum β σ)} {s s':σ} (h:F s=some (.inr s')):iter F s=iter F s':=by rw [iter,h]; rfl
theorem z9z {F:σ→Option (Sum β σ)} (I:σ→Prop) (μ:σ→Nat) (Q:β→Prop) (h:∀ s,I s→(∃ b,F s=some (.inl b)∧Q b)∨∃ s',F s=some (.inr s')∧I s'∧μ s'<μ s) (s:σ) (hs:I s):∃ b,iter F s=some b∧Q b:=by
 have key:∀ n s,μ s=n→I s→∃ b,iter F s=some b∧Q b:=by
  intro n
  induction n using Nat.strongRecOn with
  | _ n ih =>
   intro s hn hs
   rcases h s hs with ⟨b,h1,h2⟩ | ⟨s',h1,h2,h3⟩
   ·
    exact ⟨b,z14 h1,h2⟩
   ·
    rw [z17 h1]; exact ih (μ s') (hn ▸ h3) s' rfl h2
 exact key _ s rfl hs
theorem z6d {F:σ→Option (Sum β σ)} (n:Nat) (I:Nat→σ→Prop) (Q:β→Prop) (h1:∀ i s,i<n→I i s→∃ s',F s=some (.inr s')∧I (i+1) s') (h2:∀ s,I n s→∃ b,F s=some (.inl b)∧Q b) (s:σ) (i:Nat) (hi:i≤n) (hs:I i s):∃ b,iter F s=some b∧Q b:=by
 have key:∀ k i s,n - i=k→i≤n→I i s→∃ b,iter F s=some b∧Q b:=by
  intro k
  induction k with
  | zero =>
   intro i s hk hi hs
   have:i=n:=by omega
   subst this
   obtain ⟨b,h3,h4⟩:=h2 s hs
   exact ⟨b,z14 h3,h4⟩
  | succ k ih =>
   intro i s hk hi hs
   obtain ⟨s',h3,h4⟩:=h1 i s (by omega) hs
   rw [z17 h3]; exact ih (i+1) s' (by omega) (by omega) h4
 exact key _ i s rfl hi hs
theorem z2f {F:σ→Option (Sum β σ)} (n:Nat) (g:Nat→σ) {b:β} (h1:∀ i,i<n→F (g i)=some (.inr (g (i+1)))) (h2:F (g n)=some (.inl b)):iter F (g 0)=some b:=by
 obtain ⟨b',h3,rfl⟩:=z6d n (fun i s=>s=g i) (fun x=>x=b) (fun i s hi hs=>⟨_, by rw [hs]; exact h1 i hi,rfl⟩) (fun s hs=>⟨_, by rw [hs]; exact h2,rfl⟩) (g 0) 0 (Nat.zero_le _) rfl
 exact h3
theorem z09 {l:List α} {i:Nat} (h:i<l.length):idx l (i:Int)=some l[i]:=by simp [idx,h]
theorem z15h {l:List α} {i:Int} (h0:0≤i) (h:i.toNat<l.length):idx l i=some l[i.toNat]:=by simp [idx,h0,h]
theorem z8o {n:Nat} {v:Vector α n} {i:Nat} (h:i<n):z7h v (i:Int)=some v[i]:=by unfold z7h; rw [z09 (by simpa using h)]; simp
theorem zh3 {n:Nat} {v:Vector α n} {i:Int} {x:α} {j:Nat} (hj:j<n):(ze2 v i x)[j]=if i.toNat=j then x else v[j]:=by
 unfold ze2; rw [Vector.getElem_setIfInBounds hj]
theorem z2z {p:Prop} [Decidable p] (h:p):chk p=some ():=by simp [chk,h]
theorem z0x {by_:Nat} {b c:List α} (h:(b.length+c.length) * by_≤140737488355328):app by_ b c=some (b++c):=by simp [app,h]
theorem zhn {by_:Nat} {x:α} {n:Nat} (h:by_ * n≤281474976710656) (h2:n≤9223372036854775807):mkn by_ x (n:Int)=some (List.replicate n x):=by
 unfold mkn; rw [if_pos ⟨by omega, by simpa using h, by omega⟩]; simp
theorem z9s {b:List α} {i j:Nat} (h:i≤j) (hj:j≤b.length):cut b (i:Int) (j:Int)=some ((b.drop i).take (j - i)):=by
 unfold cut; rw [if_pos ⟨by omega, by omega, by omega⟩]; simp
end
theorem z0s {x:Int} (h1:-9223372036854775808≤x) (h2:x≤9223372036854775807):w64 x=x:=zg6 h1 h2
theorem z0d {n:Nat} (h:n<9223372036854775807):w64 ((n:Int)+1)=((n+1:Nat):Int):=by rw [z0s (by omega) (by omega)]; omega
theorem zdm (a:UInt64) (n:Nat):(z86 a n).toNat=a.toNat / 2 ^ (min n 64):=by
 unfold z86
 have h1:=UInt64.toNat_lt a
 have h2:a.toNat / 2 ^ (min n 64)≤a.toNat:=Nat.div_le_self _ _
 simp; omega
theorem zly (a:UInt64) (n:Nat):(zpi a n).toNat=a.toNat * 2 ^ (min n 64) % 18446744073709551616:=by
 unfold zpi; simp
theorem z19z (a:UInt64) (k:Nat) (hk:k<64):((z86 a k &&& 1)==1)=a.toNat.testBit k:=by
 rw [Bool.eq_iff_iff,beq_iff_eq,← UInt64.toNat_inj,UInt64.toNat_and,zdm,Nat.min_eq_left (by omega)]
 have:(1:UInt64).toNat=1:=rfl
 rw [this,Nat.and_one_is_mod,Nat.testBit_eq_decide_div_mod_eq]
 simp
end
section
open Go
def z78 (n:Nat):Nat:=if n=0 then 0 else n.log2+1
theorem zeg (n k:Nat) (h:2 ^ k≤n):z78 n=k+z78 (n / 2 ^ k):=by
 have hp:0<2 ^ k:=Nat.pow_pos (by decide)
 have h1:n / 2 ^ k≠0:=by
  have:1≤n / 2 ^ k:=(Nat.le_div_iff_mul_le hp).2 (by rw [Nat.one_mul]; exact h)
  omega
 have h2:n≠0:=by omega
 unfold z78
 rw [if_neg h1,if_neg h2]
 have h3:n.log2=k+(n / 2 ^ k).log2:=by
  rw [Nat.log2_eq_iff h2]
  have h4:=(Nat.log2_eq_iff h1).1 rfl
  refine ⟨?_,?_⟩
  ·
   rw [Nat.pow_add,Nat.mul_comm]; exact (Nat.le_div_iff_mul_le hp).1 h4.1
  ·
   rw [Nat.add_assoc,Nat.pow_add,Nat.mul_comm]; exact (Nat.div_lt_iff_lt_mul hp).1 h4.2
 omega
theorem zjd (n k:Nat) (h:n<2 ^ k):z78 n≤k:=by
 unfold z78; split
 ·
  omega
 ·
  rename_i h0; have:=(Nat.log2_lt h0).2 h; omega
def zyi:ByteArray:=⟨#[0,1,2,2,3,3,3,3,4,4,4,4,4,4,4,4,5,5,5,5,5,5,5,5,5,5,5,5,5,5,5,5,6,6,6,6,6,6,6,6,6,6,6,6,6,6,6,6,6,6,6,6,6,6,6,6,6,6,6,6,6,6,6,6,7,7,7,7,7,7,7,7,7,7,7,7,7,7,7,7,7,7,7,7,7,7,7,7,7,7,7,7,7,7,7,7,7,7,7,7,7,7,7,7,7,7,7,7,7,7,7,7,7,7,7,7,7,7,7,7,7,7,7,7,7,7,7,7,8,8,8,8,8,8,8,8,8,8,8,8,8,8,8,8,8,8,8,8,8,8,8,8,8,8,8,8,8,8,8,8,8,8,8,8,8,8,8,8,8,8,8,8,8,8,8,8,8,8,8,8,8,8,8,8,8,8,8,8,8,8,8,8,8,8,8,8,8,8,8,8,8,8,8,8,8,8,8,8,8,8,8,8,8,8,8,8,8,8,8,8,8,8,8,8,8,8,8,8,8,8,8,8,8,8,8,8,8,8,8,8,8,8,8,8,8,8,8,8,8,8,8,8,8,8,8,8]⟩
set_option maxRecDepth 100000 in
theorem z125:∀ x:Fin 256,zyi.data[x.val]? = some (UInt8.ofNat (z78 x.val)):=by decide +kernel
def z35 (n:Nat):List UInt8:=if h:n=0 then [] else UInt8.ofNat n::z35 (n / 256)
termination_by n
theorem zde:z35 0=[]:=by rw [z35]; simp
theorem zh1 (n:Nat) (h:n≠0):z35 n=UInt8.ofNat n::z35 (n / 256):=by rw [z35]; simp [h]
def z1t (n:Nat):List UInt8:=if n≤247 then [UInt8.ofNat n] else UInt8.ofNat (247+(z35 n).length)::(z35 n).reverse
theorem znm (n:Nat):(z35 n).length=(z78 n+7) / 8:=by
 induction n using Nat.strongRecOn with
 | _ n ih =>
  by_cases h:n=0
  ·
   subst h; rw [zde]; simp [z78]
  ·
   rw [zh1 n h,List.length_cons,ih (n / 256) (by omega)]
   by_cases h2:n<256
   ·
    have:n / 256=0:=by omega
    rw [this]
    have h3:z78 n≤8:=zjd n 8 h2
    have h4:1≤z78 n:=by unfold z78; rw [if_neg h]; omega
    simp [z78] at h3 h4 ⊢
    rw [if_neg h] at h3 h4 ⊢; omega
   ·
    have:=zeg n 8 (by omega)
    rw [show (2:Nat) ^ 8=256 from rfl] at this
    omega
theorem zwg (n:Nat):∀ (i:Nat),i<(z35 n).length→(z35 n)[i]? = some (UInt8.ofNat (n / 256 ^ i)):=by
 induction n using Nat.strongRecOn with
 | _ n ih =>
  intro i hi
  by_cases h:n=0
  ·
   subst h; rw [zde] at hi; simp at hi
  ·
   rw [zh1 n h] at hi ⊢
   cases i with
   | zero=>simp
   | succ i =>
    simp only [List.length_cons] at hi
    rw [List.getElem?_cons_succ,ih (n / 256) (by omega) i (by omega),Nat.div_div_eq_div_mul]
    congr 3
    rw [Nat.pow_succ,Nat.mul_comm]
theorem zm9 (n:Nat) (h:n<18446744073709551616):(z35 n).length≤8:=by
 rw [znm]; have:=zjd n 64 (by simpa using h); omega
theorem z13 (n:Nat) (h:n<18446744073709551616):1≤(z1t n).length∧(z1t n).length≤9:=by
 unfold z1t; have:=zm9 n h; split <;> simp <;> omega
def zcj (n i:Nat):List UInt8:=UInt8.ofNat (247+(z35 n).length)::(List.replicate ((z35 n).length - i) 0++((z35 n).take i).reverse)
theorem zt6 (n i:Nat) (h:i≤(z35 n).length):(zcj n i).length=(z35 n).length+1:=by simp [zcj]; omega
theorem zq6 (n:Nat):(List.replicate ((z35 n).length+1) (0:UInt8)).set 0 (UInt8.ofNat (247+(z35 n).length))=zcj n 0:=by
 simp [zcj,List.replicate_succ]
theorem zrr (n i:Nat) (h:i<(z35 n).length):(zcj n i).set ((z35 n).length - i) (UInt8.ofNat (n / 2 ^ (8 * i)))=zcj n (i+1):=by
 have hg:=zwg n i h
 have he:n / 2 ^ (8 * i)=n / 256 ^ i:=by rw [Nat.pow_mul]
 rw [he]
 unfold zcj
 obtain ⟨m,hm⟩:∃ m,(z35 n).length - i=m+1:=⟨(z35 n).length - i - 1, by omega⟩
 have hm2:(z35 n).length - (i+1)=m:=by omega
 rw [hm,hm2,List.set_cons_succ,List.take_succ_eq_append_getElem h,List.reverse_append,List.reverse_singleton,List.replicate_succ']
 rw [List.getElem?_eq_getElem h,Option.some.injEq] at hg
 rw [hg,List.append_assoc,List.set_append_right _ _ (by simp)]
 simp
theorem zrq (n:Nat) (h:247<n):zcj n (z35 n).length=z1t n:=by
 unfold zcj z1t; rw [if_neg (by omega)]; simp
theorem zr8 (n m:Nat) (ds:List UInt8) (hm:m≠0) (h:z35 n=ds++z35 m):z35 n=(ds++[UInt8.ofNat (m % 256)])++z35 (m / 256):=by
 rw [h,zh1 m hm,List.append_assoc]
 have:UInt8.ofNat (m % 256)=UInt8.ofNat m:=by
  apply UInt8.toNat_inj.1; simp
 rw [this]; rfl
theorem zn0 {α} {l a b:List α} (h:l=a++b):a.length≤l.length:=by rw [h]; simp
def zig (n:Int):Nat:=if 0≤n then (2 * n).toNat else (-2 * n - 1).toNat
theorem z17a {n:Int} (h1:-9223372036854775808≤n) (h2:n≤9223372036854775807):zig n<18446744073709551616:=by unfold zig; split <;> omega
end
section
open Go Go.RowKit
def zpy (x:z03):Prop:=(fun _=>True) x.Kind∧inI x.Num∧(fun _=>True) x.Bits∧(fun s:List UInt8=>s.length≤9223372036854775807) x.Text∧True
def zve (x:z06):Prop:=(fun _=>True) x.Kind∧(fun s:List UInt8=>s.length≤9223372036854775807) x.Key∧zpy x.Value∧True
def zwo (x:z08):Prop:=(fun _=>True) x.E∧(fun _=>True) x.S∧True
def zep (x:z05):Prop:=(fun _=>True) x.Author∧(fun l:List V3=>(∀ x∈l,(fun v:V3=>∀ x∈v.toList,(fun _=>True) x) x)∧l.length≤9223372036854775807) x.Preds∧(fun _=>True) x.Stamp∧zve x.Act∧zwo x.Sig∧True
def z8u (x:z00):Prop:=(fun l:List V3=>(∀ x∈l,(fun v:V3=>∀ x∈v.toList,(fun _=>True) x) x)∧l.length≤9223372036854775807) x.IDs∧(fun l:List z05=>(∀ x∈l,zep x)∧l.length≤9223372036854775807) x.Ops∧True
end
section
open Go
theorem z12k {n k:Nat} (hn:n<9223372036854775808) (hk:k<9223372036854775808):andI (n:Int) (k:Int)=((n &&& k:Nat):Int):=by
 show IntKind.i64.wrap (BitVec.toNat (BitVec.ofInt 64 (n:Int) &&& BitVec.ofInt 64 (k:Int)):Int)=_
 rw [BitVec.ofInt_natCast,BitVec.ofInt_natCast,BitVec.toNat_and,BitVec.toNat_ofNat,BitVec.toNat_ofNat,Nat.mod_eq_of_lt (by omega),Nat.mod_eq_of_lt (by omega)]
 have:=Nat.and_le_left (n:=n) (m:=k)
 exact zg6 (by omega) (by omega)
def okb (c:UInt8):Bool:=decide (32≤c.toNat)&&decide (c.toNat≤126)
theorem zoz {b:List UInt8} {q:Nat} (h:q<b.length) (ha:(b[q]).toNat<128):z9h b q=((b[q]).toNat,1):=by
 unfold z9h
 exact decode_ascii ⟨b.toArray⟩ q (by show q<b.toArray.size; simpa using h) ha
theorem zxy {b:List UInt8} {q:Nat} (h:q<b.length) (ha:128≤(b[q]).toNat):128≤(z9h b q).1:=by
 unfold z9h
 have e:((ByteArray.mk b.toArray).get! (q+0)).toNat=(b[q]).toNat:=by
  show ((ByteArray.mk b.toArray).get! q).toNat=_
  simp [ByteArray.get!,h]
 simp only [Utf8.decode,e]
 rw [if_neg (by omega)]
 repeat' split
 all_goals (first | (simp only [Utf8.runeError]; omega) | (rename_i h1; simp at h1; omega) | omega)
theorem z12d (x:Int):zec x=some (decide (x<32) || decide (126<x)):=by
 unfold zec
 cases decide (x<32) <;> rfl
theorem zts (b:List UInt8):∀ (rest pre:List UInt8),b=pre++rest →
  (rest.all okb=true→iter (z1f b true) pre.length=some (.inr ()))∧(rest.all okb=false→∃ i:Nat,iter (z1f b true) pre.length=some (.inl (i:Int)))
 | [],pre,e=>by
  refine ⟨fun _=>z14 ?_, fun h=>by simp at h⟩
  subst e
  unfold z1f
  simp
 | c::rest,pre,e=>by
  have hlen:pre.length<b.length:=by rw [e]; simp
  have hget:b[pre.length]'hlen=c:=by subst e; simp
  have hF:z1f b true pre.length=if ((decide (((z9h b pre.length).1:Int)<32) || decide (126<((z9h b pre.length).1:Int)))==true) then some (.inl (.inl (pre.length:Int))) else some (.inr (pre.length+(z9h b pre.length).2)):=by
   unfold z1f
   rw [if_pos hlen]
   simp only [bs,z12d]
  cases hc:okb c with
  | false =>
   refine ⟨fun h=>by simp [hc] at h, fun _=>⟨pre.length,z14 ?_⟩⟩
   rw [hF,if_pos]
   by_cases h8:c.toNat<128
   ·
    rw [zoz hlen (by rw [hget]; exact h8),hget]
    simp only [okb,Bool.and_eq_false_iff,decide_eq_false_iff_not] at hc
    simp; omega
   ·
    have:=zxy hlen (by rw [hget]; omega)
    simp; omega
  | true =>
   simp only [okb,Bool.and_eq_true,decide_eq_true_eq] at hc
   rw [zoz hlen (by rw [hget]; omega),hget,if_neg (by simp; omega)] at hF
   have ih:=zts b rest (pre++[c]) (by simp [e])
   simp only [List.length_append,List.length_cons,List.length_nil,Nat.zero_add] at ih
   rw [z17 hF]
   have hc':okb c=true:=by simp [okb,hc]
   simpa [hc'] using ih
theorem zkg (b:List UInt8) (hb:b.length≤9223372036854775807):∀ (rest pre:List UInt8),b=pre++rest→iter (z48 b) (pre.length:Int)=some (if rest.all okb then .inr () else .inl false)
 | [],pre,e=>by
  refine z14 ?_
  subst e
  unfold z48
  simp
 | c::rest,pre,e=>by
  have hlen:pre.length<b.length:=by rw [e]; simp
  have hget:b[pre.length]'hlen=c:=by subst e; simp
  have hF:z48 b (pre.length:Int)=if okb c then some (.inr ((pre.length+1:Nat):Int)) else some (.inl (.inl false)):=by
   unfold z48
   rw [if_pos (by simp <;> omega)]
   simp only [z09 hlen,hget,bs,z0d (show pre.length<9223372036854775807 by omega)]
   simp only [okb,UInt8.lt_iff_toNat_lt,UInt8.reduceToNat]
   by_cases h1:c.toNat<32
   ·
    have:¬ 32≤c.toNat:=by omega
    simp [h1,this]
   ·
    by_cases h2:126<c.toNat
    ·
     have:¬ c.toNat≤126:=by omega
     simp [h1,h2,this]
    ·
     have h3:32≤c.toNat:=by omega
     have h4:c.toNat≤126:=by omega
     simp [h1,h2,h3,h4]
  cases hc:okb c with
  | false=>rw [hc] at hF; rw [z14 hF]; simp [hc]
  | true =>
   rw [hc] at hF
   rw [z17 hF]
   have ih:=zkg b hb rest (pre++[c]) (by simp [e])
   simp only [List.length_append,List.length_cons,List.length_nil,Nat.zero_add] at ih
   rw [ih]; simp [hc]
theorem zq8 (b:List UInt8) (hb:b.length≤9223372036854775807):z9j b=some (b.all okb):=by
 have h:=zkg b hb b [] rfl
 unfold z9j
 rw [show (0:Int)=(([]:List UInt8).length:Int) from rfl,h]
 cases b.all okb <;> rfl
theorem z121 (b:List UInt8) (hb:b.length≤9223372036854775807):zh7 b=some (if decide (30<(b.length:Int)) then (⟨0,0,0,[]⟩,4) else if b.all okb then (⟨3,0,0,b⟩,0) else (⟨0,0,0,[]⟩,8)):=by
 unfold zh7 z52 z4y
 cases decide (30<(b.length:Int))
 ·
  simp only [Bool.false_eq_true,if_false]
  obtain ⟨h1,h2⟩:=zts b b [] rfl
  simp only [List.length_nil] at h1 h2
  cases h:b.all okb
  ·
   obtain ⟨i,hi⟩:=h2 h
   rw [hi]
   simp only [or_l,bs]
   rw [if_pos (by simp)]; rfl
  ·
   rw [h1 h]; rfl
 ·
  rfl
theorem z132 (a:UInt64):zfn a=some (((a.toNat / 4503599627370496 % 2048:Nat):Int),a % 4503599627370496):=by
 unfold zfn
 simp only [bs]
 have h0:=UInt64.toNat_lt a
 rw [zdm]
 have e1:(2:Nat) ^ (min 52 64)=4503599627370496:=by decide
 rw [e1,z0s (by omega) (by omega), show (2047:Int)=((2047:Nat):Int) from rfl,z12k (by omega) (by omega)]
 congr 2
 ·
  congr 1
  exact Nat.and_two_pow_sub_one_eq_mod _ 11
 ·
  apply UInt64.toNat_inj.1
  rw [UInt64.toNat_and,UInt64.toNat_mod]
  exact Nat.and_two_pow_sub_one_eq_mod _ 52
theorem z17r (a:UInt64):za4 a=some ((a.toNat / 4503599627370496 % 2048:Nat):Int):=by
 unfold za4
 have h0:=UInt64.toNat_lt a
 simp only [bs,UInt64.toNat_div,UInt64.toNat_mod,UInt64.reduceToNat]
 rw [z0s (by omega) (by omega)]
 congr 2
 omega
def zs9 (a:UInt64):Nat:=a.toNat / 4503599627370496 % 2048
def mant (a:UInt64):Nat:=a.toNat % 4503599627370496
theorem z16s (a:UInt64):zs9 a<2048:=Nat.mod_lt _ (by omega)
def clsF (a:UInt64):UInt8:=if zs9 a=2047 then (if mant a=0 then 4 else 5) else if zs9 a=0 then (if mant a=0 then 1 else 2) else 3
theorem z147 (a:UInt64):(a % 4503599627370496==0)=decide (mant a=0):=by
 rw [Bool.eq_iff_iff]
 simp only [beq_iff_eq,decide_eq_true_eq,← UInt64.toNat_inj,UInt64.toNat_mod]
 rfl
theorem z104 (a:UInt64):zfd a=some (clsF a):=by
 unfold zfd clsF
 rw [z132]
 simp only [bs]
 have hm:=z147 a
 have hne:(a % 4503599627370496 != 0)=!decide (mant a=0):=by rw [← hm]; rfl
 have he:((a.toNat / 4503599627370496 % 2048:Nat):Int)=(zs9 a:Int):=rfl
 rw [hne,he]
 by_cases h1:zs9 a=2047
 ·
  rw [h1]
  by_cases h2:mant a=0
  ·
   rw [decide_eq_true h2,if_pos h2]; rfl
  ·
   rw [decide_eq_false h2,if_neg h2]; rfl
 ·
  have e1:((zs9 a:Int)==2047)=false:=by simp; omega
  rw [if_neg h1,e1]
  simp only [Bool.false_eq_true,if_false,bs]
  by_cases h0:zs9 a=0
  ·
   rw [h0]
   by_cases h2:mant a=0
   ·
    rw [decide_eq_true h2,if_pos h2]; rfl
   ·
    rw [decide_eq_false h2,if_neg h2]; rfl
  ·
   have e0:((zs9 a:Int) != 0)=true:=by simp; omega
   rw [e0,if_neg h0]; rfl
theorem z10p (a:UInt64):zcl a=some (clsF a):=by
 unfold zcl zdx clsF
 rw [z17r]
 simp only [bs]
 rw [z147 a]
 have hx:=z16s a
 show z4x (if ((zs9 a:Int)==0)=true then if decide (mant a=0)=true then some (.inl 1) else some (.inr ()) else some (.inr ())) (fun s5=>if ((zs9 a:Int)==0)=true then some 2 else if decide ((zs9 a:Int)<2047)=true then some 3 else if decide (mant a=0)=true then some 4 else some 5)=_
 by_cases h1:zs9 a=2047
 ·
  rw [h1]
  by_cases h2:mant a=0 <;> simp [h2,zn7,or_l]
 ·
  by_cases h0:zs9 a=0
  ·
   rw [h0]
   by_cases h2:mant a=0 <;> simp [h2,zn7,or_l]
  ·
   have e0:((zs9 a:Int)==0)=false:=by simp; omega
   have e2:decide ((zs9 a:Int)<2047)=true:=by simp; omega
   rw [e0,e2,if_neg h1,if_neg h0]; rfl
def zj2 (a:UInt64):UInt64:=if clsF a=5 then 9221120237041090560 else a
theorem zym (a:UInt64):zfp a=some (zj2 a):=by
 unfold zfp zj2
 rw [z104]
 simp only [bs]
 by_cases h:clsF a=5 <;> simp [h]
theorem zy1 (a:UInt64):zcg a=some (zj2 a):=by
 unfold zcg zj2
 rw [z10p]
 simp only [bs]
 by_cases h:clsF a=5 <;> simp [h]
theorem zys (a:UInt64):zfi a=some ⟨2,0,zj2 a,[]⟩:=by
 unfold zfi; rw [zym]; rfl
def okV (v:z03):Bool :=
 if v.Kind=1 then decide (v.Bits=0)&&decide (v.Text=[])
 else if v.Kind=2 then decide (v.Num=0)&&decide (v.Text=[])&&decide (zj2 v.Bits=v.Bits)
 else if v.Kind=3 then decide (v.Num=0)&&decide (v.Bits=0)&&decide (v.Text.length≤30)&&v.Text.all okb
 else false
theorem z10r (v:z03) (hb:v.Text.length≤9223372036854775807):zci v=some (if okV v then 0 else 8):=by
 obtain ⟨K,n,f,t⟩:=v
 unfold zci okV
 simp only at hb ⊢
 rw [zy1,zq8 t hb]
 by_cases h1:K=1
 ·
  subst h1
  by_cases hf:f=0 <;> by_cases ht:t=[] <;> simp [hf,ht]
 by_cases h2:K=2
 ·
  subst h2
  by_cases hn:n=0 <;> by_cases ht:t=[] <;> by_cases hc:zj2 f=f <;> simp [hn,ht,hc,bs]
 by_cases h3:K=3
 ·
  subst h3
  by_cases hl:t.length≤30
  ·
   have hl':(t.length:Int)≤30:=by omega
   by_cases hn:n=0 <;> by_cases hf:f=0 <;> cases t.all okb <;> simp [hn,hf,hl,hl',bs]
  ·
   have hl':¬ (t.length:Int)≤30:=by omega
   by_cases hn:n=0 <;> by_cases hf:f=0 <;> simp [hn,hf,hl,hl',bs]
 ·
  simp [h1,h2,h3]
theorem zrc (v:z03) (hb:v.Text.length≤9223372036854775807):zdg v=some (if okV v then 0 else 8):=by
 obtain ⟨K,n,f,t⟩:=v
 unfold zdg zgd okV
 simp only at hb ⊢
 rw [zys,z121 t hb]
 by_cases h1:K=1
 ·
  subst h1
  by_cases hf:f=0 <;> by_cases ht:t=[] <;> simp [hf,ht,bs]
 by_cases h2:K=2
 ·
  subst h2
  by_cases hc:zj2 f=f
  ·
   by_cases hn:n=0 <;> by_cases ht:t=[] <;> simp [hn,ht,hc,bs]
  ·
   have hc':¬ f=zj2 f:=fun e=>hc e.symm
   by_cases hn:n=0 <;> by_cases ht:t=[] <;> simp [hn,ht,hc,hc',bs]
 by_cases h3:K=3
 ·
  subst h3
  by_cases hl:30<(t.length:Int)
  ·
   have h4:¬ t.length≤30:=by omega
   rw [decide_eq_true hl,decide_eq_false h4]
   simp [bs]
  ·
   have h4:t.length≤30:=by omega
   rw [decide_eq_false hl,decide_eq_true h4]
   cases t.all okb <;> by_cases hn:n=0 <;> by_cases hf:f=0 <;> simp [hn,hf,bs]
 ·
  have e1:(K==1)=false:=by simpa using h1
  have e2:(K==2)=false:=by simpa using h2
  have e3:(K==3)=false:=by simpa using h3
  simp only [e1,e2,e3,Bool.false_eq_true,if_false,bs,h1,h2,h3]
  by_cases h0:K=0
  ·
   subst h0
   split <;> rfl
  ·
   simp [h0]
end
section
open Go
theorem zxs:∀ (n:Nat) (a:UInt64) (ds:List UInt8) (N:Nat),a.toNat=n→z35 N=ds++z35 n→(z35 N).length≤8→iter z5g (a,ds)=some (z35 N):=by
 intro n
 induction n using Nat.strongRecOn with
 | _ n ih =>
  intro a ds N ha hd hl
  by_cases h0:n=0
  ·
   subst h0
   refine z14 ?_
   unfold z5g
   rw [if_neg (by simp [UInt64.lt_iff_toNat_lt,ha])]
   rw [zde,List.append_nil] at hd
   rw [hd]
  ·
   have hF:z5g (a,ds)=some (.inr (a / 256,ds++[(a % 256).toUInt8])):=by
    unfold z5g
    rw [if_pos (by simp [UInt64.lt_iff_toNat_lt,ha]; omega)]
    have:ds.length≤8:=Nat.le_trans (zn0 hd) hl
    simp only [z0x (show (ds.length+[(a % 256).toUInt8].length) * 1≤140737488355328 by simp; omega),bs]
   rw [z17 hF]
   have hd2:=zr8 N n ds h0 hd
   refine ih (n / 256) (Nat.div_lt_self (by omega) (by omega)) _ _ N ?_ ?_ hl
   ·
    simp [ha]
   ·
    rw [hd2]
    congr 2
    congr 1
    apply UInt8.toNat_inj.1
    simp [ha]
theorem zqs (s:List UInt8) (hl:s.length≤8):∀ (i:Nat) (acc:List UInt8),i≤s.length→acc.length+i≤100→iter (z5i s) (acc,(i:Int) - 1)=some (acc++(s.take i).reverse)
 | 0,acc,_,_=>by
  refine z14 ?_
  unfold z5i
  rw [if_neg (by simp)]; simp
 | i+1,acc,hi,ha=>by
  have hlt:i<s.length:=by omega
  have e:((i+1:Nat):Int) - 1=(i:Int):=by omega
  have hF:z5i s (acc,((i+1:Nat):Int) - 1)=some (.inr (acc++[s[i]],(i:Int) - 1)):=by
   unfold z5i
   rw [e,if_pos (by simp)]
   simp only [z09 hlt,bs]
   rw [z0x (by simp; omega)]
   simp only [bs,z0s (show -9223372036854775808≤(i:Int) - 1 by omega) (by omega)]
  rw [z17 hF,zqs s hl i _ (by omega) (by simp; omega)]
  have:List.take (i+1) s=List.take i s++[s[i]]:=by rw [List.take_add_one,List.getElem?_eq_getElem hlt]; rfl
  rw [this]; simp only [List.reverse_append,List.reverse_cons,List.reverse_nil,List.nil_append,List.append_assoc]
theorem z7r (a:UInt64):z2v a=some (z1t a.toNat):=by
 unfold z2v z1t
 have h0:=UInt64.toNat_lt a
 by_cases h:a.toNat≤247
 ·
  have h':decide (a≤247)=true:=by simpa [UInt64.le_iff_toNat_le] using h
  rw [if_pos h',if_pos h]
  congr 2
 ·
  have h':¬ decide (a≤247)=true:=by simpa [UInt64.le_iff_toNat_le] using h
  rw [if_neg h',if_neg h]
  have hd:=zm9 a.toNat h0
  rw [zxs a.toNat a [] a.toNat rfl rfl hd]
  simp only [bs]
  rw [z0s (show -9223372036854775808≤((z35 a.toNat).length:Int) - 1 by omega) (by omega),z0s (show -9223372036854775808≤247+((z35 a.toNat).length:Int) by omega) (by omega)]
  rw [zqs _ hd _ _ (Nat.le_refl _) (by simp; omega)]
  simp only [bs,List.take_length]
  rw [show (247+((z35 a.toNat).length:Int))=((247+(z35 a.toNat).length:Nat):Int) by omega]
  congr 1
  show _::_=_
  congr 1
  apply UInt8.toNat_inj.1
  simp [UInt8.ofInt]
  omega
theorem zvr (a:UInt64) (k:Nat) (hk:k=(z35 a.toNat).length) (hk8:k≤8):iter (zc0 a (k:Int)) (zcj a.toNat 0,0)=some (zcj a.toNat k):=by
 refine z2f k (fun i=>(zcj a.toNat i,(i:Int))) (fun i hi=>?_) ?_
 ·
  have hf:=zt6 a.toNat i (by omega)
  unfold zc0
  rw [if_pos (by simp; omega)]
  simp only [z0s (show -9223372036854775808≤8 * (i:Int) by omega) (by omega),z2z (show (0:Int)≤8 * (i:Int) by omega),bs,z0s (show -9223372036854775808≤(k:Int) - (i:Int) by omega) (by omega),z0d (show i<9223372036854775807 by omega)]
  rw [z15h (by omega) (by omega)]
  simp only [bs]
  have:=zrr a.toNat i (by omega)
  rw [← this]
  have e1:((k:Int) - (i:Int)).toNat=(z35 a.toNat).length - i:=by omega
  have e2:(z86 a (8 * (i:Int)).toNat).toUInt8=UInt8.ofNat (a.toNat / 2 ^ (8 * i)):=by
   apply UInt8.toNat_inj.1
   have e3:(8 * (i:Int)).toNat=8 * i:=by omega
   rw [e3]
   simp only [UInt64.toNat_toUInt8,zdm,Nat.min_eq_left (show 8 * i≤64 by omega)]
   simp
  rw [e1,e2]
 ·
  unfold zc0
  rw [if_neg (by simp)]
theorem zgo (a:UInt64) (k:Nat) (hk:k<64):(z86 a k).toNat=a.toNat / 2 ^ k:=by rw [zdm,Nat.min_eq_left (by omega)]
set_option maxRecDepth 100000 in
theorem z123 (a:UInt64):zan a=some (z78 a.toNat:Int):=by
 unfold zan
 have h0:=UInt64.toNat_lt a
 have s1:∃ (y:UInt64) (n:Nat),(if decide (4294967296≤a) then some (z86 a 32,(32:Int)) else some (a,0))=some (y,(n:Int))∧y.toNat<2 ^ 32∧n≤32∧z78 a.toNat=n+z78 y.toNat:=by
  by_cases h:4294967296≤a.toNat
  ·
   refine ⟨z86 a 32,32, by rw [if_pos (by simpa [UInt64.le_iff_toNat_le] using h)]; rfl,?_, by omega,?_⟩
   ·
    rw [zgo a 32 (by omega)]; omega
   ·
    rw [zgo a 32 (by omega)]; exact zeg _ 32 (by omega)
  ·
   exact ⟨a,0, by rw [if_neg (by simpa [UInt64.le_iff_toNat_le] using h)]; rfl, by omega, by omega, by omega⟩
 obtain ⟨y,n,e1,hy,hn,hb⟩:=s1
 rw [e1]; simp only [bs]
 have s2:∃ (z:UInt64) (k:Nat),(if decide (65536≤y) then some (z86 y 16) >>= fun y5=>some (w64 ((n:Int)+16)) >>= fun y6=>some (y5,y6) else some (y,(n:Int)))=some (z,(k:Int))∧z.toNat<2 ^ 16∧k≤48∧z78 a.toNat=k+z78 z.toNat:=by
  by_cases h:65536≤y.toNat
  ·
   refine ⟨z86 y 16,n+16, by rw [if_pos (by simpa [UInt64.le_iff_toNat_le] using h)]; simp only [bs,z0s (show -9223372036854775808≤(n:Int)+16 by omega) (by omega)]; rfl,?_, by omega,?_⟩
   ·
    rw [zgo y 16 (by omega)]; omega
   ·
    rw [zgo y 16 (by omega),hb,zeg y.toNat 16 (by omega)]; omega
  ·
   exact ⟨y,n, by rw [if_neg (by simpa [UInt64.le_iff_toNat_le] using h)], by omega, by omega,hb⟩
 obtain ⟨z,k,e2,hz,hk,hb2⟩:=s2
 simp only [bs] at e2
 rw [e2]; simp only [bs]
 have s3:∃ (x:UInt64) (j:Nat),(if decide (256≤z) then some (w64 ((k:Int)+8)) >>= fun y9=>some (z86 z 8,y9) else some (z,(k:Int)))=some (x,(j:Int))∧x.toNat<256∧j≤56∧z78 a.toNat=j+z78 x.toNat:=by
  by_cases h:256≤z.toNat
  ·
   refine ⟨z86 z 8,k+8, by rw [if_pos (by simpa [UInt64.le_iff_toNat_le] using h)]; simp only [bs,z0s (show -9223372036854775808≤(k:Int)+8 by omega) (by omega)]; rfl,?_, by omega,?_⟩
   ·
    rw [zgo z 8 (by omega)]; omega
   ·
    rw [zgo z 8 (by omega),hb2,zeg z.toNat 8 (by omega)]; omega
  ·
   exact ⟨z,k, by rw [if_neg (by simpa [UInt64.le_iff_toNat_le] using h)], by omega, by omega,hb2⟩
 obtain ⟨x,j,e3,hx,hj,hb3⟩:=s3
 simp only [bs] at e3
 rw [e3]; simp only [bs]
 have ht:=z125 ⟨x.toNat,hx⟩
 have hx8:(x.toUInt8.toNat:Int)=((x.toNat:Nat):Int):=by simp; omega
 have hle:z78 x.toNat≤8:=zjd _ 8 (by omega)
 rw [hx8]
 have hlist:∀ (l:List UInt8),l=zyi.data.toList→idx l ((x.toNat:Nat):Int)=some (UInt8.ofNat (z78 x.toNat)):=fun l hl=>by
  subst hl
  unfold idx
  rw [if_pos (by omega)]
  simpa using ht
 refine Eq.trans (congrArg (fun o:Option UInt8=>o >>= fun x10=>some (w64 ((j:Int)+(x10.toNat:Int)))) (hlist _ ?hh)) ?_
 case hh=>rfl
 simp only [bs]
 have e4:((UInt8.ofNat (z78 x.toNat)).toNat:Int)=(z78 x.toNat:Int):=by simp; omega
 rw [e4,z0s (by omega) (by omega),hb3]
 simp
theorem z7w (a:UInt64):z6w a=some (z1t a.toNat):=by
 unfold z6w
 have h0:=UInt64.toNat_lt a
 by_cases h:a.toNat≤247
 ·
  have h':decide (a≤247)=true:=by simpa [UInt64.le_iff_toNat_le] using h
  unfold z1t
  rw [if_pos h',if_pos h]
  congr 2
 ·
  have h':¬ decide (a≤247)=true:=by simpa [UInt64.le_iff_toNat_le] using h
  rw [if_neg h',z123]
  have hd:=zm9 a.toNat h0
  have hl:=znm a.toNat
  have hb:z78 a.toNat≤64:=zjd _ 64 h0
  simp only [bs]
  rw [z0s (show -9223372036854775808≤(z78 a.toNat:Int)+7 by omega) (by omega)]
  have e1:Int.tdiv ((z78 a.toNat:Int)+7) 8=((z35 a.toNat).length:Int):=by
   rw [hl, show ((z78 a.toNat:Int)+7)=((z78 a.toNat+7:Nat):Int) by omega]
   rfl
  rw [e1,z0s (show -9223372036854775808≤((z35 a.toNat).length:Int) by omega) (by omega),z0d (by omega),zhn (by omega) (by omega)]
  simp only [bs]
  rw [show (0:Int)=((0:Nat):Int) from rfl,z09 (by simp)]
  simp only [bs,Int.toNat_natCast]
  rw [z0s (show -9223372036854775808≤247+((z35 a.toNat).length:Int) by omega) (by omega)]
  have e2:UInt8.ofInt (247+((z35 a.toNat).length:Int))=UInt8.ofNat (247+(z35 a.toNat).length):=by
   apply UInt8.toNat_inj.1
   rw [show (247+((z35 a.toNat).length:Int))=((247+(z35 a.toNat).length:Nat):Int) by omega]
   simp [UInt8.ofInt]
   omega
  have:=zq6 a.toNat
  rw [e2,this]
  have:=zvr a (z35 a.toNat).length rfl hd
  rw [show (0:Int)=((0:Nat):Int) from rfl] at this
  rw [this]
  simp only [bs]
  rw [zrq a.toNat (by omega)]
end
section
open Go
theorem okV3 {v:z03} (h:okV v=true) (k:v.Kind=3):v.Num=0∧v.Bits=0∧v.Text.length≤30∧v.Text.all okb=true:=by
 unfold okV at h; rw [if_neg (by rw [k]; decide),if_neg (by rw [k]; decide),if_pos k] at h
 simp only [Bool.and_eq_true,decide_eq_true_eq] at h
 exact ⟨h.1.1.1,h.1.1.2,h.1.2,h.2⟩
theorem zox {v:z03} (h:okV v=true):v.Kind=1∨v.Kind=2∨v.Kind=3:=by
 by_cases h1:v.Kind=1
 ·
  exact .inl h1
 by_cases h2:v.Kind=2
 ·
  exact .inr (.inl h2)
 by_cases h3:v.Kind=3
 ·
  exact .inr (.inr h3)
 ·
  unfold okV at h; simp [h1,h2,h3] at h
theorem z12h (x:UInt64):(x ^^^ 18446744073709551615).toNat=18446744073709551615 - x.toNat:=by
 have e:x ^^^ 18446744073709551615 = ~~~x:=by
  apply UInt64.eq_of_toBitVec_eq
  rw [UInt64.toBitVec_xor,UInt64.toBitVec_not]
  exact BitVec.xor_allOnes
 rw [e,UInt64.toNat_not]; rfl
theorem zdj (n:Int):(UInt64.ofInt n).toNat=(n % 18446744073709551616).toNat:=by
 simp [UInt64.ofInt]; omega
theorem z1av (n:Int) (h:inI n):((zpi (UInt64.ofInt n) 1) ^^^ (UInt64.ofInt (shrI n 63))).toNat=zig n:=by
 obtain ⟨h1,h2⟩:=h
 have es:(zpi (UInt64.ofInt n) 1).toNat=(n % 18446744073709551616).toNat * 2 % 18446744073709551616:=by
  rw [zly,zdj]; rfl
 by_cases h0:0≤n
 ·
  have e:shrI n 63=0:=by
   unfold shrI
   rw [show (2:Int) ^ (min 63 64)=9223372036854775808 from rfl,Int.fdiv_eq_ediv_of_nonneg _ (by omega)]; omega
  rw [e, show UInt64.ofInt 0=0 from rfl,UInt64.xor_zero,es]
  unfold zig; rw [if_pos h0]; omega
 ·
  have e:shrI n 63 = -1:=by
   unfold shrI
   rw [show (2:Int) ^ (min 63 64)=9223372036854775808 from rfl,Int.fdiv_eq_ediv_of_nonneg _ (by omega)]; omega
  rw [e, show UInt64.ofInt (-1)=18446744073709551615 from rfl,z12h,es]
  unfold zig; rw [if_neg h0]; omega
theorem zy9 (n:Int) (h:inI n):zfh n=some (z1t (zig n)):=by
 unfold zfh
 rw [z7w,z1av n h]; rfl
theorem zrx (s:List UInt8) (h:s.length≤10000):zda s=some (z1t s.length++s,0):=by
 unfold zda
 rw [if_neg (by simp; omega),z7w]
 have e:(UInt64.ofInt (s.length:Int)).toNat=s.length:=by rw [zdj]; omega
 have:=z13 s.length (by omega)
 simp only [bs,e]
 rw [z0x (by omega)]; rfl
def be8 (b:UInt64):List UInt8:=[(z86 b 56).toUInt8,(z86 b 48).toUInt8,(z86 b 40).toUInt8,(z86 b 32).toUInt8,(z86 b 24).toUInt8,(z86 b 16).toUInt8,(z86 b 8).toUInt8,(z86 b 0).toUInt8]
theorem zzy (v:z03) (l:List UInt8) (k:Nat) (hl:l.length≤100) (hk:k≤56):z8x v (l,(k:Int))=some (.inr (l++[(z86 v.Bits k).toUInt8],(k:Int) - 8)):=by
 unfold z8x
 rw [if_pos (by simp)]
 simp only
 rw [z2z (by omega)]
 simp only [bs,Int.toNat_natCast]
 rw [z0x (by simp; omega)]
 simp only [bs]
 rw [z0s (by omega) (by omega)]
theorem z12b (v:z03):iter (z8x v) ([v.Kind],56)=some (v.Kind::be8 v.Bits):=by
 have hs:=fun l k h1 h2=>zzy v l k h1 h2
 rw [show (56:Int)=((56:Nat):Int) from rfl,z17 (hs [v.Kind] 56 (by simp) (by omega))]
 simp only [List.cons_append,List.nil_append, show ((56:Nat):Int) - 8=((48:Nat):Int) from rfl]
 rw [z17 (hs _ 48 (by simp) (by omega))]
 simp only [List.cons_append,List.nil_append, show ((48:Nat):Int) - 8=((40:Nat):Int) from rfl]
 rw [z17 (hs _ 40 (by simp) (by omega))]
 simp only [List.cons_append,List.nil_append, show ((40:Nat):Int) - 8=((32:Nat):Int) from rfl]
 rw [z17 (hs _ 32 (by simp) (by omega))]
 simp only [List.cons_append,List.nil_append, show ((32:Nat):Int) - 8=((24:Nat):Int) from rfl]
 rw [z17 (hs _ 24 (by simp) (by omega))]
 simp only [List.cons_append,List.nil_append, show ((24:Nat):Int) - 8=((16:Nat):Int) from rfl]
 rw [z17 (hs _ 16 (by simp) (by omega))]
 simp only [List.cons_append,List.nil_append, show ((16:Nat):Int) - 8=((8:Nat):Int) from rfl]
 rw [z17 (hs _ 8 (by simp) (by omega))]
 simp only [List.cons_append,List.nil_append, show ((8:Nat):Int) - 8=((0:Nat):Int) from rfl]
 rw [z17 (hs _ 0 (by simp) (by omega))]
 simp only [List.cons_append,List.nil_append]
 refine z14 ?_
 unfold z8x
 rw [if_neg (by simp)]; rfl
def encV (v:z03):List UInt8:=v.Kind::(if v.Kind=1 then z1t (zig v.Num) else if v.Kind=2 then be8 v.Bits else z1t v.Text.length++v.Text)
theorem ztv {n:Int} (h:inI n):zig n<18446744073709551616:=z17a h.1 h.2
theorem z18w (v:z03) (hI:inI v.Num) (hl:v.Text.length≤9223372036854775807):zef v=some (if okV v then (encV v,0) else ([],8)):=by
 unfold zef
 rw [zrc v hl]
 cases hv:okV v
 ·
  rfl
 simp only [bs,if_true]
 rw [if_neg (by simp)]
 unfold encV
 rcases zox hv with k | k | k
 ·
  have h1:=z13 (zig v.Num) (ztv hI)
  rw [k,zy9 v.Num hI]
  simp only [bs]
  rw [if_pos (by decide),z0x (by simp; omega)]; simp [bs]
 ·
  rw [k,if_neg (by decide),if_pos (by decide),if_neg (by decide),if_pos rfl,← k,z12b]; rfl
 ·
  have h3:=(okV3 hv k).2.2.1
  have h1:=z13 v.Text.length (by omega)
  rw [k,zrx v.Text (by omega)]
  rw [if_neg (by decide),if_neg (by decide),if_pos (by decide),if_neg (by decide),if_neg (by decide),z2z (by omega)]
  simp only [bs]
  rw [z0x (by simp; omega)]; rfl
theorem zs1 (n:Int) (h:inI n):zbd n=some (z1t (zig n)):=by
 obtain ⟨h1,h2⟩:=h
 unfold zbd
 by_cases h0:0≤n
 ·
  rw [if_pos (by simpa using h0),z7r]
  have e:(2 * UInt64.ofInt n).toNat=zig n:=by
   rw [UInt64.toNat_mul,zdj, show (2:UInt64).toNat=2 from rfl]
   unfold zig; rw [if_pos h0]; omega
  rw [e]; rfl
 ·
  rw [if_neg (by simpa using h0),z7r]
  have e:((2 * UInt64.ofInt (w64 (0 - (w64 (n+1)))))+1).toNat=zig n:=by
   rw [z0s (x:=n+1) (by omega) (by omega),z0s (by omega) (by omega),UInt64.toNat_add,UInt64.toNat_mul,zdj, show (2:UInt64).toNat=2 from rfl, show (1:UInt64).toNat=1 from rfl]
   unfold zig; rw [if_neg h0]; omega
  rw [e]; rfl
theorem znk (s:List UInt8) (h:s.length≤100000):z8y s=some (z1t s.length++s):=by
 unfold z8y
 rw [z7r]
 have e:(UInt64.ofInt (s.length:Int)).toNat=s.length:=by rw [zdj]; omega
 have:=z13 s.length (by omega)
 rw [e]
 simp only [bs]
 rw [z0x (by omega)]; rfl
theorem zy6 (v:z03) (l:List UInt8) (k:Nat) (hl:l.length≤100) (hk:k≤7):z5z v (l,(k:Int))=some (.inr (l++[(z86 v.Bits (8 * k)).toUInt8],(k:Int) - 1)):=by
 unfold z5z
 rw [if_pos (by simp)]
 simp only
 have e:w64 (8 * (k:Int))=((8 * k:Nat):Int):=by rw [z0s (by omega) (by omega)]; omega
 rw [e,z2z (by omega)]
 simp only [bs,Int.toNat_natCast]
 rw [z0x (by simp; omega)]
 simp only [bs]
 rw [z0s (by omega) (by omega)]
theorem z11p (v:z03):iter (z5z v) ([v.Kind],7)=some (v.Kind::be8 v.Bits):=by
 have hs:=fun l k h1 h2=>zy6 v l k h1 h2
 rw [show (7:Int)=((7:Nat):Int) from rfl,z17 (hs [v.Kind] 7 (by simp) (by omega))]
 simp only [List.cons_append,List.nil_append, show ((7:Nat):Int) - 1=((6:Nat):Int) from rfl]
 rw [z17 (hs _ 6 (by simp) (by omega))]
 simp only [List.cons_append,List.nil_append, show ((6:Nat):Int) - 1=((5:Nat):Int) from rfl]
 rw [z17 (hs _ 5 (by simp) (by omega))]
 simp only [List.cons_append,List.nil_append, show ((5:Nat):Int) - 1=((4:Nat):Int) from rfl]
 rw [z17 (hs _ 4 (by simp) (by omega))]
 simp only [List.cons_append,List.nil_append, show ((4:Nat):Int) - 1=((3:Nat):Int) from rfl]
 rw [z17 (hs _ 3 (by simp) (by omega))]
 simp only [List.cons_append,List.nil_append, show ((3:Nat):Int) - 1=((2:Nat):Int) from rfl]
 rw [z17 (hs _ 2 (by simp) (by omega))]
 simp only [List.cons_append,List.nil_append, show ((2:Nat):Int) - 1=((1:Nat):Int) from rfl]
 rw [z17 (hs _ 1 (by simp) (by omega))]
 simp only [List.cons_append,List.nil_append, show ((1:Nat):Int) - 1=((0:Nat):Int) from rfl]
 rw [z17 (hs _ 0 (by simp) (by omega))]
 simp only [List.cons_append,List.nil_append]
 refine z14 ?_
 unfold z5z
 rw [if_neg (by simp)]; rfl
theorem zz4 (v:z03) (hI:inI v.Num) (hv:okV v=true):zcu v=some (encV v):=by
 unfold encV zcu
 rcases zox hv with k | k | k
 ·
  have h1:=z13 (zig v.Num) (ztv hI)
  rw [k,zs1 v.Num hI]
  simp only [bs]
  rw [if_pos (by decide),z0x (by simp; omega)]; simp [bs]
 ·
  rw [k,if_neg (by decide),if_pos (by decide),if_neg (by decide),if_pos rfl,← k,z11p]; rfl
 ·
  have h3:=(okV3 hv k).2.2.1
  have h1:=z13 v.Text.length (by omega)
  rw [k,znk v.Text (by omega)]
  rw [if_neg (by decide),if_neg (by decide),if_neg (by decide),if_neg (by decide),z2z (by omega)]
  simp only [bs]
  rw [z0x (by simp; omega)]; rfl
end
section
open Go
theorem z117 (a b:V3):∀ (n i:Nat),32 - i=n→i≤32→∃ r:Sum Int Unit,iter (z7e a b) (i:Int)=some r∧(z4x (some r) (fun _=>some 0)=some (Lib.compareBytes (a.toList.drop i) (b.toList.drop i))):=by
 intro n
 induction n with
 | zero =>
  intro i hn hi
  have:i=32:=by omega
  subst this
  refine ⟨.inr (),z14 ?_,?_⟩
  ·
   unfold z7e; rw [if_neg (by simp)]
  ·
   rw [List.drop_eq_nil_of_le (by simp),List.drop_eq_nil_of_le (by simp)]; rfl
 | succ n ih =>
  intro i hn hi
  have hlt:i<32:=by omega
  have da:a.toList.drop i=a[i]::a.toList.drop (i+1):=by rw [List.drop_eq_getElem_cons (by simpa using hlt)]; simp
  have db:b.toList.drop i=b[i]::b.toList.drop (i+1):=by rw [List.drop_eq_getElem_cons (by simpa using hlt)]; simp
  have hF:z7e a b (i:Int)=if decide (a[i]<b[i]) then some (.inl (.inl (-1))) else if decide (b[i]<a[i]) then some (.inl (.inl 1)) else some (.inr ((i+1:Nat):Int)):=by
   unfold z7e
   rw [if_pos (by simp; omega)]
   simp only [z8o hlt,bs,z0d (show i<9223372036854775807 by omega)]
  rw [da,db,Lib.compareBytes]
  by_cases h1:a[i]<b[i]
  ·
   rw [decide_eq_true h1] at hF
   exact ⟨_,z14 hF, by rw [if_pos h1]; rfl⟩
  ·
   rw [decide_eq_false h1] at hF
   by_cases h2:b[i]<a[i]
   ·
    rw [decide_eq_true h2] at hF
    exact ⟨_,z14 hF, by rw [if_neg h1,if_pos h2]; rfl⟩
   ·
    rw [decide_eq_false h2] at hF
    obtain ⟨r,k1,k2⟩:=ih (i+1) (by omega) (by omega)
    exact ⟨r, by rw [z17 hF]; exact k1, by rw [if_neg h1,if_neg h2]; exact k2⟩
theorem zqp (a b:V3):z5s a b=some (Lib.compareBytes a.toList b.toList):=by
 obtain ⟨r,h1,h2⟩:=z117 a b 32 0 rfl (by omega)
 unfold z5s
 rw [show (0:Int)=((0:Nat):Int) from rfl,h1]
 simpa using h2
theorem zsi (a b:V3):z8c a b=some (Lib.compareBytes a.toList b.toList):=by
 unfold z8c zfo; rfl
def z74:List V3→Bool
 | a::b::l=>!decide (0≤Lib.compareBytes a.toList b.toList)&&z74 (b::l)
 | _=>true
theorem zlj (l:List V3) (hl:l.length≤9223372036854775807):∀ (n i:Nat),l.length - i=n→1≤i→i≤l.length→iter (z4b l) (i:Int)=some (if z74 (l.drop (i - 1)) then .inr () else .inl false):=by
 intro n
 induction n with
 | zero =>
  intro i hn h1 hi
  have:i=l.length:=by omega
  refine z14 ?_
  have e:l.drop (i - 1)=[l[i - 1]'(by omega)]:=by
   rw [List.drop_eq_getElem_cons (by omega),List.drop_eq_nil_of_le (by omega)]
  rw [e]
  unfold z4b
  rw [if_neg (by simp; omega)]
  simp [z74]
 | succ n ih =>
  intro i hn h1 hi
  have hlt:i<l.length:=by omega
  have e:l.drop (i - 1)=l[i - 1]::l[i]::l.drop (i+1):=by
   rw [List.drop_eq_getElem_cons (by omega), show i - 1+1=i by omega,List.drop_eq_getElem_cons hlt]
  have e':l.drop (i+1 - 1)=l[i]::l.drop (i+1):=by rw [Nat.add_sub_cancel,List.drop_eq_getElem_cons hlt]
  have hF:z4b l (i:Int)=if decide (0≤Lib.compareBytes (l[i - 1]).toList (l[i]).toList) then some (.inl (.inl false)) else some (.inr ((i+1:Nat):Int)):=by
   unfold z4b
   rw [if_pos (by simp; omega),z0s (by omega) (by omega), show ((i:Int) - 1)=((i - 1:Nat):Int) by omega]
   simp only [z09 hlt,z09 (show i - 1<l.length by omega),bs,zqp,z0d (show i<9223372036854775807 by omega)]
  rw [e,z74]
  cases hc:decide (0≤Lib.compareBytes (l[i - 1]).toList (l[i]).toList) with
  | true=>rw [hc] at hF; rw [z14 hF]; rfl
  | false =>
   rw [hc] at hF
   rw [z17 hF,ih (i+1) (by omega) (by omega) (by omega),e']; simp
theorem zqm (l:List V3) (hl:l.length≤9223372036854775807):z95 l=some (z74 l):=by
 unfold z95
 cases l with
 | nil =>
  rw [z14 (b:=.inr ()) (by unfold z4b; rw [if_neg (by simp)])]; rfl
 | cons x l =>
  have:=zlj (x::l) hl _ 1 rfl (by omega) (by simp)
  rw [show (1:Int)=((1:Nat):Int) from rfl,this]
  simp only [Nat.sub_self,List.drop_zero]
  cases z74 (x::l) <;> rfl
theorem zq4 (l:List V3) (hl:l.length≤9223372036854775806):∀ (n i:Nat),l.length - i=n→i≤l.length→∃ r,iter (z0k l l) ((i:Int),(i:Int))=some r∧(z74 (l.drop i)=true→∃ c,r=.inr c)∧(z74 (l.drop i)=false→∃ (k:Nat) (c:Int),r=.inl ((k:Int),c)):=by
 intro n
 induction n with
 | zero =>
  intro i hn hi
  have:i=l.length:=by omega
  refine ⟨.inr (i:Int),z14 ?_, fun _=>⟨_,rfl⟩, fun h=>?_⟩
  ·
   unfold z0k
   rw [if_neg (by simp; omega)]
  ·
   rw [List.drop_eq_nil_of_le (by omega)] at h; simp [z74] at h
 | succ n ih =>
  intro i hn hi
  have hlt:i<l.length:=by omega
  by_cases h2:i+1<l.length
  ·
   have e:l.drop i=l[i]::l[i+1]::l.drop (i+2):=by rw [List.drop_eq_getElem_cons hlt,List.drop_eq_getElem_cons h2]
   have e':l.drop (i+1)=l[i+1]::l.drop (i+2):=by rw [List.drop_eq_getElem_cons h2]
   have hF:z0k l l ((i:Int),(i:Int))=if decide (0≤Lib.compareBytes (l[i]).toList (l[i+1]).toList) then some (.inl (.inl ((i:Int),((i+1:Nat):Int)))) else some (.inr (((i+1:Nat):Int),((i+1:Nat):Int))):=by
    unfold z0k zd1
    rw [if_pos (by simp; omega)]
    simp only [z09 hlt,bs,z0d (show i<9223372036854775807 by omega)]
    rw [if_pos (by simp; omega),z0s (by omega) (by omega), show ((i+1:Nat):Int) - 1=(i:Int) by omega]
    simp only [z09 hlt,z09 h2,bs,zsi]
   rw [e,z74]
   cases hc:decide (0≤Lib.compareBytes (l[i]).toList (l[i+1]).toList) with
   | true =>
    rw [hc] at hF
    exact ⟨_,z14 hF, fun h=>by simp at h, fun _=>⟨i,_,rfl⟩⟩
   | false =>
    rw [hc] at hF
    obtain ⟨r,k1,k2,k3⟩:=ih (i+1) (by omega) (by omega)
    rw [e'] at k2 k3
    exact ⟨r, by rw [z17 hF]; exact k1, fun h=>k2 (by simpa using h), fun h=>k3 (by simpa using h)⟩
  ·
   have e:l.drop i=[l[i]]:=by rw [List.drop_eq_getElem_cons hlt,List.drop_eq_nil_of_le (by omega)]
   have hF:z0k l l ((i:Int),(i:Int))=some (.inr (((i+1:Nat):Int),((i+1:Nat):Int))):=by
    unfold z0k zd1
    rw [if_pos (by simp; omega)]
    simp only [z09 hlt,bs,z0d (show i<9223372036854775807 by omega)]
    rw [if_neg (by simp; omega)]
    simp only [bs]; rfl
   obtain ⟨r,k1,k2,k3⟩:=ih (i+1) (by omega) (by omega)
   rw [List.drop_eq_nil_of_le (by omega)] at k2 k3
   exact ⟨r, by rw [z17 hF]; exact k1, fun _=>k2 rfl, fun h=>by rw [e] at h; simp [z74] at h⟩
theorem zvf (l:List V3) (hl:l.length≤9223372036854775806):zfg l=some (z74 l):=by
 obtain ⟨r,k1,k2,k3⟩:=zq4 l hl _ 0 rfl (by omega)
 unfold zfg z23 z2l
 rw [show ((0:Int),(0:Int))=(((0:Nat):Int),((0:Nat):Int)) from rfl,k1]
 simp only [List.drop_zero] at k2 k3
 cases h:z74 l with
 | true=>obtain ⟨c,rfl⟩:=k2 h; rfl
 | false =>
  obtain ⟨k,c,rfl⟩:=k3 h
  simp only [or_l,bs]
  rw [decide_eq_true (by omega)]; rfl
def znh (l:List V3):List UInt8:=l.flatMap Vector.toList
theorem zjc (l:List V3):(znh l).length=32 * l.length:=by
 induction l with
 | nil=>rfl
 | cons x l ih=>unfold znh at ih ⊢; rw [List.flatMap_cons,List.length_append,ih]; simp; omega
theorem zqa (l:List V3) (i:Nat) (hi:i<l.length):znh (l.take (i+1))=znh (l.take i)++(l[i]).toList:=by
 rw [List.take_add_one,List.getElem?_eq_getElem hi]; unfold znh; rw [List.flatMap_append,Option.toList_some,List.flatMap_cons,List.flatMap_nil,List.append_nil]
theorem z152 (l:List V3) (h:l.length≤1000) (s:List UInt8) (hs:s.length≤9):iter (z6v l) (s,0)=some (s++znh l):=by
 have:=z2f (F:=z6v l) (b:=s++znh l) l.length (fun i=>(s++znh (l.take i),(i:Int))) (fun i hi=>?_) ?_
 ·
  simpa [znh] using this
 ·
  unfold z6v
  have hf:=zjc (l.take i)
  rw [if_pos (by simp; omega)]
  simp only [z09 hi,bs]
  rw [z0x (by simp at hf ⊢; omega)]
  simp only [bs,z0d (show i<9223372036854775807 by omega),zqa l i hi,List.append_assoc]
 ·
  unfold z6v
  rw [if_neg (by simp)]
  simp
theorem z19e (l:List V3) (h:l.length≤1000) (s:List UInt8) (hs:s.length≤9):iter (zdi l) (s,0)=some (s++znh l):=by
 have:=z2f (F:=zdi l) (b:=s++znh l) l.length (fun i=>(s++znh (l.take i),(i:Int))) (fun i hi=>?_) ?_
 ·
  simpa [znh] using this
 ·
  unfold zdi
  have hf:=zjc (l.take i)
  rw [if_pos (by simp; omega)]
  simp only [z09 hi,bs]
  rw [z0x (by simp at hf ⊢; omega)]
  simp only [bs,z0d (show i<9223372036854775807 by omega),zqa l i hi,List.append_assoc]
 ·
  unfold zdi
  rw [if_neg (by simp)]
  simp
theorem zm3 {n:Nat} (h:n<18446744073709551616):(UInt64.ofInt (n:Int)).toNat=n:=by
 simp [UInt64.ofInt]; omega
theorem z124 (l:List V3) (h:l.length≤1000):zdn l=some (z1t l.length++znh l):=by
 unfold zdn
 have hn:=z13 l.length (by omega)
 rw [z7r,zm3 (by omega)]
 simp only [bs]
 rw [z152 l h _ (by omega)]; rfl
theorem z155 (l:List V3) (h:l.length≤60) (hi:z74 l=true):zl9 l=some (z1t l.length++znh l,0):=by
 unfold zl9
 have hn:=z13 l.length (by omega)
 rw [if_neg (by simp; omega),zvf l (by omega),hi,z7w,zm3 (by omega)]
 simp only [bs,Bool.not_true,Bool.false_eq_true,if_false]
 rw [z19e l (by omega) _ (by omega)]; rfl
end
section
open Go
def nk:List UInt8→Nat
 | []=>0
 | a::l=>a.toNat * 256 ^ l.length+nk l
theorem z16z:∀ l:List UInt8,nk l<256 ^ l.length
 | []=>by simp [nk]
 | a::l=>by
  have ih:=z16z l
  have ha:=UInt8.toNat_lt a
  simp only [nk,List.length_cons,Nat.pow_succ]
  have h1:(a.toNat+1) * 256 ^ l.length≤256 * 256 ^ l.length:=Nat.mul_le_mul_right _ (by omega)
  rw [Nat.add_mul,Nat.one_mul] at h1
  omega
theorem z100:∀ a b:List UInt8,a.length=b.length→Lib.compareBytes a b=(if nk a<nk b then -1 else if nk b<nk a then 1 else 0)∧(nk a=nk b→a=b)
 | [],[],_=>by simp [Lib.compareBytes,nk]
 | [],_::_,h=>by simp at h
 | _::_,[],h=>by simp at h
 | a::x,b::y,h=>by
  have hl:x.length=y.length:=by simpa using h
  obtain ⟨i1,i2⟩:=z100 x y hl
  have lx:=z16z x
  have ly:=z16z y
  simp only [Lib.compareBytes,nk,hl] at *
  have e:∀ u v:UInt8,u.toNat<v.toNat→u.toNat * 256 ^ y.length+256 ^ y.length≤v.toNat * 256 ^ y.length:=fun u v huv=>by
   have:=Nat.mul_le_mul_right (256 ^ y.length) (show u.toNat+1≤v.toNat from huv)
   rwa [Nat.add_mul,Nat.one_mul] at this
  by_cases h1:a<b
  ·
   have h1':a.toNat<b.toNat:=UInt8.lt_iff_toNat_lt.1 h1
   have:=e a b h1'
   rw [if_pos h1,if_pos (by omega)]
   exact ⟨rfl, fun h=>by omega⟩
  ·
   by_cases h2:b<a
   ·
    have h2':b.toNat<a.toNat:=UInt8.lt_iff_toNat_lt.1 h2
    have:=e b a h2'
    rw [if_neg h1,if_pos h2,if_neg (by omega),if_pos (by omega)]
    exact ⟨rfl, fun h=>by omega⟩
   ·
    have h3:a=b:=UInt8.toNat_inj.1 (by rw [UInt8.lt_iff_toNat_lt] at h1 h2; omega)
    subst h3
    rw [if_neg h1,if_neg h1,i1]
    refine ⟨?_, fun h=>by rw [i2 (by omega)]⟩
    by_cases c1:nk x<nk y
    ·
     rw [if_pos c1,if_pos (by omega)]
    ·
     by_cases c2:nk y<nk x
     ·
      rw [if_neg c1,if_pos c2,if_neg (by omega),if_pos (by omega)]
     ·
      rw [if_neg c1,if_neg c2,if_neg (by omega),if_neg (by omega)]
def kd (d:V3):Nat:=nk d.toList
theorem zvh (a b:V3):Lib.compareBytes a.toList b.toList=if kd a<kd b then -1 else if kd b<kd a then 1 else 0:=(z100 a.toList b.toList (by simp)).1
theorem zk2 {a b:V3} (h:kd a=kd b):a=b:=by
 have:=(z100 a.toList b.toList (by simp)).2 h
 exact Vector.toList_inj.1 this
theorem zpu (a b:V3):z8c a b=some (if kd a<kd b then -1 else if kd b<kd a then 1 else 0):=by rw [zsi,zvh]
theorem zpg (a b:V3):z5s a b=some (if kd a<kd b then -1 else if kd b<kd a then 1 else 0):=by rw [zqp,zvh]
theorem znn (a b:V3):decide ((if kd a<kd b then (-1:Int) else if kd b<kd a then 1 else 0)<0)=decide (kd a<kd b):=by
 by_cases h:kd a<kd b
 ·
  simp [h]
 ·
  by_cases h2:kd b<kd a <;> simp [h,h2]
theorem z13s (a b:V3):decide (0≤(if kd a<kd b then (-1:Int) else if kd b<kd a then 1 else 0))=decide (kd b≤kd a):=by
 by_cases h:kd a<kd b
 ·
  have:¬ kd b≤kd a:=by omega
  simp [h,this]
 ·
  have h3:kd b≤kd a:=by omega
  by_cases h2:kd b<kd a <;> simp [h,h2,h3]
theorem z19d (a b:V3):((if kd a<kd b then (-1:Int) else if kd b<kd a then 1 else 0)==0)=decide (a=b):=by
 by_cases h:kd a<kd b
 ·
  have:a≠b:=fun e=>by rw [e] at h; omega
  simp [h,this]
 ·
  by_cases h2:kd b<kd a
  ·
   have:a≠b:=fun e=>by rw [e] at h2; omega
   simp [h,h2,this]
  ·
   have:a=b:=zk2 (by omega)
   simp [h,h2,this]
theorem zu8:∀ l:List V3,z74 l=true↔∀ i (h:i+1<l.length),kd (l[i]'(by omega))<kd l[i+1]
 | []=>by simp [z74]
 | [a]=>by simp [z74]
 | a::b::l=>by
  have ih:=zu8 (b::l)
  rw [z74,Bool.and_eq_true,ih,zvh,z13s]
  constructor
  ·
   rintro ⟨h1,h2⟩ i hi
   cases i with
   | zero=>simpa using h1
   | succ i=>exact h2 i (by simpa using hi)
  ·
   intro h
   refine ⟨?_, fun i hi=>h (i+1) (by simpa using hi)⟩
   have:=h 0 (by simp)
   simpa using this
theorem z7x:∀ l:List V3,z74 l=true↔l.Pairwise (fun a b=>kd a<kd b)
 | []=>by simp [z74]
 | [a]=>by simp [z74]
 | a::b::l=>by
  have ih:=z7x (b::l)
  rw [z74,Bool.and_eq_true,ih,zvh,z13s]
  constructor
  ·
   rintro ⟨h1,h2⟩
   have h1':kd a<kd b:=by simpa using h1
   refine List.pairwise_cons.2 ⟨fun c hc=>?_,h2⟩
   rcases List.mem_cons.1 hc with rfl | hc
   ·
    exact h1'
   ·
    have:=(List.pairwise_cons.1 h2).1 c hc; omega
  ·
   intro h
   obtain ⟨h1,h2⟩:=List.pairwise_cons.1 h
   have:=h1 b (by simp)
   exact ⟨by simp; omega,h2⟩
theorem z10d (l:List V3) (hl:l.length≤9223372036854775807):∃ b,z10 l=some b∧(b=true↔∀ i (h:i+1<l.length),kd (l[i]'(by omega))≤kd l[i+1]):=by
 have key:∀ n,n<l.length→∃ r:Sum Bool Unit,iter (z0p l) (n:Int)=some r∧((r=.inr ()∧∀ i (h:i+1<l.length),i+1≤n→kd (l[i]'(by omega))≤kd l[i+1])∨(r=.inl false∧∃ i,∃ h:i+1<l.length,¬ kd (l[i]'(by omega))≤kd l[i+1])):=by
  intro n
  induction n with
  | zero =>
   intro h
   refine ⟨_,z14 ?_,.inl ⟨rfl, fun i _ h=>by omega⟩⟩
   unfold z0p
   rw [if_neg (by simp)]
  | succ n ih =>
   intro h
   have hF:z0p l ((n+1:Nat):Int)=if decide (kd l[n+1]<kd l[n]) then some (.inl (.inl false)) else some (.inr (n:Int)):=by
    unfold z0p
    rw [if_pos (by simp <;> omega),z09 h,z0s (by omega) (by omega), show (((n+1:Nat):Int) - 1)=(n:Int) by omega,z09 (by omega)]
    simp only [bS]
    rw [zpu]
    simp only [bS]
    rw [znn]
   by_cases hc:kd l[n+1]<kd l[n]
   ·
    rw [decide_eq_true hc,if_pos rfl] at hF
    exact ⟨_,z14 hF,.inr ⟨rfl,n,h, by omega⟩⟩
   ·
    rw [decide_eq_false hc,if_neg (by simp)] at hF
    obtain ⟨r,h1,h2⟩:=ih (by omega)
    refine ⟨r, by rw [z17 hF]; exact h1,?_⟩
    rcases h2 with ⟨h2,h3⟩ | h2
    ·
     refine .inl ⟨h2, fun i hi hn=>?_⟩
     by_cases hin:i=n
     ·
      subst hin; omega
     ·
      exact h3 i hi (by omega)
    ·
     exact .inr h2
 unfold z10
 simp only [bS]
 by_cases h0:l.length=0
 ·
  refine ⟨true,?_, by simp; intro i hi; omega⟩
  rw [h0,z0s (by omega) (by omega),z14 (b:=.inr ())]
  ·
   rfl
  ·
   unfold z0p
   rw [if_neg (by simp)]
 ·
  obtain ⟨r,h1,h2⟩:=key (l.length - 1) (by omega)
  rw [z0s (by omega) (by omega), show ((l.length:Int) - 1)=((l.length - 1:Nat):Int) by omega,h1]
  rcases h2 with ⟨rfl,h3⟩ | ⟨rfl,i,hi,h3⟩
  ·
   exact ⟨true,rfl, by simp; exact fun i hi=>h3 i hi (by omega)⟩
  ·
   exact ⟨false,rfl, by simp; exact ⟨i,hi, by omega⟩⟩
theorem zp0 {k n j:Nat} (h:j<n):subi k n (j:Int)=some (k+j):=by unfold subi; rw [if_pos (by omega)]; simp
theorem zti {α:Type} (b:List α) (k n:Nat) (x:α) (h:k+n≤b.length):(clr b k n x).length=b.length:=by
 unfold clr
 simp only [List.length_append,List.length_take,List.length_replicate,List.length_drop]; omega
theorem zta (l:List V3) (s:Nat) (h1:1≤s) (hs:s<l.length) (hl:l.length≤9223372036854775806):∃ b:List V3 × Int,iter (z2d l s) (l,(s:Int),1)=some b∧b.1.length=l.length∧∃ j:Nat,b.2=(j:Int)∧j<l.length:=by
 refine z6d (F:=z2d l s) (l.length - s) (fun i st=>st.1.length=l.length∧st.2.2=(i:Int)∧1≤i∧∃ j:Nat,st.2.1=(j:Int)∧j+1≤s+i) _ ?_ ?_ _ 1 (by omega) ⟨rfl,rfl, by omega,s,rfl, by omega⟩
 ·
  rintro i ⟨c,j',i'⟩ hi ⟨e1,e2,e0,j,e3,e4⟩
  simp only at e1 e2 e3
  subst e2 e3
  unfold z2d
  rw [if_pos (by simp; omega)]
  simp only [Int.toNat_natCast]
  rw [zp0 (by omega),z0s (x:=(i:Int) - 1) (by omega) (by omega), show ((i:Int) - 1)=((i - 1:Nat):Int) by omega,zp0 (by omega)]
  simp only [bS]
  rw [z09 (by omega),z09 (by omega)]
  simp only [bS]
  by_cases hc:c[s+i]'(by omega)=c[s+(i - 1)]'(by omega)
  ·
   rw [decide_eq_true hc,if_neg (by simp)]
   exact ⟨_,rfl,e1,z0d (by omega), by omega,j,rfl, by omega⟩
  ·
   rw [decide_eq_false hc,if_pos (by simp),z09 (by omega)]
   simp only [bS]
   exact ⟨_,rfl, by simpa using e1,z0d (by omega), by omega,j+1,z0d (by omega), by omega⟩
 ·
  rintro ⟨c,j',i'⟩ ⟨e1,e2,e0,j,e3,e4⟩
  simp only at e1 e2 e3
  subst e2 e3
  unfold z2d
  rw [if_neg (by simp <;> omega)]
  exact ⟨_,rfl,e1,j,rfl, by omega⟩
theorem zwm (l:List V3) (hl:l.length≤9223372036854775806):∃ c,z2y l=some c∧(c.length=l.length↔∀ i (h:i+1<l.length),l[i]'(by omega)≠l[i+1]):=by
 have key:∀ k n,l.length - n=k→1≤n→n≤l.length→∃ r:Sum (List V3) Unit,iter (z1b l) (n:Int)=some r∧((r=.inr ()∧∀ i (h:i+1<l.length),n≤i+1→l[i]'(by omega)≠l[i+1])∨(∃ c,r=.inl c∧c.length≠l.length∧∃ i,∃ h:i+1<l.length,l[i]'(by omega)=l[i+1])):=by
  intro k
  induction k with
  | zero =>
   intro n hk h1 hn
   refine ⟨_,z14 ?_,.inl ⟨rfl, fun i _ h=>by omega⟩⟩
   unfold z1b
   rw [if_neg (by simp; omega)]
  | succ k ih =>
   intro n hk h1 hn
   have hlt:n<l.length:=by omega
   by_cases hc:l[n]=l[n - 1]
   ·
    obtain ⟨⟨c,j'⟩,e1,e2,j,e3,e4⟩:=zta l n h1 hlt hl
    simp only at e2 e3
    subst e3
    have hF:z1b l (n:Int)=some (.inl (.inl ((clr c j (c.length - j) (Vector.replicate 32 0)).take j))):=by
     unfold z1b
     rw [if_pos (by simp; omega),z09 hlt,z0s (by omega) (by omega), show ((n:Int) - 1)=((n - 1:Nat):Int) by omega,z09 (by omega)]
     simp only [bS]
     rw [decide_eq_true hc,if_pos rfl,z2z (by omega)]
     simp only [bS]
     rw [e1]
     simp only [bS]
     rw [z2z (by omega),z2z (by simp; omega)]
     simp only [bS,Int.toNat_natCast]
     rw [show (0:Int)=((0:Nat):Int) from rfl,z9s (by omega) (by rw [zti _ _ _ _ (by omega)]; omega)]
     simp
    refine ⟨_,z14 hF,.inr ⟨_,rfl,?_,n - 1, by omega,?_⟩⟩
    ·
     rw [List.length_take]; omega
    ·
     have:n - 1+1=n:=by omega
     simp only [this]; exact hc.symm
   ·
    have hF:z1b l (n:Int)=some (.inr ((n+1:Nat):Int)):=by
     unfold z1b
     rw [if_pos (by simp; omega),z09 hlt,z0s (x:=(n:Int) - 1) (by omega) (by omega), show ((n:Int) - 1)=((n - 1:Nat):Int) by omega,z09 (by omega)]
     simp only [bS]
     rw [decide_eq_false hc,if_neg (by simp),z0d (by omega)]
    obtain ⟨r,h2,h3⟩:=ih (n+1) (by omega) (by omega) (by omega)
    refine ⟨r, by rw [z17 hF]; exact h2,?_⟩
    rcases h3 with ⟨h3,h4⟩ | h3
    ·
     refine .inl ⟨h3, fun i hi hni=>?_⟩
     by_cases hin:i+1=n
     ·
      subst hin; exact fun e=>hc e.symm
     ·
      exact h4 i hi (by omega)
    ·
     exact .inr h3
 unfold z2y
 by_cases h2:l.length<2
 ·
  rw [if_pos (by simp; omega)]
  exact ⟨l,rfl, by simp; intro i hi; omega⟩
 ·
  rw [if_neg (by simp; omega)]
  obtain ⟨r,e1,e2⟩:=key (l.length - 1) 1 rfl (by omega) (by omega)
  rw [show (1:Int)=((1:Nat):Int) from rfl,e1]
  rcases e2 with ⟨rfl,h3⟩ | ⟨c,rfl,h3,i,hi,h4⟩
  ·
   exact ⟨l,rfl, by simp; exact fun i hi=>h3 i hi (by omega)⟩
  ·
   exact ⟨c,rfl,⟨fun h=>absurd h h3, fun h=>absurd h4 (h i hi)⟩⟩
theorem z11j (l:List V3):z74 l=true↔(∀ i (h:i+1<l.length),kd (l[i]'(by omega))≤kd l[i+1])∧∀ i (h:i+1<l.length),l[i]'(by omega)≠l[i+1]:=by
 rw [zu8]
 constructor
 ·
  intro h
  refine ⟨fun i hi=>Nat.le_of_lt (h i hi), fun i hi e=>?_⟩
  have:=h i hi
  rw [e] at this; omega
 ·
  rintro ⟨h1,h2⟩ i hi
  have:=h1 i hi
  rcases Nat.lt_or_eq_of_le this with h | h
  ·
   exact h
  ·
   exact absurd (zk2 h) (h2 i hi)
end
section
open Go Go.Shelf Go.RowKit Go.Lib Go.Sort
def cfID (x y:V3):Int:=Lib.compareBytes x.toList y.toList
theorem ltID (x y:V3):ltOf cfID x y=decide (kd x<kd y):=by
 unfold ltOf cfID
 rw [zvh,znn]
theorem z1ak:SWO (ltOf cfID) where
 irrefl x:=by rw [ltID]; simp
 trans x y z h1 h2:=by rw [ltID] at *; simp at *; omega
 ntrans x y z h1 h2:=by rw [ltID] at *; simp at *; omega
def zim (l:List V3):List V3:=l.mergeSort fun x y=>!(ltOf cfID) y x
theorem zmf (l:List V3):(zim l).length=l.length:=List.length_mergeSort l
theorem zrp (l:List V3) (x:V3):x∈zim l↔x∈l:=List.mem_mergeSort
theorem zgc (l:List V3):(zim l).Pairwise fun x y=>kd x≤kd y:=by
 have h:=List.pairwise_mergeSort (le:=fun x y=>!(ltOf cfID) y x) (fun a b c h1 h2=>by
  rw [ltID] at *; simp at *; omega) (fun a b=>by rw [ltID,ltID]; simp; omega) l
 exact h.imp fun {a b} hab=>by rw [ltID] at hab; simp at hab; omega
def zq5 (l:List V3):Option (List V3):=chk (l.length≤1000000) >>= fun _=>some (zim l)
theorem zss {l l':List V3} (h:l.Perm l'):zim l=zim l' :=
 (((List.mergeSort_perm l _).trans h).trans (List.mergeSort_perm l' _).symm).eq_of_pairwise (le:=fun a b=>kd a≤kd b) (fun a b _ _ h1 h2=>zk2 (Nat.le_antisymm h1 h2)) (zgc l) (zgc l')
theorem znz {l l':List V3} (h:l.Perm l'):zq5 l=zq5 l':=by unfold zq5; rw [h.length_eq,zss h]
theorem zua (p0:Value) (c0:List V3):z36 Tryz.prog 88 [.val p0,.val (.func (.func 89) #[] #[])] [(1,some (p0,.list (z4v 32 u8R) 78 c0))] (zq5 c0) (fun r nv=>⟨[],[(1,some (p0,.list (z4v 32 u8R) 78 r))]⟩):=by
 refine z120 zim zmf (fun cap w=>?_) (fun blk cap d w hH hb hs=>?_) p0 c0
 ·
  exact AnyF.slices_SortFunc_none z18n none cap _ w
 ·
  have eg:∀ args w,(callFunc 89 args).run Tryz.prog w=.ok (.enter 89 args) w:=enters_of Tryz.func89 (by kernel_rfl) rfl
  exact AnyQ.slices_SortFunc_total z18n 32 Tryz.isAgg78 Tryz.sizeOf78 zb7 zgh (fun x v hv=>by
   unfold zb7 at hv
   obtain ⟨c,_,rfl⟩:=List.mem_map.1 hv
   rfl) cfID z1ak 89 #[] blk 0 cap d w eg (fun m os dk _ x y=>zw0 x y _) hH hb hs (fun x y h1 h2=>by
   rw [ltID] at h1 h2
   simp at h1 h2
   exact zk2 (by omega))
end
section
open Go Go.Shelf Go.RowKit Go.Lib
theorem z11q {P:Program} {k:Nat} (w:World) (dT sT ty elem:TypeId) (g o dLen dCap:Nat) (a:Addr) (sLen sCap:Nat) (cur:Array Value) (t:TypeId) (cs:List Value)
  (hu:P.underlying dT=some (.slice elem)) (hs:(P.info? elem).map (·.size)=some k)
  (hg:w.heap[g]? = some (.cells cur t (0,0))) (hn:cs.length=Nat.min sLen dLen * k)
  (hsrc:∀ j v,cs[j]? = some v→w.cell? (a.add j)=some v) (hfit:o+cs.length≤cur.size) (h1:∀ v∈cs,v.oneCell'=true) :
  (Builtin.copy_ #[dT,sT] ty #[.slice (some ⟨g,o,none⟩) dLen dCap,.slice (some a) sLen sCap]).run P w =
   .ok (goInt (Nat.min sLen dLen)) (w.setRow g (cur.toList.take o++cs++cur.toList.drop (o+cs.length)).toArray):=by
 have hl:=run_firstCells_some (P:=P) w k (Nat.min sLen dLen) a sLen sCap cs hn hsrc
 have hst:=run_storeCells_at P g o t cs 0 cur w hg (by simpa using hfit) h1
 cases hq:P.info? elem with
 | none=>simp [hq] at hs
 | some i =>
  have hi:i.size=k:=by simpa [hq] using hs
  simp [Builtin.copy_,run_underlying hu,Builtin.lenOf,sizeOf,typeInfo,hq,hi,hl,hst]
theorem z13c {P:Program} (w:World) {o:Oper} {a:Act} {K:Act→World→Prop} {Q:Exit→Act→World→Prop} (d s:Operand) (t t':TypeId)
  (ho:o.op=.call { callee:=.builtin .copy,args:=#[d,s],argTypes:=#[t,t'] }) (v u:Value) (hd:a.eval d=v) (hs:a.eval s=u) {v':Value} {w':World}
  (hr:(Builtin.copy_ #[t,t'] o.type #[v,u]).run P w=.ok v' w') (h:K (a.put o.dst v') w'):o.wp P a w K Q:=by
 unfold Oper.wp execOp
 simp only [ho,resolve,invoke,builtin,Sem.run_bind,Sem.run_pure,Result.andThen_ok,List.map_toArray,List.map_cons,List.map_nil,hd,hs,hr]
 exact h
theorem zk5 {P:Program} (w:World) {ops:Array Oper} {rest:List Oper} {o:Oper} {a:Act} {Q:Exit→Act→World→Prop} (hgd:o.guard=none) (d s:Operand) (t t':TypeId)
  (ho:o.op=.call { callee:=.builtin .copy,args:=#[d,s],argTypes:=#[t,t'] }) (v u:Value) (hd:a.eval d=v) (hs:a.eval s=u) {v':Value} {w':World}
  (hr:(Builtin.copy_ #[t,t'] o.type #[v,u]).run P w=.ok v' w') (h:wpList P ops Q rest (a.put o.dst v') w'):wpList P ops Q (o::rest) a w :=
 wpList_plain hgd fun _ hK=>z13c w d s t t' ho v u hd hs hr (hK _ _ h)
theorem znt {P:Program} {ops:Array Oper} {o:Oper} {a:Act} {w:World} {K:Act→World→Prop} {Q:Exit→Act→World→Prop} {E:Prop}
  (hg:o.guard=none) (d x:Operand) (dT sT:TypeId) (hop:o.op=Op.call { callee:=Callee.builtin Builtin.copy,args:=#[d,x],argTypes:=#[dT,sT] })
  (v u:Value) (hd:a.eval d=v) (hx:a.eval x=u) {v':Value} {w':World} (hr:(Builtin.copy_ #[dT,sT] o.type #[v,u]).run P w=.ok v' w') (hK:K (a.put o.dst v') w') :
  if Region.wanted o (yielded ops a.tmps)=true then Oper.wp P o a w K Q else E:=by
 have hw:Region.wanted o (yielded ops a.tmps)=true:=by simp [Region.wanted,hg]
 rw [if_pos hw]
 unfold Oper.wp
 simp [execOp,hop,resolve,invoke,builtin,hd,hx,hr,Result.andThen]
 exact hK
section
variable (b n c i vb vc:Nat) (xs ys:List Value) (C V:Array Value) (w:World)
theorem zzw:TI Tryz.prog 78 (.agg (Array.replicate 32 (.int .u8 0))) 32 32:=z3h
theorem zzo:(Tryz.prog.info? 78).map (·.size)=some 32:=by kernel_rfl
set_option maxHeartbeats 4000000 in
set_option maxRecDepth 100000 in
theorem zyn (hi:i<n) (hroom:n+1≤c) (hc63:c≤9223372036854775807) (hvb:vb≠b) (hC:w.heap[b]? = some (.cells C 78 (0,0))) (hV:w.heap[vb]? = some (.cells V 78 (0,0)))
  (hCs:C.size=c * 32) (hxs:C.toList.take (n * 32)=xs) (hys:V.toList.take 32=ys) (hyl:ys.length=32) (h1x:∀ v∈xs,v.oneCell'=true) (h1y:∀ v∈ys,v.oneCell'=true) :
  Calls Tryz.prog 120 #[.slice (some ⟨b,0,none⟩) n c,.int .i64 i,.slice (some ⟨vb,0,none⟩) 1 vc] w fun e w' =>
   e=.returned (.slice (some ⟨b,0,none⟩) (n+1) c)∧∃ D,w'=w.drew.setRow b D∧D.size=C.size∧D.toList.take ((n+1) * 32)=xs.take (i * 32)++ys++xs.drop (i * 32):=by
 have hsz:=zzo
 have u22:Tryz.prog.underlying 24=some (.slice 78):=Tryz.underlying24
 have hcc:∀ j v,C.toList[j]? = some v→w.cell? ⟨b,j,none⟩=some v:=fun j v hj=>by
  rw [Array.getElem?_toList] at hj; unfold World.cell?; rw [hC]; exact hj
 have hcv:∀ j v,V.toList[j]? = some v→w.cell? ⟨vb,j,none⟩=some v:=fun j v hj=>by
  rw [Array.getElem?_toList] at hj; unfold World.cell?; rw [hV]; exact hj
 have hxl:xs.length=n * 32:=by rw [← hxs,List.length_take,Array.length_toList]; omega
 have hxg:∀ j v,xs[j]? = some v→C.toList[j]? = some v:=fun j v hj=>by
  rw [← hxs,List.getElem?_take] at hj; split at hj
  ·
   exact hj
  ·
   cases hj
 have hyg:∀ j v,ys[j]? = some v→V.toList[j]? = some v:=fun j v hj=>by
  rw [← hys,List.getElem?_take] at hj; split at hj
  ·
   exact hj
  ·
   cases hj
 have hVs:V.size≠0:=by
  have:ys.length≤V.size:=by rw [← hys,List.length_take,Array.length_toList]; omega
  omega
 have hov:∀ lb cb,(callFunc 164 #[.slice (some ⟨vb,0,none⟩) 1 vc,.slice (some ⟨b,(i+1) * 32,none⟩) lb cb]).run Tryz.prog w=.ok (.value (.bool false)) w:=fun lb cb=>by
  rw [run_callFunc_extern Tryz.func164 (by kernel_rfl) (by kernel_rfl) (by kernel_rfl) (e:=Extern.SlicesOverlaps.overlaps #[24,24] #[4]) (by kernel_rfl),
   Lib.run_overlaps_apart w 24 4 78 u22 32 Tryz.sizeOf78 ⟨vb,0,none⟩ ⟨b,(i+1) * 32,none⟩ 1 vc lb cb hvb 78 78 V.size C.size (by simp [World.shape?,hV]) (by simp [World.shape?,hC]) (by omega) (by simp [World.frozen?,hV]) (by simp [World.frozen?,hV])]
  rfl
 have hdl:(xs.drop (i * 32)).length=(n - i) * 32:=by rw [List.length_drop,hxl,Nat.sub_mul]
 have hmin1:Nat.min (n+1 - i) (n - i)=n - i:=by simp only [Nat.min_def]; split <;> omega
 have hcp1:∀ ty dc sc,(Builtin.copy_ #[24,24] ty #[.slice (some ⟨b,(i+1) * 32,none⟩) (n - i) dc,.slice (some ⟨b,i * 32,none⟩) (n+1 - i) sc]).run Tryz.prog w.drew =
   .ok (goInt ((n - i:Nat):Int)) (w.drew.setRow b (C.toList.take ((i+1) * 32)++xs.drop (i * 32)++C.toList.drop ((i+1) * 32+(xs.drop (i * 32)).length)).toArray):=fun ty dc sc=>by
  have e:=z11q (P:=Tryz.prog) w.drew 24 24 ty 78 b ((i+1) * 32) (n - i) dc ⟨b,i * 32,none⟩ (n+1 - i) sc C 78 (xs.drop (i * 32)) u22 hsz hC (by rw [hmin1,hdl])
   (fun j v hj=>by rw [Addr.add_lit]; exact hcc _ v (hxg _ v (by rwa [List.getElem?_drop] at hj))) (by rw [hdl,hCs]; omega) (fun v hv=>h1x v (List.mem_of_mem_drop hv))
  rw [hmin1] at e; exact e
 obtain ⟨D1,hD1⟩:∃ D1,D1=(C.toList.take ((i+1) * 32)++xs.drop (i * 32)++C.toList.drop ((i+1) * 32+(xs.drop (i * 32)).length)).toArray:=⟨_,rfl⟩
 rw [← hD1] at hcp1
 have hD1s:D1.size=C.size:=by
  rw [hD1]; simp only [List.size_toArray,List.length_append,List.length_take,List.length_drop,Array.length_toList,hxl]; omega
 obtain ⟨W1,hW1⟩:∃ W1,W1=w.drew.setRow b D1:=⟨_,rfl⟩
 have hB1:W1.heap[b]? = some (.cells D1 78 (0,0)):=by rw [hW1]; exact setRow_heap w.drew b C D1 78 (0,0) hC
 have hV1:W1.heap[vb]? = some (.cells V 78 (0,0)):=by rw [hW1,setRow_other w.drew b vb D1 hvb]; exact hV
 obtain ⟨D2,hD2⟩:∃ D2,D2=(D1.toList.take (i * 32)++ys++D1.toList.drop (i * 32+ys.length)).toArray:=⟨_,rfl⟩
 have hcp2:∀ ty dc,(Builtin.copy_ #[24,24] ty #[.slice (some ⟨b,i * 32,none⟩) (n+1 - i) dc,.slice (some ⟨vb,0,none⟩) 1 vc]).run Tryz.prog W1=.ok (goInt 1) (W1.setRow b D2):=fun ty dc=>by
  have hm:Nat.min 1 (n+1 - i)=1:=by simp only [Nat.min_def]; split <;> omega
  have e:=z11q (P:=Tryz.prog) W1 24 24 ty 78 b (i * 32) (n+1 - i) dc ⟨vb,0,none⟩ 1 vc D1 78 ys u22 hsz hB1 (by rw [hm,hyl])
   (fun j v hj=>by
    rw [Addr.add_lit,Nat.zero_add]
    have:=hyg j v hj
    rw [Array.getElem?_toList] at this
    unfold World.cell?; rw [hV1]; exact this) (by rw [hyl,hD1s,hCs]; omega) h1y
  rw [hm,← hD2] at e; exact e
 have hfin:D2.size=C.size∧D2.toList.take ((n+1) * 32)=xs.take (i * 32)++ys++xs.drop (i * 32):=by
  have t1:D1.toList.take (i * 32)=xs.take (i * 32):=by
   rw [hD1,← hxs,List.take_take]
   simp only [List.append_assoc]
   rw [List.take_append_of_le_length (by rw [List.length_take,Array.length_toList]; omega),List.take_take]
   congr 1; omega
  have t2:(D1.toList.drop ((i+1) * 32)).take ((n - i) * 32)=xs.drop (i * 32):=by
   have el:(C.toList.take ((i+1) * 32)).length=(i+1) * 32:=by rw [List.length_take,Array.length_toList]; omega
   rw [hD1]
   simp only [List.append_assoc]
   rw [List.drop_append,el,Nat.sub_self,List.drop_zero,List.drop_eq_nil_of_le (by rw [el]; omega),List.nil_append,List.take_append_of_le_length (by rw [hdl]; omega),List.take_of_length_le (by rw [hdl]; omega)]
  constructor
  ·
   rw [hD2]; simp only [List.size_toArray,List.length_append,List.length_take,List.length_drop,Array.length_toList,hyl]; omega
  ·
   rw [hD2]
   simp only [List.append_assoc]
   have el:(D1.toList.take (i * 32)).length=i * 32:=by rw [List.length_take,Array.length_toList]; omega
   rw [List.take_append,el,List.take_of_length_le (by rw [el]; omega),List.take_append,hyl,List.take_of_length_le (l:=ys) (by rw [hyl]; omega),t1,
    show i * 32+32=(i+1) * 32 by omega, show (n+1) * 32 - i * 32 - 32=(n - i) * 32 by omega,t2]
 have hz1:¬ ((1:Int)=0):=by decide
 have hz2:¬ ((i:Int)=(n:Int)):=by omega
 have hw1:IntKind.i64.wrap ((i:Int)+1)=(i:Int)+1:=by rw [IntKind.wrap_i64]; omega
 have hb1:(0:Int)≤(i:Int)+1:=by omega
 have hin:i≤n:=by omega
 have htn:((i:Int)+1).toNat=i+1:=by omega
 have hb2:¬ (c=i+1):=by omega
 have hb3:(i:Int)≤(n:Int)+1:=by omega
 have hb4:¬ (c=i):=by omega
 subst hW1
 clear hcc hcv hxg hyg hD1 hD2 hxs hys hC hV hB1 hV1 h1x h1y hdl hmin1 hxl hyl
 go_enter Tryz.func120,Tryz.ntmps120
 go_wp2_with (simp only [hov])
 go_region_law (refine znt rfl _ _ 24 24 rfl (.slice (some ⟨b,(i+1) * 32,none⟩) (n - i) (c - (i+1))) (.slice (some ⟨b,i * 32,none⟩) (n+1 - i) (c - i)) (by simp [Act.eval,Act.put]) (by simp [Act.eval,Act.put]) (hcp1 3 (c - (i+1)) (c - i)) ?_)
 go_wp2_with (at_builtin; refine zk5 _ rfl _ _ 24 24 rfl _ _ rfl rfl (hcp2 _ _) ?_)
 go_ret
 exact ⟨rfl,D2, by rw [setRow_setRow],hfin⟩
set_option maxHeartbeats 4000000 in
set_option maxRecDepth 100000 in
theorem z12x (hi:i<n) (hnc:n≤c) (hroom:c<n+1) (hn:n≤1000000) (hvb:vb≠b) (hC:w.heap[b]? = some (.cells C 78 (0,0))) (hV:w.heap[vb]? = some (.cells V 78 (0,0)))
  (hCs:C.size=c * 32) (hxs:C.toList.take (n * 32)=xs) (hys:V.toList.take 32=ys) (hyl:ys.length=32) (h1x:∀ v∈xs,v.oneCell'=true) (h1y:∀ v∈ys,v.oneCell'=true) :
  Calls Tryz.prog 120 #[.slice (some ⟨b,0,none⟩) n c,.int .i64 i,.slice (some ⟨vb,0,none⟩) 1 vc] w fun e w' =>
   ∃ G,e=.returned (.slice (some ⟨w.heap.size,0,none⟩) (n+1) G)∧n+1≤G∧G≤maxLen∧∃ D,w'.heap[w.heap.size]? = some (.cells D 78 (0,0))∧w.grownBy w' none∧D.size=G * 32∧D.toList.take ((n+1) * 32)=xs.take (i * 32)++ys++xs.drop (i * 32):=by
 have hsz:=zzo
 have u22:Tryz.prog.underlying 24=some (.slice 78):=Tryz.underlying24
 have u3:Tryz.prog.underlying 3=some (.int .i64):=Tryz.underlying3
 have hcn:c=n:=by omega
 subst hcn
 have hcc:∀ j v,C.toList[j]? = some v→w.cell? ⟨b,j,none⟩=some v:=fun j v hj=>by
  rw [Array.getElem?_toList] at hj; unfold World.cell?; rw [hC]; exact hj
 have hxl:xs.length=c * 32:=by rw [← hxs,List.length_take,Array.length_toList]; omega
 have hxg:∀ j v,xs[j]? = some v→C.toList[j]? = some v:=fun j v hj=>by
  rw [← hxs,List.getElem?_take] at hj; split at hj
  ·
   exact hj
  ·
   cases hj
 have hyg:∀ j v,ys[j]? = some v→V.toList[j]? = some v:=fun j v hj=>by
  rw [← hys,List.getElem?_take] at hj; split at hj
  ·
   exact hj
  ·
   cases hj
 have hbw:b<w.heap.size:=(Array.getElem?_eq_some_iff.1 hC).1
 have hvw:vb<w.heap.size:=(Array.getElem?_eq_some_iff.1 hV).1
 have hkk:(c:Int)+1 - (i:Int)=((c+1 - i:Nat):Int):=by omega
 obtain ⟨i0,hi0,hz0,hzs,hzb⟩:=zzw
 have hold:(Builtin.firstCells i0.size i (.slice (some ⟨b,0,none⟩) i c)).run Tryz.prog w.drew=.ok (xs.take (i * 32)).toArray w.drew:=by
  rw [hzs]
  exact run_firstCells_some w.drew 32 i ⟨b,0,none⟩ i c (xs.take (i * 32)) (by rw [List.length_take]; omega) (fun j v hj=>by
   rw [Addr.add_lit,Nat.zero_add]
   rw [List.getElem?_take] at hj
   split at hj
   ·
    exact hcc j v (hxg j v hj)
   ·
    cases hj)
 obtain ⟨G,hG⟩:∃ G,G=grownCap w (c+1) c 78:=⟨_,rfl⟩
 obtain ⟨ROW,hROW⟩:∃ ROW:Array Value,ROW=(xs.take (i * 32)).toArray++Builtin.zeroCells (Array.replicate 32 (.int .u8 0)) (c+1 - i)++Builtin.zeroCells (Array.replicate 32 (.int .u8 0)) (G - (c+1)):=⟨_,rfl⟩
 have hrz:∀ ty,(Builtin.append_ #[24,3] ty #[.slice (some ⟨b,0,none⟩) i c,.int .i64 ((c:Int)+1 - (i:Int))]).run Tryz.prog w =
   .ok (.slice (some ⟨w.heap.size,0,none⟩) (c+1) G) (w.drew.alloc (.cells ROW 78)):=fun ty=>by
  have h:=Lib.run_append_grow_zeros w 24 3 ty 78 i0 _ .i64 .i64 u22 u3 hi0 hz0 (some ⟨b,0,none⟩) i c (xs.take (i * 32)) hold (c+1 - i) (by omega) (by omega) (by omega) (by omega) (by rw [hzb]; omega) (by rw [hzb, show i+(c+1 - i)=c+1 by omega]; exact growslice_fits (by omega) (by omega))
  rw [show i+(c+1 - i)=c+1 by omega] at h
  rw [hkk,hROW,hG]
  exact h
 have hGn:c+1≤G:=by rw [hG]; exact grownCap_ge w _ _ _
 have hGm:G≤maxLen:=by rw [hG]; exact grownCap_le_maxLen w (c+1) c 78 (by unfold maxLen; omega)
 have hG63:G≤9223372036854775807:=by unfold maxLen at hGm; omega
 have hRs:ROW.size=G * 32:=by
  rw [hROW]; simp only [Array.size_append,List.size_toArray,List.length_take,size_zeroCells,Array.size_replicate,hxl]; omega
 have hRt:ROW.toList.take (i * 32)=xs.take (i * 32):=by
  rw [hROW]; simp only [Array.toList_append,List.append_assoc]
  rw [List.take_append_of_le_length (by rw [List.length_take]; omega),List.take_take]; congr 1; omega
 obtain ⟨D1,hD1⟩:∃ D1,D1=(ROW.toList.take (i * 32)++ys++ROW.toList.drop (i * 32+ys.length)).toArray:=⟨_,rfl⟩
 have hD1s:D1.size=G * 32:=by
  rw [hD1]; simp only [List.size_toArray,List.length_append,List.length_take,List.length_drop,Array.length_toList,hyl]; omega
 obtain ⟨D2,hD2⟩:∃ D2,D2=(D1.toList.take ((i+1) * 32)++xs.drop (i * 32)++D1.toList.drop ((i+1) * 32+(xs.drop (i * 32)).length)).toArray:=⟨_,rfl⟩
 have hdl:(xs.drop (i * 32)).length=(c - i) * 32:=by rw [List.length_drop,hxl,Nat.sub_mul]
 have hD2s:D2.size=G * 32:=by
  rw [hD2]; simp only [List.size_toArray,List.length_append,List.length_take,List.length_drop,Array.length_toList,hxl]; omega
 have hfin:D2.toList.take ((c+1) * 32)=xs.take (i * 32)++ys++xs.drop (i * 32):=by
  have e1:(ROW.toList.take (i * 32)).length=i * 32:=by rw [List.length_take,Array.length_toList]; omega
  have e2:D1.toList.take ((i+1) * 32)=xs.take (i * 32)++ys:=by
   rw [hD1]; simp only [List.append_assoc]
   rw [List.take_append,e1,List.take_of_length_le (by rw [e1]; omega),List.take_append_of_le_length (by rw [hyl]; omega),List.take_of_length_le (l:=ys) (by rw [hyl]; omega),hRt]
  have e3:(D1.toList.take ((i+1) * 32)).length=(i+1) * 32:=by rw [List.length_take,Array.length_toList]; omega
  rw [hD2]; simp only [List.append_assoc]
  rw [List.take_append,e3,List.take_of_length_le (by rw [e3]; omega),List.take_append_of_le_length (by rw [hdl]; omega),List.take_of_length_le (l:=xs.drop (i * 32)) (by rw [hdl]; omega),e2,List.append_assoc]
 have hcpA:∀ (W:World),W.heap=w.heap.push (.cells ROW 78)→∀ ty dc,(Builtin.copy_ #[24,24] ty #[.slice (some ⟨w.heap.size,i * 32,none⟩) (c+1 - i) dc,.slice (some ⟨vb,0,none⟩) 1 vc]).run Tryz.prog W=.ok (goInt 1) (W.setRow w.heap.size D1):=fun W hW ty dc=>by
  have hm:Nat.min 1 (c+1 - i)=1:=by simp only [Nat.min_def]; split <;> omega
  have hN:W.heap[w.heap.size]? = some (.cells ROW 78 (0,0)):=by rw [hW,Array.getElem?_push_size]
  have hV1:W.heap[vb]? = some (.cells V 78 (0,0)):=by rw [hW,Array.getElem?_push_lt hvw]; rw [← hV,Array.getElem?_eq_getElem hvw]
  have e:=z11q (P:=Tryz.prog) W 24 24 ty 78 w.heap.size (i * 32) (c+1 - i) dc ⟨vb,0,none⟩ 1 vc ROW 78 ys u22 hsz hN (by rw [hm,hyl])
   (fun j v hj=>by
    rw [Addr.add_lit,Nat.zero_add]
    have:=hyg j v hj
    rw [Array.getElem?_toList] at this
    unfold World.cell?; rw [hV1]; exact this) (by rw [hyl,hRs]; omega) h1y
  rw [hm,← hD1] at e; exact e
 have hcpB:∀ (W W0:World),W0.heap=w.heap.push (.cells ROW 78)→W.heap=(W0.setRow w.heap.size D1).heap→∀ ty dc sc,(Builtin.copy_ #[24,24] ty #[.slice (some ⟨w.heap.size,(i+1) * 32,none⟩) (c - i) dc,.slice (some ⟨b,i * 32,none⟩) (c - i) sc]).run Tryz.prog W=.ok (goInt ((c - i:Nat):Int)) (W.setRow w.heap.size D2):=fun W W0 hW0 hW ty dc sc=>by
  have hm:Nat.min (c - i) (c - i)=c - i:=Nat.min_self _
  have hN:W.heap[w.heap.size]? = some (.cells D1 78 (0,0)):=by rw [hW]; exact setRow_heap W0 w.heap.size ROW D1 78 (0,0) (by rw [hW0,Array.getElem?_push_size])
  have hB1:W.heap[b]? = some (.cells C 78 (0,0)):=by
   rw [hW,setRow_other W0 w.heap.size b D1 (by omega),hW0,Array.getElem?_push_lt hbw,← hC,Array.getElem?_eq_getElem hbw]
  have e:=z11q (P:=Tryz.prog) W 24 24 ty 78 w.heap.size ((i+1) * 32) (c - i) dc ⟨b,i * 32,none⟩ (c - i) sc D1 78 (xs.drop (i * 32)) u22 hsz hN (by rw [hm,hdl])
   (fun j v hj=>by
    rw [Addr.add_lit]
    have:=hxg _ v (by rwa [List.getElem?_drop] at hj)
    rw [Array.getElem?_toList] at this
    unfold World.cell?; rw [hB1]; exact this) (by rw [hdl,hD1s]; omega) (fun v hv=>h1x v (List.mem_of_mem_drop hv))
  rw [hm,← hD2] at e; exact e
 have hz1:¬ ((1:Int)=0):=by decide
 have hz2:¬ ((i:Int)=(c:Int)):=by omega
 have hz3:(c:Int)<(c:Int)+1:=by omega
 have hw1:IntKind.i64.wrap ((i:Int)+1)=(i:Int)+1:=by rw [IntKind.wrap_i64]; omega
 have hb1:(0:Int)≤(i:Int)+1:=by omega
 have hin:i≤c:=by omega
 have htn:((i:Int)+1).toNat=i+1:=by omega
 have hGi:¬ (G=i):=by omega
 have hGim:¬ (G=i+1):=by omega
 have hci:¬ (c=i):=by omega
 have hb3:(i:Int)≤(c:Int):=by omega
 have hE1:((w.alloc (.cells ROW 78)).drew).heap=w.heap.push (.cells ROW 78):=rfl
 have hF1:(((w.alloc (.cells ROW 78)).drew.setRow w.heap.size D1).drew).heap=(((w.alloc (.cells ROW 78)).drew).setRow w.heap.size D1).heap:=rfl
 clear hROW hold hG hRt hD1 hD2 hxs hys hC hV h1x h1y hdl hxl hyl hcc hxg hyg hi0 hz0 hzs hzb hkk hnc hroom
 go_enter Tryz.func120,Tryz.ntmps120
 go_wp2_with (first
  | (at_builtin; refine Lib.wpList_append_run _ rfl _ _ _ _ rfl _ _ rfl rfl _ _ (hrz _) ?_)
  | (at_builtin; refine zk5 _ rfl _ _ 24 24 rfl _ _ rfl rfl (hcpA _ hE1 _ _) ?_))
 go_region_law (refine znt rfl _ _ 24 24 rfl (.slice (some ⟨w.heap.size,(i+1) * 32,none⟩) (c - i) (G - (i+1))) (.slice (some ⟨b,i * 32,none⟩) (c - i) (c - i)) (by simp [Act.eval,Act.put]) (by simp [Act.eval,Act.put]) (hcpB _ _ hE1 hF1 3 (G - (i+1)) (c - i)) ?_)
 go_wp2
 go_ret
 refine ⟨G,rfl,hGn,hGm,D2,?_,⟨rfl,rfl,rfl,?_, fun k hk _=>?_⟩,hD2s,hfin⟩
 ·
  exact setRow_heap _ w.heap.size D1 D2 78 (0,0) (setRow_heap ((w.alloc (.cells ROW 78)).drew) w.heap.size ROW D1 78 (0,0) (by rw [hE1,Array.getElem?_push_size]))
 ·
  rw [setRow_size]; show _≤((w.alloc (.cells ROW 78)).drew.setRow w.heap.size D1).heap.size; rw [setRow_size,hE1,Array.size_push]; omega
 ·
  rw [setRow_other _ w.heap.size k D2 (by omega)]; show ((w.alloc (.cells ROW 78)).drew.setRow w.heap.size D1).heap[k]? = _
  rw [setRow_other _ w.heap.size k D1 (by omega),hE1,Array.getElem?_push_lt hk,Array.getElem?_eq_getElem hk]
set_option maxHeartbeats 4000000 in
set_option maxRecDepth 100000 in
theorem z164 (p0 p1:Value) (h0:w.ownsRow 0 78 32 p0 n xs) (h1:w.ownsRow 0 78 32 p1 1 ys) (hn:n≤1000000) (h1y:∀ v∈ys,v.oneCell'=true) :
  Calls Tryz.prog 120 #[p0,.int .i64 n,p1] w fun e w'=>∃ v',e=.returned v'∧w'.ownsRow 0 78 32 v' (n+1) (xs++ys)∧w.grownBy w' p0.ownBlock∧∀ b,v'.ownBlock=some b→p0.ownBlock=some b∨w.heap.size≤b:=by
 have u22:Tryz.prog.underlying 24=some (.slice 78):=Tryz.underlying24
 obtain ⟨p,c,rfl⟩:=z4c h0
 obtain ⟨q,d,rfl⟩:=z4c h1
 obtain ⟨p',c',w',hrun,ho,hg,hs⟩:=zik (P:=Tryz.prog) (rt:=24) (w:=w) u22 zzw (by simp [Value.cells]) (by decide) h0 (Rd.of_own h1) h1y (by omega) (by omega) (Nat.zero_le _)
 have hz1:¬ ((1:Int)=0):=by decide
 have hnc:n≤c:=by
  rcases h0.2 with ⟨e,rfl⟩ | ⟨g,cap,cur,e,_,_,h,_⟩
  ·
   omega
  ·
   simp only [Value.slice.injEq] at e; omega
 have hc63:c≤9223372036854775807:=by
  rcases h0.2 with ⟨e,rfl⟩ | ⟨g,cap,cur,e,_,_,_,h,_⟩
  ·
   simp only [Value.slice.injEq] at e; omega
  ·
   simp only [Value.slice.injEq] at e; unfold maxLen at h; omega
 have hin:n≤n:=Nat.le_refl _
 have hp0:p=none→n=0∧c=0:=fun e=>by
  rcases h0.2 with ⟨e',rfl⟩ | ⟨g,cap,cur,e',_⟩
  ·
   simp only [Value.slice.injEq] at e'; omega
  ·
   rw [e] at e'; simp at e'
 clear h0 h1 h1y
 go_enter Tryz.func120,Tryz.ntmps120
 cases p with
 | none =>
  obtain ⟨rfl,rfl⟩:=hp0 rfl
  clear hp0
  go_wp2_with (at_builtin; refine Lib.wpList_append_run _ rfl _ _ _ _ rfl _ _ rfl rfl _ _ hrun ?_)
  go_ret
  exact ⟨_,rfl,ho,hg,hs⟩
 | some a =>
  clear hp0
  obtain ⟨ab,ao,asp⟩:=a
  go_wp2_with (at_builtin; refine Lib.wpList_append_run _ rfl _ _ _ _ rfl _ _ rfl rfl _ _ hrun ?_)
  all_goals (go_ret; exact ⟨_,rfl,ho,hg,hs⟩)
end
end
section
open Go Go.RowKit
theorem relB {S S':Blk} {w w':World}:∀ {l:List UInt8} {cs:List Value},z73 u8R S w cs l→z73 u8R S' w' cs l
 | [],cs,h=>h
 | x::l,cs,h=>by
  obtain ⟨c,d,rfl,h1,h2⟩:=h
  exact ⟨c,d,rfl,h1,relB h2⟩
theorem relD {S S':Blk} {w w':World}:∀ {l:List V3} {cs:List Value},z73 (z4v 32 u8R) S w cs l→z73 (z4v 32 u8R) S' w' cs l
 | [],cs,h=>h
 | x::l,cs,h=>by
  obtain ⟨c,d,rfl,h1,h2⟩:=h
  exact ⟨c,d,rfl,relB h1,relD h2⟩
def insF (c0:List V3) (i:Int) (c1:List V3):Option (List V3) :=
 chk (0≤i∧i.toNat≤c0.length∧c0.length≤1000000∧c1.length=1) >>= fun _=>some (c0.take i.toNat++c1++c0.drop i.toNat)
theorem z15t (p0 p1:Value) (n i:Nat) (xs ys:List Value) (w:World) (hi:i≤n) (h0:w.ownsRow 0 78 32 p0 n xs) (h1:w.ownsRow 0 78 32 p1 1 ys) (hsep:∀ b,p0.ownBlock=some b→p1.ownBlock≠some b) (hn:n≤1000000)
  (h1x:∀ v∈xs,v.oneCell'=true) (h1y:∀ v∈ys,v.oneCell'=true) :
  Calls Tryz.prog 120 #[p0,.int .i64 i,p1] w fun e w'=>∃ v',e=.returned v'∧w'.ownsRow 0 78 32 v' (n+1) (xs.take (i * 32)++ys++xs.drop (i * 32))∧w.grownBy w' p0.ownBlock∧∀ b,v'.ownBlock=some b→p0.ownBlock=some b∨w.heap.size≤b:=by
 have hxl:=h0.1
 by_cases hin:i=n
 ·
  subst hin
  refine (z164 i xs ys w p0 p1 h0 h1 hn h1y).mono fun e w' ⟨v',a,b,c,d⟩=>⟨v',a,?_,c,d⟩
  rw [List.take_of_length_le (by omega),List.drop_eq_nil_of_le (by omega),List.append_nil]
  exact b
 ·
  rcases h0.2 with ⟨rfl,rfl⟩ | ⟨b,c,C,rfl,-,hC,hnc,hcm,hCs,hxs⟩
  ·
   omega
  rcases h1.2 with ⟨rfl,e⟩ | ⟨vb,vc,V,rfl,-,hV,-,-,hVs,hys⟩
  ·
   omega
  have hvb:vb≠b:=fun e=>hsep b rfl (by rw [e]; rfl)
  have hyl:ys.length=32:=by have:=h1.1; omega
  have hlen:(xs.take (i * 32)++ys++xs.drop (i * 32)).length=(n+1) * 32:=by
   simp only [List.length_append,List.length_take,List.length_drop,hyl]; omega
  by_cases hroom:n+1≤c
  ·
   refine (zyn b n c i vb vc xs ys C V w (by omega) hroom (by unfold maxLen at hcm; omega) hvb hC hV hCs hxs (by simpa using hys) hyl h1x h1y).mono fun e w' ⟨a,D,a2,a3,a4⟩=>⟨_,a,?_,?_, fun b' hb'=>.inl hb'⟩
   ·
    refine ⟨hlen,.inr ⟨b,c,D,rfl,Nat.zero_le _,?_,hroom,hcm,a3.trans hCs,a4⟩⟩
    rw [a2]; exact setRow_heap w.drew b C D 78 (0,0) hC
   ·
    rw [a2]
    refine ⟨rfl,rfl,rfl,?_, fun k hk hne=>?_⟩
    ·
     rw [setRow_size]; exact Nat.le_refl _
    ·
     rw [setRow_other w.drew b k D (fun e=>hne (by rw [e]; rfl))]; rfl
  ·
   refine (z12x b n c i vb vc xs ys C V w (by omega) hnc (by omega) hn hvb hC hV hCs hxs (by simpa using hys) hyl h1x h1y).mono fun e w' ⟨G,a,g1,g2,D,a1,a2,a3,a4⟩=>⟨_,a,?_,?_, fun b' hb'=>.inr ?_⟩
   ·
    exact ⟨hlen,.inr ⟨w.heap.size,G,D,rfl,Nat.zero_le _,a1,g1,g2,a3,a4⟩⟩
   ·
    exact ⟨a2.os,a2.tape,a2.output,a2.size, fun k hk _=>a2.block k hk (by simp)⟩
   ·
    simp only [Value.ownBlock,Option.some.injEq] at hb'; omega
theorem z15x (p0 p1:Value) (c0 c1:List V3) (i:Int):z36 Tryz.prog 120 [.val p0,.rd z0c i,.val p1] [(1,some (p0,.list (z4v 32 u8R) 78 c0)),(2,some (p1,.list (z4v 32 u8R) 78 c1))] (insF c0 i c1)
  (fun r nv=>⟨[.val (nv 0)],[(100,some (nv 0,.list (z4v 32 u8R) 78 r))]⟩):=by
 intro r hr H vs w hvs hres
 have hb:(0≤i∧i.toNat≤c0.length∧c0.length≤1000000∧c1.length=1)∧r=c0.take i.toNat++c1++c0.drop i.toNat:=by
  unfold insF chk at hr
  split at hr
  ·
   rename_i h; simp at hr; exact ⟨h, by rw [← hr,List.append_assoc]⟩
  ·
   simp at hr
 obtain ⟨⟨hi0,hi1,hn,hc1⟩,rfl⟩:=hb
 match vs,hvs with
 | [v0,v1,v2],hvs =>
 obtain ⟨h0,h1,h2,_⟩:=hvs
 have e0:v0=p0:=h0.1
 have e2:v2=p1:=h2.1
 have e1:v1=.int .i64 i:=z4s h1
 subst e0; subst e2; subst e1
 obtain ⟨j,rfl⟩:∃ j:Nat,i=(j:Int):=⟨i.toNat, by omega⟩
 simp only [Int.toNat_natCast] at hi1 ⊢
 obtain ⟨xs,x1,x2⟩:=z8w (hres.conts 1 v0 _ rfl)
 obtain ⟨ys,y1,y2⟩:=z8w (hres.conts 2 v2 _ rfl)
 rw [hc1] at y1
 have hsep:∀ b,v0.ownBlock=some b→v2.ownBlock≠some b:=fun b hb hb2=>by
  obtain ⟨p,c,rfl⟩:=z4c x1
  obtain ⟨q,d,rfl⟩:=z4c y1
  exact hres.excl 1 _ _ 2 _ _ rfl rfl (by decide) b (by rw [z97]; exact hb) (by rw [z97]; exact hb2)
 refine (z15t v0 v2 c0.length j xs ys w hi1 x1 y1 hsep hn x2.one y2.one).mono fun e w' ⟨v',he,hw,hg,hs⟩=>?_
 have only:∀ r v c (q:z43),lr [(100,some (v',q))] r=some (v,c)→r=100∧v=v'∧c=q:=fun r v c q h=>by
  rw [z12] at h
  split at h
  ·
   rename_i e; cases h; exact ⟨e.symm,rfl,rfl⟩
  ·
   simp [lr,lk] at h
 have hlen:(c0.take j++c1++c0.drop j).length=c0.length+1:=by
  simp only [List.length_append,List.length_take,List.length_drop,hc1]; omega
 obtain ⟨p',c',rfl⟩:=z4c hw
 refine ⟨fun _=>.slice p' (c0.length+1) c',[.slice p' (c0.length+1) c'],he,⟨⟨rfl,rfl⟩,trivial⟩, fun r v c h=>?_, fun r v c r' v2' c2' h h' hne=>?_, fun r v c h b hb=>?_,hg.os,hg.tape,hg.output,hg.size, fun k hk=>?_⟩
 ·
  obtain ⟨rfl,rfl,rfl⟩:=only _ _ _ _ h
  refine zlp (B:=0) (xs:=xs.take (j * 32)++ys++xs.drop (j * 32)) (by rw [hlen]; exact hw) ?_
  exact ((relD (x2.take j)).append (relD y2)).append (relD (x2.drop j))
 ·
  exact absurd ((only _ _ _ _ h).1.trans (only _ _ _ _ h').1.symm) hne
 ·
  obtain ⟨rfl,rfl,rfl⟩:=only _ _ _ _ h
  rw [z97] at hb
  rcases hs b hb with h | h
  ·
   exact .inr ⟨1,_,_,rfl, by obtain ⟨p,c,rfl⟩:=z4c x1; rw [z97]; exact h⟩
  ·
   exact .inl h
 ·
  refine hg.block k hk.1 fun e=>hk.2 ⟨1,_,_,rfl,?_⟩
  obtain ⟨p,c,rfl⟩:=z4c x1; rw [z97]; exact e.symm
end
section
open Go Go.RowKit
section
variable {ρ:Type} {C:World→World→Prop} {P:Program} {Γ:Ctx} {l:z1d} {res:Res} {d:Tmp} {ty:TypeId} {pos:String} {after:Array Edge} {g:Option (Nat × Bool)}
def z17k (b c:List UInt8):Bool:=Op.bytesLess b c
end
end
section
open Go Go.RowKit
set_option maxRecDepth 100000
def z8g (a0:z00) (s4:(List (V3 × Int)) × Int):Option (Sum ((List (V3 × Int))) ((List (V3 × Int)) × Int)) :=
 if decide (s4.2<(a0.IDs.length:Int)) then
  idx a0.IDs s4.2 >>= fun x6 =>
  some (.inr (zau s4.1 x6 s4.2,w64 (s4.2+1)))
 else
  some (.inl s4.1)
def zb1 (a0:z00):Option ((List (V3 × Int))) :=
 (iter (z8g a0) (([]:List (V3 × Int)),0)) >>= fun s3 =>
 some s3
theorem zin (a0:z00):z36 Tryz.prog 74 [.rd z01 a0] [] (zb1 a0) (fun r nv=>⟨[.val (nv 0)],[(100,some (nv 0,.map aZ z0c r))]⟩):=by
 refine z4g 23 Tryz.func74 Z Z Z fun H w=>?_
 refine gSR<|Eb Z (bx 1 Z) fun v1=>Zb Z<|gSR<|Zq (faB 1 Z Z Tryz.underlying27 Z (by exact zae))<|Zq (ld 1 Z Z (fP (z0o _)) ze3 Z)<|Zq (z5r Z .rd Z tu24)<|Ef Z (mkm aZ z0c 2 (Or.inr ⟨_,_,Z,rfl⟩) Tryz.underlying123) fun v2=>Zb Z<|zb9 (fun (s3:(List (V3 × Int))) aa ww=>Sta (ctx 23 H [] w) [(3,.val v2)] [(2,some (v2,.map aZ z0c s3))] aa ww) ?_ (fun s3=>?_)
 ·
  refine gSR<|Zq (faB 1 Z Z Tryz.underlying27 Z (by exact zae))<|Zq (ld 1 Z Z (fP (z0o _)) ze3 Z)<|Zq (z5r Z .rd Z tu24)<|Zm Z<|Zn<|z3l (fun (s4:(List (V3 × Int)) × Int) aa ww=>Sta (ctx 23 H [] w) [(3,.val v2),(11,.rd (z02 aZ) a0.IDs),(12,.rd z0c (a0.IDs.length:Int)),(13,.rd z0c s4.2)] [(2,some (v2,.map aZ z0c s4.1))] aa ww) (fun aa ww h=>Zu h [2]) (fun s4=>?_)
  refine gSR<|Zq (I.lss Z Z)<|Zn<|z11<|gIf Z Z (fun h5=>?_) (fun h5=>?_)
  ·
   refine Zt<|z11<|z85<|gSR<|Zm Z<|z0v fun x6 h7=>Zq (ixR Z Z h7 tu24 z3h Z)<|Zq (ldR Z z6s)<|Eb Z (z4w 3 z3h (.zr (R:=aZ) (x:=(Vector.replicate 32 0)) zf6)) fun v8=>Za Z<|Es (sto 3 Z Z fH Z z3h)<|Zn<|z3d<|Zm Z<|Zq (ld 3 Z Z fH z6s Z)<|Zm Z<|Es (mup 2 Z Z Z Z zpr Tryz.underlying123)<|z2c<|z4r<|z0t<|z3d<|Zq (I.add Z Z)<|Zm Z<|z2c<|z2k (fun aa ww h=>Zu h [2])
  ·
   refine z3f<|z1h<|z1k<|z4k (fun aa ww h=>Zu h [2])
 ·
  refine gSR<|Zm Z<|Zb Z<|z0w<|Ze [v2] [2] Z
def z6p (a0:z00) (a1:List Bool) (s3:(List V3) × Int):Option (Sum ((List V3)) ((List V3) × Int)) :=
 if decide (s3.2<(a1.length:Int)) then
  idx a1 s3.2 >>= fun x6 =>
  if x6 then
   idx a0.IDs s3.2 >>= fun x9 =>
   app 32 s3.1 [x9] >>= fun x12 =>
   some (.inr (x12,w64 (s3.2+1)))
  else
   some (.inr (s3.1,w64 (s3.2+1)))
 else
  some (.inl s3.1)
def z8s (a0:z00) (a1:List Bool):Option ((List V3)) :=
 (iter (z6p a0 a1) ([],0)) >>= fun s2 =>
 some s2
theorem zil (a0:z00) (a1:List Bool):z36 Tryz.prog 75 [.rd z01 a0,.rd (z02 z0f) a1] [] (z8s a0 a1) (fun r nv=>⟨[.val (nv 0)],[(100,some (nv 0,.list aZ 78 r))]⟩):=by
 refine z4g 26 Tryz.func75 Z Z Z fun H w=>?_
 refine gSR<|Eb Z (bx 1 Z) fun v1=>Zb Z<|gSR<|Zb Z<|zb9 (fun (s2:(List V3)) aa ww=>∃ nv:Nat→Value,Sta (ctx 26 H [] w) [(5,.val (nv 0))] [(3,some ((nv 0),.list aZ 78 s2))] aa ww) ?_ (fun s2=>?_)
 ·
  refine gSR<|Zm Z<|Zq (z5r Z .rd Z Tryz.underlying125)<|Zm Z<|Zn<|zzn aZ 78 6<|z3l (fun (s3:(List V3) × Int) aa ww=>∃ nv:Nat→Value,Sta (ctx 26 H [] w) [(1,.rd (z02 z0f) a1),(2,.val (z07 v1 0)),(5,.val (nv 0)),(8,.rd z0c (a1.length:Int)),(9,.rd z0c s3.2)] [(1,some (v1,.box 27 [.rd z01 a0])),(5,some ((nv 0),.list aZ 78 s3.1))] aa ww) (fun aa ww h=>⟨nvl [(.slice none 0 0)],Zu h [1,6]⟩) (fun s3=>?_)
  refine gEx fun n4=>gSR<|Zq (I.lss Z Z)<|Zn<|z11<|gIf Z Z (fun h5=>?_) (fun h5=>?_)
  ·
   refine Zt<|z11<|z85<|gSR<|Zm Z<|Zb Z<|gSR<|Zm Z<|Zm Z<|z0v fun x6 h7=>Zq (ixR Z Z h7 Tryz.underlying125 ti4 Z)<|Zq (ldR Z ty4)<|Zj Z (fun h8=>?_) (fun h8=>?_)
   ·
    refine z3d<|Zm Z<|Zq (faB 1 Z Z Tryz.underlying27 Z (by exact zae))<|Zq (ld 1 Z Z (fP (z0o _)) ze3 Z)<|Zm Z<|z0v fun x9 h10=>Zq (ixR Z Z h10 tu24 z3h Z)<|Zq (ldR Z z6s)<|Ef Z (lit (R:=aZ) ([x9]:List V3) 7 (pP Z Z<|pN) Z tu24 z3h Z Z) fun v11=>zfz 7 [22] Z (fS Z<|fN)<|z0v fun x12 h13=>Ef Z (apn 5 Z Z Z .rd h13 tu24 z3h Z Z Z) fun v14=>Za Z<|z2c<|z4r<|z0t<|z3d<|Zq (I.add Z Z)<|Zm Z<|z2c<|z2k (fun aa ww h=>⟨nvl [v14],Zu h [1,5]⟩)
   ·
    refine z5o<|z4r<|z0t<|z3d<|Zq (I.add Z Z)<|Zm Z<|z2c<|z2k (fun aa ww h=>⟨nvl [(n4 0)],Zu h [1,5]⟩)
  ·
   refine z3f<|z1h<|z1k<|z4k (fun aa ww h=>⟨nvl [(n4 0)],Zu h [5]⟩)
 ·
  refine gEx fun n15=>gSR<|Zm Z<|Zb Z<|z0w<|Ze [(n15 0)] [3] Z
def zd6 (a0:z00) (a1:V3):Option (Int × Int) :=
 z4a a0 >>= fun r3 =>
 if r3 != 0 then
  some (0,r3)
 else
  z0e a0.IDs a1 >>= fun r6 =>
  if !r6.2 then
   some (0,6)
  else
   some (r6.1,0)
theorem zkr (a0:z00) (a1:V3):z36 Tryz.prog 139 [.rd z01 a0,.rd aZ a1] [zG1] (zd6 a0 a1) (fun r nv=>⟨[.rd z0c r.1,.rd z0c r.2],[(1001,some (.bool true,.glob 1 (z4v 64 z0z) z58))]⟩):=by
 refine z4g 24 Tryz.func139 Z Z Z fun H w=>?_
 refine gSR<|Eb Z (bx 1 Z) fun v1=>Eb Z (bx 2 Z) fun v2=>Za Z<|Zb Z<|z11<|gSR<|Zq (ld 1 Z Z fH z7q Z)<|Zc [1001] [] Tryz.func60 Z (zc7 _) fun r3 n4=>Zb Z<|gSR<|Zm Z<|Zq (I.neq Z Z)<|Zj Z (fun h5=>?_) (fun h5=>?_)
 ·
  refine gSR<|Zm Z<|Za Z<|Zb Z<|z0w<|z1e<|Ze [] [1001] Z
 ·
  refine Zt<|gSR<|Zq (faB 1 Z Z Tryz.underlying27 Z (by exact zae))<|Zq (ld 1 Z Z (fP (z0o _)) ze3 Z)<|Zq (ld 2 Z Z fH z6s Z)<|Zc [] [] Tryz.func122 Z (z2g _ _) fun r6 n7=>Zm Z<|Zq (ext Z Z)<|Zq (ext Z Z)<|Za Z<|Zb Z<|z11<|gSR<|Zm Z<|Zq (zlr Z)<|Zj Z (fun h8=>?_) (fun h8=>?_)
  ·
   refine gSR<|Za Z<|Zb Z<|z0w<|z1e<|Ze [] [1001] Z
  ·
   refine Zt<|gSR<|Zm Z<|Za Z<|Zb Z<|z0w<|Ze [] [1001] Z
def z7z (c1_0:List (V3 × Int)) (c3_0:z00) (rec:V3→(List (V3 × Int))→(List Bool)→z00→Option ((List Bool))) (x8:z05) (s10:(List Bool) × Int):Option (Sum ((List Bool)) ((List Bool) × Int)) :=
 if decide (s10.2<(x8.Preds.length:Int)) then
  idx x8.Preds s10.2 >>= fun x12 =>
  rec x12 c1_0 s10.1 c3_0 >>= fun r15 =>
  some (.inr (r15,w64 (s10.2+1)))
 else
  some (.inl s10.1)
def z6n (rec:V3→(List (V3 × Int))→(List Bool)→z00→Option ((List Bool))) (a0:V3) (c1_0:List (V3 × Int)) (c2_0:List Bool) (c3_0:z00):Option ((List Bool)) :=
 some ((z3k c1_0 a0).getD 0) >>= fun y2 =>
 idx c2_0 y2 >>= fun x3 =>
 if x3 then
  some c2_0
 else
  idx c2_0 y2 >>= fun x6 =>
  idx c3_0.Ops y2 >>= fun x8 =>
  iter (z7z c1_0 c3_0 rec x8) (c2_0.set (y2:Int).toNat true,0)
def z2u:Nat→V3→(List (V3 × Int))→(List Bool)→z00→Option ((List Bool))
 | 0,_,_,_,_=>none
 | N+1,a0,c1_0,c2_0,c3_0=>z6n (z2u N) a0 c1_0 c2_0 c3_0
theorem zi4 (rec:V3→(List (V3 × Int))→(List Bool)→z00→Option ((List Bool))) (ih:∀ (a0:V3) (p1_0:Value) (q1_0:Value) (c1_0:List (V3 × Int)) (p2_0:Value) (q2_0:Value) (c2_0:List Bool) (p3_0:Value) (c3_0:z00) (p4_0:Value),z36 Tryz.prog 125 [.rd aZ a0,.val (z07 p1_0 0),.val (z07 p2_0 0),.val (z07 p3_0 0),.val (z07 p4_0 0)] [(1,some (p1_0,.box 123 [.val q1_0])),(2,some (q1_0,.map aZ z0c c1_0)),(3,some (p2_0,.box 125 [.val q2_0])),(4,some (q2_0,.list z0f 4 c2_0)),(5,some (p3_0,.box 27 [.rd z01 c3_0])),(6,some (p4_0,.box 173 [.val (.func (.func 125) #[] #[z07 p1_0 0,z07 p2_0 0,z07 p3_0 0,z07 p4_0 0])]))] (rec a0 c1_0 c2_0 c3_0) (fun r nv=>⟨[],[(1,some (p1_0,.box 123 [.val q1_0])),(2,some (q1_0,.map aZ z0c c1_0)),(3,some (p2_0,.box 125 [.val q2_0])),(4,some (q2_0,.list z0f 4 r)),(5,some (p3_0,.box 27 [.rd z01 c3_0])),(6,some (p4_0,.box 173 [.val (.func (.func 125) #[] #[z07 p1_0 0,z07 p2_0 0,z07 p3_0 0,z07 p4_0 0])]))]⟩)) (a0:V3) (p1_0:Value) (q1_0:Value) (c1_0:List (V3 × Int)) (p2_0:Value) (q2_0:Value) (c2_0:List Bool) (p3_0:Value) (c3_0:z00) (p4_0:Value):z36 Tryz.prog 125 [.rd aZ a0,.val (z07 p1_0 0),.val (z07 p2_0 0),.val (z07 p3_0 0),.val (z07 p4_0 0)] [(1,some (p1_0,.box 123 [.val q1_0])),(2,some (q1_0,.map aZ z0c c1_0)),(3,some (p2_0,.box 125 [.val q2_0])),(4,some (q2_0,.list z0f 4 c2_0)),(5,some (p3_0,.box 27 [.rd z01 c3_0])),(6,some (p4_0,.box 173 [.val (.func (.func 125) #[] #[z07 p1_0 0,z07 p2_0 0,z07 p3_0 0,z07 p4_0 0])]))] (z6n rec a0 c1_0 c2_0 c3_0) (fun r nv=>⟨[],[(1,some (p1_0,.box 123 [.val q1_0])),(2,some (q1_0,.map aZ z0c c1_0)),(3,some (p2_0,.box 125 [.val q2_0])),(4,some (q2_0,.list z0f 4 r)),(5,some (p3_0,.box 27 [.rd z01 c3_0])),(6,some (p4_0,.box 173 [.val (.func (.func 125) #[] #[z07 p1_0 0,z07 p2_0 0,z07 p3_0 0,z07 p4_0 0])]))]⟩):=by
 refine z4g 34 Tryz.func125 Z Z Z fun H w=>?_
 refine gSR<|Eb Z (bx 7 Z) fun v1=>Zn<|gSR<|Zq (ldV 1 Z Z .here z1aa Z)<|Zq (ld 7 Z Z fH z6s Z)<|Zq (mlk Z (.own 2 Z Z) Z zpr Tryz.underlying123 ti3 (Zr.num Z) Z)<|Za Z<|z3j 6 Z fun y2=>Zn<|z11<|gSR<|Zq (ldV 3 Z Z .here z175 Z)<|Zm Z<|z0v fun x3 h4=>Zq (ixO 4 Z Z Z h4 Tryz.underlying125 ti4)<|Zq (ld 4 Z Z (Foc.el h4) ty4 Z)<|Zj Z (fun h5=>?_) (fun h5=>?_)
 ·
  refine z0w<|z1e<|Ze [] [1,2,3,4,5,6] Z
 ·
  refine Zt<|gSR<|Zq (ldV 3 Z Z .here z175 Z)<|Zm Z<|z0v fun x6 h7=>Zq (ixO 4 Z Z Z h7 Tryz.underlying125 ti4)<|Es (sto 4 Z Z (Foc.el h7) Z ti4)<|Zn<|gSR<|Zq (faB 5 Z Z Tryz.underlying27 Z (by exact zf7))<|Zq (ld 5 Z Z (fP (z0n _)) zkh Z)<|Zm Z<|z0v fun x8 h9=>Zq (ixR Z Z h9 tu25 zbb Z)<|Zq (faR Z (z1c _) Tryz.underlying72 Z Z (by exact zae))<|Zq (ldR Z ze3)<|Zq (z5r Z .rd Z tu24)<|Zm Z<|Zn<|z3l (fun (s10:(List Bool) × Int) aa ww=>Sta (ctx 34 H [(1,some (p1_0,.box 123 [.val q1_0])),(2,some (q1_0,.map aZ z0c c1_0)),(3,some (p2_0,.box 125 [.val q2_0])),(4,some (q2_0,.list z0f 4 c2_0)),(5,some (p3_0,.box 27 [.rd z01 c3_0])),(6,some (p4_0,.box 173 [.val (.func (.func 125) #[] #[z07 p1_0 0,z07 p2_0 0,z07 p3_0 0,z07 p4_0 0])]))] w) [(4,.val (z07 p4_0 0)),(24,.rd (z02 aZ) x8.Preds),(25,.rd z0c (x8.Preds.length:Int)),(26,.rd z0c s10.2)] [(6,some (p4_0,.box 173 [.val (.func (.func 125) #[] #[z07 p1_0 0,z07 p2_0 0,z07 p3_0 0,z07 p4_0 0])])),(2,some (q1_0,.map aZ z0c c1_0)),(1,some (p1_0,.box 123 [.val q1_0])),(4,some (q2_0,.list z0f 4 s10.1)),(3,some (p2_0,.box 125 [.val q2_0])),(5,some (p3_0,.box 27 [.rd z01 c3_0]))] aa ww) (fun aa ww h=>Zu h [6,2,1,4,3,5]) (fun s10=>?_)
  refine gSR<|Zq (I.lss Z Z)<|Zn<|z11<|gIf Z Z (fun h11=>?_) (fun h11=>?_)
  ·
   refine Zt<|z11<|z85<|gSR<|z0v fun x12 h13=>Zq (ixR Z Z h13 tu24 z3h Z)<|Zq (ldR Z z6s)<|Eb Z (z4w 8 z3h (.zr (R:=aZ) (x:=(Vector.replicate 32 0)) zf6)) fun v14=>Es (sto 8 Z Z fH Z z3h)<|Zn<|z3d<|Zq (ldV 6 Z Z .here z189 Z)<|Zq (ld 8 Z Z fH z6s Z)<|zko [1,2,3,4,5,6] [(1,1),(2,2),(3,3),(4,4),(5,5),(6,6)] (gd0 Z) Z Z Tryz.func125 Z Z (ih _ _ _ _ _ _ _ _ _ _) (Y1 Z) (cQ 1 Z<|cQ 3 Z<|cQ 5 Z<|cQ 6 Z<|cN) (Zi Z<|Zi Z<|Zi Z<|Zi Z<|Zi Z<|Zi Z<|rN) fun r15 n16=>z2c<|z4r<|z0t<|z3d<|Zq (I.add Z Z)<|Zm Z<|z2c<|z2k (fun aa ww h=>Zu h [6,2,1,4,3,5])
  ·
   refine z3f<|z1h<|z1k<|Ze [] [1,2,3,4,5,6] Z
theorem zcv:∀ (N:Nat) (a0:V3) (p1_0:Value) (q1_0:Value) (c1_0:List (V3 × Int)) (p2_0:Value) (q2_0:Value) (c2_0:List Bool) (p3_0:Value) (c3_0:z00) (p4_0:Value),z36 Tryz.prog 125 [.rd aZ a0,.val (z07 p1_0 0),.val (z07 p2_0 0),.val (z07 p3_0 0),.val (z07 p4_0 0)] [(1,some (p1_0,.box 123 [.val q1_0])),(2,some (q1_0,.map aZ z0c c1_0)),(3,some (p2_0,.box 125 [.val q2_0])),(4,some (q2_0,.list z0f 4 c2_0)),(5,some (p3_0,.box 27 [.rd z01 c3_0])),(6,some (p4_0,.box 173 [.val (.func (.func 125) #[] #[z07 p1_0 0,z07 p2_0 0,z07 p3_0 0,z07 p4_0 0])]))] (z2u N a0 c1_0 c2_0 c3_0) (fun r nv=>⟨[],[(1,some (p1_0,.box 123 [.val q1_0])),(2,some (q1_0,.map aZ z0c c1_0)),(3,some (p2_0,.box 125 [.val q2_0])),(4,some (q2_0,.list z0f 4 r)),(5,some (p3_0,.box 27 [.rd z01 c3_0])),(6,some (p4_0,.box 173 [.val (.func (.func 125) #[] #[z07 p1_0 0,z07 p2_0 0,z07 p3_0 0,z07 p4_0 0])]))]⟩)
 | 0,a0,p1_0,q1_0,c1_0,p2_0,q2_0,c2_0,p3_0,c3_0,p4_0=>fun r hr=>absurd hr (by simp [z2u])
 | N+1,a0,p1_0,q1_0,c1_0,p2_0,q2_0,c2_0,p3_0,c3_0,p4_0=>zi4 (z2u N) (zcv N) a0 p1_0 q1_0 c1_0 p2_0 q2_0 c2_0 p3_0 c3_0 p4_0
theorem zhp (a0:V3) (p1_0:Value) (q1_0:Value) (c1_0:List (V3 × Int)) (p2_0:Value) (q2_0:Value) (c2_0:List Bool) (p3_0:Value) (c3_0:z00) (p4_0:Value):z36 Tryz.prog 125 [.rd aZ a0,.val (z07 p1_0 0),.val (z07 p2_0 0),.val (z07 p3_0 0),.val (z07 p4_0 0)] [(1,some (p1_0,.box 123 [.val q1_0])),(2,some (q1_0,.map aZ z0c c1_0)),(3,some (p2_0,.box 125 [.val q2_0])),(4,some (q2_0,.list z0f 4 c2_0)),(5,some (p3_0,.box 27 [.rd z01 c3_0])),(6,some (p4_0,.box 173 [.val (.func (.func 125) #[] #[z07 p1_0 0,z07 p2_0 0,z07 p3_0 0,z07 p4_0 0])]))] (z2u 1000 a0 c1_0 c2_0 c3_0) (fun r nv=>⟨[],[(1,some (p1_0,.box 123 [.val q1_0])),(2,some (q1_0,.map aZ z0c c1_0)),(3,some (p2_0,.box 125 [.val q2_0])),(4,some (q2_0,.list z0f 4 r)),(5,some (p3_0,.box 27 [.rd z01 c3_0])),(6,some (p4_0,.box 173 [.val (.func (.func 125) #[] #[z07 p1_0 0,z07 p2_0 0,z07 p3_0 0,z07 p4_0 0])]))]⟩):=zcv 1000 a0 p1_0 q1_0 c1_0 p2_0 q2_0 c2_0 p3_0 c3_0 p4_0
def z9f (a0:z00) (a1:List V3) (r2:(List (V3 × Int))) (s11:(List Bool) × Int):Option (Sum ((List Bool)) ((List Bool) × Int)) :=
 if decide (s11.2<(a1.length:Int)) then
  idx a1 s11.2 >>= fun x13 =>
  (z2u 1000) x13 r2 s11.1 a0 >>= fun r16 =>
  some (.inr (r16,w64 (s11.2+1)))
 else
  some (.inl s11.1)
def z9q (a0:z00) (a1:List V3):Option ((List Bool)) :=
 zb1 a0 >>= fun r2 =>
 mkn 1 false (a0.IDs.length:Int) >>= fun x5 =>
 (iter (z9f a0 a1 r2) (x5,0)) >>= fun s10 =>
 some s10
theorem zjm (a0:z00) (a1:List V3):z36 Tryz.prog 87 [.rd z01 a0,.rd (z02 aZ) a1] [] (z9q a0 a1) (fun r nv=>⟨[.val (nv 0)],[(100,some (nv 0,.list z0f 4 r))]⟩):=by
 refine z4g 28 Tryz.func87 Z Z Z fun H w=>?_
 refine gSR<|Eb Z (bx 1 Z) fun v1=>Zb Z<|gSR<|Zq (ld 1 Z Z fH z7q Z)<|Zc [] [(100,2)] Tryz.func74 Z (zin _) fun r2 n3=>Eb Z (z4w 3 z195 (.val Z)) fun v4=>Es (zs6 3 Z Z (.here z0a) Z z1q z0a z195)<|Zn<|gSR<|Zq (faB 1 Z Z Tryz.underlying27 Z (by exact zae))<|Zq (ld 1 Z Z (fP (z0o _)) ze3 Z)<|Zq (z5r Z .rd Z tu24)<|z0v fun x5 h6=>Ef Z (mks (R:=z0f) 4 Z Z h6 Tryz.underlying125 ti4 Zr.bool Z) fun v7=>Eb Z (z4w 5 z198 (.val Z)) fun v8=>Es (zs6 5 Z Z (.here z0a) Z z1q z0a z198)<|Zn<|gSR<|Eb Z (z4w 6 z19i (.val Z)) fun v9=>Zn<|gSR<|Zq (mkf mp0 (mp4 Z Z Z Z))<|Es (zs6 6 Z Z (.here z0a) Z z1q z0a z19i)<|Zn<|zb9 (fun (s10:(List Bool)) aa ww=>Sta (ctx 28 H [] w) [(6,.val (z07 v8 0))] [(4,some (v7,.list z0f 4 s10)),(5,some (v8,.box 125 [.val v7]))] aa ww) ?_ (fun s10=>?_)
 ·
  refine gSR<|Zm Z<|Zq (z5r Z .rd Z tu24)<|Zm Z<|Zn<|z3l (fun (s11:(List Bool) × Int) aa ww=>Sta (ctx 28 H [] w) [(6,.val (z07 v8 0)),(7,.val (z07 v9 0)),(17,.rd (z02 aZ) a1),(18,.rd z0c (a1.length:Int)),(19,.rd z0c s11.2)] [(4,some (v7,.list z0f 4 s11.1)),(5,some (v8,.box 125 [.val v7])),(6,some (v9,.box 173 [.val (.func (.func 125) #[] #[z07 v4 0,z07 v8 0,z07 v1 0,z07 v9 0])])),(2,some ((n3 0),.map aZ z0c r2)),(3,some (v4,.box 123 [.val (n3 0)])),(1,some (v1,.box 27 [.rd z01 a0]))] aa ww) (fun aa ww h=>Zu h [4,5,6,2,3,1]) (fun s11=>?_)
  refine gSR<|Zq (I.lss Z Z)<|Zn<|z11<|gIf Z Z (fun h12=>?_) (fun h12=>?_)
  ·
   refine Zt<|z11<|z85<|gSR<|z0v fun x13 h14=>Zq (ixR Z Z h14 tu24 z3h Z)<|Zq (ldR Z z6s)<|Eb Z (z4w 7 z3h (.zr (R:=aZ) (x:=(Vector.replicate 32 0)) zf6)) fun v15=>Es (sto 7 Z Z fH Z z3h)<|Zn<|z3d<|Zq (ldV 6 Z Z .here z189 Z)<|Zq (ld 7 Z Z fH z6s Z)<|zko [3,2,5,4,1,6] [(1,3),(2,2),(3,5),(4,4),(5,1),(6,6)] (gd0 Z) Z Z Tryz.func125 Z Z (zhp _ _ _ _ _ _ _ _ _ _) (Y1 Z) (cQ 3 Z<|cQ 5 Z<|cQ 1 Z<|cQ 6 Z<|cN) (Zi Z<|Zi Z<|Zi Z<|Zi Z<|Zi Z<|Zi Z<|rN) fun r16 n17=>z2c<|z4r<|z0t<|z3d<|Zq (I.add Z Z)<|Zm Z<|z2c<|z2k (fun aa ww h=>Zu h [4,5,6,2,3,1])
  ·
   refine z3f<|z1h<|z1k<|z4k (fun aa ww h=>Zu h [4,5])
 ·
  refine gSR<|Zq (ldV 5 Z Z .here z175 Z)<|Zb Z<|z0w<|Ze [v7] [4] Z
def z8k (a0:z00) (a1:V3):Option ((List V3) × Int) :=
 zd6 a0 a1 >>= fun r3 =>
 if r3.2 != 0 then
  some ([],r3.2)
 else
  idx a0.Ops r3.1 >>= fun x6 =>
  z9q a0 x6.Preds >>= fun r8 =>
  z8s a0 r8 >>= fun r10 =>
  some (r10,0)
theorem zgk (a0:z00) (a1:V3):z36 Tryz.prog 97 [.rd z01 a0,.rd aZ a1] [zG1] (z8k a0 a1) (fun r nv=>⟨[.val (nv 0),.rd z0c r.2],[(1001,some (.bool true,.glob 1 (z4v 64 z0z) z58)),(100,some (nv 0,.list aZ 78 r.1))]⟩):=by
 refine z4g 27 Tryz.func97 Z Z Z fun H w=>?_
 refine gSR<|Eb Z (bx 1 Z) fun v1=>Eb Z (bx 2 Z) fun v2=>Za Z<|Zb Z<|gSR<|Zq (ld 1 Z Z fH z7q Z)<|Zq (ld 2 Z Z fH z6s Z)<|Zc [1001] [] Tryz.func139 Z (zkr _ _) fun r3 n4=>Zm Z<|Zq (ext Z Z)<|Zq (ext Z Z)<|Za Z<|Zb Z<|z11<|gSR<|Zm Z<|Zq (I.neq Z Z)<|Zj Z (fun h5=>?_) (fun h5=>?_)
 ·
  refine gSR<|Zm Z<|Za Z<|Zb Z<|z0w<|z1e<|zra aZ 78 3<|Ze [(.slice none 0 0)] [1001,3] Z
 ·
  refine Zt<|z11<|zb6 [28,31] mixed Z Z<|hTk 0 Z Z (ld 1 Z Z fH z7q Z)<|hTk 1 Z Z (ld 1 Z Z fH z7q Z)<|hTk 2 Z Z (faB 1 Z Z Tryz.underlying27 Z (by exact zf7))<|hTk 3 Z Z (ld 1 Z Z (fP (z0n _)) zkh Z)<|hTk 4 Z Z (mv Z)<|zd3 fun x6 h7=>hTk 5 Z Z (ixR Z Z h7 tu25 zbb Z)<|hTk 6 Z Z (faR Z (z1c _) Tryz.underlying72 Z Z (by exact zae))<|hTk 7 Z Z (ldR Z ze3)<|z7s 8 [] [(100,28)] Z (by kernel_rfl) Z (gd0 Z) Z Tryz.func87 Z Z (zjm _ _) (Y2 Z Z) rN Z (fun _ _=>z80) fun r8 n9=>hFrz 28 [25] Z (fS Z<|fN)<|z7s 9 [] [(100,31)] Z (by kernel_rfl) Z (gd0 Z) Z Tryz.func75 Z Z (zil _ _) (Y2 Z Z) rN Z (fun _ _=>z80) fun r10 n11=>Zf 10 Z Z z80 (asg Z)<|hTk 11 Z Z (asg Z)<|z4h (by kernel_rfl)<|z0t<|z0w<|Ze [(n11 0)] [1001,31] Z
def zgu (a0:z05):Option (z05) :=
 z0l a0.Preds >>= fun r3 =>
 some (⟨a0.Author,r3,a0.Stamp,a0.Act,a0.Sig⟩:z05)
theorem zi3 (a0:z05):z36 Tryz.prog 121 [.rd z04 a0] [] (zgu a0) (fun r nv=>⟨[.rd z04 r],[]⟩):=by
 refine z4g 8 Tryz.func121 Z Z Z fun H w=>?_
 refine gSR<|Eb Z (bx 1 Z) fun v1=>Eb Z (z4w 2 zbb (ZrE.rd (R:=z0z) (x:=0) (Zr.num Z) (ZrE.nilS (ZrE.rd (R:=z3u) (x:=0) (Zr.num Z) (ZrE.rd (R:=z0h) (x:=(⟨0,[],(⟨0,0,0,[]⟩:z03)⟩:z06)) zlw (ZrE.rd (R:=z0m) (x:=(⟨0,0⟩:z08)) zpq ZrE.nil Z) Z) Z)) Z)) fun v2=>Zn<|gSR<|Zq (faB 1 Z Z Tryz.underlying72 Z (by exact zae))<|Zq (ld 1 Z Z (fP (z1c _)) ze3 Z)<|Zc [] [(100,3)] Tryz.func55 Z (z1j _) fun r3 n4=>Zq (faB 1 Z Z Tryz.underlying72 Z (by exact zae))<|lSpl (R:=z04) 1 Z (Sp.via (Sp.prod (Sp.prod (Sp.prod (Sp.prod (Sp.prod Sp.unit))))))<|Es (zs6 1 Z Z (zah.cast (zah.next z24 (zah.here z24)) Z) Z z1q z0a zae)<|Zn<|gSR<|zvv [.rd z0z a0.Author,.rd (z02 aZ) r3,.rd z3u a0.Stamp,.rd z0h a0.Act,.rd z0m a0.Sig] 1 3 [.rd z0z a0.Author] [.rd z3u a0.Stamp,.rd z0h a0.Act,.rd z0m a0.Sig] Z Z Z Z Z<|zb2 (R:=z04) (⟨a0.Author,r3,a0.Stamp,a0.Act,a0.Sig⟩:z05) 1 Z (Sp.via (Sp.prod (Sp.prod (Sp.prod (Sp.prod (Sp.prod Sp.unit))))))<|Zq (ld 1 Z Z fH zgr Z)<|z89 aZ [.rd z0z 0,.rd (z02 aZ) [],.rd z3u 0,.rd z0h (⟨0,[],(⟨0,0,0,[]⟩:z03)⟩:z06),.rd z0m (⟨0,0⟩:z08)] 2 [.rd z0z 0] [.rd z3u 0,.rd z0h (⟨0,[],(⟨0,0,0,[]⟩:z03)⟩:z06),.rd z0m (⟨0,0⟩:z08)] Z Z Z<|zb2 (R:=z04) (⟨0,[],0,(⟨0,[],(⟨0,0,0,[]⟩:z03)⟩:z06),(⟨0,0⟩:z08)⟩:z05) 2 Z (Sp.via (Sp.prod (Sp.prod (Sp.prod (Sp.prod (Sp.prod Sp.unit))))))<|Es (sto 2 Z Z fH Z zbb)<|Zn<|z0w<|zdc [] [] Z (eC 2 Z Z zgr<|eN) (rN)
def zh4 (a0:z00) (a2:z05) (r5:Int × Bool) (r11:List V3) (s16:(List z05) × Int):Option (Sum ((List z05)) ((List z05) × Int)) :=
 if decide (s16.2<(r11.length:Int)) then
  some (decide (s16.2<r5.1)) >>= fun y19 =>
  if y19 then
   idx a0.Ops s16.2 >>= fun x21 =>
   zgu x21 >>= fun r23 =>
   app 112 s16.1 [r23] >>= fun x26 =>
   some (.inr (x26,w64 (s16.2+1)))
  else
   some (s16.2==r5.1) >>= fun y29 =>
   if y29 then
    zgu a2 >>= fun r31 =>
    app 112 s16.1 [r31] >>= fun x34 =>
    some (.inr (x34,w64 (s16.2+1)))
   else
    idx a0.Ops (w64 (s16.2 - 1)) >>= fun x37 =>
    zgu x37 >>= fun r39 =>
    app 112 s16.1 [r39] >>= fun x42 =>
    some (.inr (x42,w64 (s16.2+1)))
 else
  some (.inl s16.1)
def zhs (a0:z00) (a1:V3) (a2:z05):Option (z00 × Bool) :=
 ze9 a0 a1 >>= fun r5 =>
 if r5.2 then
  some (a0,false)
 else
  z0l a0.IDs >>= fun r8 =>
  insF r8 r5.1 [a1] >>= fun r11 =>
  (iter (zh4 a0 a2 r5 r11) ([],0)) >>= fun s15 =>
  some ((⟨r11,s15⟩:z00),true)
set_option maxHeartbeats 4000000 in
theorem zw6 (a0:z00) (a1:V3) (a2:z05):z36 Tryz.prog 81 [.rd z01 a0,.rd aZ a1,.rd z04 a2] [] (zhs a0 a1 a2) (fun r nv=>⟨[.rd z01 r.1,.rd z0f r.2],[]⟩):=by
 refine z4g 74 Tryz.func81 Z Z Z fun H w=>?_
 refine gSR<|Eb Z (bx 1 Z) fun v1=>Eb Z (bx 2 Z) fun v2=>Eb Z (bx 3 Z) fun v3=>Eb Z (z4w 4 z4f (ZrE.nilS (ZrE.nilS ZrE.nil))) fun v4=>Zb Z<|gSR<|Zq (ld 1 Z Z fH z7q Z)<|Zq (ld 2 Z Z fH z6s Z)<|Zc [] [] Tryz.func84 Z (zhu _ _) fun r5 n6=>Zm Z<|Zq (ext Z Z)<|Zq (ext Z Z)<|Za Z<|Zb Z<|z11<|gSR<|Zm Z<|Zj Z (fun h7=>?_) (fun h7=>?_)
 ·
  refine gKn 17 Z h7<|gKn 9 Z h7<|gSR<|Zq (ld 1 Z Z fH z7q Z)<|z89 aZ [.rd (z02 aZ) [],.val (.slice none 0 0)] 4 [] [.val (.slice none 0 0)] Z Z Z<|z89 z04 [.rd (z02 aZ) [],.rd (z02 z04) []] 4 [.rd (z02 aZ) []] [] Z Z Z<|zb2 (R:=z01) (⟨[],[]⟩:z00) 4 Z (Sp.via (Sp.prod (Sp.prod Sp.unit)))<|Es (sto 4 Z Z fH Z z4f)<|Zb Z<|z0w<|z1e<|zdc [] [] Z (eC 4 Z Z z7q<|eE Z<|eN) (rN)
 ·
  refine gKn 17 Z h7<|gKn 9 Z h7<|Zt<|z11<|gSub [(3,.val (z07 v1 0)),(4,.val (z07 v2 0)),(5,.val (z07 v3 0)),(6,.val (z07 v4 0)),(8,.rd z0c r5.1)] [(1,some (v1,.box 27 [.rd z01 a0])),(2,some (v2,.box 78 [.rd aZ a1])),(3,some (v3,.box 72 [.rd z04 a2])),(4,some (v4,.box 27 [.val (.slice none 0 0),.val (.slice none 0 0)]))] [1,2,3,4] (Zs Z Z Z Z<|sS Z<|sN) (Zi Z<|Zi Z<|Zi Z<|Zi Z<|rN)<|zf3 fun r8 h10=>zf3 fun r11 h13=>gOr [] [⟨1,some ([], fun nv=>(v1,.box 27 [.rd z01 a0])),[]⟩,⟨5,none,[(2,some ([1], fun nv=>((nv 1),.list aZ 78 r8))),(6,none)]⟩,⟨2,some ([], fun nv=>(v2,.box 78 [.rd aZ a1])),[]⟩,⟨6,none,[(5,some ([2], fun nv=>((nv 2),.list aZ 78 [a1]))),(6,none)]⟩,⟨7,none,[(6,some ([3], fun nv=>((nv 3),.list aZ 78 r11)))]⟩,⟨8,none,[(8,some ([4], fun nv=>((nv 4),.box 27 [.val (.slice none 0 0),.val (.slice none 0 0)]))),(9,some ([3,4], fun nv=>((nv 4),.box 27 [.val (nv 3),.val (.slice none 0 0)])))]⟩] [pk 20 (.val (z07 v1 (0+0))) [(0,0,false)],pk 21 (.rd (z02 aZ) a0.IDs) [(0,0,false)],⟨some (22,[1], fun nv=>.val (nv 1)),[(1,0,true)],[1],[]⟩,pd 23 (.rd z0c r5.1),pk 24 (.rd aZ a1) [(2,0,false)],⟨some (25,[2], fun nv=>.val (nv 2)),[(3,0,true)],[2],[]⟩,⟨some (26,[3], fun nv=>.val (nv 3)),[(3,1,true),(1,1,true),(4,0,true)],[3],[]⟩,⟨some (27,[3], fun nv=>.agg [.val (nv 3),.val (.slice none 0 0)]),[],[],[]⟩,⟨some (10,[4], fun nv=>.val (z07 (nv 4) 0)),[(5,0,true)],[4],[]⟩,⟨none,[(5,1,true)],[],[]⟩] mixed (oC (oRn (fun nv E=>faB 1 Z Z Tryz.underlying27 Z (by exact zae)))<|oC (oRn (fun nv E=>ld 1 Z Z (fP (z0o _)) ze3 Z))<|oC (oCl [1] [] [(100,5)] h10 Tryz.func55 Z (fun nv=>(z1j _)) (fun nv=>(Y1 Z)) (fun nv E=>rN))<|oC (oRn (fun nv E=>mv Z))<|oC (oRn (fun nv E=>ld 2 Z Z fH z6s Z))<|oC (oEf 6 2 (fun nv E=>lit (R:=aZ) ([a1]:List V3) 6 (pP Z Z<|pN) Z tu24 z3h Z Z))<|oC (oCl [3] [5,6] [(100,7)] h13 Tryz.func120 Z (fun nv=>(z15x _ _ _ _ _)) (fun nv=>(aQ Z<|aQ Z<|aQ Z<|aN)) (fun nv E=>(Zi Z<|Zi Z<|rN)))<|oC (oRn (fun nv E=>zwv [(0,1),(1,1)] Tryz.underlying27 z4f (ZrE.nilS (ZrE.nilS ZrE.nil)) Z (zkj.cons Z Z z0a (zah.cast (zah.here z0a) Z)<|zkj.done Z)))<|oC (oEb 8 4 (fun nv E=>z4w 8 z4f (ZrE.nilS (ZrE.nilS ZrE.nil))))<|oC (oEs 8 (fun nv E=>zws 8 Z Z (z0j.cast (z0j.cons z0a (z0j.cons z0a z0j.nil)) Z) Z (z5l.cons z1q (z5l.cons z1q z5l.nil)) (z0j.cast (z0j.cons z0a (z0j.cons z0a z0j.nil)) Z) z4f))<|oN) fun n14=>z0t<|zb9 (fun (s15:(List z05)) aa ww=>∃ nv:Nat→Value,Sta (ctx 74 H [] w) [(6,.val (z07 v4 0)),(10,.val (z07 (nv 0) 0))] [(4,some (v4,.box 27 [.val (.slice none 0 0),.val (.slice none 0 0)])),(7,some ((nv 1),.list aZ 78 r11)),(9,some ((nv 2),.list z04 72 s15)),(8,some ((nv 0),.box 27 [.val (nv 1),.val (nv 2)]))] aa ww) ?_ (fun s15=>?_)
  ·
   refine gSR<|Zq (faB 8 Z Z Tryz.underlying27 Z (by exact zae))<|Zq (ldV 8 Z Z (At.cast At.here Z) sc24 Z)<|Zq (z5r Z (.own 7 Z) Z tu24)<|Zm Z<|Zn<|zzn z04 72 11<|z3l (fun (s16:(List z05) × Int) aa ww=>∃ nv:Nat→Value,Sta (ctx 74 H [] w) [(3,.val (z07 v1 0)),(5,.val (z07 v3 0)),(6,.val (z07 v4 0)),(8,.rd z0c r5.1),(10,.val (z07 (nv 0) 0)),(30,.rd z0c (r11.length:Int)),(31,.rd z0c s16.2)] [(1,some (v1,.box 27 [.rd z01 a0])),(3,some (v3,.box 72 [.rd z04 a2])),(4,some (v4,.box 27 [.val (.slice none 0 0),.val (.slice none 0 0)])),(7,some ((nv 1),.list aZ 78 r11)),(10,some ((nv 2),.list z04 72 s16.1)),(8,some ((nv 0),.box 27 [.val (nv 1),.val (nv 2)]))] aa ww) (fun aa ww h=>⟨nvl [(n14 4),(n14 3),(.slice none 0 0)],Zu h [1,3,4,7,11,8]⟩) (fun s16=>?_)
   refine gEx fun n17=>gSR<|Zq (I.lss Z Z)<|Zn<|z11<|gIf Z Z (fun h18=>?_) (fun h18=>?_)
   ·
    refine Zt<|z11<|z85<|gSR<|Zm Z<|Zb Z<|z85<|gSR<|Zm Z<|Zm Z<|Zq (I.lss Z Z)<|Za Z<|z3j 46 Z fun y19=>Zj Z (fun h20=>?_) (fun h20=>?_)
    ·
     refine gSub [(3,.val (z07 v1 0)),(5,.val (z07 v3 0)),(6,.val (z07 v4 0)),(8,.rd z0c r5.1),(10,.val (z07 (n17 0) 0)),(30,.rd z0c (r11.length:Int)),(31,.rd z0c s16.2),(11,.rd z0c s16.2)] [(1,some (v1,.box 27 [.rd z01 a0])),(3,some (v3,.box 72 [.rd z04 a2])),(4,some (v4,.box 27 [.val (.slice none 0 0),.val (.slice none 0 0)])),(7,some ((n17 1),.list aZ 78 r11)),(10,some ((n17 2),.list z04 72 s16.1)),(8,some ((n17 0),.box 27 [.val (n17 1),.val (n17 2)]))] [1,3,4,7,10,8] (Zs Z Z Z Z<|Zs Z Z Z Z<|sN) (Zi Z<|Zi Z<|Zi Z<|Zi Z<|Zi Z<|Zi Z<|rN)<|zf3 fun x21 h22=>zf3 fun r23 h25=>zf3 fun x26 h27=>gOr [] [⟨8,some ([], fun nv=>((n17 0),.box 27 [.val (n17 1),.val (n17 2)])),[(11,some ([2], fun nv=>((n17 0),.box 27 [.val (n17 1),.val (nv 2)])))]⟩,⟨1,some ([], fun nv=>(v1,.box 27 [.rd z01 a0])),[]⟩,⟨12,none,[(8,none)]⟩,⟨10,some ([], fun nv=>((n17 2),.list z04 72 s16.1)),[(9,some ([2], fun nv=>((nv 2),.list z04 72 x26)))]⟩] [pk 50 (.val (z07 (n17 0) (0+1))) [(0,0,false)],pk 51 (.val (n17 2)) [(0,0,false)],pk 52 (.val (z07 v1 (0+1))) [(1,0,false)],pk 53 (.rd (z02 z04) a0.Ops) [(1,0,false)],pd 54 (.rd z0c s16.2),pd 55 (.rp z04 x21),pd 56 (.rd z04 x21),pd 57 (.rd z04 r23),⟨some (58,[], fun nv=>.rd (z02 z04) [r23]),[(2,0,true)],[1],[]⟩,⟨some (59,[2], fun nv=>.val (nv 2)),[(3,0,true)],[2],[]⟩,pk 60 (.val (z07 (n17 0) (0+1))) [(0,0,false)],⟨none,[(3,1,false),(0,0,true)],[],[]⟩] mixed (oC (oRn (fun nv E=>faB 8 Z Z Tryz.underlying27 Z (by exact zf7)))<|oC (oRn (fun nv E=>ldV 8 Z Z (At.cast (At.next z0a At.here) Z) sc25 Z))<|oC (oRn (fun nv E=>faB 1 Z Z Tryz.underlying27 Z (by exact zf7)))<|oC (oRn (fun nv E=>ld 1 Z Z (fP (z0n _)) zkh Z))<|oC (oRn (fun nv E=>mv Z))<|oC (oRn (fun nv E=>ixR Z Z h22 tu25 zbb Z))<|oC (oRn (fun nv E=>ldR Z zgr))<|oC (oCl [] [] [] h25 Tryz.func121 Z (fun nv=>(zi3 _)) (fun nv=>(Y1 Z)) (fun nv E=>rN))<|oC (oFz (A1:=fun nv=>[(12,some ((nv 1),.list z04 72 [r23]))]) 12 1 (oEf 12 1 (fun nv E=>lit (R:=z04) ([r23]:List z05) 12 (pP Z Z<|pN) Z tu25 zbb Z Z)))<|oC (oEf 10 2 (fun nv E=>apn 10 Z Z Z .rd h27 tu25 zbb Z Z Z))<|oC (oRn (fun nv E=>faB 8 Z Z Tryz.underlying27 Z (by exact zf7)))<|oC (oEs 8 (fun nv E=>zs6 8 Z Z (zah.cast (zah.next z0a (zah.here z0a)) Z) Z z1q z0a zf7))<|oN) fun n28=>z4r<|z4r<|z0t<|z3d<|Zq (I.add Z Z)<|Zm Z<|z2c<|z2k (fun aa ww h=>⟨nvl [(n17 0),(n17 1),(n28 2)],Zu h [1,3,4,7,10,8]⟩)
    ·
     refine gSR<|Zm Z<|Zm Z<|Zq (I.eql Z Z)<|Za Z<|z3j 61 Z fun y29=>Zj Z (fun h30=>?_) (fun h30=>?_)
     ·
      refine gSub [(3,.val (z07 v1 0)),(5,.val (z07 v3 0)),(6,.val (z07 v4 0)),(8,.rd z0c r5.1),(10,.val (z07 (n17 0) 0)),(30,.rd z0c (r11.length:Int)),(31,.rd z0c s16.2)] [(1,some (v1,.box 27 [.rd z01 a0])),(3,some (v3,.box 72 [.rd z04 a2])),(4,some (v4,.box 27 [.val (.slice none 0 0),.val (.slice none 0 0)])),(7,some ((n17 1),.list aZ 78 r11)),(10,some ((n17 2),.list z04 72 s16.1)),(8,some ((n17 0),.box 27 [.val (n17 1),.val (n17 2)]))] [1,3,4,7,10,8] (Zs Z Z Z Z<|sS Z<|sS Z<|sS Z<|sN) (Zi Z<|Zi Z<|Zi Z<|Zi Z<|Zi Z<|Zi Z<|rN)<|zf3 fun r31 h33=>zf3 fun x34 h35=>gOr [] [⟨8,some ([], fun nv=>((n17 0),.box 27 [.val (n17 1),.val (n17 2)])),[(7,some ([2], fun nv=>((n17 0),.box 27 [.val (n17 1),.val (nv 2)])))]⟩,⟨3,some ([], fun nv=>(v3,.box 72 [.rd z04 a2])),[]⟩,⟨13,none,[(4,none)]⟩,⟨10,some ([], fun nv=>((n17 2),.list z04 72 s16.1)),[(5,some ([2], fun nv=>((nv 2),.list z04 72 x34)))]⟩] [pk 65 (.val (z07 (n17 0) (0+1))) [(0,0,false)],pk 66 (.val (n17 2)) [(0,0,false)],pk 67 (.rd z04 a2) [(1,0,false)],pd 68 (.rd z04 r31),⟨some (69,[], fun nv=>.rd (z02 z04) [r31]),[(2,0,true)],[1],[]⟩,⟨some (70,[2], fun nv=>.val (nv 2)),[(3,0,true)],[2],[]⟩,pk 71 (.val (z07 (n17 0) (0+1))) [(0,0,false)],⟨none,[(3,1,false),(0,0,true)],[],[]⟩] mixed (oC (oRn (fun nv E=>faB 8 Z Z Tryz.underlying27 Z (by exact zf7)))<|oC (oRn (fun nv E=>ldV 8 Z Z (At.cast (At.next z0a At.here) Z) sc25 Z))<|oC (oRn (fun nv E=>ld 3 Z Z fH zgr Z))<|oC (oCl [] [] [] h33 Tryz.func121 Z (fun nv=>(zi3 _)) (fun nv=>(Y1 Z)) (fun nv E=>rN))<|oC (oFz (A1:=fun nv=>[(13,some ((nv 1),.list z04 72 [r31]))]) 13 1 (oEf 13 1 (fun nv E=>lit (R:=z04) ([r31]:List z05) 13 (pP Z Z<|pN) Z tu25 zbb Z Z)))<|oC (oEf 10 2 (fun nv E=>apn 10 Z Z Z .rd h35 tu25 zbb Z Z Z))<|oC (oRn (fun nv E=>faB 8 Z Z Tryz.underlying27 Z (by exact zf7)))<|oC (oEs 8 (fun nv E=>zs6 8 Z Z (zah.cast (zah.next z0a (zah.here z0a)) Z) Z z1q z0a zf7))<|oN) fun n36=>z4r<|z4r<|z0t<|z3d<|Zq (I.add Z Z)<|Zm Z<|z2c<|z2k (fun aa ww h=>⟨nvl [(n17 0),(n17 1),(n36 2)],Zu h [1,3,4,7,10,8]⟩)
     ·
      refine gSub [(3,.val (z07 v1 0)),(5,.val (z07 v3 0)),(6,.val (z07 v4 0)),(8,.rd z0c r5.1),(10,.val (z07 (n17 0) 0)),(30,.rd z0c (r11.length:Int)),(31,.rd z0c s16.2),(11,.rd z0c s16.2)] [(1,some (v1,.box 27 [.rd z01 a0])),(3,some (v3,.box 72 [.rd z04 a2])),(4,some (v4,.box 27 [.val (.slice none 0 0),.val (.slice none 0 0)])),(7,some ((n17 1),.list aZ 78 r11)),(10,some ((n17 2),.list z04 72 s16.1)),(8,some ((n17 0),.box 27 [.val (n17 1),.val (n17 2)]))] [1,3,4,7,10,8] (Zs Z Z Z Z<|Zs Z Z Z Z<|sN) (Zi Z<|Zi Z<|Zi Z<|Zi Z<|Zi Z<|Zi Z<|rN)<|zf3 fun x37 h38=>zf3 fun r39 h41=>zf3 fun x42 h43=>gOr [] [⟨8,some ([], fun nv=>((n17 0),.box 27 [.val (n17 1),.val (n17 2)])),[(12,some ([2], fun nv=>((n17 0),.box 27 [.val (n17 1),.val (nv 2)])))]⟩,⟨1,some ([], fun nv=>(v1,.box 27 [.rd z01 a0])),[]⟩,⟨14,none,[(9,none)]⟩,⟨10,some ([], fun nv=>((n17 2),.list z04 72 s16.1)),[(10,some ([2], fun nv=>((nv 2),.list z04 72 x42)))]⟩] [pk 34 (.val (z07 (n17 0) (0+1))) [(0,0,false)],pk 35 (.val (n17 2)) [(0,0,false)],pk 36 (.val (z07 v1 (0+1))) [(1,0,false)],pk 37 (.rd (z02 z04) a0.Ops) [(1,0,false)],pd 38 (.rd z0c s16.2),pd 39 (.rd z0c (w64 (s16.2 - 1))),pd 40 (.rp z04 x37),pd 41 (.rd z04 x37),pd 42 (.rd z04 r39),⟨some (43,[], fun nv=>.rd (z02 z04) [r39]),[(2,0,true)],[1],[]⟩,⟨some (44,[2], fun nv=>.val (nv 2)),[(3,0,true)],[2],[]⟩,pk 45 (.val (z07 (n17 0) (0+1))) [(0,0,false)],⟨none,[(3,1,false),(0,0,true)],[],[]⟩] mixed (oC (oRn (fun nv E=>faB 8 Z Z Tryz.underlying27 Z (by exact zf7)))<|oC (oRn (fun nv E=>ldV 8 Z Z (At.cast (At.next z0a At.here) Z) sc25 Z))<|oC (oRn (fun nv E=>faB 1 Z Z Tryz.underlying27 Z (by exact zf7)))<|oC (oRn (fun nv E=>ld 1 Z Z (fP (z0n _)) zkh Z))<|oC (oRn (fun nv E=>mv Z))<|oC (oRn (fun nv E=>I.sub Z Z))<|oC (oRn (fun nv E=>ixR Z Z h38 tu25 zbb Z))<|oC (oRn (fun nv E=>ldR Z zgr))<|oC (oCl [] [] [] h41 Tryz.func121 Z (fun nv=>(zi3 _)) (fun nv=>(Y1 Z)) (fun nv E=>rN))<|oC (oFz (A1:=fun nv=>[(14,some ((nv 1),.list z04 72 [r39]))]) 14 1 (oEf 14 1 (fun nv E=>lit (R:=z04) ([r39]:List z05) 14 (pP Z Z<|pN) Z tu25 zbb Z Z)))<|oC (oEf 10 2 (fun nv E=>apn 10 Z Z Z .rd h43 tu25 zbb Z Z Z))<|oC (oRn (fun nv E=>faB 8 Z Z Tryz.underlying27 Z (by exact zf7)))<|oC (oEs 8 (fun nv E=>zs6 8 Z Z (zah.cast (zah.next z0a (zah.here z0a)) Z) Z z1q z0a zf7))<|oN) fun n44=>z4r<|z4r<|z0t<|z3d<|Zq (I.add Z Z)<|Zm Z<|z2c<|z2k (fun aa ww h=>⟨nvl [(n17 0),(n17 1),(n44 2)],Zu h [1,3,4,7,10,8]⟩)
   ·
    refine z3f<|z1h<|z1k<|z4k (fun aa ww h=>⟨nvl [(n17 0),(n17 1),(n17 2)],Zu h [4,7,10,8]⟩)
  ·
   refine gEx fun n45=>gSR<|zvv [.rd (z02 aZ) r11,.val (n45 2)] 8 7 [] [.val (n45 2)] Z Z Z Z Z<|zvv [.rd (z02 aZ) r11,.rd (z02 z04) s15] 8 9 [.rd (z02 aZ) r11] [] Z Z Z Z Z<|zb2 (R:=z01) (⟨r11,s15⟩:z00) 8 Z (Sp.via (Sp.prod (Sp.prod Sp.unit)))<|Zq (ld 8 Z Z fH z7q Z)<|z89 aZ [.rd (z02 aZ) [],.val (.slice none 0 0)] 4 [] [.val (.slice none 0 0)] Z Z Z<|z89 z04 [.rd (z02 aZ) [],.rd (z02 z04) []] 4 [.rd (z02 aZ) []] [] Z Z Z<|zb2 (R:=z01) (⟨[],[]⟩:z00) 4 Z (Sp.via (Sp.prod (Sp.prod Sp.unit)))<|Es (sto 4 Z Z fH Z z4f)<|Zb Z<|z0w<|zdc [] [] Z (eC 4 Z Z z7q<|eE Z<|eN) (rN)
def zj4 (a0:V3) (c1_0:z00):Option (Bool) :=
 ze9 c1_0 a0 >>= fun r2 =>
 some (!r2.2)
theorem zq0 (a0:V3) (p1_0:Value) (c1_0:z00):z36 Tryz.prog 83 [.rd aZ a0,.val (z07 p1_0 0)] [(1,some (p1_0,.box 27 [.rd z01 c1_0]))] (zj4 a0 c1_0) (fun r nv=>⟨[.rd z0f r],[(1,some (p1_0,.box 27 [.rd z01 c1_0]))]⟩):=by
 refine z4g 14 Tryz.func83 Z Z Z fun H w=>?_
 refine gSR<|Eb Z (bx 2 Z) fun v1=>Zb Z<|gSR<|Zq (ld 1 Z Z fH z7q Z)<|Zq (ld 2 Z Z fH z6s Z)<|Zc [] [] Tryz.func84 Z (zhu _ _) fun r2 n3=>Zm Z<|Zq (ext Z Z)<|Zq (ext Z Z)<|Za Z<|Zb Z<|gSR<|Zm Z<|Zq (zlr Z)<|Zb Z<|z0w<|Ze [] [1] Z
def z16 (a0:List V3) (c1_0:z00) (s2:Int):Option (Sum (Sum Int Unit) Int) :=
 if decide (s2<(a0.length:Int)) then
  idx a0 s2 >>= fun x4 =>
  zj4 x4 c1_0 >>= fun r6 =>
  if r6 then
   some (.inl (.inl s2))
  else
   some (.inr (w64 (s2+1)))
 else
  some (.inl (.inr ()))
def z33 (a0:List V3) (c1_0:z00):Option (Int) :=
 z4x (iter (z16 a0 c1_0) 0) fun s1 =>
 some (-1)
theorem z7y (a0:List V3) (p1_0:Value) (c1_0:z00):z36 Tryz.prog 91 [.rd (z02 aZ) a0,.val (.func (.func 83) #[] #[z07 p1_0 0])] [(1,some (p1_0,.box 27 [.rd z01 c1_0]))] (z33 a0 c1_0) (fun r nv=>⟨[.rd z0c r],[(1,some (p1_0,.box 27 [.rd z01 c1_0]))]⟩):=by
 refine z4g 19 Tryz.func91 Z Z Z fun H w=>?_
 refine gSR<|Zb Z<|zb3 (fun (s1:Unit) aa ww=>Sta (ctx 19 H [(1,some (p1_0,.box 27 [.rd z01 c1_0]))] w) [] [(1,some (p1_0,.box 27 [.rd z01 c1_0]))] aa ww) ?_ (fun s1=>?_)
 ·
  refine gSR<|Zm Z<|Zq (z5r Z .rd Z tu24)<|Zm Z<|Zn<|z3l (fun (s2:Int) aa ww=>Sta (ctx 19 H [(1,some (p1_0,.box 27 [.rd z01 c1_0]))] w) [(0,.rd (z02 aZ) a0),(1,.val (.func (.func 83) #[] #[z07 p1_0 0])),(7,.rd z0c (a0.length:Int)),(8,.rd z0c s2)] [(1,some (p1_0,.box 27 [.rd z01 c1_0]))] aa ww) (fun aa ww h=>Zu h [1]) (fun s2=>?_)
  refine gSR<|Zq (I.lss Z Z)<|Zn<|z11<|gIf Z Z (fun h3=>?_) (fun h3=>?_)
  ·
   refine Zt<|z11<|z85<|gSR<|Zm Z<|Zb Z<|gSR<|Zm Z<|Zm Z<|Zm Z<|z0v fun x4 h5=>Zq (ixR Z Z h5 tu24 z3h Z)<|Zq (ldR Z z6s)<|zko [1] [(1,1)] (gd0 Z) Z Z Tryz.func83 Z Z (zq0 _ _ _) (Y1 Z) (cQ 1 Z<|cN) (y1 Z) fun r6 n7=>Zj Z (fun h8=>?_) (fun h8=>?_)
   ·
    refine gSR<|Zm Z<|Zb Z<|z0w<|z88<|z1e<|zb5<|zag<|Ze [] [1] Z
   ·
    refine z5o<|z4r<|z0t<|z3d<|Zq (I.add Z Z)<|Zm Z<|z2c<|z2k (fun aa ww h=>Zu h [1])
  ·
   refine z3f<|z1h<|z1k<|za9 (fun aa ww h=>Zu h [1])
 ·
  refine gSR<|Zb Z<|z0w<|Ze [] [1] Z
def z1m (a0:List V3) (c1_0:z00):Option (Bool) :=
 z33 a0 c1_0 >>= fun r1 =>
 some (decide (0≤r1)) >>= fun y3 =>
 some y3
theorem z79 (a0:List V3) (p1_0:Value) (c1_0:z00):z36 Tryz.prog 82 [.rd (z02 aZ) a0,.val (.func (.func 83) #[] #[z07 p1_0 0])] [(1,some (p1_0,.box 27 [.rd z01 c1_0]))] (z1m a0 c1_0) (fun r nv=>⟨[.rd z0f r],[(1,some (p1_0,.box 27 [.rd z01 c1_0]))]⟩):=by
 refine z4g 9 Tryz.func82 Z Z Z fun H w=>?_
 refine gSR<|Zb Z<|gSR<|Zm Z<|Zm Z<|Zc [1] [(1,1)] Tryz.func91 Z (z7y _ _ _) fun r1 n2=>Zq (I.geq Z Z)<|Za Z<|z3j 4 Z fun y3=>Zn<|z0w<|Ze [] [1] Z
def zm7 (a0:z00) (a1:z05):Option (z00 × V3 × Int) :=
 z4a a0 >>= fun r5 =>
 (if r5==0 then
  zg5 a1 >>= fun r9 =>
  some r9
 else
  some r5) >>= fun s7 =>
 if s7 != 0 then
  some ((⟨[],[]⟩:z00),(Vector.replicate 32 0),s7)
 else
  z109 a1 >>= fun r12 =>
  zhs a0 r12.1 a1 >>= fun r15 =>
  if !r15.2 then
   some ((⟨[],[]⟩:z00),(Vector.replicate 32 0),14)
  else
   z1m a1.Preds a0 >>= fun r19 =>
   if r19 then
    some ((⟨[],[]⟩:z00),(Vector.replicate 32 0),40)
   else
    some ((a0.Ops.length:Int)==60) >>= fun y22 =>
    if y22 then
     some ((⟨[],[]⟩:z00),(Vector.replicate 32 0),18)
    else
     some (r15.1,r12.1,0)
theorem zwi (a0:z00) (a1:z05):z36 Tryz.prog 35 [.rd z01 a0,.rd z04 a1] [zG1] (zm7 a0 a1) (fun r nv=>⟨[.rd z01 r.1,.rd aZ r.2.1,.rd z0c r.2.2],[(1001,some (.bool true,.glob 1 (z4v 64 z0z) z58))]⟩):=by
 refine z4g 56 Tryz.func35 Z Z Z fun H w=>?_
 refine gSR<|Eb Z (bx 1 Z) fun v1=>Eb Z (bx 2 Z) fun v2=>Eb Z (z4w 3 z4f (ZrE.nilS (ZrE.nilS ZrE.nil))) fun v3=>Eb Z (z4w 4 z3h (.zr (R:=aZ) (x:=(Vector.replicate 32 0)) zf6)) fun v4=>Zb Z<|gSR<|Zq (ld 1 Z Z fH z7q Z)<|Zc [1001] [] Tryz.func60 Z (zc7 _) fun r5 n6=>Zb Z<|zb9 (fun (s7:Int) aa ww=>Sta (ctx 56 H [zG1] w) [(2,.val (z07 v1 0)),(3,.val (z07 v2 0)),(4,.val (z07 v3 0)),(5,.val (z07 v4 0)),(7,.rd z0c s7)] [(1,some (v1,.box 27 [.rd z01 a0])),(2,some (v2,.box 72 [.rd z04 a1])),(3,some (v3,.box 27 [.val (.slice none 0 0),.val (.slice none 0 0)])),(4,some (v4,.box 78 [.rd aZ (Vector.replicate 32 0)])),zG1] aa ww) ?_ (fun s7=>?_)
 ·
  refine gSR<|Zm Z<|Zq (I.eql Z Z)<|Zj Z (fun h8=>?_) (fun h8=>?_)
  ·
   refine z3d<|Zq (ld 2 Z Z fH zgr Z)<|Zc [1001] [] Tryz.func79 Z (zk9 _) fun r9 n10=>Za Z<|z2c<|z4k (fun aa ww h=>Zu h [1,2,3,4,1001])
  ·
   refine z5o<|z4k (fun aa ww h=>Zu h [1,2,3,4,1001])
 ·
  refine z11<|gSR<|Zm Z<|Zq (I.neq Z Z)<|Zj Z (fun h11=>?_) (fun h11=>?_)
  ·
   refine gSR<|Zq (zwv [(0,1),(1,1)] Tryz.underlying27 z4f (ZrE.nilS (ZrE.nilS ZrE.nil)) Z (zkj.done Z))<|Zq (bldG (x':=((Vector.replicate 32 0):V3)) tu78 z3h zf6 ti5 (Bld.done Z))<|Zm Z<|Es (zws 3 Z Z (z0j.cast (z0j.cons z0a (z0j.cons z0a z0j.nil)) Z) Z (z5l.cons z1q (z5l.cons z1q z5l.nil)) (z0j.cast (z0j.cons z0a (z0j.cons z0a z0j.nil)) Z) z4f)<|Es (sto 4 Z Z fH Z z3h)<|Zb Z<|z0w<|z1e<|zrv aZ [.rd (z02 aZ) [],.val (.slice none 0 0)] 3 [] [.val (.slice none 0 0)] Z Z Z<|zrv z04 [.rd (z02 aZ) [],.rd (z02 z04) []] 3 [.rd (z02 aZ) []] [] Z Z Z<|eJoi (R:=z01) (⟨[],[]⟩:z00) 3 Z (Sp.via (Sp.prod (Sp.prod Sp.unit)))<|zdc [] [1001] Z (eC 3 Z Z z7q<|eC 4 Z Z z6s<|eE Z<|eN) (y1 Z)
  ·
   refine Zt<|gSR<|Zq (ld 2 Z Z fH zgr Z)<|Zc [1001] [] Tryz.func80 Z (ztu _) fun r12 n13=>Zm Z<|Zq (ext Z Z)<|Zq (ext Z Z)<|Eb Z (z4w 1100 z3h (.zr (R:=aZ) (x:=(Vector.replicate 32 0)) zf6)) fun v14=>Es (sto 1100 Z Z fH Z z3h)<|Zb Z<|gSR<|Zq (ld 1 Z Z fH z7q Z)<|Zq (ld 1100 Z Z fH z6s Z)<|Zq (ld 2 Z Z fH zgr Z)<|Zc [] [] Tryz.func81 Z (zw6 _ _ _) fun r15 n16=>Zm Z<|Zq (ext Z Z)<|Zq (ext Z Z)<|Eb Z (z4w 1101 z4f (ZrE.nilS (ZrE.nilS ZrE.nil))) fun v17=>z89 aZ [.rd (z02 aZ) [],.val (.slice none 0 0)] 1101 [] [.val (.slice none 0 0)] Z Z Z<|z89 z04 [.rd (z02 aZ) [],.rd (z02 z04) []] 1101 [.rd (z02 aZ) []] [] Z Z Z<|zb2 (R:=z01) (⟨[],[]⟩:z00) 1101 Z (Sp.via (Sp.prod (Sp.prod Sp.unit)))<|Es (sto 1101 Z Z fH Z z4f)<|Zb Z<|z11<|z85<|gSR<|Zm Z<|Zq (zlr Z)<|Zb Z<|gIf Z Z (fun h18=>?_) (fun h18=>?_)
   ·
    refine gKn 37 Z h18<|gSR<|Zq (zwv [(0,1),(1,1)] Tryz.underlying27 z4f (ZrE.nilS (ZrE.nilS ZrE.nil)) Z (zkj.done Z))<|Zq (bldG (x':=((Vector.replicate 32 0):V3)) tu78 z3h zf6 ti5 (Bld.done Z))<|Es (zws 3 Z Z (z0j.cast (z0j.cons z0a (z0j.cons z0a z0j.nil)) Z) Z (z5l.cons z1q (z5l.cons z1q z5l.nil)) (z0j.cast (z0j.cons z0a (z0j.cons z0a z0j.nil)) Z) z4f)<|Es (sto 4 Z Z fH Z z3h)<|Zb Z<|z0w<|z88<|z1e<|zrv aZ [.rd (z02 aZ) [],.val (.slice none 0 0)] 3 [] [.val (.slice none 0 0)] Z Z Z<|zrv z04 [.rd (z02 aZ) [],.rd (z02 z04) []] 3 [.rd (z02 aZ) []] [] Z Z Z<|eJoi (R:=z01) (⟨[],[]⟩:z00) 3 Z (Sp.via (Sp.prod (Sp.prod Sp.unit)))<|zdc [] [1001] Z (eC 3 Z Z z7q<|eC 4 Z Z z6s<|eE Z<|eN) (y1 Z)
   ·
    refine gKn 37 Z h18<|gSR<|Zq (faB 2 Z Z Tryz.underlying72 Z (by exact zae))<|Zq (ld 2 Z Z (fP (z1c _)) ze3 Z)<|Zq (mkf mp0 (mp1 Z))<|Zc [1] [(1,1)] Tryz.func82 Z (z79 _ _ _) fun r19 n20=>Zb Z<|gIf Z Z (fun h21=>?_) (fun h21=>?_)
    ·
     refine gKn 44 Z h21<|gSR<|Zq (zwv [(0,1),(1,1)] Tryz.underlying27 z4f (ZrE.nilS (ZrE.nilS ZrE.nil)) Z (zkj.done Z))<|Zq (bldG (x':=((Vector.replicate 32 0):V3)) tu78 z3h zf6 ti5 (Bld.done Z))<|Es (zws 3 Z Z (z0j.cast (z0j.cons z0a (z0j.cons z0a z0j.nil)) Z) Z (z5l.cons z1q (z5l.cons z1q z5l.nil)) (z0j.cast (z0j.cons z0a (z0j.cons z0a z0j.nil)) Z) z4f)<|Es (sto 4 Z Z fH Z z3h)<|Zb Z<|z0w<|z88<|z1e<|zrv aZ [.rd (z02 aZ) [],.val (.slice none 0 0)] 3 [] [.val (.slice none 0 0)] Z Z Z<|zrv z04 [.rd (z02 aZ) [],.rd (z02 z04) []] 3 [.rd (z02 aZ) []] [] Z Z Z<|eJoi (R:=z01) (⟨[],[]⟩:z00) 3 Z (Sp.via (Sp.prod (Sp.prod Sp.unit)))<|zdc [] [1001] Z (eC 3 Z Z z7q<|eC 4 Z Z z6s<|eE Z<|eN) (y1 Z)
    ·
     refine gKn 44 Z h21<|gSR<|Zq (faB 1 Z Z Tryz.underlying27 Z (by exact zf7))<|Zq (ld 1 Z Z (fP (z0n _)) zkh Z)<|Zq (z5r Z .rd Z tu25)<|Zq (I.eql Z Z)<|Za Z<|z3j 47 Z fun y22=>Zj Z (fun h23=>?_) (fun h23=>?_)
     ·
      refine gSR<|Zq (zwv [(0,1),(1,1)] Tryz.underlying27 z4f (ZrE.nilS (ZrE.nilS ZrE.nil)) Z (zkj.done Z))<|Zq (bldG (x':=((Vector.replicate 32 0):V3)) tu78 z3h zf6 ti5 (Bld.done Z))<|Es (zws 3 Z Z (z0j.cast (z0j.cons z0a (z0j.cons z0a z0j.nil)) Z) Z (z5l.cons z1q (z5l.cons z1q z5l.nil)) (z0j.cast (z0j.cons z0a (z0j.cons z0a z0j.nil)) Z) z4f)<|Es (sto 4 Z Z fH Z z3h)<|Zb Z<|z0w<|z88<|z1e<|zrv aZ [.rd (z02 aZ) [],.val (.slice none 0 0)] 3 [] [.val (.slice none 0 0)] Z Z Z<|zrv z04 [.rd (z02 aZ) [],.rd (z02 z04) []] 3 [.rd (z02 aZ) []] [] Z Z Z<|eJoi (R:=z01) (⟨[],[]⟩:z00) 3 Z (Sp.via (Sp.prod (Sp.prod Sp.unit)))<|zdc [] [1001] Z (eC 3 Z Z z7q<|eC 4 Z Z z6s<|eE Z<|eN) (y1 Z)
     ·
      refine z5o<|z4r<|z0t<|z11<|zb6 [3,4] mixed Z Z<|hTk 0 Z Z (ld 1101 Z Z fH z7q Z)<|hTk 1 Z Z (ld 1100 Z Z fH z6s Z)<|hPnl aZ [.rd (z02 aZ) [],.val (.slice none 0 0)] 3 [] [.val (.slice none 0 0)] Z Z Z<|hPnl z04 [.rd (z02 aZ) [],.rd (z02 z04) []] 3 [.rd (z02 aZ) []] [] Z Z Z<|hJoi (R:=z01) (⟨[],[]⟩:z00) 3 Z (Sp.via (Sp.prod (Sp.prod Sp.unit)))<|Zp 2 Z Z Z Z Z (sto 3 Z Z fH Z z4f)<|Zp 3 Z Z Z Z Z (sto 4 Z Z fH Z z3h)<|hTk 4 Z Z (asg Z)<|z4h (by kernel_rfl)<|z0t<|z0w<|zdc [] [1001] Z (eC 3 Z Z z7q<|eC 4 Z Z z6s<|eE Z<|eN) (y1 Z)
def zga (a0:z05):Option (z05) :=
 app 32 ([]:List V3) a0.Preds >>= fun x4 =>
 some (⟨a0.Author,x4,a0.Stamp,a0.Act,a0.Sig⟩:z05)
def z8m (a0:z00) (s9:(List z05) × Int):Option (Sum ((List z05)) ((List z05) × Int)) :=
 if decide (s9.2<(a0.Ops.length:Int)) then
  idx a0.Ops s9.2 >>= fun x12 =>
  zga x12 >>= fun r14 =>
  app 112 s9.1 [r14] >>= fun x17 =>
  some (w64 (s9.2+1)) >>= fun y20 =>
  some (.inr (x17,y20))
 else
  some (.inl s9.1)
def z8z (a0:z00):Option (z00) :=
 app 32 ([]:List V3) a0.IDs >>= fun x4 =>
 (iter (z8m a0) ([],0)) >>= fun s8 =>
 some (⟨x4,s8⟩:z00)
def z40 (a0:List V3) (a1:List V3) (s3:Int):Option (Sum (Sum Bool Unit) Int) :=
 if decide (s3<(a0.length:Int)) then
  idx a0 s3 >>= fun x5 =>
  idx a1 s3 >>= fun x7 =>
  if !decide (x5=x7) then
   some (.inl (.inl false))
  else
   some (.inr (w64 (s3+1)))
 else
  some (.inl (.inr ()))
def z8l (a0:List V3) (a1:List V3):Option (Bool) :=
 if (a0.length:Int) != (a1.length:Int) then
  some false
 else
  z4x (iter (z40 a0 a1) 0) fun s2 =>
  some true
def zdh (a0:z05) (a1:z05):Option (Bool) :=
 if a0.Author==a1.Author then
  z8l a0.Preds a1.Preds >>= fun r4 =>
  if r4 then
   if a0.Stamp==a1.Stamp then
    if decide (a0.Act=a1.Act) then
     some (decide (a0.Sig=a1.Sig)) >>= fun y9 =>
     some y9
    else
     some false
   else
    some false
  else
   some false
 else
  some false
def z98 (a0:z00) (a1:V3) (s7:Int):Option (Sum Int Int) :=
 if decide (s7<(a0.IDs.length:Int)) then
  idx a0.IDs s7 >>= fun x9 =>
  z5s x9 a1 >>= fun r11 =>
  if decide (r11<0) then
   some (.inr (w64 (s7+1)))
  else
   some (.inl s7)
 else
  some (.inl s7)
def zby (a0:z00) (a1:V3) (a2:z05):Option (z00) :=
 (iter (z98 a0 a1) 0) >>= fun s6 =>
 cut a0.IDs 0 s6 >>= fun x14 =>
 app 32 ([]:List V3) x14 >>= fun x16 =>
 app 32 x16 [a1] >>= fun x18 =>
 cut a0.IDs s6 (a0.IDs.length:Int) >>= fun x20 =>
 app 32 x18 x20 >>= fun x22 =>
 cut a0.Ops 0 s6 >>= fun x25 =>
 app 112 ([]:List z05) x25 >>= fun x27 =>
 app 112 x27 [a2] >>= fun x29 =>
 cut a0.Ops s6 (a0.Ops.length:Int) >>= fun x31 =>
 app 112 x29 x31 >>= fun x33 =>
 z8z (⟨x22,x33⟩:z00) >>= fun r36 =>
 some r36
def z6q (a0:z00) (a1:List V3) (s5:(List V3) × (List z05) × Int):Option (Sum ((List V3) × (List z05)) ((List V3) × (List z05) × Int)) :=
 if decide (s5.2.2<(a0.IDs.length:Int)) then
  idx a0.IDs s5.2.2 >>= fun x8 =>
  z3g a1 x8 >>= fun r10 =>
  if decide (0≤r10) then
   idx a0.IDs s5.2.2 >>= fun x13 =>
   app 32 s5.1 [x13] >>= fun x15 =>
   idx a0.Ops s5.2.2 >>= fun x18 =>
   app 112 s5.2.1 [x18] >>= fun x20 =>
   some (w64 (s5.2.2+1)) >>= fun y23 =>
   some (.inr (x15,x20,y23))
  else
   some (w64 (s5.2.2+1)) >>= fun y24 =>
   some (.inr (s5.1,s5.2.1,y24))
 else
  some (.inl (s5.1,s5.2.1))
def zdo (a0:z00) (a1:List V3):Option (z00) :=
 (iter (z6q a0 a1) ([],[],0)) >>= fun s4 =>
 z8z (⟨s4.1,s4.2⟩:z00) >>= fun r26 =>
 some r26
def z4d (a0:List V3) (s2:(List V3) × Int) (s6:Int):Option (Sum Int Int) :=
 if decide (s6<(s2.1.length:Int)) then
  idx s2.1 s6 >>= fun x8 =>
  idx a0 s2.2 >>= fun x10 =>
  z5s x8 x10 >>= fun r12 =>
  if decide (r12<0) then
   some (.inr (w64 (s6+1)))
  else
   some (.inl s6)
 else
  some (.inl s6)
def z5h (a0:List V3) (s2:(List V3) × Int):Option (Sum ((List V3)) ((List V3) × Int)) :=
 if decide (s2.2<(a0.length:Int)) then
  (iter (z4d a0 s2) 0) >>= fun s5 =>
  (if s5==(s2.1.length:Int) then
   some true
  else
   idx s2.1 s5 >>= fun x17 =>
   idx a0 s2.2 >>= fun x19 =>
   some (!decide (x17=x19))) >>= fun s15 =>
  if s15 then
   cut s2.1 0 s5 >>= fun x22 =>
   idx a0 s2.2 >>= fun x24 =>
   cut s2.1 s5 (s2.1.length:Int) >>= fun x26 =>
   app 32 ([]:List V3) x22 >>= fun x29 =>
   app 32 x29 [x24] >>= fun x33 =>
   app 32 x33 x26 >>= fun x36 =>
   some (w64 (s2.2+1)) >>= fun y39 =>
   some (.inr (x36,y39))
  else
   some (w64 (s2.2+1)) >>= fun y63 =>
   some (.inr (s2.1,y63))
 else
  some (.inl s2.1)
def z9a (a0:List V3):Option ((List V3)) :=
 (iter (z5h a0) ([],0)) >>= fun s1 =>
 some s1
def z7b (a0:List V3) (a1:List V3) (s2:(List V3) × Int):Option (Sum ((List V3)) ((List V3) × Int)) :=
 if decide (s2.2<(a1.length:Int)) then
  idx a1 s2.2 >>= fun x5 =>
  z3g a0 x5 >>= fun r7 =>
  if decide (r7<0) then
   idx a1 s2.2 >>= fun x10 =>
   app 32 s2.1 [x10] >>= fun x13 =>
   some (w64 (s2.2+1)) >>= fun y16 =>
   some (.inr (x13,y16))
  else
   some (w64 (s2.2+1)) >>= fun y17 =>
   some (.inr (s2.1,y17))
 else
  some (.inl s2.1)
def z99 (a0:List V3) (a1:List V3):Option ((List V3)) :=
 (iter (z7b a0 a1) ([],0)) >>= fun s1 =>
 z9a s1 >>= fun r19 =>
 some r19
def z9x (a0:z00) (a1:V3):Option ((List V3)) :=
 z3g a0.IDs a1 >>= fun r3 =>
 idx a0.Ops r3 >>= fun x5 =>
 some x5.Preds
def z5c (a0:z00) (s10:(List V3) × (List V3)):Option (Sum ((List V3)) ((List V3) × (List V3))) :=
 if decide (0<(s10.2.length:Int)) then
  idx s10.2 0 >>= fun x13 =>
  cut s10.2 1 (s10.2.length:Int) >>= fun x16 =>
  z3g s10.1 x13 >>= fun r19 =>
  if decide (r19<0) then
   app 32 s10.1 [x13] >>= fun x23 =>
   z9x a0 x13 >>= fun r26 =>
   app 32 x16 r26 >>= fun x28 =>
   some (.inr (x23,x28))
  else
   some (.inr (s10.1,x16))
 else
  some (.inl s10.1)
def z4q (a0:z00) (a1:V3):Option ((List V3)) :=
 z9x a0 a1 >>= fun r4 =>
 app 32 ([]:List V3) r4 >>= fun x6 =>
 (iter (z5c a0) ([],x6)) >>= fun s9 =>
 z9a s9 >>= fun r32 =>
 some r32
end
section
open Go Go.RowKit
set_option maxRecDepth 100000
def zem (a0:UInt32):Option (Int) :=
 if decide (500000002≤(a0 - 1)) then
  some 2
 else
  some 0
theorem zi9 (a0:UInt32):z36 Tryz.prog 105 [.rd z0z a0] [] (zem a0) (fun r nv=>⟨[.rd z0c r],[]⟩):=by
 refine z4g 6 Tryz.func105 Z Z Z fun H w=>?_
 refine gSR<|Zb Z<|z11<|gSR<|Zm Z<|Zq (W.sub Z Z)<|Zq (W.geq Z Z)<|Zj Z (fun h1=>?_) (fun h1=>?_)
 ·
  refine gSR<|Zb Z<|z0w<|z1e<|Ze [] [] Z
 ·
  refine Zt<|gSR<|Zb Z<|z0w<|Ze [] [] Z
def zdl (a0:UInt32):Option (UInt32 × Int) :=
 zem a0 >>= fun r1 =>
 if r1 != 0 then
  some (0,r1)
 else
  zbj a0.toUInt64 >>= fun r4 =>
  some (r4,0)
theorem zhl (a0:UInt32):z36 Tryz.prog 76 [.rd z0z a0] [] (zdl a0) (fun r nv=>⟨[.rd z0z r.1,.rd z0c r.2],[]⟩):=by
 refine z4g 13 Tryz.func76 Z Z Z fun H w=>?_
 refine gSR<|Za Z<|Zb Z<|z11<|gSR<|Zm Z<|Zc [] [] Tryz.func105 Z (zi9 _) fun r1 n2=>Zb Z<|gSR<|Zm Z<|Zq (I.neq Z Z)<|Zj Z (fun h3=>?_) (fun h3=>?_)
 ·
  refine gSR<|Zm Z<|Za Z<|Zb Z<|z0w<|z1e<|Ze [] [] Z
 ·
  refine Zt<|gSR<|Zm Z<|Zq (W.toU Z tu65 tu52)<|Zc [] [] Tryz.func106 Z (zfa _) fun r4 n5=>Za Z<|Zb Z<|z0w<|Ze [] [] Z
def zgq (a0:UInt32) (a1:List UInt8):Option (UInt32 × Int) :=
 zem a0 >>= fun r1 =>
 if r1 != 0 then
  some (0,r1)
 else
  zdy 110 a1 [a0] >>= fun r5 =>
  if r5.2 != 0 then
   some (0,r5.2)
  else
   some (((r5.1 % 500000002).toUInt32)+1) >>= fun y8 =>
   some (y8,0)
theorem zoj (a0:UInt32) (a1:List UInt8):z36 Tryz.prog 113 [.rd z0z a0,.rd (z02 u8R) a1] [zG1] (zgq a0 a1) (fun r nv=>⟨[.rd z0z r.1,.rd z0c r.2],[(1001,some (.bool true,.glob 1 (z4v 64 z0z) z58))]⟩):=by
 refine z4g 28 Tryz.func113 Z Z Z fun H w=>?_
 refine gSR<|Za Z<|Zb Z<|z11<|gSR<|Zm Z<|Zc [] [] Tryz.func105 Z (zi9 _) fun r1 n2=>Zb Z<|gSR<|Zm Z<|Zq (I.neq Z Z)<|Zj Z (fun h3=>?_) (fun h3=>?_)
 ·
  refine gSR<|Zm Z<|Za Z<|Zb Z<|z0w<|z1e<|Ze [] [1001] Z
 ·
  refine Zt<|gSR<|Zm Z<|Zm Z<|Ef Z (lit (R:=z0z) ([a0]:List UInt32) 1 (pP Z Z<|pN) Z tu236 zb8 Z Z) fun v4=>zfz 1 [17] Z (fS Z<|fN)<|Zc [1001] [] Tryz.func159 Z (zk1 _ _ _) fun r5 n6=>Zm Z<|Zq (ext Z Z)<|Zq (ext Z Z)<|Za Z<|Zb Z<|z11<|gSR<|Zm Z<|Zq (I.neq Z Z)<|Zj Z (fun h7=>?_) (fun h7=>?_)
  ·
   refine gSR<|Zm Z<|Za Z<|Zb Z<|z0w<|z1e<|Ze [] [1001] Z
  ·
   refine Zt<|gSR<|Zm Z<|Zq (U.rem Z Z (by decide))<|Zq (U.toW Z tu52 tu65)<|Zq (W.add Z Z)<|Za Z<|z3j 4 Z fun y8=>Zb Z<|z0w<|Ze [] [1001] Z
def zfm (a0:UInt32) (a1:UInt32):Option (UInt32 × Int) :=
 if decide (500000003≤(max a0 a1)) then
  some (0,2)
 else
  zav 500000003 [a0,a1] >>= fun r3 =>
  some (r3,0)
theorem zn3 (a0:UInt32) (a1:UInt32):z36 Tryz.prog 115 [.rd z0z a0,.rd z0z a1] [] (zfm a0 a1) (fun r nv=>⟨[.rd z0z r.1,.rd z0c r.2],[]⟩):=by
 refine z4g 14 Tryz.func115 Z Z Z fun H w=>?_
 refine gSR<|Za Z<|Zb Z<|z11<|gSR<|Zm Z<|Zm Z<|Zq (W.max Z Z)<|Zq (W.geq Z Z)<|Zj Z (fun h1=>?_) (fun h1=>?_)
 ·
  refine gSR<|Za Z<|Zb Z<|z0w<|z1e<|Ze [] [] Z
 ·
  refine Zt<|gSR<|Zm Z<|Zm Z<|Ef Z (lit (R:=z0z) ([a0,a1]:List UInt32) 1 (pP Z Z<|pP Z Z<|pN) Z tu236 zb8 Z Z) fun v2=>zfz 1 [12] Z (fS Z<|fN)<|Zc [] [] Tryz.func160 Z (ze6 _ _) fun r3 n4=>Za Z<|Zb Z<|z0w<|Ze [] [] Z
def zgw (a0:UInt32) (a1:UInt32):Option (UInt32 × Int) :=
 if decide (500000003≤(max a0 a1)) then
  some (0,2)
 else
  some ((a0+a1) % 500000003) >>= fun y2 =>
  some (y2,0)
theorem zow (a0:UInt32) (a1:UInt32):z36 Tryz.prog 116 [.rd z0z a0,.rd z0z a1] [] (zgw a0 a1) (fun r nv=>⟨[.rd z0z r.1,.rd z0c r.2],[]⟩):=by
 refine z4g 14 Tryz.func116 Z Z Z fun H w=>?_
 refine gSR<|Za Z<|Zb Z<|z11<|gSR<|Zm Z<|Zm Z<|Zq (W.max Z Z)<|Zq (W.geq Z Z)<|Zj Z (fun h1=>?_) (fun h1=>?_)
 ·
  refine gSR<|Za Z<|Zb Z<|z0w<|z1e<|Ze [] [] Z
 ·
  refine Zt<|gSR<|Zm Z<|Zm Z<|Zq (W.add Z Z)<|Zq (W.rem Z Z (by decide))<|Za Z<|z3j 4 Z fun y2=>Zb Z<|z0w<|Ze [] [] Z
def zjb (a0:UInt32) (a1:List UInt8):Option (z08 × Int) :=
 zgq a0 a1 >>= fun r2 =>
 if r2.2 != 0 then
  some ((⟨0,0⟩:z08),r2.2)
 else
  zdl a0 >>= fun r5 =>
  zbj r2.1.toUInt64 >>= fun r7 =>
  z9u r7 r5.1 a1 >>= fun r9 =>
  zfm r9.1 a0 >>= fun r11 =>
  zgw r2.1 r11.1 >>= fun r13 =>
  some ((⟨r9.1,r13.1⟩:z08),0)
theorem zqx (a0:UInt32) (a1:List UInt8):z36 Tryz.prog 78 [.rd z0z a0,.rd (z02 u8R) a1] [zG1] (zjb a0 a1) (fun r nv=>⟨[.rd z0m r.1,.rd z0c r.2],[(1001,some (.bool true,.glob 1 (z4v 64 z0z) z58))]⟩):=by
 refine z4g 55 Tryz.func78 Z Z Z fun H w=>?_
 refine gSR<|Eb Z (z4w 1 zpm (.zr (R:=z0m) (x:=(⟨0,0⟩:z08)) zpq)) fun v1=>Zb Z<|gSR<|Zm Z<|Zm Z<|Zc [1001] [] Tryz.func113 Z (zoj _ _) fun r2 n3=>Zm Z<|Zq (ext Z Z)<|Zq (ext Z Z)<|Za Z<|Zb Z<|z11<|gSR<|Zm Z<|Zq (I.neq Z Z)<|Zj Z (fun h4=>?_) (fun h4=>?_)
 ·
  refine gSR<|Zq (bld (x':=(⟨0,0⟩:z08)) [(0,1),(1,1)] Tryz.underlying70 zpm Z zpq Z (Bld.done Z))<|Zm Z<|Es (sto 1 Z Z fH Z zpm)<|Zb Z<|z0w<|z1e<|zdc [] [1001] Z (eC 1 Z Z ty70<|eE Z<|eN) (y1 Z)
 ·
  refine Zt<|gSR<|Zm Z<|Zc [] [] Tryz.func76 Z (zhl _) fun r5 n6=>Zm Z<|Zq (ext Z Z)<|Zq (ext Z Z)<|Za Z<|Zb Z<|gSR<|Zm Z<|Zq (W.toU Z tu65 tu52)<|Zc [] [] Tryz.func106 Z (zfa _) fun r7 n8=>Zm Z<|Zm Z<|Zc [1001] [] Tryz.func114 Z (zf2 _ _ _) fun r9 n10=>Zm Z<|Zq (ext Z Z)<|Zq (ext Z Z)<|Za Z<|Zb Z<|gSR<|Zm Z<|Zm Z<|Zc [] [] Tryz.func115 Z (zn3 _ _) fun r11 n12=>Zm Z<|Zq (ext Z Z)<|Zq (ext Z Z)<|Za Z<|Zb Z<|gSR<|Zm Z<|Zm Z<|Zc [] [] Tryz.func116 Z (zow _ _) fun r13 n14=>Zm Z<|Zq (ext Z Z)<|Zq (ext Z Z)<|Za Z<|Zb Z<|gSR<|Zm Z<|Zm Z<|Zq (bld (x':=(⟨r9.1,r13.1⟩:z08)) [(0,1),(1,1)] Tryz.underlying70 zpm Z zpq Z (Bld.cons (zaf _) Z Z<|Bld.cons (zc8 _) Z Z<|Bld.done Z))<|Es (sto 1 Z Z fH Z zpm)<|Zb Z<|z0w<|zdc [] [1001] Z (eC 1 Z Z ty70<|eE Z<|eN) (y1 Z)
def zjz (a0:UInt32) (a1:z05):Option (z05 × Int) :=
 zdl a0 >>= fun r3 =>
 if r3.2 != 0 then
  some ((⟨0,[],0,(⟨0,[],(⟨0,0,0,[]⟩:z03)⟩:z06),(⟨0,0⟩:z08)⟩:z05),r3.2)
 else
  z0l a1.Preds >>= fun r6 =>
  zbh (⟨({ a1 with Author:=r3.1 }).Author,r6,({ a1 with Author:=r3.1 }).Stamp,({ a1 with Author:=r3.1 }).Act,({ a1 with Author:=r3.1 }).Sig⟩:z05) >>= fun r8 =>
  if r8.2 != 0 then
   some ((⟨0,[],0,(⟨0,[],(⟨0,0,0,[]⟩:z03)⟩:z06),(⟨0,0⟩:z08)⟩:z05),r8.2)
  else
   zjb a0 r8.1 >>= fun r11 =>
   some ({ (⟨({ a1 with Author:=r3.1 }).Author,r6,({ a1 with Author:=r3.1 }).Stamp,({ a1 with Author:=r3.1 }).Act,({ a1 with Author:=r3.1 }).Sig⟩:z05) with Sig:=r11.1 },0)
theorem zvn (a0:UInt32) (a1:z05):z36 Tryz.prog 34 [.rd z0z a0,.rd z04 a1] [zG1] (zjz a0 a1) (fun r nv=>⟨[.rd z04 r.1,.rd z0c r.2],[(1001,some (.bool true,.glob 1 (z4v 64 z0z) z58))]⟩):=by
 refine z4g 41 Tryz.func34 Z Z Z fun H w=>?_
 refine gSR<|Eb Z (bx 1 Z) fun v1=>Eb Z (z4w 2 zbb (ZrE.rd (R:=z0z) (x:=0) (Zr.num Z) (ZrE.nilS (ZrE.rd (R:=z3u) (x:=0) (Zr.num Z) (ZrE.rd (R:=z0h) (x:=(⟨0,[],(⟨0,0,0,[]⟩:z03)⟩:z06)) zlw (ZrE.rd (R:=z0m) (x:=(⟨0,0⟩:z08)) zpq ZrE.nil Z) Z) Z)) Z)) fun v2=>Zb Z<|gSR<|Zm Z<|Zc [] [] Tryz.func76 Z (zhl _) fun r3 n4=>Zm Z<|Zq (ext Z Z)<|Zq (ext Z Z)<|Za Z<|Zb Z<|z11<|gSR<|Zm Z<|Zq (I.neq Z Z)<|Zj Z (fun h5=>?_) (fun h5=>?_)
 ·
  refine gSR<|Zq (zwv [(0,1),(1,1),(2,1),(3,6),(9,2)] Tryz.underlying72 zbb (ZrE.rd (R:=z0z) (x:=0) (Zr.num Z) (ZrE.nilS (ZrE.rd (R:=z3u) (x:=0) (Zr.num Z) (ZrE.rd (R:=z0h) (x:=(⟨0,[],(⟨0,0,0,[]⟩:z03)⟩:z06)) zlw (ZrE.rd (R:=z0m) (x:=(⟨0,0⟩:z08)) zpq ZrE.nil Z) Z) Z)) Z) Z (zkj.done Z))<|Zm Z<|Es (zws 2 Z Z (z0j.cast (z0j.cons z24 (z0j.cons z0a (z0j.cons z24 (z0j.cons z24 (z0j.cons z24 z0j.nil))))) Z) Z (z5l.cons zek (z5l.cons z1q (z5l.cons zek (z5l.cons zek (z5l.cons zek z5l.nil))))) (z0j.cast (z0j.cons z24 (z0j.cons z0a (z0j.cons z24 (z0j.cons z24 (z0j.cons z24 z0j.nil))))) Z) zbb)<|Zb Z<|z0w<|z1e<|zrv aZ [.rd z0z 0,.rd (z02 aZ) [],.rd z3u 0,.rd z0h (⟨0,[],(⟨0,0,0,[]⟩:z03)⟩:z06),.rd z0m (⟨0,0⟩:z08)] 2 [.rd z0z 0] [.rd z3u 0,.rd z0h (⟨0,[],(⟨0,0,0,[]⟩:z03)⟩:z06),.rd z0m (⟨0,0⟩:z08)] Z Z Z<|eJoi (R:=z04) (⟨0,[],0,(⟨0,[],(⟨0,0,0,[]⟩:z03)⟩:z06),(⟨0,0⟩:z08)⟩:z05) 2 Z (Sp.via (Sp.prod (Sp.prod (Sp.prod (Sp.prod (Sp.prod Sp.unit))))))<|zdc [] [1001] Z (eC 2 Z Z zgr<|eE Z<|eN) (y1 Z)
 ·
  refine Zt<|gSR<|Zm Z<|Zq (faB 1 Z Z Tryz.underlying72 Z (by exact zae))<|Zq (ld 1 Z Z (fP (z1c _)) ze3 Z)<|Zc [] [(100,3)] Tryz.func55 Z (z1j _) fun r6 n7=>Zq (faB 1 Z Z Tryz.underlying72 Z (by exact zb8))<|Es (sto 1 Z Z (fP (z6i _)) Z zb8)<|Zq (faB 1 Z Z Tryz.underlying72 Z (by exact zae))<|lSpl (R:=z04) 1 Z (Sp.via (Sp.prod (Sp.prod (Sp.prod (Sp.prod (Sp.prod Sp.unit))))))<|Es (zs6 1 Z Z (zah.cast (zah.next z24 (zah.here z24)) Z) Z z1q z0a zae)<|Zn<|gSR<|zvv [.rd z0z (({ a1 with Author:=r3.1 }).Author),.rd (z02 aZ) r6,.rd z3u (({ a1 with Author:=r3.1 }).Stamp),.rd z0h (({ a1 with Author:=r3.1 }).Act),.rd z0m (({ a1 with Author:=r3.1 }).Sig)] 1 3 [.rd z0z (({ a1 with Author:=r3.1 }).Author)] [.rd z3u (({ a1 with Author:=r3.1 }).Stamp),.rd z0h (({ a1 with Author:=r3.1 }).Act),.rd z0m (({ a1 with Author:=r3.1 }).Sig)] Z Z Z Z Z<|zb2 (R:=z04) (⟨({ a1 with Author:=r3.1 }).Author,r6,({ a1 with Author:=r3.1 }).Stamp,({ a1 with Author:=r3.1 }).Act,({ a1 with Author:=r3.1 }).Sig⟩:z05) 1 Z (Sp.via (Sp.prod (Sp.prod (Sp.prod (Sp.prod (Sp.prod Sp.unit))))))<|Zq (ld 1 Z Z fH zgr Z)<|Zc [] [(100,4)] Tryz.func77 Z (zfu _) fun r8 n9=>Zm Z<|Zq (ext Z Z)<|Zq (ext Z Z)<|Za Z<|Zb Z<|z11<|gSR<|Zm Z<|Zq (I.neq Z Z)<|Zj Z (fun h10=>?_) (fun h10=>?_)
  ·
   refine gSR<|Zq (zwv [(0,1),(1,1),(2,1),(3,6),(9,2)] Tryz.underlying72 zbb (ZrE.rd (R:=z0z) (x:=0) (Zr.num Z) (ZrE.nilS (ZrE.rd (R:=z3u) (x:=0) (Zr.num Z) (ZrE.rd (R:=z0h) (x:=(⟨0,[],(⟨0,0,0,[]⟩:z03)⟩:z06)) zlw (ZrE.rd (R:=z0m) (x:=(⟨0,0⟩:z08)) zpq ZrE.nil Z) Z) Z)) Z) Z (zkj.done Z))<|Zm Z<|Es (zws 2 Z Z (z0j.cast (z0j.cons z24 (z0j.cons z0a (z0j.cons z24 (z0j.cons z24 (z0j.cons z24 z0j.nil))))) Z) Z (z5l.cons zek (z5l.cons z1q (z5l.cons zek (z5l.cons zek (z5l.cons zek z5l.nil))))) (z0j.cast (z0j.cons z24 (z0j.cons z0a (z0j.cons z24 (z0j.cons z24 (z0j.cons z24 z0j.nil))))) Z) zbb)<|Zb Z<|z0w<|z1e<|zrv aZ [.rd z0z 0,.rd (z02 aZ) [],.rd z3u 0,.rd z0h (⟨0,[],(⟨0,0,0,[]⟩:z03)⟩:z06),.rd z0m (⟨0,0⟩:z08)] 2 [.rd z0z 0] [.rd z3u 0,.rd z0h (⟨0,[],(⟨0,0,0,[]⟩:z03)⟩:z06),.rd z0m (⟨0,0⟩:z08)] Z Z Z<|eJoi (R:=z04) (⟨0,[],0,(⟨0,[],(⟨0,0,0,[]⟩:z03)⟩:z06),(⟨0,0⟩:z08)⟩:z05) 2 Z (Sp.via (Sp.prod (Sp.prod (Sp.prod (Sp.prod (Sp.prod Sp.unit))))))<|zdc [] [1001] Z (eC 2 Z Z zgr<|eE Z<|eN) (y1 Z)
  ·
   refine Zt<|gSR<|Zm Z<|Zm Z<|zfz 4 [27,8,35] Z (fS Z<|fS Z<|fS Z<|fN)<|Zc [1001] [] Tryz.func78 Z (zqx _ _) fun r11 n12=>Zm Z<|Zq (ext Z Z)<|Zq (ext Z Z)<|Zq (faB 1 Z Z Tryz.underlying72 Z (by exact zpm))<|Es (sto 1 Z Z (fP (z5m _)) Z zpm)<|Zn<|gSR<|Zq (ld 1 Z Z fH zgr Z)<|z89 aZ [.rd z0z 0,.rd (z02 aZ) [],.rd z3u 0,.rd z0h (⟨0,[],(⟨0,0,0,[]⟩:z03)⟩:z06),.rd z0m (⟨0,0⟩:z08)] 2 [.rd z0z 0] [.rd z3u 0,.rd z0h (⟨0,[],(⟨0,0,0,[]⟩:z03)⟩:z06),.rd z0m (⟨0,0⟩:z08)] Z Z Z<|zb2 (R:=z04) (⟨0,[],0,(⟨0,[],(⟨0,0,0,[]⟩:z03)⟩:z06),(⟨0,0⟩:z08)⟩:z05) 2 Z (Sp.via (Sp.prod (Sp.prod (Sp.prod (Sp.prod (Sp.prod Sp.unit))))))<|Es (sto 2 Z Z fH Z zbb)<|Zb Z<|z0w<|zdc [] [1001] Z (eC 2 Z Z zgr<|eE Z<|eN) (y1 Z)
end
section
open Go Go.RowKit
def zg4 {α σ:Type} (F:α→σ→Option σ):List α→σ→Option σ
 | [],s=>some s
 | e::L,s=>F e s >>= zg4 F L
def z17b {α σ:Type} (F:α→σ→Option σ) (E:σ→σ→Prop):Prop:=∀ (L L':List α) (s r:σ),L.Perm L'→zg4 F L s=some r→∃ r',zg4 F L' s=some r'∧E r r'
def ztp {κ:Type} (by_:Nat) (acc:List κ) (l:List κ):Option (List κ):=if l=[] then some acc else app by_ acc l
theorem zum {κ:Type} {by_:Nat} {acc l r:List κ}:ztp by_ acc l=some r↔r=acc++l∧(l=[]∨(acc.length+l.length) * by_≤140737488355328):=by
 unfold ztp app
 by_cases h:l=[]
 ·
  rw [if_pos h,h,List.append_nil]
  exact ⟨fun e=>⟨(Option.some.inj e).symm,.inl rfl⟩, fun e=>by rw [e.1]⟩
 ·
  rw [if_neg h]
  by_cases h2:(acc.length+l.length) * by_≤140737488355328
  ·
   rw [if_pos h2]
   exact ⟨fun e=>⟨(Option.some.inj e).symm,.inr h2⟩, fun e=>by rw [e.1]⟩
  ·
   rw [if_neg h2]
   exact ⟨fun e=>(by cases e), fun e=>(e.2.elim h h2).elim⟩
def AppF {α κ:Type} (by_:Nat) (F:α→List κ→Option (List κ)):Prop:=∀ e,∃ o:Option (List κ),∀ acc,F e acc=o >>= fun l=>ztp by_ acc l
theorem AppF.fold {α κ:Type} {by_:Nat} {F:α→List κ→Option (List κ)} {sel:α→Option (List κ)} (h:∀ e acc,F e acc=sel e >>= fun l=>ztp by_ acc l):∀ (L:List α) (s r:List κ),zg4 F L s=some r↔(∀ e∈L,(sel e).isSome)∧r=s++(L.flatMap fun e=>(sel e).getD [])∧(L.flatMap (fun e=>(sel e).getD [])=[]∨r.length * by_≤140737488355328)
 | [],s,r=>by
  simp only [zg4,List.flatMap_nil,List.append_nil]
  exact ⟨fun e=>⟨fun _ h=>absurd h (by simp),(Option.some.inj e).symm,.inl trivial⟩, fun e=>by rw [e.2.1]⟩
 | e::L,s,r=>by
  unfold zg4
  rw [h]
  cases hs:sel e with
  | none=>simp [hs]
  | some l =>
   simp only [Option.bind_eq_bind,Option.bind_some]
   cases ha:ztp by_ s l with
   | none =>
    simp only [Option.bind_none]
    constructor
    ·
     intro h; cases h
    ·
     rintro ⟨-,h2,h3⟩
     exfalso
     simp only [List.flatMap_cons,hs,Option.getD_some] at h2 h3
     have:ztp by_ s l=some (s++l):=by
      rw [zum]
      refine ⟨rfl,?_⟩
      rcases h3 with h3 | h3
      ·
       exact .inl (by simpa using (List.append_eq_nil_iff.1 h3).1)
      ·
       refine .inr (Nat.le_trans (Nat.mul_le_mul_right _ ?_) h3)
       rw [h2]; simp
     rw [this] at ha; cases ha
   | some t =>
    obtain ⟨rfl,hb⟩:=zum.1 ha
    simp only [Option.bind_some]
    rw [AppF.fold h L (s++l) r]
    simp only [List.flatMap_cons,hs,Option.getD_some,List.mem_cons,forall_eq_or_imp,Option.isSome_some,true_and,List.append_assoc]
    constructor
    ·
     rintro ⟨h1,h2,h3⟩
     refine ⟨h1,h2,?_⟩
     rcases h3 with h3 | h3
     ·
      rcases hb with hb | hb
      ·
       exact .inl (by rw [hb,h3]; rfl)
      ·
       refine .inr ?_
       rw [h2,h3]; simpa using hb
     ·
      exact .inr h3
    ·
     rintro ⟨h1,h2,h3⟩
     refine ⟨h1,h2,?_⟩
     rcases h3 with h3 | h3
     ·
      exact .inl (List.append_eq_nil_iff.1 h3).2
     ·
      exact .inr h3
theorem AppF.comm {α κ:Type} {by_:Nat} {F:α→List κ→Option (List κ)} (hF:AppF by_ F):z17b F List.Perm:=by
 have hF':∃ sel:α→Option (List κ),∀ e acc,F e acc=sel e >>= fun l=>ztp by_ acc l:=⟨fun e=>Classical.choose (hF e), fun e=>Classical.choose_spec (hF e)⟩
 obtain ⟨sel,h⟩:=hF'
 intro L L' s r hp hr
 obtain ⟨h1,h2,h3⟩:=(AppF.fold h L s r).1 hr
 have hq:(L.flatMap fun e=>(sel e).getD []).Perm (L'.flatMap fun e=>(sel e).getD []):=hp.flatMap_right _
 refine ⟨s++L'.flatMap fun e=>(sel e).getD [],(AppF.fold h L' s _).2 ⟨fun e he=>h1 e (hp.mem_iff.2 he),rfl,?_⟩, by rw [h2]; exact hq.append_left s⟩
 rcases h3 with h3 | h3
 ·
  rw [h3] at hq; exact .inl hq.symm.eq_nil
 ·
  refine .inr ?_
  rw [h2,List.length_append,hq.length_eq] at h3
  rwa [List.length_append]
theorem zsq {κ:Type} {by_:Nat} (x:κ):∃ o:Option (List κ),∀ acc:List κ,(app by_ acc [x] >>= fun z=>some z)=o >>= fun l=>ztp by_ acc l:=⟨some [x], fun acc=>by
 simp only [Option.bind_eq_bind,Option.bind_some,ztp]
 rw [if_neg (by simp)]
 cases app by_ acc [x] <;> rfl⟩
theorem zog {κ τ:Type} {by_:Nat} {m:Option τ} {f:τ→List κ→Option (List κ)} (h:∀ r,∃ o:Option (List κ),∀ acc,f r acc=o >>= fun l=>ztp by_ acc l):∃ o:Option (List κ),∀ acc,(m >>= fun r=>f r acc)=o >>= fun l=>ztp by_ acc l:=by
 cases m with
 | none=>exact ⟨none, fun _=>rfl⟩
 | some r=>obtain ⟨o,ho⟩:=h r; exact ⟨o, fun acc=>ho acc⟩
theorem ztc {κ:Type} {by_:Nat} {c:Prop} [Decidable c] {f g:List κ→Option (List κ)} (hf:∃ o:Option (List κ),∀ acc,f acc=o >>= fun l=>ztp by_ acc l) (hg:∃ o:Option (List κ),∀ acc,g acc=o >>= fun l=>ztp by_ acc l):∃ o:Option (List κ),∀ acc,(if c then f acc else g acc)=o >>= fun l=>ztp by_ acc l:=by
 by_cases h:c
 ·
  obtain ⟨o,ho⟩:=hf; exact ⟨o, fun acc=>by rw [if_pos h]; exact ho acc⟩
 ·
  obtain ⟨o,ho⟩:=hg; exact ⟨o, fun acc=>by rw [if_neg h]; exact ho acc⟩
theorem gExM {ρ σ τ:Type} {ro:Option Nat} {P:Program} {A:σ→τ→Asn} {E:σ→Prop} {c:Code} {Q:ρ→Exit→Act→World→Prop} {m:Option ρ} (h:∀ s nv,E s→G ro P (A s nv) c Q m):G ro P (fun a w=>∃ s nv,E s∧A s nv a w) c Q m:=fun a w ⟨s,nv,h1,h2⟩=>h s nv h1 a w h2
theorem eExM {ρ σ τ:Type} {A:σ→τ→Asn} {E:σ→Prop} {e:Exit} {Q:ρ→Exit→Act→World→Prop} {m:Option ρ} (h:∀ s nv,E s→GE (A s nv) e Q m):GE (fun a w=>∃ s nv,E s∧A s nv a w) e Q m:=fun a w ⟨s,nv,h1,h2⟩=>h s nv h1 a w h2
theorem z36.congr {ρ:Type} {P:Program} {f:FuncId} {pin:List Ent} {rin:Res} {m m':Option ρ} {q:ρ→(Nat→Value)→zmy} (e:m=m') (h:z36 P f pin rin m q):z36 P f pin rin m' q:=e ▸ h
section
variable {κ β:Type}
def z43.mapX (RK:Rep κ) (RV:Rep β) (es:Array MapEntry) (clock:Nat) (m:List (κ × β)):z43 where
 nil _ _ _:=False
 nilm _ h:=h
 nilb h:=h.elim
 rel S w v o:=∃ b,v=.map (some b)∧o=.map es clock∧zhf RK RV S w es.toList m∧zv4 es.toList clock
 mono k h:=by obtain ⟨b,h1,h2,h3,h4⟩:=h; exact ⟨b,h1,h2,h3.mono k,h4⟩
def z43.mit (vm:Value) (since:Nat) (seen:Array Nat) (c0:Nat):z43 where
 nil _ _ _:=False
 nilm _ h:=h
 nilb h:=h.elim
 rel S w v o:=∃ g bm,v=.pointer (some ⟨g,0,none⟩)∧vm=.map (some bm)∧o=.mapIter (some bm) since seen c0
 mono k h:=h
theorem zit {RK:Rep κ} {RV:Rep β} {es clock m S w v} (h:(z43.mapX RK RV es clock m).holds S w v):∃ b,v=.map (some b)∧w.heap[b]? = some (.map es clock)∧zhf RK RV S w es.toList m∧zv4 es.toList clock:=by
 rcases h with h | ⟨b,o,h1,h2,b',rfl,rfl,h3,h4⟩
 ·
  exact h.elim
 ·
  simp only [z5b,Option.some.injEq] at h1
  subst h1
  exact ⟨_,rfl,h2,h3,h4⟩
theorem zu6 {vm v:Value} {since c0:Nat} {seen:Array Nat} {S:Blk} {w:World} (h:(z43.mit vm since seen c0).holds S w v):∃ g bm,v=.pointer (some ⟨g,0,none⟩)∧vm=.map (some bm)∧w.heap[g]? = some (.mapIter (some bm) since seen c0):=by
 rcases h with h | ⟨b,o,h1,h2,g,bm,rfl,rfl,rfl⟩
 ·
  exact h.elim
 ·
  simp only [z5b,Option.some.injEq] at h1
  subst h1
  exact ⟨_,_,rfl,rfl,h2⟩
def z8q (es:List MapEntry) (m:List (κ × β)) (seen:Array Nat):List (κ × β):=((es.zip m).filter fun p=>!seen.contains p.1.born).map (·.2)
theorem zw1 {RK:Rep κ} {RV:Rep β} {S:Blk} {w:World} {es:List MapEntry} {m:List (κ × β)} (h:zhf RK RV S w es m):z8q es m #[]=m:=by
 have hl:=h.size
 unfold z8q
 rw [List.filter_eq_self.2 (fun p _=>by simp)]
 exact List.map_snd_zip (by omega)
theorem zxz {es:List MapEntry} {m:List (κ × β)} {seen:Array Nat} {b:Nat} (h:∀ e∈es,e.born≠b):z8q es m (seen.push b)=z8q es m seen:=by
 unfold z8q
 congr 1
 apply List.filter_congr
 intro p hp
 have:=h p.1 (List.of_mem_zip hp).1
 simp [this]
theorem zrb {RK:Rep κ} {RV:Rep β} {S:Blk} {w:World} {seen:Array Nat} {e:MapEntry}:∀ {es:List MapEntry} {m:List (κ × β)},zhf RK RV S w es m→(es.map (·.born)).Nodup→e∈es→seen.contains e.born=false→∃ (i:Nat) (k:κ) (x:β),es[i]? = some e∧m[i]? = some (k,x)∧(z8q es m seen).Perm ((k,x)::z8q es m (seen.push e.born))
 | e0::es,p::m,h,hn,he,hs=>by
  simp only [List.map_cons,List.nodup_cons] at hn
  rcases List.mem_cons.1 he with rfl | he
  ·
   refine ⟨0,p.1,p.2,rfl,rfl,?_⟩
   have hfar:∀ e'∈es,e'.born≠e.born:=fun e' h' h2=>hn.1 (List.mem_map.2 ⟨e',h',h2⟩)
   have hs':e.born∉seen:=by simpa using hs
   have h1:z8q (e::es) (p::m) seen=p::z8q es m seen:=by simp [z8q,hs']
   have h2:z8q (e::es) (p::m) (seen.push e.born)=z8q es m (seen.push e.born):=by simp [z8q]
   rw [h1,h2,zxz hfar]
  ·
   obtain ⟨i,k,x,h1,h2,h3⟩:=zrb h.2 hn.2 he hs
   refine ⟨i+1,k,x, by simpa using h1, by simpa using h2,?_⟩
   have hne:e0.born≠e.born:=fun hh=>hn.1 (List.mem_map.2 ⟨e,he,hh.symm⟩)
   by_cases h0:seen.contains e0.born=true
   ·
    have g1:z8q (e0::es) (p::m) seen=z8q es m seen:=by simp [z8q] at h0 ⊢; simp [h0]
    have g2:z8q (e0::es) (p::m) (seen.push e.born)=z8q es m (seen.push e.born):=by simp [z8q] at h0 ⊢; simp [h0]
    rw [g1,g2]; exact h3
   ·
    have g1:z8q (e0::es) (p::m) seen=p::z8q es m seen:=by simp [z8q] at h0 ⊢; simp [h0]
    have g2:z8q (e0::es) (p::m) (seen.push e.born)=p::z8q es m (seen.push e.born):=by simp [z8q] at h0 ⊢; simp [h0,hne]
    rw [g1,g2]
    exact (h3.cons p).trans (List.Perm.swap _ _ _)
theorem zv5 {RK:Rep κ} {RV:Rep β} {S:Blk} {w:World} {seen:Array Nat}:∀ {es:List MapEntry} {m:List (κ × β)},zhf RK RV S w es m→(es.filter fun e=>!seen.contains e.born)=[]→z8q es m seen=[]
 | [],[],_,_=>rfl
 | e::es,p::m,h,h0=>by
  rw [List.filter_cons] at h0
  split at h0
  ·
   cases h0
  ·
   rename_i hs
   have:=zv5 h.2 h0
   simp [z8q] at hs this ⊢
   simp [hs]
   exact this
 | [],_::_,h,_=>h.elim
 | _::_,[],h,_=>h.elim
theorem zuh {RK:Rep κ} {RV:Rep β} {S:Blk} {w:World}:∀ {es:List MapEntry} {m:List (κ × β)} {i:Nat} {e:MapEntry} {k:κ} {x:β},zhf RK RV S w es m→es[i]? = some e→m[i]? = some (k,x)→RK.vrel S w e.key k∧RV.vrel S w e.val x
 | e0::es,p::m,0,e,k,x,h,h1,h2=>by
  simp only [List.getElem?_cons_zero,Option.some.injEq] at h1 h2
  subst h1; subst h2; exact h.1
 | e0::es,p::m,i+1,e,k,x,h,h1,h2=>zuh h.2 (by simpa using h1) (by simpa using h2)
 | [],_,_,_,_,_,_,h1,_=>by simp at h1
def ItAt (P:Program) (Ci Cm:z43) (u v:Value) (RK:Rep κ) (RV:Rep β) (k:κ) (x:β):Prop :=
 ∀ S w,Ci.holds S w u→Cm.holds S w v→∃ key val,(∀ w',(∀ b,z5b u=some b→w'.heap[b]? = w.heap[b]?)→(∀ b,z5b v=some b→w'.heap[b]? = w.heap[b]?)→(Instr.entry u).run P w'=.ok (.tuple #[key,val]) w')∧RK.vrel S w key k∧RV.vrel S w val x
theorem itAt {P:Program} {u v:Value} {RK:Rep κ} {RV:Rep β} {es:Array MapEntry} {clock:Nat} {seen:Array Nat} {m:List (κ × β)} {i:Nat} {e:MapEntry} {k:κ} {x:β} (h1:es.toList[i]? = some e) (h2:m[i]? = some (k,x)) :
  ItAt P (.mit v clock (seen.push e.born) clock) (.mapX RK RV es clock m) u v RK RV k x:=fun S w hi hm=>by
 obtain ⟨g,bm,rfl,rfl,g1⟩:=zu6 hi
 obtain ⟨b,hb,m1,m2,m3⟩:=zit hm
 cases hb
 obtain ⟨k1,k2⟩:=zuh m2 h1 h2
 refine ⟨e.key,e.val, fun w' q1 q2=>?_,k1,k2⟩
 have g1':w'.heap[g]? = some (.mapIter (some bm) clock (seen.push e.born) clock):=(q1 g rfl).trans g1
 have m1':w'.heap[bm]? = some (.map es clock):=(q2 bm rfl).trans m1
 obtain ⟨hi,he⟩:=List.getElem?_eq_some_iff.1 h1
 have hmem:e∈es.toList:=by rw [← he]; exact List.getElem_mem _
 have hf:es.find? (·.born==e.born)=some e:=by rw [← Array.find?_toList]; exact find_born e es.toList m3.1 hmem
 simp only [Instr.entry,getObj,Sem.run_bind,Sem.run,g1',m1',Result.andThen,Array.back?_push,bne_self_eq_false,Bool.false_eq_true,if_false,hf]
 rfl
end
section
variable {ρ:Type} {P:Program} {Γ:Ctx} {l:z1d} {res:Res} {m:Option ρ} {os rest:List Oper} {N:ρ→Exit→Act→World→Prop}
 {d:Tmp} {ty:TypeId} {pos:String} {after:Array Edge} {g:Option (Nat × Bool)} {ro:Option Nat} {κ β:Type} {RK:Rep κ} {RV:Rep β} {mm:List (κ × β)}
theorem Sta.less {res':Res} {a:Act} {w:World} (ha:Sta Γ l res a w) (h:∀ r y,lr res' r=some y→lr res r=some y):Sta Γ l res' a w:=by
 have hst:za0 (Shr Γ.H res w) (Shr Γ.H res' w) w w:=fun b hb=>⟨⟨hb.1, fun r v c h1=>hb.2.1 r v c (h _ _ h1),hb.2.2⟩,rfl⟩
 exact ⟨ha.size,ha.defers, fun t e ht=>by obtain ⟨u,h1,h2⟩:=ha.slots t e ht; exact ⟨u,h1,e.mono hst h2⟩, fun r v c hr=>(ha.conts r v c (h _ _ hr)).mono hst (fun _ _=>rfl),
  fun r1 v1 c1 r2 v2 c2 h1 h2=>ha.excl r1 v1 c1 r2 v2 c2 (h _ _ h1) (h _ _ h2), fun r v c hr=>ha.own r v c (h _ _ hr),ha.keep,ha.old,ha.hid⟩
theorem z170 {x:Operand} {v:Value} {T K V:TypeId} (ri rm:Nat) (hn:Nat.blt d Γ.n=true) (hx:opE l x=some (.val v)) (hr:lr res rm=some (v,.map RK RV mm)) (hT:P.underlying T=some (.map K V))
  (k:∀ u es clock,GL P os (Sta Γ ((d,.val u)::l) ((ri,some (u,.mit v clock #[] clock))::(rm,some (v,.mapX RK RV es clock mm))::res)) rest N m) :
  GL P os (Sta Γ l res) (⟨some d,.range T x,ty,pos,after,none⟩::rest) N m:=fun a w ha ρ hm=>by
 have h1:=(ha.vl hx).1
 obtain ⟨b,es,clock,rfl,h2,h3,h4⟩:=zl3 (ha.conts rm v _ hr)
 have ha2:=ha.recont (c':=.mapX RK RV es clock mm) rm hr (fun _=>.inr ⟨b,_,rfl,h2,b,rfl,rfl,h3,h4⟩)
 have hrun:(execOp a.eval ⟨some d,.range T x,ty,pos,after,none⟩).run P w=.ok (.value (.pointer (some ⟨w.heap.size,0,none⟩))) (w.alloc (.mapIter (some b) clock #[] clock)):=by
  simp [execOp,h1,run_range_map w T K V b es clock hT h2]
 obtain ⟨h5,h6⟩:=ha2.upd ri (c:=.mit (.map (some b)) clock #[] clock) (v:=.pointer (some ⟨w.heap.size,0,none⟩)) (zgl w (.mapIter (some b) clock #[] clock)) (by simp) (fun b hb=>.inr (by simp [z5b] at hb; omega)) (fun S' k'=>.inr ⟨w.heap.size,_,rfl,heap_alloc_new _ _,_,_,rfl,rfl,rfl⟩)
 exact st (zdw rfl) hrun (k _ es clock _ _ (h5.put hn ⟨rfl,rfl⟩) ρ hm)
theorem entM {k:κ} {x0:β} {u v:Value} {Ci Cm:z43} {x:Operand} (ri rm:Nat) (hx:opE l x=some (.val u)) (h1:lr res ri=some (u,Ci)) (h2:lr res rm=some (v,Cm)) (hI:ItAt P Ci Cm u v RK RV k x0) :
  Run Eq P Γ l res ⟨some d,.entry x,ty,pos,after,g⟩ (.tup [.rd RK k,.rd RV x0]):=fun a w ha=>by
 obtain ⟨key,val,q1,q2,q3⟩:=hI _ _ (ha.conts ri u _ h1) (ha.conts rm v _ h2)
 refine ⟨.tuple #[key,val], fun w' hw=>?_,[key,val],⟨q2,q3,trivial⟩,rfl⟩
 subst hw
 simp [execOp,(ha.vl hx).1,q1 w (fun _ _=>rfl) (fun _ _=>rfl)]
theorem z19p {u v:Value} {x:Operand} {es:Array MapEntry} {clock c0:Nat} {seen:Array Nat} (ri rm:Nat) (hn:Nat.blt d Γ.n=true) (hx:opE l x=some (.val u)) (h1:lr res ri=some (u,.mit v clock seen c0)) (h2:lr res rm=some (v,.mapX RK RV es clock mm)) (hc:clock≤c0)
  (k0:z8q es.toList mm seen=[]→GL P os (Sta Γ ((d,.tup [.rd z0f false])::l) res) rest N m)
  (k1:∀ (i:Nat) (e:MapEntry) (k:κ) (x:β),es.toList[i]? = some e→mm[i]? = some (k,x)→(z8q es.toList mm seen).Perm ((k,x)::z8q es.toList mm (seen.push e.born))→GL P os (Sta Γ ((d,.tup [.rd z0f true,.junk,.junk])::l) ((ri,some (u,.mit v clock (seen.push e.born) clock))::res)) rest N m) :
  GL P os (Sta Γ l res) (⟨some d,.next x false,ty,pos,after,none⟩::rest) N m:=fun a w ha ρ hm=>by
 have hu:=(ha.vl hx).1
 obtain ⟨gb,bm,rfl,rfl,g1⟩:=zu6 (ha.conts ri u _ h1)
 obtain ⟨b,hb,m1,m2,m3⟩:=zit (ha.conts rm _ _ h2)
 cases hb
 rcases run_next_at (P:=P) w ty gb bm clock c0 seen es clock g1 m1 (fun x hx=>m3.2 x hx) hc with ⟨hz,hrun⟩ | ⟨e,he,w1,hw1,hrun⟩
 ·
  have hnil:(es.toList.filter fun e=>!seen.contains e.born)=[]:=by
   have:(leftOf es seen).toList=[]:=by
    rw [Array.toList_eq_nil_iff]; exact Array.eq_empty_of_size_eq_zero hz
   unfold leftOf at this
   rwa [Array.toList_filter] at this
  have hrun':(execOp a.eval ⟨some d,.next x false,ty,pos,after,none⟩).run P w=.ok (.value (.tuple #[.bool false])) w:=by
   simp [execOp,hu,hrun]
  exact st (zdw rfl) hrun' (k0 (zv5 m2 hnil) _ _ (ha.put hn ⟨[_],⟨⟨_,rfl,rfl⟩,trivial⟩,rfl⟩) ρ hm)
 ·
  have hmem:e∈es.toList∧seen.contains e.born=false:=by
   unfold leftOf at he
   rw [Array.toList_filter,List.mem_filter] at he
   exact ⟨he.1, by simpa using he.2⟩
  obtain ⟨i,k,x0,e1,e2,e3⟩:=zrb m2 m3.1 hmem.1 hmem.2
  have hlt:gb<w.heap.size:=(Array.getElem?_eq_some_iff.1 g1).1
  have hheap:w1.heap=w.heap:=by rcases hw1 with rfl | rfl <;> rfl
  have hgr:w.grownBy (ChangeMaps.setBlock w1 gb (.mapIter (some bm) clock (seen.push e.born) clock)) (some gb):=by
   refine ⟨?_,?_,?_,?_, fun q hq hne=>?_⟩
   ·
    rcases hw1 with rfl | rfl <;> rfl
   ·
    rcases hw1 with rfl | rfl <;> rfl
   ·
    rcases hw1 with rfl | rfl <;> rfl
   ·
    show w.heap.size≤(w1.heap.setIfInBounds gb _).size
    rw [hheap]; simp
   ·
    have hne:q≠gb:=fun e=>hne (by rw [e])
    show (w1.heap.setIfInBounds gb _)[q]? = w.heap[q]?
    rw [hheap,Array.getElem?_setIfInBounds_ne (fun e=>hne e.symm)]
  obtain ⟨h5,h6⟩:=ha.upd ri (v:=.pointer (some ⟨gb,0,none⟩)) (c:=.mit (.map (some bm)) clock (seen.push e.born) clock) hgr (fun b hb=>⟨_,_,h1, by cases hb; rfl⟩) (fun b hb=>.inl ⟨_,_,h1,hb⟩)
   (fun S' k'=>.inr ⟨gb,.mapIter (some bm) clock (seen.push e.born) clock,rfl, by show (w1.heap.setIfInBounds gb _)[gb]? = _; rw [hheap]; simp [hlt],gb,bm,rfl,rfl,rfl⟩)
  have hrun':(execOp a.eval ⟨some d,.next x false,ty,pos,after,none⟩).run P w=.ok (.value (.tuple #[.bool true,e.key,e.val])) (ChangeMaps.setBlock w1 gb (.mapIter (some bm) clock (seen.push e.born) clock)):=by
   simp [execOp,hu,hrun]
  exact st (zdw rfl) hrun' (k1 i e k x0 e1 e2 e3 _ _ (h5.put hn ⟨[_,_,_],⟨⟨_,rfl,rfl⟩,trivial,trivial,trivial⟩,rfl⟩) ρ hm)
def mcnt:Nat→Option (Sum Unit Nat)
 | 0=>some (.inl ())
 | k+1=>some (.inr k)
theorem zqq:∀ n,iter mcnt n=some ()
 | 0=>by rw [iter]; rfl
 | n+1=>by rw [iter]; exact zqq n
def z18p {σ:Type} (Γ:Ctx) (L:(Nat→Value)→z1d) (ri rm:Nat) (u v:Value) (RK:Rep κ) (RV:Rep β) (es:Array MapEntry) (clock:Nat) (mm:List (κ × β)) (Rs:σ→(Nat→Value)→Res) (F:κ × β→σ→Option σ) (E:σ→σ→Prop) (r:σ) (k:Nat):Asn:=fun a w =>
 ∃ s seen c0 nv,Sta Γ (L nv) ((ri,some (u,.mit v clock seen c0))::(rm,some (v,.mapX RK RV es clock mm))::Rs s nv) a w∧clock≤c0∧(z8q es.toList mm seen).length=k∧∃ r',zg4 F (z8q es.toList mm seen) s=some r'∧E r r'
theorem zxf {σ:Type} {A:Asn} {ib nb id1:Nat} {t tn tm:Tmp} {ty1 ty2:TypeId} {p1 p2:String} {a1 a2:Array Edge} {body:Code} {u v:Value} {es:Array MapEntry} {clock:Nat} {L:(Nat→Value)→z1d} {s0:σ} {nv0:Nat→Value} {F:κ × β→σ→Option σ}
  (ri rm:Nat) (E:σ→σ→Prop) (hEt:∀ a b c,E a b→E b c→E a c) (hE0:∀ a,E a a) (hC:z17b F E) (Rs:σ→(Nat→Value)→Res) (h0:∀ a w,A a w→Sta Γ (L nv0) ((ri,some (u,.mit v clock #[] clock))::(rm,some (v,.mapX RK RV es clock mm))::Rs s0 nv0) a w)
  (ht:∀ nv,lk (L nv) t=some (.val u)) (hn1:Nat.blt tn Γ.n=true) (hn2:Nat.blt tm Γ.n=true) (hL:∀ nv e1 e2,zu4 ((tm,e1)::(tn,e2)::L nv) (L nv)) (hri:∀ s nv,lr (Rs s nv) ri=none) (hne:Nat.beq ri rm=false)
  (hbody:∀ (Ci Cm:z43) (k:κ) (x:β) (s:σ) (nv:Nat→Value),ItAt P Ci Cm u v RK RV k x→G ro P (Sta Γ (L nv) ((ri,some (u,Ci))::(rm,some (v,Cm))::Rs s nv)) (.block nb body) (midQ fun s1 aa ww=>∃ nv',Sta Γ (L nv') ((ri,some (u,Ci))::(rm,some (v,Cm))::Rs s1 nv') aa ww) (F (k,x) s)) :
  G ro P A (.block ib (.loop (.seq (.region id1 #[⟨some tn,.next (.tmp t) false,ty1,p1,a1,none⟩,⟨some tm,.extract (.tmp tn) 0,ty2,p2,a2,none⟩] false) (.seq (.cond (.tmp tm) .skip (.exit ib)) (.block nb body)))))
   (midQ fun r aa ww=>∃ s nv,E r s∧Sta Γ (L nv) ((rm,some (v,.map RK RV mm))::Rs s nv) aa ww) (zg4 F mm s0):=fun a w ha r hr=>by
 have hsta:=h0 a w ha
 obtain ⟨bm,hbm,m1,m2,m3⟩:=zit (hsta.conts rm v (.mapX RK RV es clock mm) (by
  rw [z12,if_neg (Nat.ne_of_beq_eq_false hne),z12,if_pos rfl]))
 have hleft:z8q es.toList mm #[]=mm:=zw1 m2
 have main:G ro P (fun aa ww=>aa=a∧ww=w) (.block ib (.loop (.seq (.region id1 #[⟨some tn,.next (.tmp t) false,ty1,p1,a1,none⟩,⟨some tm,.extract (.tmp tn) 0,ty2,p2,a2,none⟩] false) (.seq (.cond (.tmp tm) .skip (.exit ib)) (.block nb body)))))
   (midQ fun (_:Unit) aa ww=>∃ s nv,E r s∧Sta Γ (L nv) ((rm,some (v,.map RK RV mm))::Rs s nv) aa ww) (iter mcnt mm.length):=by
  refine z3l (z18p Γ L ri rm u v RK RV es clock mm Rs F E r) ?_ fun k=>?_
  ·
   rintro aa ww ⟨rfl,rfl⟩
   exact ⟨s0,#[],clock,nv0,hsta,Nat.le_refl _, by rw [hleft],r, by rw [hleft]; exact hr,hE0 r⟩
  ·
   rintro aa ww ⟨s,seen,c0,nv,hs,hc,hk,r',hf,hE⟩
   have hlr1:∀ (x:Option (Value × z43)),lr ((ri,x)::(rm,some (v,z43.mapX RK RV es clock mm))::Rs s nv) rm=some (v,.mapX RK RV es clock mm):=fun x=>by
    rw [z12,if_neg (Nat.ne_of_beq_eq_false hne),z12,if_pos rfl]
   have goal:G ro P (Sta Γ (L nv) ((ri,some (u,.mit v clock seen c0))::(rm,some (v,.mapX RK RV es clock mm))::Rs s nv)) (.seq (.region id1 #[⟨some tn,.next (.tmp t) false,ty1,p1,a1,none⟩,⟨some tm,.extract (.tmp tn) 0,ty2,p2,a2,none⟩] false) (.seq (.cond (.tmp tm) .skip (.exit ib)) (.block nb body)))
     (zob ib (z18p Γ L ri rm u v RK RV es clock mm Rs F E r) (midQ fun (_:Unit) aa ww=>∃ s nv,E r s∧Sta Γ (L nv) ((rm,some (v,.map RK RV mm))::Rs s nv) aa ww)) (mcnt k):=by
    refine z11<|z3d (os:=[⟨some tn,.next (.tmp t) false,ty1,p1,a1,none⟩,⟨some tm,.extract (.tmp tn) 0,ty2,p2,a2,none⟩])<|z19p ri rm hn1 (ht nv) (by rw [z12,if_pos rfl]) (hlr1 _) hc (fun hnil=>?_) (fun i e kk x e1 e2 e3=>?_)
    ·
     rw [hnil] at hk hf
     have hk:k=0:=hk.symm
     subst hk
     have hf:s=r':=Option.some.inj hf
     subst hf
     refine R hn2 (ext (es:=[.rd z0f false]) (by show lk _ _=_; rw [z27,if_pos rfl]) rfl)<|z2c<|z0t<|z11<|zno (by show lk _ _=_; rw [z27,if_pos rfl])<|z3f<|z1h<|z1k<|z4k fun aa ww h=>⟨s,nv,hE,?_⟩
     have h':Sta Γ (L nv) ((ri,some (u,.mit v clock seen c0))::(rm,some (v,.mapX RK RV es clock mm))::Rs s nv) aa ww:=⟨h.size,h.defers, fun t' e' ht'=>h.slots t' e' ((hL _ _ _).get ht'),h.conts,h.excl,h.own,h.keep,h.old,h.hid⟩
     refine (h'.recont (c':=.map RK RV mm) rm (hlr1 _) (fun hh=>?_)).less fun q y hq=>?_
     ·
      obtain ⟨b,rfl,q1,q2,q3⟩:=zit hh
      exact zjf q1 q2 q3
     ·
      rw [z12] at hq ⊢
      by_cases e:rm=q
      ·
       rw [if_pos e] at hq ⊢; exact hq
      ·
       rw [if_neg e] at hq ⊢
       rw [z12]
       by_cases e2:ri=q
       ·
        subst e2; rw [hri] at hq; cases hq
       ·
        rw [if_neg e2,z12,if_neg e]; exact hq
    ·
     obtain ⟨r2,hr2,hE2⟩:=hC _ _ s r' e3 hf
     have hlen:=e3.length_eq
     rw [List.length_cons,hk] at hlen
     subst hlen
     unfold zg4 at hr2
     cases hF:F (kk,x) s with
     | none=>rw [hF] at hr2; cases hr2
     | some s1 =>
      rw [hF] at hr2
      have hr2:zg4 F (z8q es.toList mm (seen.push e.born)) s1=some r2:=hr2
      refine R hn2 (ext (es:=[.rd z0f true,.junk,.junk]) (by show lk _ _=_; rw [z27,if_pos rfl]) rfl)<|z2c<|z0t<|z11<|zll (by show lk _ _=_; rw [z27,if_pos rfl])<|z5o<|z0t ?_
      intro aa ww h ρ hρ
      have h':Sta Γ (L nv) ((ri,some (u,.mit v clock (seen.push e.born) clock))::(rm,some (v,.mapX RK RV es clock mm))::Rs s nv) aa ww:=by
       refine Sta.less (res:=(ri,some (u,.mit v clock (seen.push e.born) clock))::(ri,some (u,.mit v clock seen c0))::(rm,some (v,.mapX RK RV es clock mm))::Rs s nv) ⟨h.size,h.defers, fun t' e' ht'=>h.slots t' e' ((hL _ _ _).get ht'),h.conts,h.excl,h.own,h.keep,h.old,h.hid⟩ fun q y hq=>?_
       rw [z12] at hq ⊢
       by_cases e:ri=q
       ·
        rw [if_pos e] at hq ⊢; exact hq
       ·
        rw [if_neg e] at hq ⊢
        rw [z12,if_neg e]; exact hq
      have hb:=hbody (.mit v clock (seen.push e.born) clock) (.mapX RK RV es clock mm) kk x s nv (itAt e1 e2) aa ww h' s1 hF
      have hρ:Sum.inr (z8q es.toList mm (seen.push e.born)).length=ρ:=Option.some.inj hρ
      subst hρ
      refine zkv (fun ex a3 w3 hq=>?_) hb
      obtain ⟨rfl,nv',hq⟩:=hq
      exact ⟨rfl,s1,seen.push e.born,clock,nv',hq,Nat.le_refl _,rfl,r2,hr2,hEt _ _ _ hE hE2⟩
   exact goal aa ww hs
 exact main a w ⟨rfl,rfl⟩ () (zqq _)
end
end
section
open Go Go.Shelf
def zvx:Go.Shelf.Ren:=⟨fun | 190=>63 | 125=>96 | 258=>95 | 128=>137 | 129=>138 | 302=>128 | 303=>129 | 304=>130 | 305=>131 | 306=>132 | 307=>133 | 308=>134 | 309=>135 | 310=>136 | 333=>175 | 329=>176 | 330=>177 | 334=>178 | 335=>179 | 336=>180 | 344=>210 | n=>n, fun | 31=>47 | 9=>9 | 3=>3 | 46=>149 | 0=>0 | 51=>65 | 53=>52 | 4=>4 | 183=>179 | 182=>178 | 131=>139 | 5=>5 | 218=>216 | 222=>220 | 228=>247 | 229=>248 | n=>n, fun | n=>n⟩
theorem z13v:Go.Proofs.Lays.n190 Tryz.prog zvx:={
 mixed:=by kernel_rfl
 f125:=Tryz.func96.trans (congrArg some (by kernel_rfl))
 f128:=Tryz.func137.trans (congrArg some (by kernel_rfl))
 f129:=Tryz.func138.trans (congrArg some (by kernel_rfl))
 f190:=Tryz.func63.trans (congrArg some (by kernel_rfl))
 f258:=Tryz.func95.trans (congrArg some (by kernel_rfl))
 f302:=Tryz.func128.trans (congrArg some (by kernel_rfl))
 f303:=Tryz.func129.trans (congrArg some (by kernel_rfl))
 f304:=Tryz.func130.trans (congrArg some (by kernel_rfl))
 f305:=Tryz.func131.trans (congrArg some (by kernel_rfl))
 f306:=Tryz.func132.trans (congrArg some (by kernel_rfl))
 f307:=Tryz.func133.trans (congrArg some (by kernel_rfl))
 f308:=Tryz.func134.trans (congrArg some (by kernel_rfl))
 f309:=Tryz.func135.trans (congrArg some (by kernel_rfl))
 f310:=Tryz.func136.trans (congrArg some (by kernel_rfl))
 f329:=Tryz.func176.trans (congrArg some (by kernel_rfl))
 f330:=Tryz.func177.trans (congrArg some (by kernel_rfl))
 f333:=Tryz.func175.trans (congrArg some (by kernel_rfl))
 f334:=Tryz.func178.trans (congrArg some (by kernel_rfl))
 f335:=Tryz.func179.trans (congrArg some (by kernel_rfl))
 f336:=Tryz.func180.trans (congrArg some (by kernel_rfl))
 f344:=Tryz.func210.trans (congrArg some (by kernel_rfl))
 t0:=Tryz.underlying0
 a0:=Tryz.isAgg0
 z0:=Tryz.sizeOf0
 v0:=Tryz.zeroValue0
 t3:=Tryz.underlying3
 a3:=Tryz.isAgg3
 z3:=Tryz.sizeOf3
 v3:=Tryz.zeroValue3
 t4:=Tryz.underlying4
 a4:=Tryz.isAgg4
 z4:=Tryz.sizeOf4
 v4:=Tryz.zeroValue4
 t5:=Tryz.underlying5
 a5:=Tryz.isAgg5
 z5:=Tryz.sizeOf5
 v5:=Tryz.zeroValue5
 t9:=Tryz.underlying9
 a9:=Tryz.isAgg9
 z9:=Tryz.sizeOf9
 v9:=Tryz.zeroValue9
 t31:=Tryz.underlying47
 a31:=Tryz.isAgg47
 z31:=Tryz.sizeOf47
 v31:=Tryz.zeroValue47
 t46:=Tryz.underlying149
 a46:=Tryz.isAgg149
 z46:=Tryz.sizeOf149
 v46:=Tryz.zeroValue149
 t51:=Tryz.underlying65
 a51:=Tryz.isAgg65
 z51:=Tryz.sizeOf65
 v51:=Tryz.zeroValue65
 t53:=Tryz.underlying52
 a53:=Tryz.isAgg52
 z53:=Tryz.sizeOf52
 v53:=Tryz.zeroValue52
 t131:=Tryz.underlying139
 a131:=Tryz.isAgg139
 z131:=Tryz.sizeOf139
 v131:=Tryz.zeroValue139
 t182:=Tryz.underlying178
 a182:=Tryz.isAgg178
 z182:=Tryz.sizeOf178
 v182:=Tryz.zeroValue178
 t183:=Tryz.underlying179
 a183:=Tryz.isAgg179
 z183:=Tryz.sizeOf179
 v183:=Tryz.zeroValue179
 t218:=Tryz.underlying216
 a218:=Tryz.isAgg216
 z218:=Tryz.sizeOf216
 v218:=Tryz.zeroValue216
 t222:=Tryz.underlying220
 a222:=Tryz.isAgg220
 z222:=Tryz.sizeOf220
 v222:=Tryz.zeroValue220
 t228:=Tryz.underlying247
 a228:=Tryz.isAgg247
 z228:=Tryz.sizeOf247
 v228:=Tryz.zeroValue247
 t229:=Tryz.underlying248
 a229:=Tryz.isAgg248
 z229:=Tryz.sizeOf248
 v229:=Tryz.zeroValue248 }
end
section
open Go Go.RowKit Go.Sort
theorem zr3 {S:Blk} {w:World}:∀ {l:List (List UInt8)} {cs:List Value},z73 z6a S w cs l→cs=l.map encStr
 | [],cs,h=>h
 | x::l,cs,h=>by
  obtain ⟨c,d,rfl,⟨s,rfl,rfl⟩,h2⟩:=h
  rw [List.map_cons,zr3 h2]; rfl
theorem zrh {S:Blk} {w:World}:∀ (l:List (List UInt8)),z73 z6a S w (l.map encStr) l
 | []=>rfl
 | x::l=>⟨[encStr x],l.map encStr,rfl,⟨⟨x.toArray⟩,rfl,rfl⟩,zrh l⟩
theorem zwl {w:World} {b:Nat} {C:Array Value} {T:TypeId} (l:List (List UInt8)) (hb:w.heap[b]? = some (.cells C T (0,0))) (hc:C.toList.take l.length=l.map encStr):Holds encStr w b 0 l.toArray:=by
 intro j hj
 have hj':j<l.length:=by simpa using hj
 constructor
 ·
  refine zop hb ?_
  have e:(C.toList.take l.length)[j]? = (l.map encStr)[j]? := by rw [hc]
  rw [List.getElem?_take_of_lt hj',List.getElem?_map,List.getElem?_eq_getElem hj'] at e
  rw [← Array.getElem?_toList,e,getElem!_pos _ j hj]
  simp
 ·
  simp [World.frozen?,hb]
theorem z11b (l:List (List UInt8)) (C:Array Value) (hC:l.length≤C.size):(putCells encStr 0 l.toArray C).toList.take l.length=l.map encStr:=by
 apply List.ext_getElem?
 intro t
 by_cases ht:t<l.length
 ·
  rw [List.getElem?_take_of_lt ht,Array.getElem?_toList,List.getElem?_map,List.getElem?_eq_getElem ht]
  simp only [putCells,Array.getElem?_mapIdx,Nat.sub_zero,Nat.zero_add,List.size_toArray,Nat.zero_le,true_and]
  rw [Array.getElem?_eq_getElem (by omega),Option.map_some,if_pos ht,getElem!_pos _ t (by simpa using ht)]
  simp
 ·
  rw [List.getElem?_eq_none (by simp; omega),List.getElem?_eq_none (by simpa using ht)]
def zs7 (l:List (List UInt8)):List (List UInt8):=l.mergeSort fun x y=>decide (x≤y)
theorem zj8 (l:List (List UInt8)):(zs7 l).length=l.length:=List.length_mergeSort l
theorem zpf (l:List (List UInt8)) (x:List UInt8):x∈zs7 l↔x∈l:=List.mem_mergeSort
theorem zmd (l:List (List UInt8)):(zs7 l).Perm l:=List.mergeSort_perm l _
theorem zfq (l:List (List UInt8)):(zs7 l).Pairwise (· ≤ ·):=by
 have h:=List.pairwise_mergeSort (le:=fun x y:List UInt8=>decide (x≤y)) (fun a b c h1 h2=>by
  simp only [decide_eq_true_eq] at *; exact List.le_trans h1 h2) (fun a b=>by simp only [Bool.or_eq_true,decide_eq_true_eq]; exact List.le_total a b) l
 exact h.imp fun {a b} hab=>by simpa using hab
theorem zwa {l l':List (List UInt8)} (h:l.Perm l'):zs7 l=zs7 l' :=
 (((zmd l).trans h).trans (zmd l').symm).eq_of_pairwise (le:=(· ≤ ·)) (fun a b _ _ h1 h2=>List.le_antisymm h1 h2) (zfq l) (zfq l')
def zn9 (l:List (List UInt8)):Option (List (List UInt8)):=chk (l.length≤1000000) >>= fun _=>some (zs7 l)
theorem zwk {l l':List (List UInt8)} (h:l.Perm l'):zn9 l=zn9 l':=by unfold zn9; rw [h.length_eq,zwa h]
set_option maxHeartbeats 1000000 in
theorem zzr {P:Program} {f T:Nat}
  (hnone:∀ (cap:Nat) (w:World),Calls P f #[.slice none 0 cap] w fun e w'=>e=.returned (.tuple #[])∧w'=w)
  (hsome:∀ (blk cap:Nat) (d:List (List UInt8)) (w:World),Holds encStr w blk 0 d.toArray→blk<w.heap.size→d.length<4611686018427387904 →
   Calls P f #[.slice (some ⟨blk,0,none⟩) d.length cap] w fun e w'=>e=.returned (.tuple #[])∧∃ n os,w'=grow (putRow encStr (Sort.ahead w n) blk 0 (zs7 d).toArray) os)
  (p0:Value) (c0:List (List UInt8)):z36 P f [.val p0] [(1,some (p0,.list z6a T c0))] (zn9 c0) (fun r nv=>⟨[],[(1,some (p0,.list z6a T r))]⟩):=by
 intro r hr H vs w hvs hres
 have hb:c0.length≤1000000∧r=zs7 c0:=by
  unfold zn9 chk at hr
  split at hr
  ·
   rename_i h; simp at hr; exact ⟨h,hr.symm⟩
  ·
   simp at hr
 obtain ⟨hlen0,rfl⟩:=hb
 match vs,hvs with
 | [v0],hvs =>
 obtain ⟨h0,_⟩:=hvs
 have e0:v0=p0:=h0.1
 subst e0
 have hc:=hres.conts 1 v0 _ rfl
 have only:∀ r v c (q:z43),lr [(1,some (v0,q))] r=some (v,c)→r=1∧v=v0∧c=q:=fun r v c q h=>by
  rw [z12] at h
  split at h
  ·
   rename_i e; cases h; exact ⟨e.symm,rfl,rfl⟩
  ·
   simp [lr,lk] at h
 rcases hc with ⟨rfl,rfl⟩ | ⟨b,o,k1,k2,b',cap,C,k3,rfl,k4,k5,k6,k7⟩
 ·
  refine (hnone 0 w).mono fun e w' ⟨he,hw⟩=>?_
  subst hw
  refine ⟨fun _=>undef,[],he,trivial, fun r v c h=>?_, fun r v c r' v' c' h h' hne=>?_, fun r v c h b hb=>?_,zkk.rfl'⟩
  ·
   obtain ⟨rfl,rfl,rfl⟩:=only _ _ _ _ h
   exact .inl ⟨rfl,List.eq_nil_of_length_eq_zero (by rw [zj8]; rfl)⟩
  ·
   exact absurd ((only _ _ _ _ h).1.trans (only _ _ _ _ h').1.symm) hne
  ·
   obtain ⟨rfl,rfl,rfl⟩:=only _ _ _ _ h; cases hb
 ·
  subst k3
  simp only [z5b,Option.some.injEq] at k1
  subst k1
  have hlt:b'<w.heap.size:=(Array.getElem?_eq_some_iff.1 k2).1
  have hrow:=zr3 k7
  have hsz:z6a.sz=1:=rfl
  rw [hsz,Nat.mul_one] at k6 hrow
  refine (hsome b' cap c0 w (zwl c0 k2 hrow) hlt (by omega)).mono fun e w' ⟨he,n,os,hw⟩=>?_
  subst hw
  refine ⟨fun _=>undef,[],he,trivial, fun r v c h=>?_, fun r v c r' v' c' h h' hne=>?_, fun r v c h b hb=>?_,rfl,rfl,rfl,?_, fun i hi=>?_⟩
  ·
   obtain ⟨rfl,rfl,rfl⟩:=only _ _ _ _ h
   refine .inr ⟨b',.cells (putCells encStr 0 (zs7 c0).toArray C) T (0,0),rfl,?_,b',cap,_, by rw [zj8],rfl, by rw [zj8]; exact k4,k5,?_,?_⟩
   ·
    show (w.heap.modify b' _++os)[b']? = _
    rw [Array.getElem?_append_left (by simpa using hlt),Array.getElem?_modify,if_pos rfl,k2]
    rfl
   ·
    rw [hsz,Nat.mul_one,← k6]; simp [putCells]
   ·
    rw [hsz,Nat.mul_one,z11b (zs7 c0) C (by rw [zj8]; omega)]
    exact zrh _
  ·
   exact absurd ((only _ _ _ _ h).1.trans (only _ _ _ _ h').1.symm) hne
  ·
   obtain ⟨rfl,rfl,rfl⟩:=only _ _ _ _ h
   exact .inr ⟨1,_,_,rfl,hb⟩
  ·
   show w.heap.size≤(w.heap.modify b' _++os).size
   simp
  ·
   show (w.heap.modify b' _++os)[i]? = _
   rw [Array.getElem?_append_left (by simpa using hi.1),Array.getElem?_modify,if_neg (fun e=>hi.2 ⟨1,_,_,rfl, by rw [← e]; rfl⟩)]
theorem zuv (p0:Value) (c0:List (List UInt8)):z36 Tryz.prog 63 [.val p0] [(1,some (p0,.list z6a 9 c0))] (zn9 c0) (fun r nv=>⟨[],[(1,some (p0,.list z6a 9 r))]⟩) :=
 zzr (fun cap w=>Any.slices_Sort_string_none z13v none cap w) (fun blk cap d w hH hb hs=>Any.slices_Sort_string z13v blk 0 cap d w hH hb hs) p0 c0
end
section
open Go Go.RowKit
section
variable {κ β:Type} [DecidableEq κ] {RK:Rep κ} {RV:Rep β}
theorem zru (k:κ) (x y:β):∀ m:List (κ × β),zau (zau m k x) k y=zau m k y
 | []=>by simp [zau]
 | p::m=>by
  by_cases h:k=p.1
  ·
   have e1:zau (p::m) k x=(p.1,x)::m:=if_pos h
   have e2:zau (p::m) k y=(p.1,y)::m:=if_pos h
   have e3:zau ((p.1,x)::m) k y=(p.1,y)::m:=if_pos h
   rw [e1,e2,e3]
  ·
   have e1:zau (p::m) k x=p::zau m k x:=if_neg h
   have e2:zau (p::m) k y=p::zau m k y:=if_neg h
   have e3:zau (p::zau m k x) k y=p::zau (zau m k x) k y:=if_neg h
   rw [e1,e2,e3,zru k x y m]
theorem zpw {k:κ} {x:β}:∀ {m:List (κ × β)},z3k m k=some x→zau m k x=m
 | [],h=>by cases h
 | p::m,h=>by
  unfold z3k at h
  unfold zau
  by_cases hk:k=p.1
  ·
   rw [if_pos hk] at h ⊢
   cases h; rfl
  ·
   rw [if_neg hk] at h ⊢
   rw [zpw h]
theorem zv1 (k:κ) (x:β):∀ m:List (κ × β),z3k (zau m k x) k=some x
 | []=>by simp [zau,z3k]
 | p::m=>by
  unfold zau
  by_cases h:k=p.1
  ·
   rw [if_pos h]; simp [z3k,h]
  ·
   rw [if_neg h]; simp [z3k,h,zv1 k x m]
theorem ztq {k:κ} {z:β} {e:MapEntry} {S:Blk} {w:World}:∀ {es:List MapEntry} {m:List (κ × β)} {i:Nat},zhf RK RV S w es m→fnd k es m i=none→fnd k (es++[e]) (m++[(k,z)]) i=some (i+es.length,e.val)
 | [],[],i,_,_=>by simp [fnd]
 | e0::es,p::m,i,h,h0=>by
  simp only [fnd] at h0
  split at h0
  ·
   cases h0
  ·
   rename_i hk
   simp only [List.cons_append,fnd,if_neg hk]
   rw [ztq h.2 h0,List.length_cons]
   congr 2
   omega
 | [],_::_,_,h,_=>h.elim
 | _::_,[],_,h,_=>h.elim
def z43.mapP (RK:Rep κ) (RV:Rep β) (m:List (κ × β)) (k:κ) (z:β) (born:Nat):z43 where
 nil _ _ _:=False
 nilm _ h:=h
 nilb h:=h.elim
 rel S w v o:=∃ b es clock i u e,v=.map (some b)∧o=.map es clock∧zhf RK RV S w es.toList (zau m k z)∧zv4 es.toList clock∧fnd k es.toList (zau m k z) 0=some (i,u)∧es.toList[i]? = some e∧e.born=born
 mono k h:=by obtain ⟨b,es,clock,i,u,e,h1,h2,h3,h4⟩:=h; exact ⟨b,es,clock,i,u,e,h1,h2,h3.mono k,h4⟩
theorem zr9 {m:List (κ × β)} {k:κ} {z:β} {born:Nat} {S:Blk} {w:World} {v:Value} (h:(z43.mapP RK RV m k z born).holds S w v):∃ b es clock i u e,v=.map (some b)∧w.heap[b]? = some (.map es clock)∧zhf RK RV S w es.toList (zau m k z)∧zv4 es.toList clock∧fnd k es.toList (zau m k z) 0=some (i,u)∧es.toList[i]? = some e∧e.born=born:=by
 rcases h with h | ⟨b,o,h1,h2,b',es,clock,i,u,e,rfl,rfl,h3⟩
 ·
  exact h.elim
 ·
  simp only [z5b,Option.some.injEq] at h1
  subst h1
  exact ⟨_,es,clock,i,u,e,rfl,h2,h3⟩
theorem zor {es:Array MapEntry} {i:Nat} {e:MapEntry} (hn:(es.toList.map (·.born)).Nodup) (h:es.toList[i]? = some e):es.findIdx? (fun x=>(x.born:Int)==(e.born:Int))=some i:=by
 obtain ⟨hi,he⟩:=List.getElem?_eq_some_iff.1 h
 rw [Array.findIdx?_eq_some_iff_getElem]
 have he':es[i]'(by simpa using hi)=e:=by rw [← Array.getElem_toList]; exact he
 refine ⟨by simpa using hi, by rw [he']; simp, fun j hj=>?_⟩
 have hp:=List.pairwise_iff_getElem.1 hn j i (by rw [List.length_map]; omega) (by rw [List.length_map]; exact hi) hj
 simp only [List.getElem_map] at hp
 rw [he] at hp
 simp only [beq_iff_eq,Int.natCast_inj]
 simpa using hp
end
section
variable {ρ:Type} {P:Program} {Γ:Ctx} {l l0:z1d} {res res0:Res} {ws:List Nat} {m m1 m2:Option ρ} {os:List Oper} {N:ρ→Exit→Act→World→Prop}
 {d:Tmp} {op:Op} {ty:TypeId} {pos:String} {after:Array Edge} {g:Option (Nat × Bool)} {fuel i:Nat} {listed listed':Array Bool} {rest:List Oper}
def EffE (P:Program) (Γ:Ctx) (l:z1d) (res:Res) (o:Oper) (r:Nat) (v0:Value) (e:Nat→Ent) (c:Nat→z43):Prop:=∀ a w,Sta Γ l res a w →
 ∃ w' v n,(execOp a.eval o).run P w=.ok (.value v) w'∧(Sta Γ l ((r,some (v0,c n))::res) a w'∧za0 (Shr Γ.H res w) (Shr Γ.H ((r,some (v0,c n))::res) w') w w')∧Grew res r w w'∧(e n).holds (Shr Γ.H ((r,some (v0,c n))::res) w') w' v
theorem oDoE {r:Nat} {e:Nat→Ent} {v0:Value} {c:Nat→z43} {c0:z43} (i:Nat) (hi:os.toArray[i]? = some ⟨some d,op,ty,pos,after,g⟩) (hg:Grd os l ⟨some d,op,ty,pos,after,g⟩ true) (hn:Nat.blt d Γ.n=true) (hl:listed.setIfInBounds i true=listed') (hw:ws.contains r=true) (hv:lr res r=some (v0,c0))
  (he:EffE P Γ l res ⟨some d,op,ty,pos,after,g⟩ r v0 e c) (k:∀ n,GH P os Γ ((d,.junk)::l0) res0 ws ((d,e n)::l) ((r,some (v0,c n))::res) N fuel listed' m):GO P os Γ l0 res0 ws l res N fuel listed i m:=fun a w0 w ha ρ' hm=>by
 obtain ⟨w',v,n,h1,h2,h3,h4⟩:=he a w ha.s
 have hgw:=hg.wanted ha.s
 unfold wpOp
 simp only [hi,hgw,if_true]
 refine .inl ?_
 unfold Oper.wp; rw [h1]
 have hS:=ha.grew hw h2 h3 (fun b hb=>.inl ⟨v0,c0,hv,hb⟩)
 refine ⟨hS.cw,?_⟩
 rw [hl]
 exact k n _ w0 w' (hS.put hn trivial h4) ρ' hm
theorem hDoE {r:Nat} {e:Nat→Ent} {v0:Value} {c:Nat→z43} {c0:z43} (i:Nat) (hi:os.toArray[i]? = some ⟨some d,op,ty,pos,after,g⟩) (hr:Region.ready .any os.toArray listed=[i]) (hg:Grd os l ⟨some d,op,ty,pos,after,g⟩ true) (hn:Nat.blt d Γ.n=true) (hl:listed.setIfInBounds i true=listed') (hw:ws.contains r=true) (hv:lr res r=some (v0,c0))
  (he:EffE P Γ l res ⟨some d,op,ty,pos,after,g⟩ r v0 e c) (k:∀ n,GH P os Γ ((d,.junk)::l0) res0 ws ((d,e n)::l) ((r,some (v0,c n))::res) N fuel listed' m):GH P os Γ l0 res0 ws l res N (fuel+1) listed m :=
 hAlt [i] hr rfl ⟨oDoE i hi hg hn hl hw hv he k,trivial⟩
variable {κ β:Type} [DecidableEq κ] {RK:Rep κ} {RV:Rep β} {mm:List (κ × β)} {x y s:Operand} {v:Value} {k:κ} {x0 b0:β} {T K V:TypeId} {n by_:Nat} {z:Value}
theorem men (r:Nat) (hx:opE l x=some (.val v)) (hr:lr res r=some (v,.map RK RV mm)) (hy:opE l y=some (.rd RK k)) (hK:zl7 P K RK n) (hT:P.underlying T=some (.map K V)) (hV:TI P V z RV.sz by_) (hz:Zr RV z.cells.toList x0) (hzv:z=RV.val z.cells.toList) :
  EffE P Γ l res ⟨some d,.mapEntry T x y,ty,pos,after,g⟩ r v (fun n=>.tup [.rd RV ((z3k mm k).getD x0),.rd z0c (n:Int)]) (fun n=>.mapP RK RV mm k ((z3k mm k).getD x0) n):=fun a w ha=>by
 have e1:=(ha.vl hx).1
 obtain ⟨bk,es,clock,rfl,h1,h2,h3⟩:=zl3 (ha.conts r v _ hr)
 have hy1:=ha.vl hy
 obtain ⟨cs,hk1,hk2⟩:=hy1
 have hck:=hK.chk hk1 10000 (Nat.le_of_ble_eq_true hK.deep) false w
 rw [← hk2] at hck
 have hf:=zl2 hK ⟨cs,hk1,hk2⟩ w h2
 have hbi:=hK.bits hk1 10000 (Nat.le_of_ble_eq_true hK.deep)
 rw [← hk2] at hbi
 have hlt:bk<w.heap.size:=(Array.getElem?_eq_some_iff.1 h1).1
 cases hq:fnd k es.toList mm 0 with
 | none =>
  obtain ⟨q1,q2,-⟩:=zkx h2 hq
  have hu:=ha.upd r (v:=.map (some bk)) (c:=.mapP RK RV mm k ((z3k mm k).getD x0) clock) (w':={ w with heap:=w.heap.setIfInBounds bk (.map (es.push { key:=a.eval y,val:=z,born:=clock }) (clock+1)) }) z9r (fun bb hbb=>⟨_,_,hr, by cases hbb; rfl⟩) (fun bb hbb=>.inl ⟨_,_,hr,hbb⟩)
   (fun S' k'=>.inr ⟨bk,_,rfl, by simp [hlt],bk,es.push { key:=a.eval y,val:=z,born:=clock },clock+1,es.toList.length,z,{ key:=a.eval y,val:=z,born:=clock },rfl,rfl, by
    rw [q2,Array.toList_push]
    refine (h2.mono k').push (Rep.vrel.mono ⟨cs,hk1,hk2⟩ k') ?_
    rw [q1]; exact ⟨_,hz _ _,hzv⟩, by rw [Array.toList_push]; exact h3.push rfl, by rw [q2,Array.toList_push,ztq h2 hq,Nat.zero_add], by rw [Array.toList_push]; simp,rfl⟩)
  refine ⟨_,.tuple #[z,.int .i64 (clock:Int)],clock,?_,hu,⟨some bk,z9r, fun bb hbb=>⟨_,_,hr, by cases hbb; rfl⟩⟩,⟨[z,.int .i64 (clock:Int)],⟨?_,z7j,trivial⟩,rfl⟩⟩
  ·
   have:(Instr.mapEntry T (a.eval x) (a.eval y)).run P w=.ok (.tuple #[z,.int .i64 (clock:Int)]) { w with heap:=w.heap.setIfInBounds bk (.map (es.push { key:=a.eval y,val:=z,born:=clock }) (clock+1)) }:=by
    rw [e1]
    unfold Instr.mapEntry
    simp only [Sem.run_bind,run_underlying hT,Result.andThen,MapKept.run_getObj_map h1,hck,hf,hq,zd2 hV,MapKept.run_setObj_map _ h1,Sem.run_pure,goInt]
   simp [execOp,this]
  ·
   rw [q1]; exact ⟨_,hz _ _,hzv⟩
 | some ju =>
  obtain ⟨j,u⟩:=ju
  obtain ⟨-,e,x1,q1,q2,q3,q4,q5,q6,q7⟩:=zgs h2 hq
  simp only [Nat.sub_zero] at q1 q6
  have hj:es[j]? = some e:=by rw [← Array.getElem?_toList]; exact q1
  have hkey:e.key=a.eval y:=by
   obtain ⟨cs',h4,h5⟩:=q5
   rw [h5,hk2,hK.one h4 hk1]
  have hsame:Instr.sameBits 10000 e.key (a.eval y)=true:=by rw [hkey]; exact hbi
  have hmod:es.modify j (fun e=>{ e with key:=a.eval y })=es:=by
   apply Array.toList_inj.1
   rw [Array.toList_modify]
   apply List.ext_getElem?
   intro i
   simp only [List.getElem?_modify]
   by_cases hi:j=i
   ·
    subst hi
    rw [q1]
    show some (if j=j then _ else _)=_
    rw [if_pos rfl,← hkey]
   ·
    simp [hi]
  have hself:zau mm k x1=mm:=zpw q3
  have hu:=ha.upd r (v:=.map (some bk)) (c:=.mapP RK RV mm k ((z3k mm k).getD x0) e.born) (w':={ w with heap:=w.heap.setIfInBounds bk (.map es clock) }) z9r (fun bb hbb=>⟨_,_,hr, by cases hbb; rfl⟩) (fun bb hbb=>.inl ⟨_,_,hr,hbb⟩)
   (fun S' k'=>.inr ⟨bk,_,rfl, by simp [hlt],bk,es,clock,j,u,e,rfl,rfl, by rw [q3]; show zhf RK RV S' _ es.toList (zau mm k x1); rw [hself]; exact h2.mono k',h3, by rw [q3]; show fnd k es.toList (zau mm k x1) 0=_; rw [hself]; exact hq,q1,rfl⟩)
  refine ⟨_,.tuple #[u,.int .i64 (e.born:Int)],e.born,?_,hu,⟨some bk,z9r, fun bb hbb=>⟨_,_,hr, by cases hbb; rfl⟩⟩,⟨[u,.int .i64 (e.born:Int)],⟨?_,z7j,trivial⟩,rfl⟩⟩
  ·
   have:(Instr.mapEntry T (a.eval x) (a.eval y)).run P w=.ok (.tuple #[u,.int .i64 (e.born:Int)]) { w with heap:=w.heap.setIfInBounds bk (.map es clock) }:=by
    rw [e1]
    unfold Instr.mapEntry
    simp only [Sem.run_bind,run_underlying hT,Result.andThen,MapKept.run_getObj_map h1,hck,hf,hq,hj,Option.map_some,Option.getD_some,Instr.keyThatStays,hsame,if_true,Sem.run_pure,goInt]
    rw [hmod,MapKept.run_setObj_map _ h1]
   simp [execOp,this]
  ·
   have hq4:RV.vrel (Shr Γ.H res w) w u ((z3k mm k).getD x0):=by rw [q3,← q2]; exact q4
   exact Rep.vrel.mono hq4 hu.2
theorem ens {T:TypeId} (r:Nat) (hx:opE l x=some (.val v)) (hr:lr res r=some (v,.mapP RK RV mm k x0 n)) (hs:opE l s=some (.rd z0c (n:Int))) (hy:opE l y=some (.rd RV b0)) :
  EffS P Γ l res ⟨none,.entryStore T x s y,ty,pos,after,g⟩ r (v,.map RK RV (zau mm k b0)):=fun a w ha=>by
 have e1:=(ha.vl hx).1
 have e2:a.eval s=.int .i64 (n:Int):=z4s (ha.vl hs)
 have e3:(asInt (.int .i64 (n:Int))).run P w=.ok (n:Int) w:=rfl
 obtain ⟨bk,es,clock,i,u,e,rfl,h1,h2,h3,h4,h5,h6⟩:=zr9 (ha.conts r v _ hr)
 have hy1:=ha.vl hy
 have hlt:bk<w.heap.size:=(Array.getElem?_eq_some_iff.1 h1).1
 obtain ⟨-,e',x1,q1,q2,q3,q4,q5,q6,q7⟩:=zgs h2 h4
 simp only [Nat.sub_zero] at q6
 have hfi:=zor h3.1 h5
 rw [h6] at hfi
 refine ⟨{ w with heap:=w.heap.setIfInBounds bk (.map (es.modify i fun e=>{ e with val:=a.eval y }) clock) },?_,?_,some bk,z9r, fun bb hbb=>⟨_,_,hr, by cases hbb; rfl⟩⟩
 ·
  have:(Instr.entryStore T (a.eval x) (a.eval s) (a.eval y)).run P w=.ok () { w with heap:=w.heap.setIfInBounds bk (.map (es.modify i fun e=>{ e with val:=a.eval y }) clock) }:=by
   rw [e1,e2]
   unfold Instr.entryStore
   simp only [Sem.run_bind,Result.andThen,MapKept.run_getObj_map h1,e3,Sem.run_pure,hfi,MapKept.run_setObj_map _ h1]
  simp [execOp,this]
 ·
  refine ha.upd r (v:=.map (some bk)) z9r (fun bb hbb=>⟨_,_,hr, by cases hbb; rfl⟩) (fun bb hbb=>.inl ⟨_,_,hr,hbb⟩) (fun S' k'=>zjf (es:=es.modify i fun e=>{ e with val:=a.eval y }) (clock:=clock) (by simp [hlt]) ?_ ?_)
  ·
   rw [Array.toList_modify,← zru k x0 b0 mm]
   exact q6 S' _ _ b0 k' (Rep.vrel.mono hy1 k')
  ·
   rw [Array.toList_modify]; exact h3.modify (fun _=>rfl)
theorem mlkP {n':Nat} (r:Nat) (hx:opE l x=some (.val v)) (hr:lr res r=some (v,.mapP RK RV mm k x0 n')) (hy:opE l y=some (.rd RK k)) (hK:zl7 P K RK n) (hT:P.underlying T=some (.map K V)) :
  Run Eq P Γ l res ⟨some d,.lookup T x y false,ty,pos,after,g⟩ (.rd RV x0):=fun a w ha=>by
 have e1:=(ha.vl hx).1
 obtain ⟨bk,es,clock,i,u,e,rfl,h1,h2,h3,h4,h5,h6⟩:=zr9 (ha.conts r v _ hr)
 obtain ⟨cs,hk1,hk2⟩:=ha.vl hy
 have hck:=fun em w'=>hK.chk hk1 10000 (Nat.le_of_ble_eq_true hK.deep) em w'
 rw [← hk2] at hck
 have hf:=fun w'=>zl2 hK ⟨cs,hk1,hk2⟩ w' h2
 obtain ⟨-,e',x1,q1,q2,q3,q4,q5,q6,q7⟩:=zgs h2 h4
 have hx1:x1=x0:=by rw [zv1] at q3; exact (Option.some.inj q3).symm
 subst hx1
 refine ⟨u, fun w' hw'=>?_, by rw [← q2]; exact q4⟩
 subst hw'
 have:(Instr.lookup T (a.eval x) (a.eval y) false).run P w=.ok u w:=by
  rw [e1]
  unfold Instr.lookup
  simp only [Sem.run_bind,run_underlying hT,Result.andThen,MapKept.run_getObj_map h1,Sem.run_pure,hck,hf,h4]
  rfl
 simp [execOp,this]
end
end
end Go.Proofs.YthgpinfkodaefaaGreatDoor
