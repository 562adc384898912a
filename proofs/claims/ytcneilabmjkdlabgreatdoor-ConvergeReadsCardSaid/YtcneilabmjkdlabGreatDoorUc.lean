import Derived.Test.YtcneilabmjkdlabGreatDoorUb
set_option linter.unusedSimpArgs false
set_option linter.unusedVariables false
namespace Go.Proofs.YtcneilabmjkdlabGreatDoor
section
open Go Go.RowKit
set_option maxRecDepth 100000
theorem zen (a1:Int):z1u Tryz.prog 165 [.val (.slice none 0 0),.rd z08 a1] [] (z48 a1) (fun r nv=>⟨[.val (nv 0)],[(100,some (nv 0,.list u8R 5 r))]⟩):=by
 refine z2f 27 Tryz.func165 Z Z Z fun H w=>?_;refine gSR<|Zb Z<|z0q<|gSR<|Zm Z<|Zq (I.lss Z Z)<|Zj Z (fun h1=>?_) (fun h1=>?_)
 ·refine z18z
 ·refine Zt<|z0q<|gSR<|Zm Z<|Zm Z<|Zq (capN Z Z tu94)<|Zm Z<|z13y u8R 11 Z<|Zq (z4f Z .rd Z tu94)<|Zq (I.sub Z Z)<|Zq (I.sub Z Z)<|Za Z<|z27 1 Z fun y2=>Zn<|gSR<|Zm Z<|Zq (I.gtr Z Z)<|Zj Z (fun h3=>?_) (fun h3=>?_)
  ·refine z2g<|Zm Z<|Zm Z<|Zq (capN Z Z tu94)<|Zq (cutN Z Z tu94 ti5)<|Zm Z<|z0t fun x4 h5=>Ef Z (apZ 1 Z Z h5 tu94 tu3 ti5 (Zr.num Z) Z) fun v6=>Zm Z<|z13y u8R 23 Z<|Zq (z4f Z .rd Z tu94)<|z0t fun x7 h8=>Ef Z (cutO 1 Z Z Z h8 tu94 ti5) fun v9=>Zb Z<|gSR<|Zm Z<|Zb Z<|z0k<|Ze [v9] [1] Z
  ·refine Zt<|gSR<|Zm Z<|Zb Z<|z0k<|zwd u8R 5 2<|Ze [(.slice none 0 0)] [2] Z
def z0z (a0:List (List UInt8)) (s2:Int × Int):Option (Sum Int (Int × Int)) :=
 if decide (s2.2<(a0.length:Int)) then
  idx a0 s2.2 >>= fun x4 =>
  some (w64 (s2.1+(x4.length:Int))) >>= fun y6 =>
  if decide (y6<0) then
   none
  else
   some (.inr (y6,w64 (s2.2+1)))
 else
  some (.inl s2.1)
def z0y (a0:List (List UInt8)) (s11:(List UInt8) × Int):Option (Sum ((List UInt8)) ((List UInt8) × Int)) :=
 if decide (s11.2<(a0.length:Int)) then
  idx a0 s11.2 >>= fun x14 =>
  app 1 s11.1 x14 >>= fun x16 =>
  some (.inr (x16,w64 (s11.2+1)))
 else
  some (.inl s11.1)
def z2c (a0:List (List UInt8)):Option ((List UInt8)) :=
 (iter (z0z a0) (0,0)) >>= fun s1 =>
 z48 s1 >>= fun r8 =>
 (iter (z0y a0) (r8,0)) >>= fun s10 =>
 some s10
theorem z64 (a0:List (List UInt8)):z1u Tryz.prog 110 [.rd (z03 (z03 u8R)) a0] [] (z2c a0) (fun r nv=>⟨[.val (nv 0)],[(100,some (nv 0,.list u8R 5 r))]⟩):=by
 refine z2f 36 Tryz.func110 Z Z Z fun H w=>?_;refine gSR<|Zb Z<|gSR<|Zb Z<|z7r (fun (s1:Int) aa ww=>Sta (ctx 36 H [] w) [(0,.rd (z03 (z03 u8R)) a0),(3,.rd z08 s1)] [] aa ww) ?_ (fun s1=>?_)
 ·refine gSR<|Zm Z<|Zq (z4f Z .rd Z tu212)<|Zm Z<|Zn<|z29 (fun (s2:Int × Int) aa ww=>Sta (ctx 36 H [] w) [(0,.rd (z03 (z03 u8R)) a0),(3,.rd z08 s2.1),(9,.rd (z03 (z03 u8R)) a0),(10,.rd z08 (a0.length:Int)),(11,.rd z08 s2.2)] [] aa ww) (fun aa ww h=>Zu h []) (fun s2=>?_);refine gSR<|Zq (I.lss Z Z)<|Zn<|z0q<|gIf Z Z (fun h3=>?_) (fun h3=>?_)
  ·refine Zt<|z0q<|z5f<|gSR<|z0t fun x4 h5=>Zq (ixR Z Z h5 tu212 zuf Z)<|Zq (ldR Z ty94)<|Zb Z<|gSR<|Zm Z<|Zm Z<|Zq (z4f Z .rd Z tu94)<|Zq (I.add Z Z)<|Za Z<|z27 3 Z fun y6=>Zn<|gSR<|Zm Z<|Zq (I.lss Z Z)<|Zj Z (fun h7=>?_) (fun h7=>?_)
   ·refine z18z
   ·refine z38<|z3l<|z0m<|z2g<|Zq (I.add Z Z)<|Zm Z<|z21<|z1m (fun aa ww h=>Zu h [])
  ·refine z1z<|z10<|z14<|z3p (fun aa ww h=>Zu h [])
 ·refine gSR<|Zm Z<|Zc [] [(100,1)] Tryz.func165 Z (zen _) fun r8 n9=>Zb Z<|z7r (fun (s10:(List UInt8)) aa ww=>∃ nv:Nat→Value,Sta (ctx 36 H [] w) [(6,.val (nv 0))] [(1,some ((nv 0),.list u8R 5 s10))] aa ww) ?_ (fun s10=>?_)
  ·refine gSR<|Zm Z<|Zq (z4f Z .rd Z tu212)<|Zm Z<|Zn<|z29 (fun (s11:(List UInt8) × Int) aa ww=>∃ nv:Nat→Value,Sta (ctx 36 H [] w) [(6,.val (nv 0)),(25,.rd (z03 (z03 u8R)) a0),(26,.rd z08 (a0.length:Int)),(27,.rd z08 s11.2)] [(1,some ((nv 0),.list u8R 5 s11.1))] aa ww) (fun aa ww h=>⟨nvl [(n9 0)],Zu h [1]⟩) (fun s11=>?_);refine gEx fun n12=>gSR<|Zq (I.lss Z Z)<|Zn<|z0q<|gIf Z Z (fun h13=>?_) (fun h13=>?_)
   ·refine Zt<|z0q<|z5f<|gSR<|z0t fun x14 h15=>Zq (ixR Z Z h15 tu212 zuf Z)<|Zq (ldR Z ty94)<|Zb Z<|z2g<|Zm Z<|Zm Z<|z0t fun x16 h17=>Ef Z (apn 1 Z Z Z .rd h17 tu94 ti5 Z Z Z) fun v18=>Za Z<|z21<|z3l<|z0m<|z2g<|Zq (I.add Z Z)<|Zm Z<|z21<|z1m (fun aa ww h=>⟨nvl [v18],Zu h [1]⟩)
   ·refine z1z<|z10<|z14<|z3p (fun aa ww h=>⟨nvl [(n12 0)],Zu h [1]⟩)
  ·refine gEx fun n19=>gSR<|Zm Z<|Zb Z<|z0k<|Ze [(n19 0)] [1] Z
def zcj (a0:List UInt8):Option ((List UInt8) × Int) :=
 if decide (10000<(a0.length:Int)) then
  some ([],4)
 else
  z6v (UInt64.ofInt (a0.length:Int)) >>= fun r2 =>
  app 1 r2 a0 >>= fun x4 =>
  some (x4,0)
theorem ziu (a0:List UInt8):z1u Tryz.prog 112 [.rd (z03 u8R) a0] [] (zcj a0) (fun r nv=>⟨[.val (nv 0),.rd z08 r.2],[(100,some (nv 0,.list u8R 5 r.1))]⟩):=by
 refine z2f 13 Tryz.func112 Z Z Z fun H w=>?_;refine gSR<|Za Z<|Zb Z<|z0q<|gSR<|Zm Z<|Zq (z4f Z .rd Z tu94)<|Zq (I.gtr Z Z)<|Zj Z (fun h1=>?_) (fun h1=>?_)
 ·refine gSR<|Za Z<|Zb Z<|z0k<|z0v<|zwd u8R 5 1<|Ze [(.slice none 0 0)] [1] Z
 ·refine Zt<|gSR<|Zm Z<|Zq (z4f Z .rd Z tu94)<|Zq (I.toU Z tu3 tu44)<|Zc [] [(100,2)] Tryz.func111 Z (z6s _) fun r2 n3=>Zm Z<|z0t fun x4 h5=>Ef Z (apn 2 Z Z Z .rd h5 tu94 ti5 Z Z Z) fun v6=>Za Z<|Zb Z<|z0k<|Ze [v6] [2] Z
def zfb (a0:Int):Option ((List UInt8)) :=
 z6v ((zop (UInt64.ofInt a0) 1) ^^^ (UInt64.ofInt (shrI a0 63))) >>= fun r1 =>
 some r1
theorem zn5 (a0:Int):z1u Tryz.prog 166 [.rd z08 a0] [] (zfb a0) (fun r nv=>⟨[.val (nv 0)],[(100,some (nv 0,.list u8R 5 r))]⟩):=by
 refine z2f 11 Tryz.func166 Z Z Z fun H w=>?_;refine gSR<|Zb Z<|gSR<|Zm Z<|Zq (I.toU Z Tryz.underlying2 tu44)<|Zq (U.shl Z Z (Int.natCast_nonneg _))<|Zm Z<|Zq (I.shr Z Z (Int.natCast_nonneg _))<|Zq (I.toU Z Tryz.underlying2 tu44)<|Zq (U.xor Z Z)<|Zc [] [(100,1)] Tryz.func111 Z (z6s _) fun r1 n2=>Zb Z<|z0k<|Ze [(n2 0)] [1] Z
def z8m (a0:z02) (s14:(List UInt8) × Int):Option (Sum ((List UInt8)) ((List UInt8) × Int)) :=
 if decide (0≤s14.2) then
  chk (0≤s14.2) >>= fun u17 =>
  app 1 s14.1 [(z71 a0.Bits ((s14.2:Int).toNat)).toUInt8] >>= fun x20 =>
  some (w64 (s14.2 - 8)) >>= fun y23 =>
  some (.inr (x20,y23))
 else
  some (.inl s14.1)
def zdk (a0:z02):Option ((List UInt8) × Int) :=
 zbg a0 >>= fun r2 =>
 if r2 != 0 then
  some ([],r2)
 else
  (if a0.Kind==1 then
   zfb a0.Num >>= fun r8 =>
   app 1 [a0.Kind] r8 >>= fun x10 =>
   some x10
  else
   if a0.Kind==2 then
    iter (z8m a0) ([a0.Kind],56)
   else
    if a0.Kind==3 then
     chk (a0.Text.length≤281474976710656) >>= fun u25 =>
     zcj a0.Text >>= fun r27 =>
     app 1 [a0.Kind] r27.1 >>= fun x29 =>
     some x29
    else
     some [a0.Kind]) >>= fun s6 =>
  some (s6,0)
theorem zm2 (a0:z02):z1u Tryz.prog 113 [.rd z0d a0] [] (zdk a0) (fun r nv=>⟨[.val (nv 0),.rd z08 r.2],[(100,some (nv 0,.list u8R 5 r.1))]⟩):=by
 refine z2f 53 Tryz.func113 Z Z Z fun H w=>?_;refine gSR<|Eb Z (bx 1 Z) fun v1=>Za Z<|Zb Z<|z0q<|gSR<|Zq (ld 1 Z Z fH zh5 Z)<|Zc [] [] Tryz.func102 Z (ze2 _) fun r2 n3=>Zb Z<|gSR<|Zm Z<|Zq (I.neq Z Z)<|Zj Z (fun h4=>?_) (fun h4=>?_)
 ·refine gSR<|Zm Z<|Za Z<|Zb Z<|z0k<|z0v<|zwd u8R 5 2<|Ze [(.slice none 0 0)] [2] Z
 ·refine Zt<|gSR<|Zq (faB 1 Z Z Tryz.underlying46 Z (by exact ti5))<|Zq (ld 1 Z Z (fP (z2m _)) ty5 Z)<|Ef Z (lit (R:=u8R) ([a0.Kind]:List UInt8) 3 (pP Z Z<|pN) Z tu94 ti5 Z Z) fun v5=>Zb Z<|z7r (fun (s6:(List UInt8)) aa ww=>∃ nv:Nat→Value,Sta (ctx 53 H [] w) [(5,.val (nv 0))] [(3,some ((nv 0),.list u8R 5 s6))] aa ww) ?_ (fun s6=>?_)
  ·refine gSR<|Zq (faB 1 Z Z Tryz.underlying46 Z (by exact ti5))<|Zq (ld 1 Z Z (fP (z2m _)) ty5 Z)<|Zn<|z5f<|gSR<|Zq (B.eql Z Z)<|Zb Z<|gIf Z Z (fun h7=>?_) (fun h7=>?_)
   ·refine gKn 20 Z h7<|z2g<|Zm Z<|Zq (faB 1 Z Z Tryz.underlying46 Z (by exact ti2))<|Zq (ld 1 Z Z (fP (z57 _)) ty2 Z)<|Zc [] [(100,4)] Tryz.func166 Z (zn5 _) fun r8 n9=>z0t fun x10 h11=>Ef Z (apn 3 Z Z Z (.own 4 Z) h11 tu94 ti5 Z Z Z) fun v12=>Za Z<|z21<|z3l<|z3p (fun aa ww h=>⟨nvl [v12],Zu h [3]⟩)
   ·refine gKn 20 Z h7<|gSR<|Zq (B.eql Z Z)<|Zb Z<|gIf Z Z (fun h13=>?_) (fun h13=>?_)
    ·refine gKn 27 Z h13<|gSR<|Zb Z<|z29 (fun (s14:(List UInt8) × Int) aa ww=>∃ nv:Nat→Value,Sta (ctx 53 H [] w) [(1,.val (z05 v1 0)),(5,.val (nv 0)),(6,.rd z08 s14.2)] [(1,some (v1,.box 46 [.rd z0d a0])),(3,some ((nv 0),.list u8R 5 s14.1))] aa ww) (fun aa ww h=>⟨nvl [v5],Zu h [1,3]⟩) (fun s14=>?_);refine gEx fun n15=>z0q<|gSR<|Zm Z<|Zq (I.geq Z Z)<|Zj Z (fun h16=>?_) (fun h16=>?_)
     ·refine Zt<|z0q<|z5f<|z2g<|Zm Z<|Zq (faB 1 Z Z Tryz.underlying46 Z (by exact zp4))<|Zq (ld 1 Z Z (fP (z44 _)) znt Z)<|Zm Z<|z0t fun u17 h18=>Zq (U.shr Z Z (z5h h18))<|Zq (U.toB Z tu44 tu5)<|Ef Z (lit (R:=u8R) ([(z71 a0.Bits ((s14.2:Int).toNat)).toUInt8]:List UInt8) 5 (pP Z Z<|pN) Z tu94 ti5 Z Z) fun v19=>z0t fun x20 h21=>Ef Z (apn 3 Z Z Z (.own 5 Z) h21 tu94 ti5 Z Z Z) fun v22=>Za Z<|z21<|z3l<|z0m<|z2g<|Zm Z<|Zq (I.sub Z Z)<|Za Z<|z27 6 Z fun y23=>z21<|z1m (fun aa ww h=>⟨nvl [v22],Zu h [1,3]⟩)
     ·refine z1z<|z10<|z14<|z3l<|z3p (fun aa ww h=>⟨nvl [(n15 0)],Zu h [3]⟩)
    ·refine gKn 27 Z h13<|gSR<|Zq (B.eql Z Z)<|Zb Z<|gIf Z Z (fun h24=>?_) (fun h24=>?_)
     ·refine gKn 41 Z h24<|gSR<|Zq (faB 1 Z Z Tryz.underlying46 Z (by exact ti9))<|Zq (ld 1 Z Z (fP (z3o _)) ty9 Z)<|z0t fun u25 h26=>z116 Z Z h26 tu9 tu94 tu5<|Zc [] [(100,6)] Tryz.func112 Z (ziu _) fun r27 n28=>Zm Z<|Zq (ext Z Z)<|Zq (ext Z Z)<|Za Z<|Zb Z<|z2g<|Zm Z<|Zm Z<|z0t fun x29 h30=>Ef Z (apn 3 Z Z Z (.own 6 Z) h30 tu94 ti5 Z Z Z) fun v31=>Za Z<|z21<|z3l<|z3p (fun aa ww h=>⟨nvl [v31],Zu h [3]⟩)
     ·refine gKn 41 Z h24<|z38<|z3l<|z3p (fun aa ww h=>⟨nvl [v5],Zu h [3]⟩)
  ·refine gEx fun n32=>gSR<|Zm Z<|Za Z<|Zb Z<|z0k<|Ze [(n32 0)] [3] Z
def zbf (a0:z0a):Option ((List UInt8) × Int) :=
 zfc ({ a0 with Sig:=(⟨0,0⟩:z0c) }) >>= fun r2 =>
 if r2 != 0 then
  some ([],r2)
 else
  zlb (({ a0 with Sig:=(⟨0,0⟩:z0c) }).Preds) >>= fun r5 =>
  z6v ((({ a0 with Sig:=(⟨0,0⟩:z0c) }).Author).toUInt64) >>= fun r7 =>
  z6v (({ a0 with Sig:=(⟨0,0⟩:z0c) }).Stamp) >>= fun r10 =>
  z2c [[111],r7,r5.1,r10,[(({ a0 with Sig:=(⟨0,0⟩:z0c) }).Act).Kind]] >>= fun r13 =>
  if ((({ a0 with Sig:=(⟨0,0⟩:z0c) }).Act).Kind)==1 then
   some (r13,0)
  else
   chk (((({ a0 with Sig:=(⟨0,0⟩:z0c) }).Act).Key).length≤281474976710656) >>= fun u18 =>
   zcj ((({ a0 with Sig:=(⟨0,0⟩:z0c) }).Act).Key) >>= fun r20 =>
   app 1 r13 r20.1 >>= fun x22 =>
   if ((({ a0 with Sig:=(⟨0,0⟩:z0c) }).Act).Kind)==4 then
    zdk ((({ a0 with Sig:=(⟨0,0⟩:z0c) }).Act).Value) >>= fun r26 =>
    app 1 x22 r26.1 >>= fun x28 =>
    some (x28,0)
   else
    some (x22,0)
set_option maxHeartbeats 4000000 in
theorem zf2 (a0:z0a):z1u Tryz.prog 61 [.rd z04 a0] [] (zbf a0) (fun r nv=>⟨[.val (nv 0),.rd z08 r.2],[(100,some (nv 0,.list u8R 5 r.1))]⟩):=by
 refine z2f 71 Tryz.func61 Z Z Z fun H w=>?_;refine gSR<|Eb Z (bx 1 Z) fun v1=>Za Z<|Zb Z<|gSR<|Zq (bld (x':=(⟨0,0⟩:z0c)) [(0,1),(1,1)] Tryz.underlying65 znj Z zoe Z (Bld.done Z))<|Zq (faB 1 Z Z Tryz.underlying67 Z (by exact znj))<|Es (sto 1 Z Z (fP (z3z _)) Z znj)<|Zn<|z0q<|gSR<|Zq (ld 1 Z Z fH zeb Z)<|Zc [] [] Tryz.func88 Z (zi9 _) fun r2 n3=>Zb Z<|gSR<|Zm Z<|Zq (I.neq Z Z)<|Zj Z (fun h4=>?_) (fun h4=>?_)
 ·refine gSR<|Zm Z<|Za Z<|Zb Z<|z0k<|z0v<|zwd u8R 5 2<|Ze [(.slice none 0 0)] [2] Z
 ·refine Zt<|gSR<|Zq (faB 1 Z Z Tryz.underlying67 Z (by exact zb4))<|Zq (ld 1 Z Z (fP (z1b _)) zbp Z)<|Zc [] [(100,3)] Tryz.func109 Z (zt5 _) fun r5 n6=>Zm Z<|Zq (ext Z Z)<|Zq (ext Z Z)<|Za Z<|Zb Z<|z0q<|gFrz 3 [23,5] Z (fS Z<|fS Z<|fN)<|zye [(1,.val (z05 v1 0)),(5,.rd (z03 u8R) r5.1)] [(1,some (v1,.box 67 [.rd z04 ({ a0 with Sig:=(⟨0,0⟩:z0c) })]))] [1] (sS Z<|sS Z<|sN) (Y0 Z)<|z9g fun r7 h9=>z9g fun r10 h12=>z9g fun r13 h15=>gOr [] [⟨4,none,[(0,none)]⟩,⟨1,some ([], fun nv=>(v1,.box 67 [.rd z04 ({ a0 with Sig:=(⟨0,0⟩:z0c) })])),[]⟩,⟨5,none,[(4,none)]⟩,⟨6,none,[(8,none)]⟩,⟨7,none,[(12,none)]⟩,⟨8,none,[(13,none)]⟩,⟨9,none,[(14,some ([6], fun nv=>((nv 6),.list u8R 5 r13)))]⟩] [⟨some (25,[], fun nv=>.rd (z03 u8R) [111]),[(0,0,true)],[1],[]⟩,pk 26 (.val (z05 v1 (0+0))) [(1,0,false)],pk 27 (.rd z0p (({ a0 with Sig:=(⟨0,0⟩:z0c) }).Author)) [(1,0,false)],pd 28 (.rd z2x ((({ a0 with Sig:=(⟨0,0⟩:z0c) }).Author).toUInt64)),⟨some (29,[], fun nv=>.rd (z03 u8R) r7),[(2,0,true)],[2],[]⟩,pd 30 (.rd (z03 u8R) r5.1),pk 31 (.val (z05 v1 (0+2))) [(1,0,false)],pk 32 (.rd z2x (({ a0 with Sig:=(⟨0,0⟩:z0c) }).Stamp)) [(1,0,false)],⟨some (33,[], fun nv=>.rd (z03 u8R) r10),[(3,0,true)],[3],[]⟩,pk 34 (.val (z05 v1 (0+3))) [(1,0,false)],pk 35 (.val (z05 v1 (0+3+0))) [(1,0,false)],pk 36 (.rd u8R ((({ a0 with Sig:=(⟨0,0⟩:z0c) }).Act).Kind)) [(1,0,false)],⟨some (37,[], fun nv=>.rd (z03 u8R) [(({ a0 with Sig:=(⟨0,0⟩:z0c) }).Act).Kind]),[(4,0,true)],[4],[]⟩,⟨some (38,[], fun nv=>.rd (z03 (z03 u8R)) [[111],r7,r5.1,r10,[(({ a0 with Sig:=(⟨0,0⟩:z0c) }).Act).Kind]]),[(5,0,true)],[5],[]⟩,⟨some (39,[6], fun nv=>.val (nv 6)),[(6,0,true)],[6],[]⟩,⟨some (7,[6], fun nv=>.val (nv 6)),[],[],[]⟩] mixed (oC (oFz (A1:=fun nv=>[(4,some ((nv 1),.list u8R 5 [111]))]) 4 1 (oEf 4 1 (fun nv E=>lit (R:=u8R) ([111]:List UInt8) 4 (pP Z Z<|pN) Z tu94 ti5 Z Z)))<|oC (oRn (fun nv E=>faB 1 Z Z Tryz.underlying67 Z (by exact z60)))<|oC (oRn (fun nv E=>ld 1 Z Z (fP (z56 _)) z9i Z))<|oC (oRn (fun nv E=>W.toU Z tu63 tu44))<|oC (oFz (A1:=fun nv=>[(5,some ((nv 2),.list u8R 5 r7))]) 5 2 (oCl [2] [] [(100,5)] h9 Tryz.func111 Z (fun nv=>(z6s _)) (fun nv=>(Y1 Z)) (fun nv E=>rN)))<|oC (oRn (fun nv E=>mv Z))<|oC (oRn (fun nv E=>faB 1 Z Z Tryz.underlying67 Z (by exact zp4)))<|oC (oRn (fun nv E=>ld 1 Z Z (fP (z3u _)) znt Z))<|oC (oFz (A1:=fun nv=>[(6,some ((nv 3),.list u8R 5 r10))]) 6 3 (oCl [3] [] [(100,6)] h12 Tryz.func111 Z (fun nv=>(z6s _)) (fun nv=>(Y1 Z)) (fun nv E=>rN)))<|oC (oRn (fun nv E=>faB 1 Z Z Tryz.underlying67 Z (by exact ze9)))<|oC (oRn (fun nv E=>faB 1 Z Z Tryz.underlying52 Z (by exact ti5)))<|oC (oRn (fun nv E=>ld 1 Z Z ((fP (z0w _)).part (z15 _)) ty5 Z))<|oC (oFz (A1:=fun nv=>[(7,some ((nv 4),.list u8R 5 [(({ a0 with Sig:=(⟨0,0⟩:z0c) }).Act).Kind]))]) 7 4 (oEf 7 4 (fun nv E=>lit (R:=u8R) ([(({ a0 with Sig:=(⟨0,0⟩:z0c) }).Act).Kind]:List UInt8) 7 (pP Z Z<|pN) Z tu94 ti5 Z Z)))<|oC (oFz (A1:=fun nv=>[(8,some ((nv 5),.list (z03 u8R) 94 [[111],r7,r5.1,r10,[(({ a0 with Sig:=(⟨0,0⟩:z0c) }).Act).Kind]]))]) 8 5 (oEf 8 5 (fun nv E=>lit (R:=(z03 u8R)) ([[111],r7,r5.1,r10,[(({ a0 with Sig:=(⟨0,0⟩:z0c) }).Act).Kind]]:List (List UInt8)) 8 (pP Z Z<|pP Z Z<|pP Z Z<|pP Z Z<|pP Z Z<|pN) Z tu212 zuf Z Z)))<|oC (oCl [6] [] [(100,9)] h15 Tryz.func110 Z (fun nv=>(z64 _)) (fun nv=>(Y1 Z)) (fun nv E=>rN))<|oC (oRn (fun nv E=>asg Z))<|oN) fun n16=>z0m<|z0q<|gSR<|Zq (faB 1 Z Z Tryz.underlying67 Z (by exact ze9))<|Zq (faB 1 Z Z Tryz.underlying52 Z (by exact ti5))<|Zq (ld 1 Z Z ((fP (z0w _)).part (z15 _)) ty5 Z)<|Zq (B.eql Z Z)<|Zj Z (fun h17=>?_) (fun h17=>?_)
  ·refine gSR<|Zm Z<|Za Z<|Zb Z<|z0k<|z0v<|Ze [(n16 6)] [9] Z
  ·refine Zt<|gSR<|Zq (faB 1 Z Z Tryz.underlying67 Z (by exact ze9))<|Zq (faB 1 Z Z Tryz.underlying52 Z (by exact ti9))<|Zq (ld 1 Z Z ((fP (z0w _)).part (z1i _)) ty9 Z)<|z0t fun u18 h19=>z116 Z Z h19 tu9 tu94 tu5<|Zc [] [(100,10)] Tryz.func112 Z (ziu _) fun r20 n21=>Zm Z<|Zq (ext Z Z)<|Zq (ext Z Z)<|Za Z<|Zb Z<|gSR<|Zm Z<|Zm Z<|z0t fun x22 h23=>Ef Z (apn 9 Z Z Z (.own 10 Z) h23 tu94 ti5 Z Z Z) fun v24=>Zb Z<|z0q<|gSR<|Zq (faB 1 Z Z Tryz.underlying67 Z (by exact ze9))<|Zq (faB 1 Z Z Tryz.underlying52 Z (by exact ti5))<|Zq (ld 1 Z Z ((fP (z0w _)).part (z15 _)) ty5 Z)<|Zq (B.eql Z Z)<|Zj Z (fun h25=>?_) (fun h25=>?_)
   ·refine gSR<|Zq (faB 1 Z Z Tryz.underlying67 Z (by exact ze9))<|Zq (faB 1 Z Z Tryz.underlying52 Z (by exact zad))<|Zq (ld 1 Z Z ((fP (z0w _)).part (z33 _)) zh5 Z)<|Zc [] [(100,11)] Tryz.func113 Z (zm2 _) fun r26 n27=>Zm Z<|Zq (ext Z Z)<|Zq (ext Z Z)<|Za Z<|Zb Z<|z2g<|Zm Z<|Zm Z<|z0t fun x28 h29=>Ef Z (apn 9 Z Z Z (.own 11 Z) h29 tu94 ti5 Z Z Z) fun v30=>Zb Z<|gSR<|Zm Z<|Za Z<|Zb Z<|z0k<|Ze [v30] [9] Z
   ·refine Zt<|gSR<|Zm Z<|Za Z<|Zb Z<|z0k<|Ze [v24] [9] Z
def zeh (a0:z0a):Option ((List UInt8) × Int) :=
 zfc a0 >>= fun r2 =>
 if r2 != 0 then
  some ([],r2)
 else
  zbf a0 >>= fun r5 =>
  z6v a0.Sig.E.toUInt64 >>= fun r7 =>
  z6v a0.Sig.S.toUInt64 >>= fun r9 =>
  z2c [r5.1,r7,r9] >>= fun r12 =>
  some (r12,0)
theorem zr8 (a0:z0a):z1u Tryz.prog 86 [.rd z04 a0] [] (zeh a0) (fun r nv=>⟨[.val (nv 0),.rd z08 r.2],[(100,some (nv 0,.list u8R 5 r.1))]⟩):=by
 refine z2f 30 Tryz.func86 Z Z Z fun H w=>?_;refine gSR<|Eb Z (bx 1 Z) fun v1=>Za Z<|Zb Z<|z0q<|gSR<|Zq (ld 1 Z Z fH zeb Z)<|Zc [] [] Tryz.func88 Z (zi9 _) fun r2 n3=>Zb Z<|gSR<|Zm Z<|Zq (I.neq Z Z)<|Zj Z (fun h4=>?_) (fun h4=>?_)
 ·refine gSR<|Zm Z<|Za Z<|Zb Z<|z0k<|z0v<|zwd u8R 5 2<|Ze [(.slice none 0 0)] [2] Z
 ·refine Zt<|gSR<|Zq (ld 1 Z Z fH zeb Z)<|Zc [] [(100,3)] Tryz.func61 Z (zf2 _) fun r5 n6=>Zm Z<|Zq (ext Z Z)<|Zq (ext Z Z)<|Za Z<|Zb Z<|z0q<|z6l [19,34,37,40] mixed Z Z<|hTk 0 Z Z (mv Z)<|hTk 1 Z Z (faB 1 Z Z Tryz.underlying67 Z (by exact znj))<|hTk 2 Z Z (faB 1 Z Z Tryz.underlying65 Z (by exact z60))<|hTk 3 Z Z (ld 1 Z Z ((fP (z3z _)).part (z4v _)) z9i Z)<|hTk 4 Z Z (W.toU Z tu63 tu44)<|hTk 6 Z Z (faB 1 Z Z Tryz.underlying67 Z (by exact znj))<|hTk 7 Z Z (faB 1 Z Z Tryz.underlying65 Z (by exact z60))<|hTk 8 Z Z (ld 1 Z Z ((fP (z3z _)).part (z6c _)) z9i Z)<|hTk 9 Z Z (W.toU Z tu63 tu44)<|z2v 5 [] [(100,19)] Z (by kernel_rfl) Z (gd0 Z) Z Tryz.func111 Z Z (z6s _) (Y1 Z) rN Z (fun _ _=>z37) fun r7 n8=>z2v 10 [] [(100,34)] Z (by kernel_rfl) Z (gd0 Z) Z Tryz.func111 Z Z (z6s _) (Y1 Z) rN Z (fun _ _=>z37) fun r9 n10=>hFrz 3 [15,5,17] Z (fS Z<|fS Z<|fS Z<|fN)<|hFrz 19 [22] Z (fS Z<|fN)<|hFrz 34 [27] Z (fS Z<|fN)<|Zo 11 Z Z Z (lit (R:=(z03 u8R)) ([r5.1,r7,r9]:List (List UInt8)) 37 (pP Z Z<|pP Z Z<|pP Z Z<|pN) Z tu212 zuf Z Z) fun v11=>hFrz 37 [28] Z (fS Z<|fN)<|z2v 12 [] [(100,40)] Z (by kernel_rfl) Z (gd0 Z) Z Tryz.func110 Z Z (z64 _) (Y1 Z) rN Z (fun _ _=>z37) fun r12 n13=>Zf 13 Z Z z37 (asg Z)<|hTk 14 Z Z (asg Z)<|z3e (by kernel_rfl)<|z0m<|z0k<|Ze [(n13 0)] [40] Z
def zd1 (a0:List UInt8):Option (Bool) :=
 some (decide (10000<(a0.length:Int))) >>= fun y1 =>
 some y1
theorem zja (a0:List UInt8):z1u Tryz.prog 185 [.rd (z03 u8R) a0] [] (zd1 a0) (fun r nv=>⟨[.rd z09 r],[]⟩):=by
 refine z2f 6 Tryz.func185 Z Z Z fun H w=>?_;refine gSR<|Zb Z<|gSR<|Zm Z<|Zq (z4f Z .rd Z tu94)<|Zq (I.gtr Z Z)<|Za Z<|z27 2 Z fun y1=>Zn<|z0k<|Ze [] [] Z
def zdw  : Option (z2k) :=
 some (⟨(#v[1779033703,3144134277,1013904242,2773480762,1359893119,2600822924,528734635,1541459225]:Vector UInt32 8),[],0⟩:z2k)
theorem zmv  : z1u Tryz.prog 186 [] [] (zdw) (fun r nv=>⟨[.rd z2z r],[]⟩):=by
 refine z2f 3 Tryz.func186 Z Z Z fun H w=>?_;refine gSR<|Eb Z (z5l 1 znd (ZrE.rd (R:=(z3m 8 z0p)) (x:=(Vector.replicate 8 0)) zs5 (ZrE.nilS (ZrE.rd (R:=z08) (x:=0) (Zr.num Z) ZrE.nil Z)) Z)) fun v1=>Zn<|gSR<|Zq (litA (R:=z0p) [1779033703,3144134277,1013904242,2773480762,1359893119,2600822924,528734635,1541459225] (#v[1779033703,3144134277,1013904242,2773480762,1359893119,2600822924,528734635,1541459225]:Vector UInt32 8) (pP Z Z<|pP Z Z<|pP Z Z<|pP Z Z<|pP Z Z<|pP Z Z<|pP Z Z<|pP Z Z<|pN) Z tu143 zhd Z z60)<|Zq (zwm [(0,8),(8,1),(9,1)] Tryz.underlying241 znd (ZrE.rd (R:=(z3m 8 z0p)) (x:=(Vector.replicate 8 0)) zs5 (ZrE.nilS (ZrE.rd (R:=z08) (x:=0) (Zr.num Z) ZrE.nil Z)) Z) Z (zkm.cons Z Z z17 (zb0.cast (zb0.here z17) Z)<|zkm.done Z))<|Es (zwq 1 Z Z (z0l.cast (z0l.cons z17 (z0l.cons z0g (z0l.cons z17 z0l.nil))) Z) Z (z54.cons z9c (z54.cons z36 (z54.cons z9c z54.nil))) (z0l.cast (z0l.cons z17 (z0l.cons z0g (z0l.cons z17 z0l.nil))) Z) znd)<|Zn<|z0k<|zug u8R [.rd (z3m 8 z0p) (#v[1779033703,3144134277,1013904242,2773480762,1359893119,2600822924,528734635,1541459225]:Vector UInt32 8),.rd (z03 u8R) [],.rd z08 0] 1 [.rd (z3m 8 z0p) (#v[1779033703,3144134277,1013904242,2773480762,1359893119,2600822924,528734635,1541459225]:Vector UInt32 8)] [.rd z08 0] Z Z Z<|eJoi (R:=z2z) (⟨(#v[1779033703,3144134277,1013904242,2773480762,1359893119,2600822924,528734635,1541459225]:Vector UInt32 8),[],0⟩:z2k) 1 Z (Sp.via (Sp.prod (Sp.prod (Sp.prod Sp.unit))))<|zaz [] [] Z (eC 1 Z Z zr4<|eN) (rN)
def z1q (a0:UInt32) (a1:Int):Option (UInt32) :=
 some ((UInt64.ofInt a1) &&& 31) >>= fun y1 =>
 some ((zof a0 y1.toNat) ||| (z4m a0 ((32 - y1).toNat))) >>= fun y2 =>
 some y2
theorem z2d (a0:UInt32) (a1:Int):z1u Tryz.prog 212 [.rd z0p a0,.rd z08 a1] [] (z1q a0 a1) (fun r nv=>⟨[.rd z0p r],[]⟩):=by
 refine z2f 17 Tryz.func212 Z Z Z fun H w=>?_;refine gSR<|Zb Z<|gSR<|Zm Z<|Zq (I.toU Z tu3 Tryz.underlying116)<|Zq (U.and Z Z)<|Za Z<|z27 5 Z fun y1=>Zn<|gSR<|Zm Z<|Zm Z<|Zq (W.shl Z Z (Int.natCast_nonneg _))<|Zm Z<|Zm Z<|Zq (U.sub Z Z)<|Zq (W.shr Z Z (Int.natCast_nonneg _))<|Zq (W.or Z Z)<|Za Z<|z27 4 Z fun y2=>Zn<|z0k<|Ze [] [] Z
def z6i (x3:List UInt8) (s5:(Vector UInt32 64) × Int):Option (Sum ((Vector UInt32 64)) ((Vector UInt32 64) × Int)) :=
 if decide (s5.2<(x3.length:Int)) then
  idx x3 s5.2 >>= fun x7 =>
  z7m s5.1 (w64 (Int.tdiv s5.2 4)) >>= fun x9 =>
  z7m s5.1 (w64 (Int.tdiv s5.2 4)) >>= fun x11 =>
  some (.inr (zij s5.1 (w64 (Int.tdiv s5.2 4)) ((zof x9 8) ||| x7.toUInt32),w64 (s5.2+1)))
 else
  some (.inl s5.1)
def z52 (s14:(Vector UInt32 64) × Int):Option (Sum ((Vector UInt32 64)) ((Vector UInt32 64) × Int)) :=
 if decide (s14.2<64) then
  z7m s14.1 (w64 (s14.2 - 15)) >>= fun x16 =>
  z7m s14.1 (w64 (s14.2 - 2)) >>= fun x18 =>
  z1q x16 (-7) >>= fun r20 =>
  z1q x16 (-18) >>= fun r22 =>
  some ((r20 ^^^ r22) ^^^ (z4m x16 3)) >>= fun y24 =>
  z1q x18 (-17) >>= fun r25 =>
  z1q x18 (-19) >>= fun r27 =>
  some ((r25 ^^^ r27) ^^^ (z4m x18 10)) >>= fun y29 =>
  z7m s14.1 (w64 (s14.2 - 16)) >>= fun x30 =>
  z7m s14.1 (w64 (s14.2 - 7)) >>= fun x32 =>
  z7m s14.1 s14.2 >>= fun x34 =>
  some (w64 (s14.2+1)) >>= fun y37 =>
  some (.inr (zij s14.1 s14.2 (((x30+x32)+y24)+y29),y37))
 else
  some (.inl s14.1)
def zd2 (a0:List UInt8):Option ((Vector UInt32 64)) :=
 (cut a0 0 64 >>= fun x3 =>
 iter (z6i x3) ((Vector.replicate 64 0),0)) >>= fun s2 =>
 (iter (z52) (s2,16)) >>= fun s13 =>
 some s13
set_option maxHeartbeats 4000000 in
theorem zj8 (a0:List UInt8):z1u Tryz.prog 209 [.rd (z03 u8R) a0] [] (zd2 a0) (fun r nv=>⟨[.rd (z3m 64 z0p) r],[]⟩):=by
 refine z2f 74 Tryz.func209 Z Z Z fun H w=>?_;refine gSR<|Eb Z (z5l 1 zxl (.zr (R:=(z3m 64 z0p)) (x:=(Vector.replicate 64 0)) z18q)) fun v1=>Zn<|z7r (fun (s2:(Vector UInt32 64)) aa ww=>Sta (ctx 74 H [] w) [(2,.val (z05 v1 0))] [(1,some (v1,.box 259 [.rd (z3m 64 z0p) s2]))] aa ww) ?_ (fun s2=>?_)
 ·refine gSR<|Zm Z<|z0t fun x3 h4=>Zq (cut' Z .no (.to Z) h4 tu94 ti5)<|Zq (z4f Z .rd Z tu94)<|Zm Z<|Zn<|z29 (fun (s5:(Vector UInt32 64) × Int) aa ww=>Sta (ctx 74 H [] w) [(2,.val (z05 v1 0)),(11,.rd (z03 u8R) x3),(12,.rd z08 (x3.length:Int)),(13,.rd z08 s5.2)] [(1,some (v1,.box 259 [.rd (z3m 64 z0p) s5.1]))] aa ww) (fun aa ww h=>Zu h [1]) (fun s5=>?_);refine gSR<|Zq (I.lss Z Z)<|Zn<|z0q<|gIf Z Z (fun h6=>?_) (fun h6=>?_)
  ·refine Zt<|z0q<|z5f<|gSR<|Zm Z<|z0t fun x7 h8=>Zq (ixR Z Z h8 tu94 ti5 Z)<|Zq (ldR Z ty5)<|Za Z<|Zb Z<|z2g<|Zm Z<|Zq (I.quo Z Z (by decide))<|Zm Z<|Zq (I.quo Z Z (by decide))<|z0t fun x9 h10=>Zq (ixB 1 Z Z Z h10 Tryz.underlying259 z60)<|Zq (ld 1 Z Z (fP (.el h10)) z9i Z)<|Zq (W.shl Z Z (Int.natCast_nonneg _))<|Zm Z<|Zq (B.toW Z tu5 tu63)<|Zq (W.or Z Z)<|z0t fun x11 h12=>Zq (ixB 1 Z Z Z h12 Tryz.underlying259 z60)<|Es (sto 1 Z Z (fP (.el h12)) Z z60)<|z21<|z3l<|z0m<|z2g<|Zq (I.add Z Z)<|Zm Z<|z21<|z1m (fun aa ww h=>Zu h [1])
  ·refine z1z<|z10<|z14<|z3p (fun aa ww h=>Zu h [1])
 ·refine z7r (fun (s13:(Vector UInt32 64)) aa ww=>Sta (ctx 74 H [] w) [(2,.val (z05 v1 0))] [(1,some (v1,.box 259 [.rd (z3m 64 z0p) s13]))] aa ww) ?_ (fun s13=>?_)
  ·refine gSR<|Zb Z<|z29 (fun (s14:(Vector UInt32 64) × Int) aa ww=>Sta (ctx 74 H [] w) [(2,.val (z05 v1 0)),(5,.rd z08 s14.2)] [(1,some (v1,.box 259 [.rd (z3m 64 z0p) s14.1]))] aa ww) (fun aa ww h=>Zu h [1]) (fun s14=>?_);refine z0q<|gSR<|Zm Z<|Zq (I.lss Z Z)<|Zj Z (fun h15=>?_) (fun h15=>?_)
   ·refine Zt<|z0q<|z5f<|z0q<|zhp mixed (by kernel_rfl)<|Rq Z (mv Z)<|Rq Z (I.sub Z Z)<|z6z fun x16 h17=>Rq Z (ixB 1 Z Z Z h17 Tryz.underlying259 z60)<|Rq Z (ld 1 Z Z (fP (.el h17)) z9i Z)<|Rq Z (mv Z)<|Rq Z (I.sub Z Z)<|z6z fun x18 h19=>Rq Z (ixB 1 Z Z Z h19 Tryz.underlying259 z60)<|Rq Z (ld 1 Z Z (fP (.el h19)) z9i Z)<|Rq Z (asg Z)<|Rq Z (asg Z)<|zng<|z0m<|gSR<|Zm Z<|Zc [] [] Tryz.func212 Z (z2d _ _) fun r20 n21=>Zm Z<|Zc [] [] Tryz.func212 Z (z2d _ _) fun r22 n23=>Zq (W.xor Z Z)<|Zm Z<|Zq (W.shr Z Z (Int.natCast_nonneg _))<|Zq (W.xor Z Z)<|Za Z<|z27 8 Z fun y24=>Zn<|gSR<|Zm Z<|Zc [] [] Tryz.func212 Z (z2d _ _) fun r25 n26=>Zm Z<|Zc [] [] Tryz.func212 Z (z2d _ _) fun r27 n28=>Zq (W.xor Z Z)<|Zm Z<|Zq (W.shr Z Z (Int.natCast_nonneg _))<|Zq (W.xor Z Z)<|Za Z<|z27 9 Z fun y29=>Zn<|zye [(2,.val (z05 v1 0)),(5,.rd z08 s14.2),(8,.rd z0p y24),(9,.rd z0p y29)] [(1,some (v1,.box 259 [.rd (z3m 64 z0p) s14.1]))] [1] (Zs Z Z Z Z<|sN) (Y0 Z)<|z9g fun x30 h31=>z9g fun x32 h33=>z9g fun x34 h35=>gOr [] [⟨1,some ([], fun nv=>(v1,.box 259 [.rd (z3m 64 z0p) s14.1])),[(15,some ([], fun nv=>(v1,.box 259 [.rd (z3m 64 z0p) (zij s14.1 s14.2 (((x30+x32)+y24)+y29))])))]⟩] [pd 58 (.rd z08 s14.2),pd 59 (.rd z08 s14.2),pd 60 (.rd z08 (w64 (s14.2 - 16))),pk 61 (.val (z05 v1 (0+(w64 (s14.2 - 16):Int).toNat * 1))) [(0,0,false)],pk 62 (.rd z0p x30) [(0,0,false)],pd 63 (.rd z08 s14.2),pd 64 (.rd z08 (w64 (s14.2 - 7))),pk 65 (.val (z05 v1 (0+(w64 (s14.2 - 7):Int).toNat * 1))) [(0,0,false)],pk 66 (.rd z0p x32) [(0,0,false)],pd 67 (.rd z0p (x30+x32)),pd 68 (.rd z0p y24),pd 69 (.rd z0p ((x30+x32)+y24)),pd 70 (.rd z0p y29),pd 71 (.rd z0p (((x30+x32)+y24)+y29)),pk 72 (.val (z05 v1 (0+(s14.2:Int).toNat * 1))) [(0,0,false)],⟨none,[(0,0,true)],[],[]⟩] mixed (oC (oRn (fun nv E=>mv Z))<|oC (oRn (fun nv E=>mv Z))<|oC (oRn (fun nv E=>I.sub Z Z))<|oC (oRn (fun nv E=>ixB 1 Z Z Z h31 Tryz.underlying259 z60))<|oC (oRn (fun nv E=>ld 1 Z Z (fP (.el h31)) z9i Z))<|oC (oRn (fun nv E=>mv Z))<|oC (oRn (fun nv E=>I.sub Z Z))<|oC (oRn (fun nv E=>ixB 1 Z Z Z h33 Tryz.underlying259 z60))<|oC (oRn (fun nv E=>ld 1 Z Z (fP (.el h33)) z9i Z))<|oC (oRn (fun nv E=>W.add Z Z))<|oC (oRn (fun nv E=>mv Z))<|oC (oRn (fun nv E=>W.add Z Z))<|oC (oRn (fun nv E=>mv Z))<|oC (oRn (fun nv E=>W.add Z Z))<|oC (oRn (fun nv E=>ixB 1 Z Z Z h35 Tryz.underlying259 z60))<|oC (oEs 1 (fun nv E=>sto 1 Z Z (fP (.el h35)) Z z60))<|oN) fun n36=>z3l<|z0m<|z2g<|Zm Z<|Zq (I.add Z Z)<|Za Z<|z27 5 Z fun y37=>z21<|z1m (fun aa ww h=>Zu h [1])
   ·refine z1z<|z10<|z14<|z3p (fun aa ww h=>Zu h [1])
  ·refine gSR<|Zq (ld 1 Z Z fH z18i Z)<|Es (sto 1 Z Z fH Z zxl)<|Zn<|z0k<|zaz [] [] Z (eC 1 Z Z z18i<|eN) (rN)
def zeo (a0:UInt32) (a1:Int) (a2:Int) (a3:Int):Option (UInt32) :=
 z1q a0 (w64 (0 - a1)) >>= fun r1 =>
 z1q a0 (w64 (0 - a2)) >>= fun r3 =>
 z1q a0 (w64 (0 - a3)) >>= fun r5 =>
 some ((r1 ^^^ r3) ^^^ r5) >>= fun y7 =>
 some y7
theorem zjk (a0:UInt32) (a1:Int) (a2:Int) (a3:Int):z1u Tryz.prog 210 [.rd z0p a0,.rd z08 a1,.rd z08 a2,.rd z08 a3] [] (zeo a0 a1 a2 a3) (fun r nv=>⟨[.rd z0p r],[]⟩):=by
 refine z2f 23 Tryz.func210 Z Z Z fun H w=>?_;refine gSR<|Zb Z<|gSR<|Zm Z<|Zm Z<|Zq (I.neg Z)<|Zc [] [] Tryz.func212 Z (z2d _ _) fun r1 n2=>Zm Z<|Zm Z<|Zq (I.neg Z)<|Zc [] [] Tryz.func212 Z (z2d _ _) fun r3 n4=>Zq (W.xor Z Z)<|Zm Z<|Zm Z<|Zq (I.neg Z)<|Zc [] [] Tryz.func212 Z (z2d _ _) fun r5 n6=>Zq (W.xor Z Z)<|Za Z<|z27 8 Z fun y7=>Zn<|z0k<|Ze [] [] Z
def z8a (a0:List UInt8):Option ((List UInt8)) :=
 app 1 ([]:List UInt8) a0 >>= fun x3 =>
 some x3
theorem z9m (a0:List UInt8):z1u Tryz.prog 203 [.rd (z03 u8R) a0] [] (z8a a0) (fun r nv=>⟨[.val (nv 0)],[(100,some (nv 0,.list u8R 5 r))]⟩):=by
 refine z2f 8 Tryz.func203 Z Z Z fun H w=>?_;refine gSR<|Zb Z<|z0q<|gSR<|Zm Z<|z16q Z Z .rd Z tu94 (fun h1=>?_) ?_
 ·subst h1;refine Zn<|zdc Z<|gSR<|Zb Z<|z0k<|z0v<|zwd u8R 5 1<|Ze [(.slice none 0 0)] [1] Z
 ·refine Zn<|zfk Z<|Zt<|gSR<|Ef Z (lit (R:=u8R) (([]:List UInt8):List UInt8) 2 (pN) Z tu94 ti5 Z Z) fun v2=>Zm Z<|z0t fun x3 h4=>Ef Z (apn 2 Z Z Z .rd h4 tu94 ti5 Z Z Z) fun v5=>Zb Z<|z0k<|Ze [v5] [2] Z
def z5o (r1:(Vector UInt32 64)) (s21:UInt32 × UInt32 × UInt32 × UInt32 × UInt32 × UInt32 × UInt32 × UInt32 × Int):Option (Sum (UInt32 × UInt32 × UInt32 × UInt32 × UInt32 × UInt32 × UInt32 × UInt32) (UInt32 × UInt32 × UInt32 × UInt32 × UInt32 × UInt32 × UInt32 × UInt32 × Int)) :=
 if decide (s21.2.2.2.2.2.2.2.2<64) then
  z7m z5i s21.2.2.2.2.2.2.2.2 >>= fun x23 =>
  z7m r1 s21.2.2.2.2.2.2.2.2 >>= fun x25 =>
  zeo s21.2.2.2.2.1 6 11 25 >>= fun r27 =>
  some ((((s21.2.2.2.2.2.2.2.1+r27)+((s21.2.2.2.2.1 &&& s21.2.2.2.2.2.1) ^^^ ((~~~s21.2.2.2.2.1) &&& s21.2.2.2.2.2.2.1)))+x23)+x25) >>= fun y29 =>
  zeo s21.1 2 13 22 >>= fun r30 =>
  some (r30+(((s21.1 &&& s21.2.1) ^^^ (s21.1 &&& s21.2.2.1)) ^^^ (s21.2.1 &&& s21.2.2.1))) >>= fun y32 =>
  some (s21.2.2.2.1+y29) >>= fun y33 =>
  some (.inr (y29+y32,s21.1,s21.2.1,s21.2.2.1,y33,s21.2.2.2.2.1,s21.2.2.2.2.2.1,s21.2.2.2.2.2.2.1,w64 (s21.2.2.2.2.2.2.2.2+1)))
 else
  some (.inl (s21.1,s21.2.1,s21.2.2.1,s21.2.2.2.1,s21.2.2.2.2.1,s21.2.2.2.2.2.1,s21.2.2.2.2.2.2.1,s21.2.2.2.2.2.2.2.1))
def zd6 (s20:UInt32 × UInt32 × UInt32 × UInt32 × UInt32 × UInt32 × UInt32 × UInt32) (s34:(Vector UInt32 8) × Int):Option (Sum ((Vector UInt32 8)) ((Vector UInt32 8) × Int)) :=
 if decide (s34.2<8) then
  z7m (#v[s20.1,s20.2.1,s20.2.2.1,s20.2.2.2.1,s20.2.2.2.2.1,s20.2.2.2.2.2.1,s20.2.2.2.2.2.2.1,s20.2.2.2.2.2.2.2]:Vector UInt32 8) s34.2 >>= fun x36 =>
  z7m s34.1 s34.2 >>= fun x38 =>
  z7m s34.1 s34.2 >>= fun x40 =>
  some (.inr (zij s34.1 s34.2 (x38+x36),w64 (s34.2+1)))
 else
  some (.inl s34.1)
def zdx (c0:Vector UInt32 8) (a1:List UInt8):Option ((Vector UInt32 8)) :=
 zd2 a1 >>= fun r1 =>
 z7m c0 0 >>= fun x4 =>
 z7m c0 1 >>= fun x6 =>
 z7m c0 2 >>= fun x8 =>
 z7m c0 3 >>= fun x10 =>
 z7m c0 4 >>= fun x12 =>
 z7m c0 5 >>= fun x14 =>
 z7m c0 6 >>= fun x16 =>
 z7m c0 7 >>= fun x18 =>
 (iter (z5o r1) (x4,x6,x8,x10,x12,x14,x16,x18,0)) >>= fun s20 =>
 iter (zd6 s20) (c0,0)
theorem zmi (ph0:Value) (kh0:Nat) (uh0:(Vector UInt32 8)→z4l) (hh0:∀ y,Foc (uh0 y) kh0 (z3m 8 z0p) y uh0) (c0:Vector UInt32 8) (a1:List UInt8):z1u Tryz.prog 202 [.val (z05 ph0 kh0),.rd (z03 u8R) a1] [(1,some (ph0,uh0 c0)),zG1] (zdx c0 a1) (fun r nv=>⟨[],[(1,some (ph0,uh0 r)),(1001,some (.bool true,.glob 1 (z3m 64 z0p) z5i))]⟩):=by
 refine z2f 126 Tryz.func202 Z Z Z fun H w=>?_;refine gSR<|Zm Z<|Zc [] [] Tryz.func209 Z (zj8 _) fun r1 n2=>Eb Z (z5l 2 zxl (.zr (R:=(z3m 64 z0p)) (x:=(Vector.replicate 64 0)) z18q)) fun v3=>Es (sto 2 Z Z fH Z zxl)<|Zn<|z0q<|zhp mixed (by kernel_rfl)<|Rq Z (mv Z)<|Rq Z (nckP 1 Z Z (hh0 _))<|z6z fun x4 h5=>Rq Z (ixH 1 Z Z (hh0 _) Z h5 tu143 z60)<|Rq Z (ld 1 Z Z ((hh0 _).part (.el h5)) z9i Z)<|Rq Z (mv Z)<|Rq Z (nckP 1 Z Z (hh0 _))<|z6z fun x6 h7=>Rq Z (ixH 1 Z Z (hh0 _) Z h7 tu143 z60)<|Rq Z (ld 1 Z Z ((hh0 _).part (.el h7)) z9i Z)<|Rq Z (mv Z)<|Rq Z (nckP 1 Z Z (hh0 _))<|z6z fun x8 h9=>Rq Z (ixH 1 Z Z (hh0 _) Z h9 tu143 z60)<|Rq Z (ld 1 Z Z ((hh0 _).part (.el h9)) z9i Z)<|Rq Z (mv Z)<|Rq Z (nckP 1 Z Z (hh0 _))<|z6z fun x10 h11=>Rq Z (ixH 1 Z Z (hh0 _) Z h11 tu143 z60)<|Rq Z (ld 1 Z Z ((hh0 _).part (.el h11)) z9i Z)<|Rq Z (mv Z)<|Rq Z (nckP 1 Z Z (hh0 _))<|z6z fun x12 h13=>Rq Z (ixH 1 Z Z (hh0 _) Z h13 tu143 z60)<|Rq Z (ld 1 Z Z ((hh0 _).part (.el h13)) z9i Z)<|Rq Z (mv Z)<|Rq Z (nckP 1 Z Z (hh0 _))<|z6z fun x14 h15=>Rq Z (ixH 1 Z Z (hh0 _) Z h15 tu143 z60)<|Rq Z (ld 1 Z Z ((hh0 _).part (.el h15)) z9i Z)<|Rq Z (mv Z)<|Rq Z (nckP 1 Z Z (hh0 _))<|z6z fun x16 h17=>Rq Z (ixH 1 Z Z (hh0 _) Z h17 tu143 z60)<|Rq Z (ld 1 Z Z ((hh0 _).part (.el h17)) z9i Z)<|Rq Z (mv Z)<|Rq Z (nckP 1 Z Z (hh0 _))<|z6z fun x18 h19=>Rq Z (ixH 1 Z Z (hh0 _) Z h19 tu143 z60)<|Rq Z (ld 1 Z Z ((hh0 _).part (.el h19)) z9i Z)<|Rq Z (asg Z)<|Rq Z (asg Z)<|Rq Z (asg Z)<|Rq Z (asg Z)<|Rq Z (asg Z)<|Rq Z (asg Z)<|Rq Z (asg Z)<|Rq Z (asg Z)<|zng<|z0m<|z7r (fun (s20:UInt32 × UInt32 × UInt32 × UInt32 × UInt32 × UInt32 × UInt32 × UInt32) aa ww=>Sta (ctx 126 H [(1,some (ph0,uh0 c0)),zG1] w) [(0,.val (z05 ph0 kh0)),(5,.rd z0p s20.1),(6,.rd z0p s20.2.1),(7,.rd z0p s20.2.2.1),(8,.rd z0p s20.2.2.2.1),(9,.rd z0p s20.2.2.2.2.1),(10,.rd z0p s20.2.2.2.2.2.1),(11,.rd z0p s20.2.2.2.2.2.2.1),(12,.rd z0p s20.2.2.2.2.2.2.2)] [(1,some (ph0,uh0 c0)),zG1] aa ww) ?_ (fun s20=>?_)
 ·refine gSR<|Zm Z<|Zn<|z29 (fun (s21:UInt32 × UInt32 × UInt32 × UInt32 × UInt32 × UInt32 × UInt32 × UInt32 × Int) aa ww=>Sta (ctx 126 H [(1,some (ph0,uh0 c0)),zG1] w) [(0,.val (z05 ph0 kh0)),(4,.val (z05 v3 0)),(5,.rd z0p s21.1),(6,.rd z0p s21.2.1),(7,.rd z0p s21.2.2.1),(8,.rd z0p s21.2.2.2.1),(9,.rd z0p s21.2.2.2.2.1),(10,.rd z0p s21.2.2.2.2.2.1),(11,.rd z0p s21.2.2.2.2.2.2.1),(12,.rd z0p s21.2.2.2.2.2.2.2.1),(52,.rd z08 s21.2.2.2.2.2.2.2.2)] [(1,some (ph0,uh0 c0)),(2,some (v3,.box 259 [.rd (z3m 64 z0p) r1])),zG1] aa ww) (fun aa ww h=>Zu h [1,2,1001]) (fun s21=>?_)
  refine gSR<|Zq (I.lss Z Z)<|Zn<|z0q<|gIf Z Z (fun h22=>?_) (fun h22=>?_)
  ·refine Zt<|z0q<|z5f<|gSR<|Zm Z<|Zb Z<|z0q<|z6l [] mixed Z Z<|hTk 0 Z Z (mv Z)<|hTk 1 Z Z (mv Z)<|hTk 4 Z Z (mv Z)<|hTk 5 Z Z (mv Z)<|hTk 6 Z Z (W.and Z Z)<|hTk 7 Z Z (mv Z)<|hTk 8 Z Z (W.cpl Z)<|hTk 9 Z Z (mv Z)<|hTk 10 Z Z (W.and Z Z)<|hTk 11 Z Z (W.xor Z Z)<|hTk 13 Z Z (mv Z)<|z5g fun x23 h24=>hTk 14 Z Z (ixG 1001 Z Z h24 Tryz.underlying259 z60)<|hTk 15 Z Z (ldR Z z9i)<|hTk 17 Z Z (mv Z)<|z5g fun x25 h26=>hTk 18 Z Z (ixB 2 Z Z Z h26 Tryz.underlying259 z60)<|hTk 19 Z Z (ld 2 Z Z (fP (.el h26)) z9i Z)<|z2v 2 [] [] Z (by kernel_rfl) Z (gd0 Z) Z Tryz.func210 Z Z (zjk _ _ _ _) (aQ Z<|aQ Z<|aQ Z<|aQ Z<|aN) rN Z (fun _ _=>z1x) fun r27 n28=>hTk 3 Z Z (W.add Z Z)<|hTk 12 Z Z (W.add Z Z)<|hTk 16 Z Z (W.add Z Z)<|hTk 20 Z Z (W.add Z Z)<|hTk 21 Z Z (asg Z)<|zvq 14 Z Z fun y29=>z3e (by kernel_rfl)<|z0m<|gSR<|Zm Z<|Zc [] [] Tryz.func210 Z (zjk _ _ _ _) fun r30 n31=>Zm Z<|Zm Z<|Zq (W.and Z Z)<|Zm Z<|Zm Z<|Zq (W.and Z Z)<|Zq (W.xor Z Z)<|Zm Z<|Zm Z<|Zq (W.and Z Z)<|Zq (W.xor Z Z)<|Zq (W.add Z Z)<|Za Z<|z27 15 Z fun y32=>Zn<|z2g<|Zm Z<|Zm Z<|Zq (W.add Z Z)<|Zm Z<|Zm Z<|Zm Z<|Zm Z<|Zm Z<|Zq (W.add Z Z)<|Zm Z<|Zm Z<|Zm Z<|Za Z<|Za Z<|Za Z<|Za Z<|Za Z<|z27 9 Z fun y33=>Za Z<|Za Z<|Za Z<|z21<|z3l<|z0m<|z2g<|Zq (I.add Z Z)<|Zm Z<|z21<|z1m (fun aa ww h=>Zu h [1,2,1001])
  ·refine z1z<|z10<|z14<|z3p (fun aa ww h=>Zu h [1,1001])
 ·refine gSR<|Zm Z<|Zm Z<|Zm Z<|Zm Z<|Zm Z<|Zm Z<|Zm Z<|Zm Z<|Zq (litA (R:=z0p) [s20.1,s20.2.1,s20.2.2.1,s20.2.2.2.1,s20.2.2.2.2.1,s20.2.2.2.2.2.1,s20.2.2.2.2.2.2.1,s20.2.2.2.2.2.2.2] (#v[s20.1,s20.2.1,s20.2.2.1,s20.2.2.2.1,s20.2.2.2.2.1,s20.2.2.2.2.2.1,s20.2.2.2.2.2.2.1,s20.2.2.2.2.2.2.2]:Vector UInt32 8) (pP Z Z<|pP Z Z<|pP Z Z<|pP Z Z<|pP Z Z<|pP Z Z<|pP Z Z<|pP Z Z<|pN) Z tu143 zhd Z z60)<|Zm Z<|Zn<|z29 (fun (s34:(Vector UInt32 8) × Int) aa ww=>Sta (ctx 126 H [(1,some (ph0,uh0 c0)),zG1] w) [(0,.val (z05 ph0 kh0)),(111,.rd (z3m 8 z0p) (#v[s20.1,s20.2.1,s20.2.2.1,s20.2.2.2.1,s20.2.2.2.2.1,s20.2.2.2.2.2.1,s20.2.2.2.2.2.2.1,s20.2.2.2.2.2.2.2]:Vector UInt32 8)),(112,.rd z08 s34.2)] [(1,some (ph0,uh0 s34.1)),zG1] aa ww) (fun aa ww h=>Zu h [1,1001]) (fun s34=>?_)
  refine gSR<|Zq (I.lss Z Z)<|Zn<|z0q<|gIf Z Z (fun h35=>?_) (fun h35=>?_)
  ·refine Zt<|z0q<|z5f<|gSR<|Zm Z<|z0t fun x36 h37=>Zq (idxV Z Z h37 tu143 z60 z9i)<|Za Z<|Zb Z<|z6l [1] mixed Z Z<|hTk 0 Z Z (mv Z)<|hTk 1 Z Z (mv Z)<|hTk 2 Z Z (nckP 1 Z Z (hh0 _))<|z5g fun x38 h39=>hTk 3 Z Z (ixH 1 Z Z (hh0 _) Z h39 tu143 z60)<|hTk 5 Z Z (mv Z)<|hTk 7 Z Z (nckP 1 Z Z (hh0 _))<|hRun 4 Z (by kernel_rfl) (gd0 Z) Z Z z1x (ld 1 Z Z ((hh0 _).part (.el h39)) z9i Z)<|hTk 6 Z Z (W.add Z Z)<|z5g fun x40 h41=>hTk 8 Z Z (ixH 1 Z Z (hh0 _) Z h41 tu143 z60)<|Zp 9 Z Z Z Z Z (sto 1 Z Z ((hh0 _).part (.el h41)) Z z60)<|z3e (by kernel_rfl)<|z3l<|z0m<|z2g<|Zq (I.add Z Z)<|Zm Z<|z21<|z1m (fun aa ww h=>Zu h [1,1001])
  ·refine z1z<|z10<|z14<|Ze [] [1,1001] Z
def z9p (s7:z2k × (List UInt8)):Option (Sum (z2k × (List UInt8)) (z2k × (List UInt8))) :=
 if decide (64≤(s7.2.length:Int)) then
  zdx s7.1.Words s7.2 >>= fun r10 =>
  cut s7.2 64 (s7.2.length:Int) >>= fun x12 =>
  some (.inr ({ s7.1 with Words:=r10 },x12))
 else
  some (.inl (s7.1,s7.2))
def zbb (a0:z2k) (a1:List UInt8):Option (z2k) :=
 z2c [a0.Rest,a1] >>= fun r4 =>
 (iter (z9p) (a0,r4)) >>= fun s6 =>
 z8a s6.2 >>= fun r14 =>
 some (⟨({ s6.1 with N:=w64 (s6.1.N+(a1.length:Int)) }).Words,r14,({ s6.1 with N:=w64 (s6.1.N+(a1.length:Int)) }).N⟩:z2k)
theorem zhk (a0:z2k) (a1:List UInt8):z1u Tryz.prog 187 [.rd z2z a0,.rd (z03 u8R) a1] [zG1] (zbb a0 a1) (fun r nv=>⟨[.rd z2z r],[(1001,some (.bool true,.glob 1 (z3m 64 z0p) z5i))]⟩):=by
 refine z2f 29 Tryz.func187 Z Z Z fun H w=>?_;refine gSR<|Eb Z (bx 1 Z) fun v1=>Eb Z (z5l 2 znd (ZrE.rd (R:=(z3m 8 z0p)) (x:=(Vector.replicate 8 0)) zs5 (ZrE.nilS (ZrE.rd (R:=z08) (x:=0) (Zr.num Z) ZrE.nil Z)) Z)) fun v2=>Zn<|gSR<|Zq (faB 1 Z Z Tryz.underlying241 Z (by exact zuf))<|Zq (ld 1 Z Z (fP (zl4 _)) ty94 Z)<|Zm Z<|Ef Z (lit (R:=(z03 u8R)) ([a0.Rest,a1]:List (List UInt8)) 3 (pP Z Z<|pP Z Z<|pN) Z tu212 zuf Z Z) fun v3=>zl7 3 [9] Z (fS Z<|fN)<|Zc [] [(100,4)] Tryz.func110 Z (z64 _) fun r4 n5=>Zb Z<|z7r (fun (s6:z2k × (List UInt8)) aa ww=>Sta (ctx 29 H [zG1] w) [(1,.rd (z03 u8R) a1),(2,.val (z05 v1 0)),(4,.val (z05 v2 0)),(5,.rd (z03 u8R) s6.2)] [(1,some (v1,.box 241 [.rd z2z s6.1])),(2,some (v2,.box 241 [.rd (z3m 8 z0p) (Vector.replicate 8 0),.val (.slice none 0 0),.rd z08 0])),zG1] aa ww) ?_ (fun s6=>?_)
 ·refine gFrz 4 [10,5] Z (fS Z<|fS Z<|fN)<|z29 (fun (s7:z2k × (List UInt8)) aa ww=>Sta (ctx 29 H [zG1] w) [(1,.rd (z03 u8R) a1),(2,.val (z05 v1 0)),(4,.val (z05 v2 0)),(5,.rd (z03 u8R) s7.2)] [(1,some (v1,.box 241 [.rd z2z s7.1])),(2,some (v2,.box 241 [.rd (z3m 8 z0p) (Vector.replicate 8 0),.val (.slice none 0 0),.rd z08 0])),zG1] aa ww) (fun aa ww h=>Zu h [1,2,1001]) (fun s7=>?_);refine z0q<|gSR<|Zm Z<|Zq (z4f Z .rd Z tu94)<|Zq (I.geq Z Z)<|Zj Z (fun h8=>?_) (fun h8=>?_)
  ·refine Zt<|z5f<|gSR<|Zq (faB 1 Z Z Tryz.underlying241 Z (by exact zhd))<|Zm Z<|call [1,1001] [(1,1)] Z Tryz.func202 Z Z (zmi _ _ (fun y9=>.box 241 [.rd z2z ({ s7.1 with Words:=y9 })]) (fun _=>(fP (zem _))) _ _) (Y2 Z Z) (Zi Z<|Zi Z<|rN) fun r10 n11=>Zn<|z2g<|Zm Z<|z0t fun x12 h13=>Zq (cut' Z (.to Z) .no h13 tu94 ti5)<|Za Z<|z21<|z3l<|z1m (fun aa ww h=>Zu h [1,2,1001])
  ·refine z1z<|z10<|z14<|z3p (fun aa ww h=>Zu h [1,2,1001])
 ·refine z0q<|z6l [1,1020] mixed Z Z<|hTk 0 Z Z (faB 1 Z Z Tryz.underlying241 Z (by exact ti3))<|hTk 2 Z Z (mv Z)<|hTk 3 Z Z (z4f Z .rd Z tu94)<|hTk 5 Z Z (mv Z)<|hAlt [1,6] (by kernel_rfl) Z ⟨?_,?_,trivial⟩
  ·refine oRun 1 Z (gd0 Z) Z Z z1x (ld 1 Z Z (fP (z97 _)) ty3 Z)<|hTk 4 Z Z (I.add Z Z)<|z2v 6 [] [(100,1020)] Z (by kernel_rfl) Z (gd0 Z) Z Tryz.func203 Z Z (z9m _) (Y1 Z) rN Z (fun _ _=>z37) fun r14 n15=>hTk 7 Z Z (faB 1 Z Z Tryz.underlying241 Z (by exact ti3))<|Zp 8 Z Z Z Z Z (sto 1 Z Z (fP (z97 _)) Z ti3)<|Zf 9 Z Z z37 (faB 1 Z Z Tryz.underlying241 Z (by exact zuf))<|hSpl (R:=z2z) 1 Z (Sp.via (Sp.prod (Sp.prod (Sp.prod Sp.unit))))<|Zp 10 Z Z Z Z Z (zwb 1 Z Z (zb0.cast (zb0.next z17 (zb0.here z17)) Z) Z z36 z0g zuf)<|z3e (by kernel_rfl)<|z0m<|gSR<|lPow [.rd (z3m 8 z0p) (({ s6.1 with N:=w64 (s6.1.N+(a1.length:Int)) }).Words),.rd (z03 u8R) r14,.rd z08 (({ s6.1 with N:=w64 (s6.1.N+(a1.length:Int)) }).N)] 1 1020 [.rd (z3m 8 z0p) (({ s6.1 with N:=w64 (s6.1.N+(a1.length:Int)) }).Words)] [.rd z08 (({ s6.1 with N:=w64 (s6.1.N+(a1.length:Int)) }).N)] Z Z Z Z Z<|zfs (R:=z2z) (⟨({ s6.1 with N:=w64 (s6.1.N+(a1.length:Int)) }).Words,r14,({ s6.1 with N:=w64 (s6.1.N+(a1.length:Int)) }).N⟩:z2k) 1 Z (Sp.via (Sp.prod (Sp.prod (Sp.prod Sp.unit))))<|Zq (ld 1 Z Z fH zr4 Z)<|zft u8R [.rd (z3m 8 z0p) (Vector.replicate 8 0),.rd (z03 u8R) [],.rd z08 0] 2 [.rd (z3m 8 z0p) (Vector.replicate 8 0)] [.rd z08 0] Z Z Z<|zfs (R:=z2z) (⟨(Vector.replicate 8 0),[],0⟩:z2k) 2 Z (Sp.via (Sp.prod (Sp.prod (Sp.prod Sp.unit))))<|Es (sto 2 Z Z fH Z znd)<|Zn<|z0k<|zaz [] [1001] Z (eC 2 Z Z zr4<|eN) (Y0 Z)
  ·refine z17p 6 [] [(100,1020)] Z Z (gd0 Z) Z Tryz.func203 Z Z (z9m _) (Y1 Z) rN Z (fun _ _=>z37) fun r16 n17=>hRun 1 Z (by kernel_rfl) (gd0 Z) Z Z z1x (ld 1 Z Z (fP (z97 _)) ty3 Z)<|hTk 4 Z Z (I.add Z Z)<|hTk 7 Z Z (faB 1 Z Z Tryz.underlying241 Z (by exact ti3))<|Zp 8 Z Z Z Z Z (sto 1 Z Z (fP (z97 _)) Z ti3)<|Zf 9 Z Z z37 (faB 1 Z Z Tryz.underlying241 Z (by exact zuf))<|hSpl (R:=z2z) 1 Z (Sp.via (Sp.prod (Sp.prod (Sp.prod Sp.unit))))<|Zp 10 Z Z Z Z Z (zwb 1 Z Z (zb0.cast (zb0.next z17 (zb0.here z17)) Z) Z z36 z0g zuf)<|z3e (by kernel_rfl)<|z0m<|gSR<|lPow [.rd (z3m 8 z0p) (({ s6.1 with N:=w64 (s6.1.N+(a1.length:Int)) }).Words),.rd (z03 u8R) r16,.rd z08 (({ s6.1 with N:=w64 (s6.1.N+(a1.length:Int)) }).N)] 1 1020 [.rd (z3m 8 z0p) (({ s6.1 with N:=w64 (s6.1.N+(a1.length:Int)) }).Words)] [.rd z08 (({ s6.1 with N:=w64 (s6.1.N+(a1.length:Int)) }).N)] Z Z Z Z Z<|zfs (R:=z2z) (⟨({ s6.1 with N:=w64 (s6.1.N+(a1.length:Int)) }).Words,r16,({ s6.1 with N:=w64 (s6.1.N+(a1.length:Int)) }).N⟩:z2k) 1 Z (Sp.via (Sp.prod (Sp.prod (Sp.prod Sp.unit))))<|Zq (ld 1 Z Z fH zr4 Z)<|zft u8R [.rd (z3m 8 z0p) (Vector.replicate 8 0),.rd (z03 u8R) [],.rd z08 0] 2 [.rd (z3m 8 z0p) (Vector.replicate 8 0)] [.rd z08 0] Z Z Z<|zfs (R:=z2z) (⟨(Vector.replicate 8 0),[],0⟩:z2k) 2 Z (Sp.via (Sp.prod (Sp.prod (Sp.prod Sp.unit))))<|Es (sto 2 Z Z fH Z znd)<|Zn<|z0k<|zaz [] [1001] Z (eC 2 Z Z zr4<|eN) (Y0 Z)
def zan (y3:UInt64) (s9:(List UInt8) × Int):Option (Sum ((List UInt8)) ((List UInt8) × Int)) :=
 if decide (0≤s9.2) then
  chk (0≤s9.2) >>= fun u12 =>
  app 1 s9.1 [(z71 y3 ((s9.2:Int).toNat)).toUInt8] >>= fun x15 =>
  some (w64 (s9.2 - 8)) >>= fun y18 =>
  some (.inr (x15,y18))
 else
  some (.inl s9.1)
def z8z (r21:z2k) (s23:V3 × Int):Option (Sum (V3) (V3 × Int)) :=
 if decide (s23.2<8) then
  z7m r21.Words s23.2 >>= fun x25 =>
  z7m s23.1 (w64 (4 * s23.2)) >>= fun x27 =>
  z7m (zij s23.1 (w64 (4 * s23.2)) ((z4m x25 24).toUInt8)) (w64 ((w64 (4 * s23.2))+1)) >>= fun x29 =>
  z7m (zij (zij s23.1 (w64 (4 * s23.2)) ((z4m x25 24).toUInt8)) (w64 ((w64 (4 * s23.2))+1)) ((z4m x25 16).toUInt8)) (w64 ((w64 (4 * s23.2))+2)) >>= fun x31 =>
  z7m (zij (zij (zij s23.1 (w64 (4 * s23.2)) ((z4m x25 24).toUInt8)) (w64 ((w64 (4 * s23.2))+1)) ((z4m x25 16).toUInt8)) (w64 ((w64 (4 * s23.2))+2)) ((z4m x25 8).toUInt8)) (w64 ((w64 (4 * s23.2))+3)) >>= fun x33 =>
  some (.inr (zij (zij (zij (zij s23.1 (w64 (4 * s23.2)) ((z4m x25 24).toUInt8)) (w64 ((w64 (4 * s23.2))+1)) ((z4m x25 16).toUInt8)) (w64 ((w64 (4 * s23.2))+2)) ((z4m x25 8).toUInt8)) (w64 ((w64 (4 * s23.2))+3)) x25.toUInt8,w64 (s23.2+1)))
 else
  some (.inl s23.1)
def zgw (a0:z2k):Option (V3) :=
 some ((UInt64.ofInt a0.N) * 8) >>= fun y3 =>
 appz 1 [128] 0 (Int.tmod (w64 (119 - (Int.tmod a0.N 64))) 64) >>= fun x5 =>
 (iter (zan y3) (x5,56)) >>= fun s8 =>
 (zbb a0 s8 >>= fun r21 =>
 iter (z8z r21) ((Vector.replicate 32 0),0)) >>= fun s20 =>
 some s20
theorem zoz (a0:z2k):z1u Tryz.prog 188 [.rd z2z a0] [zG1] (zgw a0) (fun r nv=>⟨[.rd aZ r],[(1001,some (.bool true,.glob 1 (z3m 64 z0p) z5i))]⟩):=by
 refine z2f 66 Tryz.func188 Z Z Z fun H w=>?_;refine gSR<|Eb Z (bx 1 Z) fun v1=>Eb Z (z5l 2 z3v (.zr (R:=aZ) (x:=(Vector.replicate 32 0)) zfn)) fun v2=>Zn<|gSR<|Zq (faB 1 Z Z Tryz.underlying241 Z (by exact ti3))<|Zq (ld 1 Z Z (fP (z97 _)) ty3 Z)<|Zq (I.toU Z tu3 tu44)<|Zq (U.mul Z Z)<|Za Z<|z27 3 Z fun y3=>Zn<|gSR<|Ef Z (lit (R:=u8R) ([128]:List UInt8) 3 (pP Z Z<|pN) Z tu94 ti5 Z Z) fun v4=>Zq (faB 1 Z Z Tryz.underlying241 Z (by exact ti3))<|Zq (ld 1 Z Z (fP (z97 _)) ty3 Z)<|Zq (I.rem Z Z (by decide))<|Zq (I.sub Z Z)<|Zq (I.rem Z Z (by decide))<|z0t fun x5 h6=>Ef Z (apZO 3 Z Z Z h6 tu94 tu3 ti5 (Zr.num Z) Z) fun v7=>Zb Z<|z7r (fun (s8:(List UInt8)) aa ww=>∃ nv:Nat→Value,Sta (ctx 66 H [zG1] w) [(1,.val (z05 v1 0)),(2,.val (z05 v2 0)),(4,.val (nv 0))] [(1,some (v1,.box 241 [.rd z2z a0])),(2,some (v2,.box 54 [.rd aZ (Vector.replicate 32 0)])),(3,some ((nv 0),.list u8R 5 s8)),zG1] aa ww) ?_ (fun s8=>?_)
 ·refine gSR<|Zb Z<|z29 (fun (s9:(List UInt8) × Int) aa ww=>∃ nv:Nat→Value,Sta (ctx 66 H [zG1] w) [(1,.val (z05 v1 0)),(2,.val (z05 v2 0)),(3,.rd z2x y3),(4,.val (nv 0)),(5,.rd z08 s9.2)] [(1,some (v1,.box 241 [.rd z2z a0])),(2,some (v2,.box 54 [.rd aZ (Vector.replicate 32 0)])),(3,some ((nv 0),.list u8R 5 s9.1)),zG1] aa ww) (fun aa ww h=>⟨nvl [v7],Zu h [1,2,3,1001]⟩) (fun s9=>?_);refine gEx fun n10=>z0q<|gSR<|Zm Z<|Zq (I.geq Z Z)<|Zj Z (fun h11=>?_) (fun h11=>?_)
  ·refine Zt<|z0q<|z5f<|z2g<|Zm Z<|Zm Z<|Zm Z<|z0t fun u12 h13=>Zq (U.shr Z Z (z5h h13))<|Zq (U.toB Z tu44 tu5)<|Ef Z (lit (R:=u8R) ([(z71 y3 ((s9.2:Int).toNat)).toUInt8]:List UInt8) 1100 (pP Z Z<|pN) Z tu94 ti5 Z Z) fun v14=>z0t fun x15 h16=>Ef Z (apn 3 Z Z Z (.own 1100 Z) h16 tu94 ti5 Z Z Z) fun v17=>Za Z<|z21<|z3l<|z0m<|z2g<|Zm Z<|Zq (I.sub Z Z)<|Za Z<|z27 5 Z fun y18=>z21<|z1m (fun aa ww h=>⟨nvl [v17],Zu h [1,2,3,1001]⟩)
  ·refine z1z<|z10<|z14<|z3p (fun aa ww h=>⟨nvl [(n10 0)],Zu h [1,2,3,1001]⟩)
 ·refine gEx fun n19=>z7r (fun (s20:V3) aa ww=>Sta (ctx 66 H [zG1] w) [(2,.val (z05 v2 0))] [(2,some (v2,.box 54 [.rd aZ s20])),zG1] aa ww) ?_ (fun s20=>?_)
  ·refine gSR<|Zq (ld 1 Z Z fH zr4 Z)<|Zm Z<|zl7 3 [4,31] Z (fS Z<|fS Z<|fN)<|Zc [1001] [] Tryz.func187 Z (zhk _ _) fun r21 n22=>Zq (fldV Z (zem _) Z Tryz.underlying241 Z zrq)<|Zm Z<|Zn<|z29 (fun (s23:V3 × Int) aa ww=>Sta (ctx 66 H [zG1] w) [(2,.val (z05 v2 0)),(33,.rd (z3m 8 z0p) r21.Words),(34,.rd z08 s23.2)] [(2,some (v2,.box 54 [.rd aZ s23.1])),zG1] aa ww) (fun aa ww h=>Zu h [2,1001]) (fun s23=>?_)
   refine gSR<|Zq (I.lss Z Z)<|Zn<|z0q<|gIf Z Z (fun h24=>?_) (fun h24=>?_)
   ·refine Zt<|z0q<|z5f<|gSR<|Zm Z<|z0t fun x25 h26=>Zq (idxV Z Z h26 tu143 z60 z9i)<|Za Z<|Zb Z<|z2g<|Zm Z<|Zq (I.mul Z Z)<|Zm Z<|Zq (I.mul Z Z)<|Zq (I.add Z Z)<|Zm Z<|Zq (I.mul Z Z)<|Zq (I.add Z Z)<|Zm Z<|Zq (I.mul Z Z)<|Zq (I.add Z Z)<|Zm Z<|Zq (W.shr Z Z (Int.natCast_nonneg _))<|Zq (W.toB Z tu63 tu5)<|Zm Z<|Zq (W.shr Z Z (Int.natCast_nonneg _))<|Zq (W.toB Z tu63 tu5)<|Zm Z<|Zq (W.shr Z Z (Int.natCast_nonneg _))<|Zq (W.toB Z tu63 tu5)<|Zm Z<|Zq (W.toB Z tu63 tu5)<|z0t fun x27 h28=>Zq (ixB 2 Z Z Z h28 tu54 ti5)<|Es (sto 2 Z Z (fP (.el h28)) Z ti5)<|z0t fun x29 h30=>Zq (ixB 2 Z Z Z h30 tu54 ti5)<|Es (sto 2 Z Z (fP (.el h30)) Z ti5)<|z0t fun x31 h32=>Zq (ixB 2 Z Z Z h32 tu54 ti5)<|Es (sto 2 Z Z (fP (.el h32)) Z ti5)<|z0t fun x33 h34=>Zq (ixB 2 Z Z Z h34 tu54 ti5)<|Es (sto 2 Z Z (fP (.el h34)) Z ti5)<|z21<|z3l<|z0m<|z2g<|Zq (I.add Z Z)<|Zm Z<|z21<|z1m (fun aa ww h=>Zu h [2,1001])
   ·refine z1z<|z10<|z14<|z3p (fun aa ww h=>Zu h [2,1001])
  ·refine gSR<|Zq (ld 2 Z Z fH z6a Z)<|Es (sto 2 Z Z fH Z z3v)<|Zn<|z0k<|zaz [] [1001] Z (eC 2 Z Z z6a<|eN) (Y0 Z)
def z19 (a0:List (List UInt8)) (s2:Int):Option (Sum (Sum Int Unit) Int) :=
 if decide (s2<(a0.length:Int)) then
  idx a0 s2 >>= fun x4 =>
  zd1 x4 >>= fun r6 =>
  if r6 then
   some (.inl (.inl s2))
  else
   some (.inr (w64 (s2+1)))
 else
  some (.inl (.inr ()))
def z34 (a0:List (List UInt8)):Option (Int) :=
 z67 (iter (z19 a0) 0) fun s1 =>
 some (-1)
theorem z7i (a0:List (List UInt8)):z1u Tryz.prog 201 [.rd (z03 (z03 u8R)) a0,.val (.func (.func 185) #[] #[])] [] (z34 a0) (fun r nv=>⟨[.rd z08 r],[]⟩):=by
 refine z2f 19 Tryz.func201 Z Z Z fun H w=>?_;refine gSR<|Zb Z<|z8i (fun (s1:Unit) aa ww=>Sta (ctx 19 H [] w) [] [] aa ww) ?_ (fun s1=>?_)
 ·refine gSR<|Zm Z<|Zq (z4f Z .rd Z tu212)<|Zm Z<|Zn<|z29 (fun (s2:Int) aa ww=>Sta (ctx 19 H [] w) [(0,.rd (z03 (z03 u8R)) a0),(1,.val (.func (.func 185) #[] #[])),(7,.rd z08 (a0.length:Int)),(8,.rd z08 s2)] [] aa ww) (fun aa ww h=>Zu h []) (fun s2=>?_);refine gSR<|Zq (I.lss Z Z)<|Zn<|z0q<|gIf Z Z (fun h3=>?_) (fun h3=>?_)
  ·refine Zt<|z0q<|z5f<|gSR<|Zm Z<|Zb Z<|gSR<|Zm Z<|Zm Z<|Zm Z<|z0t fun x4 h5=>Zq (ixR Z Z h5 tu212 zuf Z)<|Zq (ldR Z ty94)<|zk9 [] [] (gd0 Z) Z Z Tryz.func185 Z Z (zja _) (Y1 Z) (cN) rN fun r6 n7=>Zj Z (fun h8=>?_) (fun h8=>?_)
   ·refine gSR<|Zm Z<|Zb Z<|z0k<|z4p<|z0v<|z8c<|z5n<|Ze [] [] Z
   ·refine z38<|z3l<|z0m<|z2g<|Zq (I.add Z Z)<|Zm Z<|z21<|z1m (fun aa ww h=>Zu h [])
  ·refine z1z<|z10<|z14<|z6x (fun aa ww h=>Zu h [])
 ·refine gSR<|Zb Z<|z0k<|Ze [] [] Z
def z1n (a0:List (List UInt8)):Option (Bool) :=
 z34 a0 >>= fun r1 =>
 some (decide (0≤r1)) >>= fun y3 =>
 some y3
theorem z6d (a0:List (List UInt8)):z1u Tryz.prog 184 [.rd (z03 (z03 u8R)) a0,.val (.func (.func 185) #[] #[])] [] (z1n a0) (fun r nv=>⟨[.rd z09 r],[]⟩):=by
 refine z2f 9 Tryz.func184 Z Z Z fun H w=>?_;refine gSR<|Zb Z<|gSR<|Zm Z<|Zm Z<|Zc [] [] Tryz.func201 Z (z7i _) fun r1 n2=>Zq (I.geq Z Z)<|Za Z<|z27 4 Z fun y3=>Zn<|z0k<|Ze [] [] Z
def z80 (a0:List (List UInt8)) (s11:z2k × Int):Option (Sum z2k (z2k × Int)) :=
 if decide (s11.2<(a0.length:Int)) then
  idx a0 s11.2 >>= fun x13 =>
  zbb s11.1 x13 >>= fun r15 =>
  some (.inr (r15,w64 (s11.2+1)))
 else
  some (.inl s11.1)
def zau (a0:List (List UInt8)):Option (V3 × Int) :=
 (if decide (20<(a0.length:Int)) then
  some true
 else
  z1n a0 >>= fun r4 =>
  some r4) >>= fun s2 =>
 if s2 then
  some ((Vector.replicate 32 0),4)
 else
  zdw >>= fun r7 =>
  (iter (z80 a0) (r7,0)) >>= fun s10 =>
  zgw s10 >>= fun r17 =>
  some (r17,0)
theorem zff (a0:List (List UInt8)):z1u Tryz.prog 148 [.rd (z03 (z03 u8R)) a0] [zG1] (zau a0) (fun r nv=>⟨[.rd aZ r.1,.rd z08 r.2],[(1001,some (.bool true,.glob 1 (z3m 64 z0p) z5i))]⟩):=by
 refine z2f 28 Tryz.func148 Z Z Z fun H w=>?_;refine gSR<|Eb Z (z5l 1 z3v (.zr (R:=aZ) (x:=(Vector.replicate 32 0)) zfn)) fun v1=>Zb Z<|z0q<|z7r (fun (s2:Bool) aa ww=>Sta (ctx 28 H [zG1] w) [(0,.rd (z03 (z03 u8R)) a0),(2,.val (z05 v1 0)),(13,.rd z09 s2)] [(1,some (v1,.box 54 [.rd aZ (Vector.replicate 32 0)])),zG1] aa ww) ?_ (fun s2=>?_)
 ·refine z2g<|Zm Z<|Zq (z4f Z .rd Z tu212)<|Zq (I.gtr Z Z)<|Zm Z<|z28 10 Z (fun h3=>?_) (fun h3=>?_)
  ·refine lKn 9 Z h3<|Zk Z<|Zk Z<|Zq (pkT Z Z)<|z21<|z3p (fun aa ww h=>Zu h [1,1001])
  ·refine lKn 9 Z h3<|z1l Zx Z Z (mv Z)<|zfv [] [] Zx Z Tryz.func184 Z Z (z6d _) (Y2 Z Z) rN fun r4 n5=>Zq (pkF Z Z)<|z21<|z3p (fun aa ww h=>Zu h [1,1001])
 ·refine gIf Z Z (fun h6=>?_) (fun h6=>?_)
  ·refine gSR<|Zq (bldG (x':=((Vector.replicate 32 0):V3)) tu54 z3v zfn ti5 (Bld.done Z))<|Es (sto 1 Z Z fH Z z3v)<|Zb Z<|z0k<|z0v<|zaz [] [1001] Z (eC 1 Z Z z6a<|eE Z<|eN) (Y0 Z)
  ·refine Zt<|gSR<|Zc [] [] Tryz.func186 Z (zmv) fun r7 n8=>Eb Z (z5l 1100 znd (ZrE.rd (R:=(z3m 8 z0p)) (x:=(Vector.replicate 8 0)) zs5 (ZrE.nilS (ZrE.rd (R:=z08) (x:=0) (Zr.num Z) ZrE.nil Z)) Z)) fun v9=>zft u8R [.rd (z3m 8 z0p) (Vector.replicate 8 0),.rd (z03 u8R) [],.rd z08 0] 1100 [.rd (z3m 8 z0p) (Vector.replicate 8 0)] [.rd z08 0] Z Z Z<|zfs (R:=z2z) (⟨(Vector.replicate 8 0),[],0⟩:z2k) 1100 Z (Sp.via (Sp.prod (Sp.prod (Sp.prod Sp.unit))))<|Es (sto 1100 Z Z fH Z znd)<|Zn<|z7r (fun (s10:z2k) aa ww=>Sta (ctx 28 H [zG1] w) [(2,.val (z05 v1 0)),(4,.val (z05 v9 0))] [(1,some (v1,.box 54 [.rd aZ (Vector.replicate 32 0)])),(1100,some (v9,.box 241 [.rd z2z s10])),zG1] aa ww) ?_ (fun s10=>?_)
   ·refine gSR<|Zm Z<|Zq (z4f Z .rd Z tu212)<|Zm Z<|Zn<|z29 (fun (s11:z2k × Int) aa ww=>Sta (ctx 28 H [zG1] w) [(2,.val (z05 v1 0)),(4,.val (z05 v9 0)),(16,.rd (z03 (z03 u8R)) a0),(17,.rd z08 (a0.length:Int)),(18,.rd z08 s11.2)] [(1,some (v1,.box 54 [.rd aZ (Vector.replicate 32 0)])),(1100,some (v9,.box 241 [.rd z2z s11.1])),zG1] aa ww) (fun aa ww h=>Zu h [1,1100,1001]) (fun s11=>?_);refine gSR<|Zq (I.lss Z Z)<|Zn<|z0q<|gIf Z Z (fun h12=>?_) (fun h12=>?_)
    ·refine Zt<|z0q<|z5f<|gSR<|z0t fun x13 h14=>Zq (ixR Z Z h14 tu212 zuf Z)<|Zq (ldR Z ty94)<|Zb Z<|z2g<|Zq (ld 1100 Z Z fH zr4 Z)<|Zm Z<|Zc [1001] [] Tryz.func187 Z (zhk _ _) fun r15 n16=>Es (sto 1100 Z Z fH Z znd)<|z21<|z3l<|z0m<|z2g<|Zq (I.add Z Z)<|Zm Z<|z21<|z1m (fun aa ww h=>Zu h [1,1100,1001])
    ·refine z1z<|z10<|z14<|z3p (fun aa ww h=>Zu h [1,1100,1001])
   ·refine gSR<|Zq (ld 1100 Z Z fH zr4 Z)<|Zc [1001] [] Tryz.func188 Z (zoz _) fun r17 n18=>Es (sto 1 Z Z fH Z z3v)<|Zb Z<|z0k<|zaz [] [1001] Z (eC 1 Z Z z6a<|eE Z<|eN) (Y0 Z)
def zgk (a0:List UInt8):Option (V3 × Int) :=
 zau [a0] >>= fun r3 =>
 some (r3.1,r3.2)
theorem zot (a0:List UInt8):z1u Tryz.prog 87 [.rd (z03 u8R) a0] [zG1] (zgk a0) (fun r nv=>⟨[.rd aZ r.1,.rd z08 r.2],[(1001,some (.bool true,.glob 1 (z3m 64 z0p) z5i))]⟩):=by
 refine z2f 9 Tryz.func87 Z Z Z fun H w=>?_;refine gSR<|Eb Z (z5l 1 z3v (.zr (R:=aZ) (x:=(Vector.replicate 32 0)) zfn)) fun v1=>Zb Z<|gSR<|Zm Z<|Ef Z (lit (R:=(z03 u8R)) ([a0]:List (List UInt8)) 2 (pP Z Z<|pN) Z tu212 zuf Z Z) fun v2=>zl7 2 [5] Z (fS Z<|fN)<|Zc [1001] [] Tryz.func148 Z (zff _) fun r3 n4=>Zq (ext Z Z)<|Zq (ext Z Z)<|Es (sto 1 Z Z fH Z z3v)<|Zb Z<|z0k<|zaz [] [1001] Z (eC 1 Z Z z6a<|eE Z<|eN) (Y0 Z)
def zws (a0:z0a):Option (V3 × Int) :=
 zeh a0 >>= fun r3 =>
 if r3.2 != 0 then
  some ((Vector.replicate 32 0),r3.2)
 else
  zgk r3.1 >>= fun r6 =>
  some (r6.1,r6.2)
theorem zul (a0:z0a):z1u Tryz.prog 46 [.rd z04 a0] [zG1] (zws a0) (fun r nv=>⟨[.rd aZ r.1,.rd z08 r.2],[(1001,some (.bool true,.glob 1 (z3m 64 z0p) z5i))]⟩):=by
 refine z2f 19 Tryz.func46 Z Z Z fun H w=>?_;refine gSR<|Eb Z (bx 1 Z) fun v1=>Eb Z (z5l 2 z3v (.zr (R:=aZ) (x:=(Vector.replicate 32 0)) zfn)) fun v2=>Zb Z<|gSR<|Zq (ld 1 Z Z fH zeb Z)<|Zc [] [(100,3)] Tryz.func86 Z (zr8 _) fun r3 n4=>Zm Z<|Zq (ext Z Z)<|Zq (ext Z Z)<|Za Z<|Zb Z<|z0q<|gSR<|Zm Z<|Zq (I.neq Z Z)<|Zj Z (fun h5=>?_) (fun h5=>?_)
 ·refine gSR<|Zq (bldG (x':=((Vector.replicate 32 0):V3)) tu54 z3v zfn ti5 (Bld.done Z))<|Zm Z<|Es (sto 2 Z Z fH Z z3v)<|Zb Z<|z0k<|z0v<|zaz [] [1001] Z (eC 2 Z Z z6a<|eE Z<|eN) (Y0 Z)
 ·refine Zt<|gSR<|Zm Z<|zl7 3 [9,4,15] Z (fS Z<|fS Z<|fS Z<|fN)<|Zc [1001] [] Tryz.func87 Z (zot _) fun r6 n7=>Zq (ext Z Z)<|Zq (ext Z Z)<|Es (sto 2 Z Z fH Z z3v)<|Zb Z<|z0k<|zaz [] [1001] Z (eC 2 Z Z z6a<|eE Z<|eN) (Y0 Z)
def z4r (a0:List UInt32) (s2:Int):Option (Sum (Sum Bool Unit) Int) :=
 if decide (s2<(a0.length:Int)) then
  idx a0 s2 >>= fun x4 =>
  zgq x4 >>= fun r6 =>
  if !r6 then
   some (.inl (.inl false))
  else
   some (.inr (w64 (s2+1)))
 else
  some (.inl (.inr ()))
def zct (a0:List UInt32):Option (Bool) :=
 z67 (iter (z4r a0) 0) fun s1 =>
 some true
theorem zky (a0:List UInt32):z1u Tryz.prog 189 [.rd (z03 z0p) a0] [] (zct a0) (fun r nv=>⟨[.rd z09 r],[]⟩):=by
 refine z2f 15 Tryz.func189 Z Z Z fun H w=>?_;refine gSR<|Zb Z<|z8i (fun (s1:Unit) aa ww=>Sta (ctx 15 H [] w) [] [] aa ww) ?_ (fun s1=>?_)
 ·refine gSR<|Zm Z<|Zq (z4f Z .rd Z tu232)<|Zm Z<|Zn<|z29 (fun (s2:Int) aa ww=>Sta (ctx 15 H [] w) [(5,.rd (z03 z0p) a0),(6,.rd z08 (a0.length:Int)),(7,.rd z08 s2)] [] aa ww) (fun aa ww h=>Zu h []) (fun s2=>?_);refine gSR<|Zq (I.lss Z Z)<|Zn<|z0q<|gIf Z Z (fun h3=>?_) (fun h3=>?_)
  ·refine Zt<|z0q<|z5f<|gSR<|z0t fun x4 h5=>Zq (ixR Z Z h5 tu232 z60 Z)<|Zq (ldR Z z9i)<|Zb Z<|gSR<|Zm Z<|Zc [] [] Tryz.func151 Z (zid _) fun r6 n7=>Zq (zgu Z)<|Zj Z (fun h8=>?_) (fun h8=>?_)
   ·refine gSR<|Zb Z<|z0k<|z4p<|z0v<|z8c<|z5n<|Ze [] [] Z
   ·refine z38<|z3l<|z0m<|z2g<|Zq (I.add Z Z)<|Zm Z<|z21<|z1m (fun aa ww h=>Zu h [])
  ·refine z1z<|z10<|z14<|z6x (fun aa ww h=>Zu h [])
 ·refine gSR<|Zb Z<|z0k<|Ze [] [] Z
def zmm (a0:UInt32) (a1:UInt64):Option (UInt32 × Int) :=
 zct [a0] >>= fun r2 =>
 if !r2 then
  some (0,2)
 else
  zej a0 a1 >>= fun r5 =>
  some (r5,0)
end
section
open Go Go.RowKit
set_option maxRecDepth 100000
theorem zq5 (a0:UInt32) (a1:UInt64):z1u Tryz.prog 152 [.rd z0p a0,.rd z2x a1] [] (zmm a0 a1) (fun r nv=>⟨[.rd z0p r.1,.rd z08 r.2],[]⟩):=by
 refine z2f 13 Tryz.func152 Z Z Z fun H w=>?_;refine gSR<|Za Z<|Zb Z<|z0q<|gSR<|Zm Z<|Ef Z (lit (R:=z0p) ([a0]:List UInt32) 1 (pP Z Z<|pN) Z tu232 z60 Z Z) fun v1=>zl7 1 [7] Z (fS Z<|fN)<|Zc [] [] Tryz.func189 Z (zky _) fun r2 n3=>Zq (zgu Z)<|Zj Z (fun h4=>?_) (fun h4=>?_)
 ·refine gSR<|Za Z<|Zb Z<|z0k<|z0v<|Ze [] [] Z
 ·refine Zt<|gSR<|Zm Z<|Zm Z<|Zc [] [] Tryz.func163 Z (zg3 _ _) fun r5 n6=>Za Z<|Zb Z<|z0k<|Ze [] [] Z
def zb6 (a0:UInt64):Option (UInt32) :=
 zej 4 a0 >>= fun r1 =>
 some r1
theorem zet (a0:UInt64):z1u Tryz.prog 108 [.rd z2x a0] [] (zb6 a0) (fun r nv=>⟨[.rd z0p r],[]⟩):=by
 refine z2f 5 Tryz.func108 Z Z Z fun H w=>?_;refine gSR<|Zb Z<|gSR<|Zm Z<|Zc [] [] Tryz.func163 Z (zg3 _ _) fun r1 n2=>Zb Z<|z0k<|Ze [] [] Z
def zme (a0:UInt32) (a1:UInt32):Option (UInt32 × Int) :=
 zct [a0,a1] >>= fun r2 =>
 if !r2 then
  some (0,2)
 else
  zah 1000000007 [a0,a1] >>= fun r6 =>
  some (r6,0)
theorem zqi (a0:UInt32) (a1:UInt32):z1u Tryz.prog 153 [.rd z0p a0,.rd z0p a1] [] (zme a0 a1) (fun r nv=>⟨[.rd z0p r.1,.rd z08 r.2],[]⟩):=by
 refine z2f 15 Tryz.func153 Z Z Z fun H w=>?_;refine gSR<|Za Z<|Zb Z<|z0q<|gSR<|Zm Z<|Zm Z<|Ef Z (lit (R:=z0p) ([a0,a1]:List UInt32) 1 (pP Z Z<|pP Z Z<|pN) Z tu232 z60 Z Z) fun v1=>zl7 1 [8] Z (fS Z<|fN)<|Zc [] [] Tryz.func189 Z (zky _) fun r2 n3=>Zq (zgu Z)<|Zj Z (fun h4=>?_) (fun h4=>?_)
 ·refine gSR<|Za Z<|Zb Z<|z0k<|z0v<|Ze [] [] Z
 ·refine Zt<|gSR<|Zm Z<|Zm Z<|Ef Z (lit (R:=z0p) ([a0,a1]:List UInt32) 2 (pP Z Z<|pP Z Z<|pN) Z tu232 z60 Z Z) fun v5=>zl7 2 [13] Z (fS Z<|fN)<|Zc [] [] Tryz.func168 Z (zdg _ _) fun r6 n7=>Za Z<|Zb Z<|z0k<|Ze [] [] Z
def z4a (a2:List UInt32) (s4:(List UInt8) × Int):Option (Sum ((List UInt8)) ((List UInt8) × Int)) :=
 if decide (s4.2<(a2.length:Int)) then
  idx a2 s4.2 >>= fun x7 =>
  app 1 s4.1 [(z4m x7 24).toUInt8,(z4m x7 16).toUInt8,(z4m x7 8).toUInt8,x7.toUInt8] >>= fun x10 =>
  some (.inr (x10,w64 (s4.2+1)))
 else
  some (.inl s4.1)
def zbr (r15:V3 × Int) (s19:UInt64 × Int):Option (Sum UInt64 (UInt64 × Int)) :=
 if decide (s19.2<(((r15.1.toList.drop 0).take 8).length:Int)) then
  idx ((r15.1.toList.drop 0).take 8) s19.2 >>= fun x21 =>
  some ((zop s19.1 8) ||| x21.toUInt64) >>= fun y23 =>
  some (.inr (y23,w64 (s19.2+1)))
 else
  some (.inl s19.1)
def zcy (a0:UInt8) (a1:List UInt8) (a2:List UInt32):Option (UInt64 × Int) :=
 if decide (9991<(a1.length:Int)) then
  some (0,4)
 else
  (iter (z4a a2) ([a0],0)) >>= fun s3 =>
  zau [s3,a1] >>= fun r15 =>
  (iter (zbr r15) (0,0)) >>= fun s18 =>
  some (s18,r15.2)
theorem zkt (a0:UInt8) (a1:List UInt8) (a2:List UInt32):z1u Tryz.prog 167 [.rd u8R a0,.rd (z03 u8R) a1,.rd (z03 z0p) a2] [zG1] (zcy a0 a1 a2) (fun r nv=>⟨[.rd z2x r.1,.rd z08 r.2],[(1001,some (.bool true,.glob 1 (z3m 64 z0p) z5i))]⟩):=by
 refine z2f 63 Tryz.func167 Z Z Z fun H w=>?_;refine gSR<|Za Z<|Zb Z<|z0q<|gSR<|Zm Z<|Zq (z4f Z .rd Z tu94)<|Zq (I.gtr Z Z)<|Zj Z (fun h1=>?_) (fun h1=>?_)
 ·refine gSR<|Za Z<|Zb Z<|z0k<|z0v<|Ze [] [1001] Z
 ·refine Zt<|gSR<|Zm Z<|Ef Z (lit (R:=u8R) ([a0]:List UInt8) 1 (pP Z Z<|pN) Z tu94 ti5 Z Z) fun v2=>Zb Z<|z7r (fun (s3:(List UInt8)) aa ww=>∃ nv:Nat→Value,Sta (ctx 63 H [zG1] w) [(1,.rd (z03 u8R) a1),(8,.val (nv 0))] [(1,some ((nv 0),.list u8R 5 s3)),zG1] aa ww) ?_ (fun s3=>?_)
  ·refine gSR<|Zm Z<|Zq (z4f Z .rd Z tu232)<|Zm Z<|Zn<|z29 (fun (s4:(List UInt8) × Int) aa ww=>∃ nv:Nat→Value,Sta (ctx 63 H [zG1] w) [(1,.rd (z03 u8R) a1),(8,.val (nv 0)),(21,.rd (z03 z0p) a2),(22,.rd z08 (a2.length:Int)),(23,.rd z08 s4.2)] [(1,some ((nv 0),.list u8R 5 s4.1)),zG1] aa ww) (fun aa ww h=>⟨nvl [v2],Zu h [1,1001]⟩) (fun s4=>?_);refine gEx fun n5=>gSR<|Zq (I.lss Z Z)<|Zn<|z0q<|gIf Z Z (fun h6=>?_) (fun h6=>?_)
   ·refine Zt<|z0q<|z5f<|gSR<|z0t fun x7 h8=>Zq (ixR Z Z h8 tu232 z60 Z)<|Zq (ldR Z z9i)<|Zb Z<|z2g<|Zm Z<|Zm Z<|Zq (W.shr Z Z (Int.natCast_nonneg _))<|Zq (W.toB Z tu63 tu5)<|Zm Z<|Zq (W.shr Z Z (Int.natCast_nonneg _))<|Zq (W.toB Z tu63 tu5)<|Zm Z<|Zq (W.shr Z Z (Int.natCast_nonneg _))<|Zq (W.toB Z tu63 tu5)<|Zm Z<|Zq (W.toB Z tu63 tu5)<|Ef Z (lit (R:=u8R) ([(z4m x7 24).toUInt8,(z4m x7 16).toUInt8,(z4m x7 8).toUInt8,x7.toUInt8]:List UInt8) 1100 (pP Z Z<|pP Z Z<|pP Z Z<|pP Z Z<|pN) Z tu94 ti5 Z Z) fun v9=>z0t fun x10 h11=>Ef Z (apn 1 Z Z Z (.own 1100 Z) h11 tu94 ti5 Z Z Z) fun v12=>Za Z<|z21<|z3l<|z0m<|z2g<|Zq (I.add Z Z)<|Zm Z<|z21<|z1m (fun aa ww h=>⟨nvl [v12],Zu h [1,1001]⟩)
   ·refine z1z<|z10<|z14<|z3p (fun aa ww h=>⟨nvl [(n5 0)],Zu h [1,1001]⟩)
  ·refine gEx fun n13=>gSR<|Zm Z<|Zm Z<|zl7 1 [8,43] Z (fS Z<|fS Z<|fN)<|Ef Z (lit (R:=(z03 u8R)) ([s3,a1]:List (List UInt8)) 1101 (pP Z Z<|pP Z Z<|pN) Z tu212 zuf Z Z) fun v14=>zl7 1101 [45] Z (fS Z<|fN)<|Zc [1001] [] Tryz.func148 Z (zff _) fun r15 n16=>Zm Z<|Zq (ext Z Z)<|Zq (ext Z Z)<|Eb Z (z5l 1102 z3v (.zr (R:=aZ) (x:=(Vector.replicate 32 0)) zfn)) fun v17=>Es (sto 1102 Z Z fH Z z3v)<|Zb Z<|gSR<|Zb Z<|z7r (fun (s18:UInt64) aa ww=>Sta (ctx 63 H [zG1] w) [(12,.rd z08 r15.2),(13,.rd z2x s18)] [zG1] aa ww) ?_ (fun s18=>?_)
   ·refine gSR<|z16r 1102 11 Z Z<|Zq (z19l (i:=0) (j:=8) Z .no (.to Z) tu54 ti5 (by decide) Z Z Z)<|Zq (z4f Z .rd Z tu94)<|Zm Z<|Zn<|z29 (fun (s19:UInt64 × Int) aa ww=>Sta (ctx 63 H [zG1] w) [(12,.rd z08 r15.2),(13,.rd z2x s19.1),(49,.rd (z03 u8R) ((r15.1.toList.drop 0).take 8)),(50,.rd z08 (((r15.1.toList.drop 0).take 8).length:Int)),(51,.rd z08 s19.2)] [zG1] aa ww) (fun aa ww h=>Zu h [1001]) (fun s19=>?_)
    refine gSR<|Zq (I.lss Z Z)<|Zn<|z0q<|gIf Z Z (fun h20=>?_) (fun h20=>?_)
    ·refine Zt<|z0q<|z5f<|gSR<|z0t fun x21 h22=>Zq (ixR Z Z h22 tu94 ti5 Z)<|Zq (ldR Z ty5)<|Zb Z<|z2g<|Zm Z<|Zq (U.shl Z Z (Int.natCast_nonneg _))<|Zm Z<|Zq (B.toU Z tu5 tu44)<|Zq (U.or Z Z)<|Za Z<|z27 13 Z fun y23=>z21<|z3l<|z0m<|z2g<|Zq (I.add Z Z)<|Zm Z<|z21<|z1m (fun aa ww h=>Zu h [1001])
    ·refine z1z<|z10<|z14<|z3p (fun aa ww h=>Zu h [1001])
   ·refine gSR<|Zm Z<|Zm Z<|Za Z<|Zb Z<|z0k<|Ze [] [1001] Z
def z9o (a0:UInt32) (a1:UInt32) (a2:List UInt8):Option (UInt32 × Int) :=
 zcy 99 a2 [a0,a1] >>= fun r2 =>
 if r2.2 != 0 then
  some (0,r2.2)
 else
  some ((r2.1 % 500000003).toUInt32) >>= fun y5 =>
  some (y5,0)
theorem zec (a0:UInt32) (a1:UInt32) (a2:List UInt8):z1u Tryz.prog 115 [.rd z0p a0,.rd z0p a1,.rd (z03 u8R) a2] [zG1] (z9o a0 a1 a2) (fun r nv=>⟨[.rd z0p r.1,.rd z08 r.2],[(1001,some (.bool true,.glob 1 (z3m 64 z0p) z5i))]⟩):=by
 refine z2f 24 Tryz.func115 Z Z Z fun H w=>?_;refine gSR<|Za Z<|Zb Z<|gSR<|Zm Z<|Zm Z<|Zm Z<|Ef Z (lit (R:=z0p) ([a0,a1]:List UInt32) 1 (pP Z Z<|pP Z Z<|pN) Z tu232 z60 Z Z) fun v1=>zl7 1 [14] Z (fS Z<|fN)<|Zc [1001] [] Tryz.func167 Z (zkt _ _ _) fun r2 n3=>Zm Z<|Zq (ext Z Z)<|Zq (ext Z Z)<|Za Z<|Zb Z<|z0q<|gSR<|Zm Z<|Zq (I.neq Z Z)<|Zj Z (fun h4=>?_) (fun h4=>?_)
 ·refine gSR<|Zm Z<|Za Z<|Zb Z<|z0k<|z0v<|Ze [] [1001] Z
 ·refine Zt<|gSR<|Zm Z<|Zq (U.rem Z Z (by decide))<|Zq (U.toW Z tu44 tu63)<|Za Z<|z27 6 Z fun y5=>Zb Z<|z0k<|Ze [] [1001] Z
def zew (a0:UInt32) (a1:List UInt8) (a2:z0c):Option (Int) :=
 zgq a0 >>= fun r2 =>
 if !r2 then
  some 2
 else
  if decide (9991<(a1.length:Int)) then
   some 4
  else
   if decide (500000003≤(max a2.E a2.S)) then
    some 22
   else
    zmm a0 (500000003 - a2.E.toUInt64) >>= fun r7 =>
    zb6 a2.S.toUInt64 >>= fun r9 =>
    zme r9 r7.1 >>= fun r11 =>
    z9o r11.1 a0 a1 >>= fun r13 =>
    if r13.2 != 0 then
     some 22
    else
     if r13.1 != a2.E then
      some 22
     else
      some 0
theorem znh (a0:UInt32) (a1:List UInt8) (a2:z0c):z1u Tryz.prog 89 [.rd z0p a0,.rd (z03 u8R) a1,.rd z0r a2] [zG1] (zew a0 a1 a2) (fun r nv=>⟨[.rd z08 r],[(1001,some (.bool true,.glob 1 (z3m 64 z0p) z5i))]⟩):=by
 refine z2f 58 Tryz.func89 Z Z Z fun H w=>?_;refine gSR<|Eb Z (bx 1 Z) fun v1=>Zb Z<|z0q<|gSR<|Zm Z<|Zc [] [] Tryz.func151 Z (zid _) fun r2 n3=>Zq (zgu Z)<|Zj Z (fun h4=>?_) (fun h4=>?_)
 ·refine gSR<|Zb Z<|z0k<|z0v<|Ze [] [1001] Z
 ·refine Zt<|z0q<|gSR<|Zm Z<|Zq (z4f Z .rd Z tu94)<|Zq (I.gtr Z Z)<|Zj Z (fun h5=>?_) (fun h5=>?_)
  ·refine gSR<|Zb Z<|z0k<|z0v<|Ze [] [1001] Z
  ·refine Zt<|z0q<|gSR<|Zq (faB 1 Z Z Tryz.underlying65 Z (by exact z60))<|Zq (ld 1 Z Z (fP (z4v _)) z9i Z)<|Zq (faB 1 Z Z Tryz.underlying65 Z (by exact z60))<|Zq (ld 1 Z Z (fP (z6c _)) z9i Z)<|Zq (W.max Z Z)<|Zq (W.geq Z Z)<|Zj Z (fun h6=>?_) (fun h6=>?_)
   ·refine gSR<|Zb Z<|z0k<|z0v<|Ze [] [1001] Z
   ·refine Zt<|gSR<|Zm Z<|Zq (faB 1 Z Z Tryz.underlying65 Z (by exact z60))<|Zq (ld 1 Z Z (fP (z4v _)) z9i Z)<|Zq (W.toU Z tu63 tu44)<|Zq (U.sub Z Z)<|Zc [] [] Tryz.func152 Z (zq5 _ _) fun r7 n8=>Zm Z<|Zq (ext Z Z)<|Zq (ext Z Z)<|Za Z<|Zb Z<|gSR<|Zq (faB 1 Z Z Tryz.underlying65 Z (by exact z60))<|Zq (ld 1 Z Z (fP (z6c _)) z9i Z)<|Zq (W.toU Z tu63 tu44)<|Zc [] [] Tryz.func108 Z (zet _) fun r9 n10=>Zm Z<|Zc [] [] Tryz.func153 Z (zqi _ _) fun r11 n12=>Zm Z<|Zq (ext Z Z)<|Zq (ext Z Z)<|Za Z<|Zb Z<|z0q<|gSR<|Zm Z<|Zm Z<|Zm Z<|Zc [1001] [] Tryz.func115 Z (zec _ _ _) fun r13 n14=>Zm Z<|Zq (ext Z Z)<|Zq (ext Z Z)<|Za Z<|Zb Z<|gSR<|Zm Z<|Zq (I.neq Z Z)<|Zm Z<|z28 52 Z (fun h15=>?_) (fun h15=>?_)
    ·refine lKn 51 Z h15<|Zk Z<|Zk Z<|Zk Z<|Zk Z<|Zq (pkT Z Z)<|Zn<|zdc Z<|gSR<|Zb Z<|z0k<|z0v<|Ze [] [1001] Z
    ·refine lKn 51 Z h15<|z1l Zx Z Z (mv Z)<|z1l Zx Z Z (faB 1 Z Z Tryz.underlying65 Z (by exact z60))<|z1l Zx Z Z (ld 1 Z Z (fP (z4v _)) z9i Z)<|z1l Zx Z Z (W.neq Z Z)<|Zq (pkF Z Z)<|Zj Z (fun h16=>?_) (fun h16=>?_)
     ·refine gKn 56 Z h16<|gSR<|Zb Z<|z0k<|z0v<|Ze [] [1001] Z
     ·refine gKn 56 Z h16<|Zt<|gSR<|Zb Z<|z0k<|Ze [] [1001] Z
def zge (a0:z0a):Option (Int) :=
 zfc a0 >>= fun r2 =>
 if r2 != 0 then
  some r2
 else
  zbf a0 >>= fun r5 =>
  zew a0.Author r5.1 a0.Sig >>= fun r7 =>
  some r7
theorem zkh (a0:z0a):z1u Tryz.prog 47 [.rd z04 a0] [zG1] (zge a0) (fun r nv=>⟨[.rd z08 r],[(1001,some (.bool true,.glob 1 (z3m 64 z0p) z5i))]⟩):=by
 refine z2f 22 Tryz.func47 Z Z Z fun H w=>?_;refine gSR<|Eb Z (bx 1 Z) fun v1=>Zb Z<|z0q<|gSR<|Zq (ld 1 Z Z fH zeb Z)<|Zc [] [] Tryz.func88 Z (zi9 _) fun r2 n3=>Zb Z<|gSR<|Zm Z<|Zq (I.neq Z Z)<|Zj Z (fun h4=>?_) (fun h4=>?_)
 ·refine gSR<|Zm Z<|Zb Z<|z0k<|z0v<|Ze [] [1001] Z
 ·refine Zt<|gSR<|Zq (ld 1 Z Z fH zeb Z)<|Zc [] [(100,2)] Tryz.func61 Z (zf2 _) fun r5 n6=>Zm Z<|Zq (ext Z Z)<|Zq (ext Z Z)<|Za Z<|Zb Z<|gSR<|Zq (faB 1 Z Z Tryz.underlying67 Z (by exact z60))<|Zq (ld 1 Z Z (fP (z56 _)) z9i Z)<|Zm Z<|Zq (faB 1 Z Z Tryz.underlying67 Z (by exact znj))<|Zq (ld 1 Z Z (fP (z3z _)) ty65 Z)<|zl7 2 [14,4,18] Z (fS Z<|fS Z<|fS Z<|fN)<|Zc [1001] [] Tryz.func89 Z (znh _ _ _) fun r7 n8=>Zb Z<|z0k<|Ze [] [1001] Z
def z5d (s4:UInt64 × (List UInt8)):Option (Sum ((List UInt8)) (UInt64 × (List UInt8))) :=
 if decide (0<s4.1) then
  app 1 s4.2 [(s4.1 % 256).toUInt8] >>= fun x8 =>
  some (.inr (s4.1 / 256,x8))
 else
  some (.inl s4.2)
def z5a (s3:(List UInt8)) (s15:(List UInt8) × Int):Option (Sum ((List UInt8)) ((List UInt8) × Int)) :=
 if decide (0≤s15.2) then
  idx s3 s15.2 >>= fun x18 =>
  app 1 s15.1 [x18] >>= fun x21 =>
  some (w64 (s15.2 - 1)) >>= fun y24 =>
  some (.inr (x21,y24))
 else
  some (.inl s15.1)
def z2n (a0:UInt64):Option ((List UInt8)) :=
 if decide (a0≤247) then
  some [a0.toUInt8]
 else
  (iter (z5d) (a0,[])) >>= fun s3 =>
  (some (w64 ((s3.length:Int) - 1)) >>= fun y14 =>
  iter (z5a s3) ([UInt8.ofInt (w64 (247+(s3.length:Int)))],y14)) >>= fun s13 =>
  some s13
theorem z3b (a0:UInt64):z1u Tryz.prog 76 [.rd z2x a0] [] (z2n a0) (fun r nv=>⟨[.val (nv 0)],[(100,some (nv 0,.list u8R 5 r))]⟩):=by
 refine z2f 41 Tryz.func76 Z Z Z fun H w=>?_;refine gSR<|Zb Z<|z0q<|gSR<|Zm Z<|Zq (U.leq Z Z)<|Zj Z (fun h1=>?_) (fun h1=>?_)
 ·refine gSR<|Zm Z<|Zq (U.toB Z tu44 tu5)<|Ef Z (lit (R:=u8R) ([a0.toUInt8]:List UInt8) 1 (pP Z Z<|pN) Z tu94 ti5 Z Z) fun v2=>Zb Z<|z0k<|z0v<|Ze [v2] [1] Z
 ·refine Zt<|gSR<|Zb Z<|z7r (fun (s3:(List UInt8)) aa ww=>∃ nv:Nat→Value,Sta (ctx 41 H [] w) [(3,.val (nv 0))] [(3,some ((nv 0),.list u8R 5 s3))] aa ww) ?_ (fun s3=>?_)
  ·refine zyo u8R 5 6<|z29 (fun (s4:UInt64 × (List UInt8)) aa ww=>∃ nv:Nat→Value,Sta (ctx 41 H [] w) [(0,.rd z2x s4.1),(3,.val (nv 0))] [(5,some ((nv 0),.list u8R 5 s4.2))] aa ww) (fun aa ww h=>⟨nvl [(.slice none 0 0)],Zu h [6]⟩) (fun s4=>?_);refine gEx fun n5=>z0q<|gSR<|Zm Z<|Zq (U.gtr Z Z)<|Zj Z (fun h6=>?_) (fun h6=>?_)
   ·refine Zt<|z5f<|gSR<|Zm Z<|Zm Z<|Zq (U.rem Z Z (by decide))<|Zq (U.toB Z tu44 tu5)<|Ef Z (lit (R:=u8R) ([(s4.1 % 256).toUInt8]:List UInt8) 7 (pP Z Z<|pN) Z tu94 ti5 Z Z) fun v7=>z0t fun x8 h9=>Ef Z (apn 5 Z Z Z (.own 7 Z) h9 tu94 ti5 Z Z Z) fun v10=>Zb Z<|z2g<|Zm Z<|Zq (U.quo Z Z (by decide))<|Za Z<|z21<|z3l<|z1m (fun aa ww h=>⟨nvl [v10],Zu h [5]⟩)
   ·refine z1z<|z10<|z14<|z3p (fun aa ww h=>⟨nvl [(n5 0)],Zu h [5]⟩)
  ·refine gEx fun n11=>gSR<|Zm Z<|Zq (z4f Z (.own 3 Z) Z tu94)<|Zq (I.add Z Z)<|Zq (I.toB Z tu3 tu5)<|Ef Z (lit (R:=u8R) ([UInt8.ofInt (w64 (247+(s3.length:Int)))]:List UInt8) 8 (pP Z Z<|pN) Z tu94 ti5 Z Z) fun v12=>Zb Z<|z7r (fun (s13:(List UInt8)) aa ww=>∃ nv:Nat→Value,Sta (ctx 41 H [] w) [(4,.val (nv 0))] [(8,some ((nv 0),.list u8R 5 s13))] aa ww) ?_ (fun s13=>?_)
   ·refine gSR<|Zm Z<|Zq (z4f Z (.own 3 Z) Z tu94)<|Zq (I.sub Z Z)<|Za Z<|z27 5 Z fun y14=>Zn<|z29 (fun (s15:(List UInt8) × Int) aa ww=>∃ nv:Nat→Value,Sta (ctx 41 H [] w) [(3,.val (n11 0)),(4,.val (nv 0)),(5,.rd z08 s15.2)] [(3,some ((n11 0),.list u8R 5 s3)),(8,some ((nv 0),.list u8R 5 s15.1))] aa ww) (fun aa ww h=>⟨nvl [v12],Zu h [3,8]⟩) (fun s15=>?_);refine gEx fun n16=>z0q<|gSR<|Zm Z<|Zq (I.geq Z Z)<|Zj Z (fun h17=>?_) (fun h17=>?_)
    ·refine Zt<|z0q<|z5f<|z2g<|Zm Z<|Zm Z<|Zm Z<|z0t fun x18 h19=>Zq (ixO 3 Z Z Z h19 tu94 ti5)<|Zq (ld 3 Z Z (Foc.el h19) ty5 Z)<|Ef Z (lit (R:=u8R) ([x18]:List UInt8) 9 (pP Z Z<|pN) Z tu94 ti5 Z Z) fun v20=>z0t fun x21 h22=>Ef Z (apn 8 Z Z Z (.own 9 Z) h22 tu94 ti5 Z Z Z) fun v23=>Za Z<|z21<|z3l<|z0m<|z2g<|Zm Z<|Zq (I.sub Z Z)<|Za Z<|z27 5 Z fun y24=>z21<|z1m (fun aa ww h=>⟨nvl [v23],Zu h [3,8]⟩)
    ·refine z1z<|z10<|z14<|z3p (fun aa ww h=>⟨nvl [(n16 0)],Zu h [8]⟩)
   ·refine gEx fun n25=>gSR<|Zm Z<|Zb Z<|z0k<|Ze [(n25 0)] [8] Z
def z6n (a0:List V3) (s4:(List UInt8) × Int):Option (Sum ((List UInt8)) ((List UInt8) × Int)) :=
 if decide (s4.2<(a0.length:Int)) then
  idx a0 s4.2 >>= fun x7 =>
  app 1 s4.1 x7.toList >>= fun x9 =>
  some (w64 (s4.2+1)) >>= fun y12 =>
  some (.inr (x9,y12))
 else
  some (.inl s4.1)
def zaq (a0:List V3):Option ((List UInt8)) :=
 z2n (UInt64.ofInt (a0.length:Int)) >>= fun r1 =>
 (iter (z6n a0) (r1,0)) >>= fun s3 =>
 some s3
theorem zj2 (a0:List V3):z1u Tryz.prog 130 [.rd (z03 aZ) a0] [] (zaq a0) (fun r nv=>⟨[.val (nv 0)],[(100,some (nv 0,.list u8R 5 r))]⟩):=by
 refine z2f 22 Tryz.func130 Z Z Z fun H w=>?_;refine gSR<|Zb Z<|gSR<|Zm Z<|Zq (z4f Z .rd Z tu22)<|Zq (I.toU Z tu3 tu44)<|Zc [] [(100,1)] Tryz.func76 Z (z3b _) fun r1 n2=>Zb Z<|z7r (fun (s3:(List UInt8)) aa ww=>∃ nv:Nat→Value,Sta (ctx 22 H [] w) [(3,.val (nv 0))] [(1,some ((nv 0),.list u8R 5 s3))] aa ww) ?_ (fun s3=>?_)
 ·refine gSR<|Zb Z<|z29 (fun (s4:(List UInt8) × Int) aa ww=>∃ nv:Nat→Value,Sta (ctx 22 H [] w) [(0,.rd (z03 aZ) a0),(3,.val (nv 0)),(4,.rd z08 s4.2)] [(1,some ((nv 0),.list u8R 5 s4.1))] aa ww) (fun aa ww h=>⟨nvl [(n2 0)],Zu h [1]⟩) (fun s4=>?_);refine gEx fun n5=>z0q<|gSR<|Zm Z<|Zm Z<|Zq (z4f Z .rd Z tu22)<|Zq (I.lss Z Z)<|Zj Z (fun h6=>?_) (fun h6=>?_)
  ·refine Zt<|z0q<|z5f<|z2g<|Zm Z<|Zm Z<|Zm Z<|z0t fun x7 h8=>Zq (ixR Z Z h8 tu22 z3v Z)<|Zq (cutV Z tu54 ti5 Z Z Z)<|z0t fun x9 h10=>Ef Z (apn 1 Z Z Z .rd h10 tu94 ti5 Z Z Z) fun v11=>Za Z<|z21<|z3l<|z0m<|z2g<|Zm Z<|Zq (I.add Z Z)<|Za Z<|z27 4 Z fun y12=>z21<|z1m (fun aa ww h=>⟨nvl [v11],Zu h [1]⟩)
  ·refine z1z<|z10<|z14<|z3p (fun aa ww h=>⟨nvl [(n5 0)],Zu h [1]⟩)
 ·refine gEx fun n13=>gSR<|Zm Z<|Zb Z<|z0k<|Ze [(n13 0)] [1] Z
def z7k (a0:List UInt8):Option ((List UInt8)) :=
 z2n (UInt64.ofInt (a0.length:Int)) >>= fun r1 =>
 app 1 r1 a0 >>= fun x3 =>
 some x3
theorem zds (a0:List UInt8):z1u Tryz.prog 131 [.rd (z03 u8R) a0] [] (z7k a0) (fun r nv=>⟨[.val (nv 0)],[(100,some (nv 0,.list u8R 5 r))]⟩):=by
 refine z2f 9 Tryz.func131 Z Z Z fun H w=>?_;refine gSR<|Zb Z<|gSR<|Zm Z<|Zq (z4f Z .rd Z tu94)<|Zq (I.toU Z tu3 tu44)<|Zc [] [(100,1)] Tryz.func76 Z (z3b _) fun r1 n2=>Zm Z<|z0t fun x3 h4=>Ef Z (apn 1 Z Z Z .rd h4 tu94 ti5 Z Z Z) fun v5=>Zb Z<|z0k<|Ze [v5] [1] Z
def z8v (a0:Int):Option ((List UInt8)) :=
 if decide (0≤a0) then
  z2n (2 * (UInt64.ofInt a0)) >>= fun r2 =>
  some r2
 else
  z2n ((2 * (UInt64.ofInt (w64 (0 - (w64 (a0+1))))))+1) >>= fun r4 =>
  some r4
theorem zh4 (a0:Int):z1u Tryz.prog 176 [.rd z08 a0] [] (z8v a0) (fun r nv=>⟨[.val (nv 0)],[(100,some (nv 0,.list u8R 5 r))]⟩):=by
 refine z2f 16 Tryz.func176 Z Z Z fun H w=>?_;refine gSR<|Zb Z<|z0q<|gSR<|Zm Z<|Zq (I.geq Z Z)<|Zj Z (fun h1=>?_) (fun h1=>?_)
 ·refine gSR<|Zm Z<|Zq (I.toU Z Tryz.underlying2 tu44)<|Zq (U.mul Z Z)<|Zc [] [(100,1)] Tryz.func76 Z (z3b _) fun r2 n3=>Zb Z<|z0k<|z0v<|Ze [(n3 0)] [1] Z
 ·refine Zt<|gSR<|Zm Z<|Zq (I.add Z Z)<|Zq (I.neg Z)<|Zq (I.toU Z Tryz.underlying2 tu44)<|Zq (U.mul Z Z)<|Zq (U.add Z Z)<|Zc [] [(100,2)] Tryz.func76 Z (z3b _) fun r4 n5=>Zb Z<|z0k<|Ze [(n5 0)] [2] Z
def z5k (a0:z02) (s11:(List UInt8) × Int):Option (Sum ((List UInt8)) ((List UInt8) × Int)) :=
 if decide (0≤s11.2) then
  chk (0≤w64 (8 * s11.2)) >>= fun u14 =>
  app 1 s11.1 [(z71 a0.Bits ((w64 (8 * s11.2):Int).toNat)).toUInt8] >>= fun x17 =>
  some (w64 (s11.2 - 1)) >>= fun y20 =>
  some (.inr (x17,y20))
 else
  some (.inl s11.1)
def z9r (a0:z02):Option ((List UInt8)) :=
 if a0.Kind==1 then
  z8v a0.Num >>= fun r4 =>
  app 1 [a0.Kind] r4 >>= fun x6 =>
  some x6
 else
  if a0.Kind==2 then
   (iter (z5k a0) ([a0.Kind],7)) >>= fun s10 =>
   some s10
  else
   chk (a0.Text.length≤281474976710656) >>= fun u22 =>
   z7k a0.Text >>= fun r24 =>
   app 1 [a0.Kind] r24 >>= fun x26 =>
   some x26
theorem zi6 (a0:z02):z1u Tryz.prog 132 [.rd z0d a0] [] (z9r a0) (fun r nv=>⟨[.val (nv 0)],[(100,some (nv 0,.list u8R 5 r))]⟩):=by
 refine z2f 39 Tryz.func132 Z Z Z fun H w=>?_;refine gSR<|Eb Z (bx 1 Z) fun v1=>Zb Z<|gSR<|Zq (faB 1 Z Z Tryz.underlying46 Z (by exact ti5))<|Zq (ld 1 Z Z (fP (z2m _)) ty5 Z)<|Ef Z (lit (R:=u8R) ([a0.Kind]:List UInt8) 2 (pP Z Z<|pN) Z tu94 ti5 Z Z) fun v2=>Zb Z<|z0q<|gSR<|Zq (faB 1 Z Z Tryz.underlying46 Z (by exact ti5))<|Zq (ld 1 Z Z (fP (z2m _)) ty5 Z)<|Zn<|z5f<|gSR<|Zq (B.eql Z Z)<|Zb Z<|gIf Z Z (fun h3=>?_) (fun h3=>?_)
 ·refine gKn 11 Z h3<|gSR<|Zm Z<|Zq (faB 1 Z Z Tryz.underlying46 Z (by exact ti2))<|Zq (ld 1 Z Z (fP (z57 _)) ty2 Z)<|Zc [] [(100,3)] Tryz.func176 Z (zh4 _) fun r4 n5=>z0t fun x6 h7=>Ef Z (apn 2 Z Z Z (.own 3 Z) h7 tu94 ti5 Z Z Z) fun v8=>Zb Z<|z0k<|z4p<|z0v<|Ze [v8] [2] Z
 ·refine gKn 11 Z h3<|gSR<|Zq (B.eql Z Z)<|Zb Z<|gIf Z Z (fun h9=>?_) (fun h9=>?_)
  ·refine gKn 18 Z h9<|z7r (fun (s10:(List UInt8)) aa ww=>∃ nv:Nat→Value,Sta (ctx 39 H [] w) [(3,.val (nv 0))] [(2,some ((nv 0),.list u8R 5 s10))] aa ww) ?_ (fun s10=>?_)
   ·refine gSR<|Zb Z<|z29 (fun (s11:(List UInt8) × Int) aa ww=>∃ nv:Nat→Value,Sta (ctx 39 H [] w) [(1,.val (z05 v1 0)),(3,.val (nv 0)),(4,.rd z08 s11.2)] [(1,some (v1,.box 46 [.rd z0d a0])),(2,some ((nv 0),.list u8R 5 s11.1))] aa ww) (fun aa ww h=>⟨nvl [v2],Zu h [1,2]⟩) (fun s11=>?_);refine gEx fun n12=>z0q<|gSR<|Zm Z<|Zq (I.geq Z Z)<|Zj Z (fun h13=>?_) (fun h13=>?_)
    ·refine Zt<|z0q<|z5f<|z2g<|Zm Z<|Zq (faB 1 Z Z Tryz.underlying46 Z (by exact zp4))<|Zq (ld 1 Z Z (fP (z44 _)) znt Z)<|Zm Z<|Zq (I.mul Z Z)<|z0t fun u14 h15=>Zq (U.shr Z Z (z5h h15))<|Zq (U.toB Z tu44 tu5)<|Ef Z (lit (R:=u8R) ([(z71 a0.Bits ((w64 (8 * s11.2):Int).toNat)).toUInt8]:List UInt8) 4 (pP Z Z<|pN) Z tu94 ti5 Z Z) fun v16=>z0t fun x17 h18=>Ef Z (apn 2 Z Z Z (.own 4 Z) h18 tu94 ti5 Z Z Z) fun v19=>Za Z<|z21<|z3l<|z0m<|z2g<|Zm Z<|Zq (I.sub Z Z)<|Za Z<|z27 4 Z fun y20=>z21<|z1m (fun aa ww h=>⟨nvl [v19],Zu h [1,2]⟩)
    ·refine z1z<|z10<|z14<|z3p (fun aa ww h=>⟨nvl [(n12 0)],Zu h [2]⟩)
   ·refine gEx fun n21=>gSR<|Zm Z<|Zb Z<|z0k<|z4p<|z0v<|Ze [(n21 0)] [2] Z
  ·refine gKn 18 Z h9<|z38<|z3l<|z0m<|gSR<|Zm Z<|Zq (faB 1 Z Z Tryz.underlying46 Z (by exact ti9))<|Zq (ld 1 Z Z (fP (z3o _)) ty9 Z)<|z0t fun u22 h23=>z116 Z Z h23 tu9 tu94 tu5<|Zc [] [(100,5)] Tryz.func131 Z (zds _) fun r24 n25=>z0t fun x26 h27=>Ef Z (apn 2 Z Z Z (.own 5 Z) h27 tu94 ti5 Z Z Z) fun v28=>Zb Z<|z0k<|Ze [v28] [2] Z
def z8n (a0:z0a):Option ((List UInt8)) :=
 z2n a0.Author.toUInt64 >>= fun r3 =>
 app 1 [111] r3 >>= fun x5 =>
 zaq a0.Preds >>= fun r8 =>
 app 1 x5 r8 >>= fun x10 =>
 z2n a0.Stamp >>= fun r13 =>
 app 1 x10 r13 >>= fun x15 =>
 app 1 x15 [a0.Act.Kind] >>= fun x19 =>
 (if a0.Act.Kind != 1 then
  chk (a0.Act.Key.length≤281474976710656) >>= fun u24 =>
  z7k a0.Act.Key >>= fun r26 =>
  app 1 x19 r26 >>= fun x28 =>
  some x28
 else
  some x19) >>= fun s22 =>
 if a0.Act.Kind==4 then
  z9r a0.Act.Value >>= fun r33 =>
  app 1 s22 r33 >>= fun x35 =>
  some x35
 else
  some s22
theorem zdu (a0:z0a):z1u Tryz.prog 71 [.rd z04 a0] [] (z8n a0) (fun r nv=>⟨[.val (nv 0)],[(100,some (nv 0,.list u8R 5 r))]⟩):=by
 refine z2f 47 Tryz.func71 Z Z Z fun H w=>?_;refine gSR<|Eb Z (bx 1 Z) fun v1=>Zb Z<|gSR<|Ef Z (lit (R:=u8R) ([111]:List UInt8) 2 (pP Z Z<|pN) Z tu94 ti5 Z Z) fun v2=>Zq (faB 1 Z Z Tryz.underlying67 Z (by exact z60))<|Zq (ld 1 Z Z (fP (z56 _)) z9i Z)<|Zq (W.toU Z tu63 tu44)<|Zc [] [(100,3)] Tryz.func76 Z (z3b _) fun r3 n4=>z0t fun x5 h6=>Ef Z (apn 2 Z Z Z (.own 3 Z) h6 tu94 ti5 Z Z Z) fun v7=>Zb Z<|z0q<|z6l [2,13,25] mixed Z Z<|hTk 0 Z Z (mv Z)<|hTk 1 Z Z (faB 1 Z Z Tryz.underlying67 Z (by exact zb4))<|hTk 2 Z Z (ld 1 Z Z (fP (z1b _)) zbp Z)<|hTk 5 Z Z (faB 1 Z Z Tryz.underlying67 Z (by exact zp4))<|hTk 6 Z Z (ld 1 Z Z (fP (z3u _)) znt Z)<|z2v 3 [] [(100,13)] Z (by kernel_rfl) Z (gd0 Z) Z Tryz.func130 Z Z (zj2 _) (Y1 Z) rN Z (fun _ _=>z37) fun r8 n9=>z5g fun x10 h11=>Zo 4 Z Z Z (apn 2 Z Z Z (.own 13 Z) h11 tu94 ti5 Z Z Z) fun v12=>z2v 7 [] [(100,25)] Z (by kernel_rfl) Z (gd0 Z) Z Tryz.func76 Z Z (z3b _) (Y1 Z) rN Z (fun _ _=>z37) fun r13 n14=>z5g fun x15 h16=>Zo 8 Z Z Z (apn 2 Z Z Z (.own 25 Z) h16 tu94 ti5 Z Z Z) fun v17=>Zf 9 Z Z z37 (asg Z)<|z3e (by kernel_rfl)<|z0m<|gSR<|Zm Z<|Zq (faB 1 Z Z Tryz.underlying67 Z (by exact ze9))<|Zq (faB 1 Z Z Tryz.underlying52 Z (by exact ti5))<|Zq (ld 1 Z Z ((fP (z0w _)).part (z15 _)) ty5 Z)<|Ef Z (lit (R:=u8R) ([a0.Act.Kind]:List UInt8) 37 (pP Z Z<|pN) Z tu94 ti5 Z Z) fun v18=>z0t fun x19 h20=>Ef Z (apn 2 Z Z Z (.own 37 Z) h20 tu94 ti5 Z Z Z) fun v21=>Zb Z<|z7r (fun (s22:(List UInt8)) aa ww=>∃ nv:Nat→Value,Sta (ctx 47 H [] w) [(1,.val (z05 v1 0)),(3,.val (nv 0))] [(1,some (v1,.box 67 [.rd z04 a0])),(2,some ((nv 0),.list u8R 5 s22))] aa ww) ?_ (fun s22=>?_)
 ·refine gSR<|Zq (faB 1 Z Z Tryz.underlying67 Z (by exact ze9))<|Zq (faB 1 Z Z Tryz.underlying52 Z (by exact ti5))<|Zq (ld 1 Z Z ((fP (z0w _)).part (z15 _)) ty5 Z)<|Zq (B.neq Z Z)<|Zj Z (fun h23=>?_) (fun h23=>?_)
  ·refine z2g<|Zm Z<|Zq (faB 1 Z Z Tryz.underlying67 Z (by exact ze9))<|Zq (faB 1 Z Z Tryz.underlying52 Z (by exact ti9))<|Zq (ld 1 Z Z ((fP (z0w _)).part (z1i _)) ty9 Z)<|z0t fun u24 h25=>z116 Z Z h25 tu9 tu94 tu5<|Zc [] [(100,38)] Tryz.func131 Z (zds _) fun r26 n27=>z0t fun x28 h29=>Ef Z (apn 2 Z Z Z (.own 38 Z) h29 tu94 ti5 Z Z Z) fun v30=>Za Z<|z21<|z3p (fun aa ww h=>⟨nvl [v30],Zu h [1,2]⟩)
  ·refine z38<|z3p (fun aa ww h=>⟨nvl [v21],Zu h [1,2]⟩)
 ·refine gEx fun n31=>z0q<|gSR<|Zq (faB 1 Z Z Tryz.underlying67 Z (by exact ze9))<|Zq (faB 1 Z Z Tryz.underlying52 Z (by exact ti5))<|Zq (ld 1 Z Z ((fP (z0w _)).part (z15 _)) ty5 Z)<|Zq (B.eql Z Z)<|Zj Z (fun h32=>?_) (fun h32=>?_)
  ·refine z2g<|Zm Z<|Zq (faB 1 Z Z Tryz.underlying67 Z (by exact ze9))<|Zq (faB 1 Z Z Tryz.underlying52 Z (by exact zad))<|Zq (ld 1 Z Z ((fP (z0w _)).part (z33 _)) zh5 Z)<|Zc [] [(100,39)] Tryz.func132 Z (zi6 _) fun r33 n34=>z0t fun x35 h36=>Ef Z (apn 2 Z Z Z (.own 39 Z) h36 tu94 ti5 Z Z Z) fun v37=>Zb Z<|gSR<|Zm Z<|Zb Z<|z0k<|Ze [v37] [2] Z
  ·refine Zt<|gSR<|Zm Z<|Zb Z<|z0k<|Ze [(n31 0)] [2] Z
def z9v (a0:z0a):Option ((List UInt8)) :=
 z8n a0 >>= fun r2 =>
 z2n a0.Sig.E.toUInt64 >>= fun r4 =>
 app 1 r2 r4 >>= fun x6 =>
 z2n a0.Sig.S.toUInt64 >>= fun r9 =>
 app 1 x6 r9 >>= fun x11 =>
 some x11
theorem zib (a0:z0a):z1u Tryz.prog 36 [.rd z04 a0] [] (z9v a0) (fun r nv=>⟨[.val (nv 0)],[(100,some (nv 0,.list u8R 5 r))]⟩):=by
 refine z2f 17 Tryz.func36 Z Z Z fun H w=>?_;refine gSR<|Eb Z (bx 1 Z) fun v1=>Zb Z<|z0q<|z6l [5,20,38] mixed Z Z<|hTk 0 Z Z (ld 1 Z Z fH zeb Z)<|hTk 2 Z Z (faB 1 Z Z Tryz.underlying67 Z (by exact znj))<|hTk 3 Z Z (faB 1 Z Z Tryz.underlying65 Z (by exact z60))<|hTk 4 Z Z (ld 1 Z Z ((fP (z3z _)).part (z4v _)) z9i Z)<|hTk 5 Z Z (W.toU Z tu63 tu44)<|hTk 8 Z Z (faB 1 Z Z Tryz.underlying67 Z (by exact znj))<|hTk 9 Z Z (faB 1 Z Z Tryz.underlying65 Z (by exact z60))<|hTk 10 Z Z (ld 1 Z Z ((fP (z3z _)).part (z6c _)) z9i Z)<|hTk 11 Z Z (W.toU Z tu63 tu44)<|z2v 1 [] [(100,5)] Z (by kernel_rfl) Z (gd0 Z) Z Tryz.func71 Z Z (zdu _) (Y1 Z) rN Z (fun _ _=>z37) fun r2 n3=>z2v 6 [] [(100,20)] Z (by kernel_rfl) Z (gd0 Z) Z Tryz.func76 Z Z (z3b _) (Y1 Z) rN Z (fun _ _=>z37) fun r4 n5=>z5g fun x6 h7=>Zo 7 Z Z Z (apn 5 Z Z Z (.own 20 Z) h7 tu94 ti5 Z Z Z) fun v8=>z2v 12 [] [(100,38)] Z (by kernel_rfl) Z (gd0 Z) Z Tryz.func76 Z Z (z3b _) (Y1 Z) rN Z (fun _ _=>z37) fun r9 n10=>z5g fun x11 h12=>Zo 13 Z Z Z (apn 5 Z Z Z (.own 38 Z) h12 tu94 ti5 Z Z Z) fun v13=>Zf 14 Z Z z37 (asg Z)<|z3e (by kernel_rfl)<|z0m<|z0k<|Ze [v13] [5] Z
def zbv  : Option ((Vector UInt32 8)) :=
 some (#v[1779033703,3144134277,1013904242,2773480762,1359893119,2600822924,528734635,1541459225]:Vector UInt32 8)
theorem zi1  : z1u Tryz.prog 74 [] [] (zbv) (fun r nv=>⟨[.rd (z3m 8 z0p) r],[]⟩):=by
 refine z2f 2 Tryz.func74 Z Z Z fun H w=>?_;refine gSR<|Eb Z (z5l 1 zhd (.zr (R:=(z3m 8 z0p)) (x:=(Vector.replicate 8 0)) zs5)) fun v1=>Zn<|gSR<|Zq (litA (R:=z0p) [1779033703,3144134277,1013904242,2773480762,1359893119,2600822924,528734635,1541459225] (#v[1779033703,3144134277,1013904242,2773480762,1359893119,2600822924,528734635,1541459225]:Vector UInt32 8) (pP Z Z<|pP Z Z<|pP Z Z<|pP Z Z<|pP Z Z<|pP Z Z<|pP Z Z<|pP Z Z<|pN) Z tu143 zhd Z z60)<|Es (sto 1 Z Z fH Z zhd)<|Zn<|z0k<|zaz [] [] Z (eC 1 Z Z zrq<|eN) (rN)
def z6k (a0:Int) (s3:(List UInt8)):Option (Sum ((List UInt8)) ((List UInt8))) :=
 if (Int.tmod (w64 ((w64 (a0+(s3.length:Int)))+8)) 64) != 0 then
  app 1 s3 [0] >>= fun x7 =>
  some (.inr x7)
 else
  some (.inl s3)
def z6o (a0:Int) (s12:(List UInt8) × Int):Option (Sum ((List UInt8)) ((List UInt8) × Int)) :=
 if decide (0≤s12.2) then
  chk (0≤w64 (8 * s12.2)) >>= fun u15 =>
  app 1 s12.1 [(z71 (8 * (UInt64.ofInt a0)) ((w64 (8 * s12.2):Int).toNat)).toUInt8] >>= fun x18 =>
  some (w64 (s12.2 - 1)) >>= fun y21 =>
  some (.inr (x18,y21))
 else
  some (.inl s12.1)
def zak (a0:Int):Option ((List UInt8)) :=
 (iter (z6k a0) [128]) >>= fun s2 =>
 (iter (z6o a0) (s2,7)) >>= fun s11 =>
 some s11
theorem zju (a0:Int):z1u Tryz.prog 75 [.rd z08 a0] [] (zak a0) (fun r nv=>⟨[.val (nv 0)],[(100,some (nv 0,.list u8R 5 r))]⟩):=by
 refine z2f 31 Tryz.func75 Z Z Z fun H w=>?_;refine gSR<|Zb Z<|gSR<|Ef Z (lit (R:=u8R) ([128]:List UInt8) 1 (pP Z Z<|pN) Z tu94 ti5 Z Z) fun v1=>Zb Z<|z7r (fun (s2:(List UInt8)) aa ww=>∃ nv:Nat→Value,Sta (ctx 31 H [] w) [(0,.rd z08 a0),(3,.val (nv 0))] [(1,some ((nv 0),.list u8R 5 s2))] aa ww) ?_ (fun s2=>?_)
 ·refine z29 (fun (s3:(List UInt8)) aa ww=>∃ nv:Nat→Value,Sta (ctx 31 H [] w) [(0,.rd z08 a0),(3,.val (nv 0))] [(1,some ((nv 0),.list u8R 5 s3))] aa ww) (fun aa ww h=>⟨nvl [v1],Zu h [1]⟩) (fun s3=>?_);refine gEx fun n4=>z0q<|gSR<|Zm Z<|Zm Z<|Zq (z4f Z (.own 1 Z) Z tu94)<|Zq (I.add Z Z)<|Zq (I.add Z Z)<|Zq (I.rem Z Z (by decide))<|Zq (I.neq Z Z)<|Zj Z (fun h5=>?_) (fun h5=>?_)
  ·refine Zt<|z5f<|z2g<|Zm Z<|Ef Z (lit (R:=u8R) ([0]:List UInt8) 2 (pP Z Z<|pN) Z tu94 ti5 Z Z) fun v6=>z0t fun x7 h8=>Ef Z (apn 1 Z Z Z (.own 2 Z) h8 tu94 ti5 Z Z Z) fun v9=>Za Z<|z21<|z3l<|z1m (fun aa ww h=>⟨nvl [v9],Zu h [1]⟩)
  ·refine z1z<|z10<|z14<|z3p (fun aa ww h=>⟨nvl [(n4 0)],Zu h [1]⟩)
 ·refine gEx fun n10=>z7r (fun (s11:(List UInt8)) aa ww=>∃ nv:Nat→Value,Sta (ctx 31 H [] w) [(3,.val (nv 0))] [(1,some ((nv 0),.list u8R 5 s11))] aa ww) ?_ (fun s11=>?_)
  ·refine gSR<|Zb Z<|z29 (fun (s12:(List UInt8) × Int) aa ww=>∃ nv:Nat→Value,Sta (ctx 31 H [] w) [(0,.rd z08 a0),(3,.val (nv 0)),(4,.rd z08 s12.2)] [(1,some ((nv 0),.list u8R 5 s12.1))] aa ww) (fun aa ww h=>⟨nvl [(n10 0)],Zu h [1]⟩) (fun s12=>?_);refine gEx fun n13=>z0q<|gSR<|Zm Z<|Zq (I.geq Z Z)<|Zj Z (fun h14=>?_) (fun h14=>?_)
   ·refine Zt<|z0q<|z5f<|z2g<|Zm Z<|Zm Z<|Zq (I.toU Z tu3 tu44)<|Zq (U.mul Z Z)<|Zm Z<|Zq (I.mul Z Z)<|z0t fun u15 h16=>Zq (U.shr Z Z (z5h h16))<|Zq (U.toB Z tu44 tu5)<|Ef Z (lit (R:=u8R) ([(z71 (8 * (UInt64.ofInt a0)) ((w64 (8 * s12.2):Int).toNat)).toUInt8]:List UInt8) 3 (pP Z Z<|pN) Z tu94 ti5 Z Z) fun v17=>z0t fun x18 h19=>Ef Z (apn 1 Z Z Z (.own 3 Z) h19 tu94 ti5 Z Z Z) fun v20=>Za Z<|z21<|z3l<|z0m<|z2g<|Zm Z<|Zq (I.sub Z Z)<|Za Z<|z27 4 Z fun y21=>z21<|z1m (fun aa ww h=>⟨nvl [v20],Zu h [1]⟩)
   ·refine z1z<|z10<|z14<|z3p (fun aa ww h=>⟨nvl [(n13 0)],Zu h [1]⟩)
  ·refine gEx fun n22=>gSR<|Zm Z<|Zb Z<|z0k<|Ze [(n22 0)] [1] Z
def z2p (a0:UInt32) (a1:Int):Option (UInt32) :=
 chk (0≤a1) >>= fun u1 =>
 chk (0≤w64 (32 - a1)) >>= fun u3 =>
 some ((z4m a0 ((a1:Int).toNat)) ||| (zof a0 ((w64 (32 - a1):Int).toNat))) >>= fun y5 =>
 some y5
theorem z2u (a0:UInt32) (a1:Int):z1u Tryz.prog 177 [.rd z0p a0,.rd z08 a1] [] (z2p a0 a1) (fun r nv=>⟨[.rd z0p r],[]⟩):=by
 refine z2f 13 Tryz.func177 Z Z Z fun H w=>?_;refine gSR<|Zb Z<|z0q<|zhp mixed (by kernel_rfl)<|Rq Z (mv Z)<|Rq Z (mv Z)<|z6z fun u1 h2=>Rq Z (W.shr Z Z (z5h h2))<|Rq Z (mv Z)<|Rq Z (mv Z)<|Rq Z (I.sub Z Z)<|z6z fun u3 h4=>Rq Z (W.shl Z Z (z5h h4))<|Rq Z (W.or Z Z)<|Rq Z (asg Z)<|z19q 4 Z fun y5=>zng<|z0m<|z0k<|Ze [] [] Z
def z9f  : Option ((List UInt32)) :=
 some [1116352408,1899447441,3049323471,3921009573,961987163,1508970993,2453635748,2870763221,3624381080,310598401,607225278,1426881987,1925078388,2162078206,2614888103,3248222580,3835390401,4022224774,264347078,604807628,770255983,1249150122,1555081692,1996064986,2554220882,2821834349,2952996808,3210313671,3336571891,3584528711,113926993,338241895,666307205,773529912,1294757372,1396182291,1695183700,1986661051,2177026350,2456956037,2730485921,2820302411,3259730800,3345764771,3516065817,3600352804,4094571909,275423344,430227734,506948616,659060556,883997877,958139571,1322822218,1537002063,1747873779,1955562222,2024104815,2227730452,2361852424,2428436474,2756734187,3204031479,3329325298]
theorem zev  : z1u Tryz.prog 178 [] [] (z9f) (fun r nv=>⟨[.val (nv 0)],[(100,some (nv 0,.list z0p 63 r))]⟩):=by
 refine z2f 2 Tryz.func178 Z Z Z fun H w=>?_;refine gSR<|Zb Z<|gSR<|Ef Z (lit (R:=z0p) ([1116352408,1899447441,3049323471,3921009573,961987163,1508970993,2453635748,2870763221,3624381080,310598401,607225278,1426881987,1925078388,2162078206,2614888103,3248222580,3835390401,4022224774,264347078,604807628,770255983,1249150122,1555081692,1996064986,2554220882,2821834349,2952996808,3210313671,3336571891,3584528711,113926993,338241895,666307205,773529912,1294757372,1396182291,1695183700,1986661051,2177026350,2456956037,2730485921,2820302411,3259730800,3345764771,3516065817,3600352804,4094571909,275423344,430227734,506948616,659060556,883997877,958139571,1322822218,1537002063,1747873779,1955562222,2024104815,2227730452,2361852424,2428436474,2756734187,3204031479,3329325298]:List UInt32) 1 (pP Z Z<|pP Z Z<|pP Z Z<|pP Z Z<|pP Z Z<|pP Z Z<|pP Z Z<|pP Z Z<|pP Z Z<|pP Z Z<|pP Z Z<|pP Z Z<|pP Z Z<|pP Z Z<|pP Z Z<|pP Z Z<|pP Z Z<|pP Z Z<|pP Z Z<|pP Z Z<|pP Z Z<|pP Z Z<|pP Z Z<|pP Z Z<|pP Z Z<|pP Z Z<|pP Z Z<|pP Z Z<|pP Z Z<|pP Z Z<|pP Z Z<|pP Z Z<|pP Z Z<|pP Z Z<|pP Z Z<|pP Z Z<|pP Z Z<|pP Z Z<|pP Z Z<|pP Z Z<|pP Z Z<|pP Z Z<|pP Z Z<|pP Z Z<|pP Z Z<|pP Z Z<|pP Z Z<|pP Z Z<|pP Z Z<|pP Z Z<|pP Z Z<|pP Z Z<|pP Z Z<|pP Z Z<|pP Z Z<|pP Z Z<|pP Z Z<|pP Z Z<|pP Z Z<|pP Z Z<|pP Z Z<|pP Z Z<|pP Z Z<|pP Z Z<|pN) Z tu232 z60 Z Z) fun v1=>Zb Z<|z0k<|Ze [v1] [1] Z
def z5c (a1:List UInt8) (s4:(List UInt32) × Int):Option (Sum ((List UInt32)) ((List UInt32) × Int)) :=
 if decide (s4.2<16) then
  idx a1 (w64 (4 * s4.2)) >>= fun x7 =>
  idx a1 (w64 ((w64 (4 * s4.2))+1)) >>= fun x9 =>
  idx a1 (w64 ((w64 (4 * s4.2))+2)) >>= fun x11 =>
  idx a1 (w64 ((w64 (4 * s4.2))+3)) >>= fun x13 =>
  app 4 s4.1 [(((((x7.toUInt32 * 256)+x9.toUInt32) * 256)+x11.toUInt32) * 256)+x13.toUInt32] >>= fun x16 =>
  some (w64 (s4.2+1)) >>= fun y19 =>
  some (.inr (x16,y19))
 else
  some (.inl s4.1)
def z5b (s22:(List UInt32) × Int):Option (Sum ((List UInt32)) ((List UInt32) × Int)) :=
 if decide (s22.2<64) then
  idx s22.1 (w64 (s22.2 - 15)) >>= fun x25 =>
  idx s22.1 (w64 (s22.2 - 2)) >>= fun x27 =>
  idx s22.1 (w64 (s22.2 - 16)) >>= fun x29 =>
  idx s22.1 (w64 (s22.2 - 7)) >>= fun x31 =>
  z2p x25 7 >>= fun r33 =>
  z2p x25 18 >>= fun r36 =>
  z2p x27 17 >>= fun r39 =>
  z2p x27 19 >>= fun r42 =>
  app 4 s22.1 [((x29+x31)+((r33 ^^^ r36) ^^^ (z4m x25 3)))+((r39 ^^^ r42) ^^^ (z4m x27 10))] >>= fun x45 =>
  some (w64 (s22.2+1)) >>= fun y48 =>
  some (.inr (x45,y48))
 else
  some (.inl s22.1)
def z3t (s21:(List UInt32)) (r50:(List UInt32)) (s54:(Vector UInt32 8) × Int):Option (Sum ((Vector UInt32 8)) ((Vector UInt32 8) × Int)) :=
 if decide (s54.2<64) then
  z7m s54.1 0 >>= fun x56 =>
  z7m s54.1 1 >>= fun x58 =>
  z7m s54.1 2 >>= fun x60 =>
  z7m s54.1 4 >>= fun x62 =>
  z7m s54.1 5 >>= fun x64 =>
  z7m s54.1 6 >>= fun x66 =>
  z7m s54.1 7 >>= fun x68 =>
  idx r50 s54.2 >>= fun x70 =>
  idx s21 s54.2 >>= fun x72 =>
  z2p x62 6 >>= fun r74 =>
  z2p x62 11 >>= fun r76 =>
  z2p x62 25 >>= fun r78 =>
  some ((((x68+((r74 ^^^ r76) ^^^ r78))+((x62 &&& x64) ^^^ ((~~~x62) &&& x66)))+x70)+x72) >>= fun y80 =>
  z2p x56 2 >>= fun r81 =>
  z2p x56 13 >>= fun r83 =>
  z2p x56 22 >>= fun r85 =>
  some (((r81 ^^^ r83) ^^^ r85)+(((x56 &&& x58) ^^^ (x56 &&& x60)) ^^^ (x58 &&& x60))) >>= fun y87 =>
  z7m s54.1 3 >>= fun x88 =>
  some (w64 (s54.2+1)) >>= fun y90 =>
  some (.inr ((#v[y80+y87,x56,x58,x60,x88+y80,x62,x64,x66]:Vector UInt32 8),y90))
 else
  some (.inl s54.1)
def z1t (s53:(Vector UInt32 8)) (s92:(Vector UInt32 8) × Int):Option (Sum ((Vector UInt32 8)) ((Vector UInt32 8) × Int)) :=
 if decide (s92.2<8) then
  z7m s92.1 s92.2 >>= fun x94 =>
  z7m s53 s92.2 >>= fun x96 =>
  z7m s92.1 s92.2 >>= fun x98 =>
  some (w64 (s92.2+1)) >>= fun y100 =>
  some (.inr (zij s92.1 s92.2 (x94+x96),y100))
 else
  some (.inl s92.1)
def z93 (a0:Vector UInt32 8) (a1:List UInt8):Option ((Vector UInt32 8)) :=
 (iter (z5c a1) ([],0)) >>= fun s3 =>
 (iter (z5b) (s3,16)) >>= fun s21 =>
 z9f >>= fun r50 =>
 (iter (z3t s21 r50) (a0,0)) >>= fun s53 =>
 (iter (z1t s53) (a0,0)) >>= fun s91 =>
 some s91
set_option maxHeartbeats 4000000 in
theorem zh8 (a0:Vector UInt32 8) (a1:List UInt8):z1u Tryz.prog 133 [.rd (z3m 8 z0p) a0,.rd (z03 u8R) a1] [] (z93 a0 a1) (fun r nv=>⟨[.rd (z3m 8 z0p) r],[]⟩):=by
 refine z2f 203 Tryz.func133 Z Z Z fun H w=>?_;refine gSR<|Eb Z (bx 1 Z) fun v1=>Eb Z (z5l 2 zhd (.zr (R:=(z3m 8 z0p)) (x:=(Vector.replicate 8 0)) zs5)) fun v2=>Zn<|gSR<|Zb Z<|z7r (fun (s3:(List UInt32)) aa ww=>∃ nv:Nat→Value,Sta (ctx 203 H [] w) [(2,.val (z05 v1 0)),(4,.val (z05 v2 0)),(5,.val (nv 0))] [(1,some (v1,.box 143 [.rd (z3m 8 z0p) a0])),(2,some (v2,.box 143 [.rd (z3m 8 z0p) (Vector.replicate 8 0)])),(108,some ((nv 0),.list z0p 63 s3))] aa ww) ?_ (fun s3=>?_)
 ·refine gSR<|Zb Z<|zyo z0p 63 215<|z29 (fun (s4:(List UInt32) × Int) aa ww=>∃ nv:Nat→Value,Sta (ctx 203 H [] w) [(1,.rd (z03 u8R) a1),(2,.val (z05 v1 0)),(4,.val (z05 v2 0)),(5,.val (nv 0)),(6,.rd z08 s4.2)] [(1,some (v1,.box 143 [.rd (z3m 8 z0p) a0])),(2,some (v2,.box 143 [.rd (z3m 8 z0p) (Vector.replicate 8 0)])),(214,some ((nv 0),.list z0p 63 s4.1))] aa ww) (fun aa ww h=>⟨nvl [(.slice none 0 0)],Zu h [1,2,215]⟩) (fun s4=>?_)
  refine gEx fun n5=>z0q<|gSR<|Zm Z<|Zq (I.lss Z Z)<|Zj Z (fun h6=>?_) (fun h6=>?_)
  ·refine Zt<|z0q<|z5f<|z6l [214,318] mixed Z Z<|hTk 0 Z Z (mv Z)<|hTk 1 Z Z (mv Z)<|hTk 2 Z Z (mv Z)<|hTk 3 Z Z (I.mul Z Z)<|z5g fun x7 h8=>hTk 4 Z Z (ixR Z Z h8 tu94 ti5 Z)<|hTk 5 Z Z (ldR Z ty5)<|hTk 6 Z Z (B.toW Z tu5 tu63)<|hTk 7 Z Z (W.mul Z Z)<|hTk 8 Z Z (mv Z)<|hTk 9 Z Z (mv Z)<|hTk 10 Z Z (I.mul Z Z)<|hTk 11 Z Z (I.add Z Z)<|z5g fun x9 h10=>hTk 12 Z Z (ixR Z Z h10 tu94 ti5 Z)<|hTk 13 Z Z (ldR Z ty5)<|hTk 14 Z Z (B.toW Z tu5 tu63)<|hTk 15 Z Z (W.add Z Z)<|hTk 16 Z Z (W.mul Z Z)<|hTk 17 Z Z (mv Z)<|hTk 18 Z Z (mv Z)<|hTk 19 Z Z (I.mul Z Z)<|hTk 20 Z Z (I.add Z Z)<|z5g fun x11 h12=>hTk 21 Z Z (ixR Z Z h12 tu94 ti5 Z)<|hTk 22 Z Z (ldR Z ty5)<|hTk 23 Z Z (B.toW Z tu5 tu63)<|hTk 24 Z Z (W.add Z Z)<|hTk 25 Z Z (W.mul Z Z)<|hTk 26 Z Z (mv Z)<|hTk 27 Z Z (mv Z)<|hTk 28 Z Z (I.mul Z Z)<|hTk 29 Z Z (I.add Z Z)<|z5g fun x13 h14=>hTk 30 Z Z (ixR Z Z h14 tu94 ti5 Z)<|hTk 31 Z Z (ldR Z ty5)<|hTk 32 Z Z (B.toW Z tu5 tu63)<|hTk 33 Z Z (W.add Z Z)<|Zo 34 Z Z Z (lit (R:=z0p) ([(((((x7.toUInt32 * 256)+x9.toUInt32) * 256)+x11.toUInt32) * 256)+x13.toUInt32]:List UInt32) 318 (pP Z Z<|pN) Z tu232 z60 Z Z) fun v15=>z5g fun x16 h17=>Zo 35 Z Z Z (apn 214 Z Z Z (.own 318 Z) h17 tu232 z60 Z Z Z) fun v18=>Zf 36 Z Z z37 (asg Z)<|z3e (by kernel_rfl)<|z3l<|z0m<|z2g<|Zm Z<|Zq (I.add Z Z)<|Za Z<|z27 6 Z fun y19=>z21<|z1m (fun aa ww h=>⟨nvl [v18],Zu h [1,2,214]⟩)
  ·refine z1z<|z10<|z14<|z3p (fun aa ww h=>⟨nvl [(n5 0)],Zu h [1,2,214]⟩)
 ·refine gEx fun n20=>z7r (fun (s21:(List UInt32)) aa ww=>∃ nv:Nat→Value,Sta (ctx 203 H [] w) [(2,.val (z05 v1 0)),(4,.val (z05 v2 0)),(5,.val (nv 0))] [(1,some (v1,.box 143 [.rd (z3m 8 z0p) a0])),(2,some (v2,.box 143 [.rd (z3m 8 z0p) (Vector.replicate 8 0)])),(108,some ((nv 0),.list z0p 63 s21))] aa ww) ?_ (fun s21=>?_)
  ·refine gSR<|Zb Z<|z29 (fun (s22:(List UInt32) × Int) aa ww=>∃ nv:Nat→Value,Sta (ctx 203 H [] w) [(2,.val (z05 v1 0)),(4,.val (z05 v2 0)),(5,.val (nv 0)),(7,.rd z08 s22.2)] [(1,some (v1,.box 143 [.rd (z3m 8 z0p) a0])),(2,some (v2,.box 143 [.rd (z3m 8 z0p) (Vector.replicate 8 0)])),(108,some ((nv 0),.list z0p 63 s22.1))] aa ww) (fun aa ww h=>⟨nvl [(n20 0)],Zu h [1,2,108]⟩) (fun s22=>?_);refine gEx fun n23=>z0q<|gSR<|Zm Z<|Zq (I.lss Z Z)<|Zj Z (fun h24=>?_) (fun h24=>?_)
   ·refine Zt<|z0q<|z5f<|z0q<|zhp mixed (by kernel_rfl)<|Rq Z (mv Z)<|Rq Z (mv Z)<|Rq Z (I.sub Z Z)<|z6z fun x25 h26=>Rq Z (ixO 108 Z Z Z h26 tu232 z60)<|Rq Z (ld 108 Z Z (Foc.el h26) z9i Z)<|Rq Z (mv Z)<|Rq Z (mv Z)<|Rq Z (I.sub Z Z)<|z6z fun x27 h28=>Rq Z (ixO 108 Z Z Z h28 tu232 z60)<|Rq Z (ld 108 Z Z (Foc.el h28) z9i Z)<|Rq Z (asg Z)<|Rq Z (asg Z)<|zng<|z0m<|zye [(5,.val (n23 0)),(2,.val (z05 v1 0)),(4,.val (z05 v2 0)),(7,.rd z08 s22.2),(8,.rd z0p x25),(9,.rd z0p x27)] [(1,some (v1,.box 143 [.rd (z3m 8 z0p) a0])),(2,some (v2,.box 143 [.rd (z3m 8 z0p) (Vector.replicate 8 0)])),(108,some ((n23 0),.list z0p 63 s22.1))] [1,2,108] (Zs Z Z Z Z<|sS Z<|sS Z<|sN) (Zi Z<|Zi Z<|Zi Z<|rN)<|z9g fun x29 h30=>z9g fun x31 h32=>z9g fun r33 h35=>z9g fun r36 h38=>z9g fun r39 h41=>z9g fun r42 h44=>z9g fun x45 h46=>gOr [(5,.val (n23 0),32)] [⟨108,some ([], fun nv=>((n23 0),.list z0p 63 s22.1)),[(31,some ([2], fun nv=>((nv 2),.list z0p 63 x45)))]⟩,⟨330,none,[(30,some ([1], fun nv=>((nv 1),.list z0p 63 [((x29+x31)+((r33 ^^^ r36) ^^^ (z4m x25 3)))+((r39 ^^^ r42) ^^^ (z4m x27 10))])))]⟩] [⟨some (76,[], fun nv=>.val (n23 0)),[],[],[0]⟩,⟨some (77,[], fun nv=>.val (n23 0)),[],[],[0]⟩,pd 78 (.rd z08 s22.2),pd 79 (.rd z08 (w64 (s22.2 - 16))),pk 80 (.val (z05 (n23 0) ((w64 (s22.2 - 16):Int).toNat * 1))) [(0,0,false)],pk 81 (.rd z0p x29) [(0,0,false)],⟨some (82,[], fun nv=>.val (n23 0)),[],[],[0]⟩,pd 83 (.rd z08 s22.2),pd 84 (.rd z08 (w64 (s22.2 - 7))),pk 85 (.val (z05 (n23 0) ((w64 (s22.2 - 7):Int).toNat * 1))) [(0,0,false)],pk 86 (.rd z0p x31) [(0,0,false)],pd 87 (.rd z0p (x29+x31)),pd 88 (.rd z0p x25),pd 89 (.rd z0p r33),pd 90 (.rd z0p x25),pd 91 (.rd z0p r36),pd 92 (.rd z0p (r33 ^^^ r36)),pd 93 (.rd z0p x25),pd 94 (.rd z0p (z4m x25 3)),pd 95 (.rd z0p ((r33 ^^^ r36) ^^^ (z4m x25 3))),pd 96 (.rd z0p ((x29+x31)+((r33 ^^^ r36) ^^^ (z4m x25 3)))),pd 97 (.rd z0p x27),pd 98 (.rd z0p r39),pd 99 (.rd z0p x27),pd 100 (.rd z0p r42),pd 101 (.rd z0p (r39 ^^^ r42)),pd 102 (.rd z0p x27),pd 103 (.rd z0p (z4m x27 10)),pd 104 (.rd z0p ((r39 ^^^ r42) ^^^ (z4m x27 10))),pd 105 (.rd z0p (((x29+x31)+((r33 ^^^ r36) ^^^ (z4m x25 3)))+((r39 ^^^ r42) ^^^ (z4m x27 10)))),⟨some (106,[1], fun nv=>.val (nv 1)),[(1,0,true)],[1],[]⟩,⟨some (107,[2], fun nv=>.val (nv 2)),[(1,1,false),(0,0,true)],[2],[]⟩,⟨some (5,[2], fun nv=>.val (nv 2)),[],[],[]⟩] mixed (oC (oRn (fun nv E=>mv Z))<|oC (oRn (fun nv E=>mv Z))<|oC (oRn (fun nv E=>mv Z))<|oC (oRn (fun nv E=>I.sub Z Z))<|oC (oRn (fun nv E=>ixO 108 Z Z Z h30 tu232 z60))<|oC (oRn (fun nv E=>ld 108 Z Z (Foc.el h30) z9i Z))<|oC (oRn (fun nv E=>mv Z))<|oC (oRn (fun nv E=>mv Z))<|oC (oRn (fun nv E=>I.sub Z Z))<|oC (oRn (fun nv E=>ixO 108 Z Z Z h32 tu232 z60))<|oC (oRn (fun nv E=>ld 108 Z Z (Foc.el h32) z9i Z))<|oC (oRn (fun nv E=>W.add Z Z))<|oC (oRn (fun nv E=>mv Z))<|oC (oCl [] [] [] h35 Tryz.func177 Z (fun nv=>(z2u _ _)) (fun nv=>(Y2 Z Z)) (fun nv E=>rN))<|oC (oRn (fun nv E=>mv Z))<|oC (oCl [] [] [] h38 Tryz.func177 Z (fun nv=>(z2u _ _)) (fun nv=>(Y2 Z Z)) (fun nv E=>rN))<|oC (oRn (fun nv E=>W.xor Z Z))<|oC (oRn (fun nv E=>mv Z))<|oC (oRn (fun nv E=>W.shr Z Z (Int.natCast_nonneg _)))<|oC (oRn (fun nv E=>W.xor Z Z))<|oC (oRn (fun nv E=>W.add Z Z))<|oC (oRn (fun nv E=>mv Z))<|oC (oCl [] [] [] h41 Tryz.func177 Z (fun nv=>(z2u _ _)) (fun nv=>(Y2 Z Z)) (fun nv E=>rN))<|oC (oRn (fun nv E=>mv Z))<|oC (oCl [] [] [] h44 Tryz.func177 Z (fun nv=>(z2u _ _)) (fun nv=>(Y2 Z Z)) (fun nv E=>rN))<|oC (oRn (fun nv E=>W.xor Z Z))<|oC (oRn (fun nv E=>mv Z))<|oC (oRn (fun nv E=>W.shr Z Z (Int.natCast_nonneg _)))<|oC (oRn (fun nv E=>W.xor Z Z))<|oC (oRn (fun nv E=>W.add Z Z))<|oC (oEf 330 1 (fun nv E=>lit (R:=z0p) ([((x29+x31)+((r33 ^^^ r36) ^^^ (z4m x25 3)))+((r39 ^^^ r42) ^^^ (z4m x27 10))]:List UInt32) 330 (pP Z Z<|pN) Z tu232 z60 Z Z))<|oC (oEf 108 2 (fun nv E=>apn 108 Z Z Z (.own 330 Z) h46 tu232 z60 Z Z Z))<|oC (oRn (fun nv E=>asg Z))<|oN) fun n47=>z3l<|z0m<|z2g<|Zm Z<|Zq (I.add Z Z)<|Za Z<|z27 7 Z fun y48=>z21<|z1m (fun aa ww h=>⟨nvl [(n47 2)],Zu h [1,2,108]⟩)
   ·refine z1z<|z10<|z14<|z3p (fun aa ww h=>⟨nvl [(n23 0)],Zu h [1,2,108]⟩)
  ·refine gEx fun n49=>gSR<|Zc [] [(100,331)] Tryz.func178 Z (zev) fun r50 n51=>Zb Z<|gSR<|Zq (ld 1 Z Z fH zrq Z)<|Eb Z (z5l 332 zhd (.zr (R:=(z3m 8 z0p)) (x:=(Vector.replicate 8 0)) zs5)) fun v52=>Es (sto 332 Z Z fH Z zhd)<|Zn<|z7r (fun (s53:(Vector UInt32 8)) aa ww=>Sta (ctx 203 H [] w) [(2,.val (z05 v1 0)),(4,.val (z05 v2 0)),(11,.val (z05 v52 0))] [(1,some (v1,.box 143 [.rd (z3m 8 z0p) a0])),(2,some (v2,.box 143 [.rd (z3m 8 z0p) (Vector.replicate 8 0)])),(332,some (v52,.box 143 [.rd (z3m 8 z0p) s53]))] aa ww) ?_ (fun s53=>?_)
   ·refine gSR<|Zb Z<|z29 (fun (s54:(Vector UInt32 8) × Int) aa ww=>Sta (ctx 203 H [] w) [(2,.val (z05 v1 0)),(4,.val (z05 v2 0)),(5,.val (n49 0)),(10,.val (n51 0)),(11,.val (z05 v52 0)),(12,.rd z08 s54.2)] [(1,some (v1,.box 143 [.rd (z3m 8 z0p) a0])),(2,some (v2,.box 143 [.rd (z3m 8 z0p) (Vector.replicate 8 0)])),(108,some ((n49 0),.list z0p 63 s21)),(331,some ((n51 0),.list z0p 63 r50)),(332,some (v52,.box 143 [.rd (z3m 8 z0p) s54.1]))] aa ww) (fun aa ww h=>Zu h [1,2,108,331,332]) (fun s54=>?_)
    refine z0q<|gSR<|Zm Z<|Zq (I.lss Z Z)<|Zj Z (fun h55=>?_) (fun h55=>?_)
    ·refine Zt<|z0q<|z5f<|z0q<|zhp mixed (by kernel_rfl)<|z6z fun x56 h57=>Rq Z (ixB 332 Z Z Z h57 tu143 z60)<|Rq Z (ld 332 Z Z (fP (.el h57)) z9i Z)<|z6z fun x58 h59=>Rq Z (ixB 332 Z Z Z h59 tu143 z60)<|Rq Z (ld 332 Z Z (fP (.el h59)) z9i Z)<|z6z fun x60 h61=>Rq Z (ixB 332 Z Z Z h61 tu143 z60)<|Rq Z (ld 332 Z Z (fP (.el h61)) z9i Z)<|z6z fun x62 h63=>Rq Z (ixB 332 Z Z Z h63 tu143 z60)<|Rq Z (ld 332 Z Z (fP (.el h63)) z9i Z)<|z6z fun x64 h65=>Rq Z (ixB 332 Z Z Z h65 tu143 z60)<|Rq Z (ld 332 Z Z (fP (.el h65)) z9i Z)<|z6z fun x66 h67=>Rq Z (ixB 332 Z Z Z h67 tu143 z60)<|Rq Z (ld 332 Z Z (fP (.el h67)) z9i Z)<|Rq Z (asg Z)<|Rq Z (asg Z)<|Rq Z (asg Z)<|Rq Z (asg Z)<|Rq Z (asg Z)<|Rq Z (asg Z)<|zng<|z0m<|z0q<|z6l [] mixed Z Z<|z5g fun x68 h69=>hTk 0 Z Z (ixB 332 Z Z Z h69 tu143 z60)<|hTk 1 Z Z (ld 332 Z Z (fP (.el h69)) z9i Z)<|hTk 2 Z Z (mv Z)<|hTk 4 Z Z (mv Z)<|hTk 7 Z Z (mv Z)<|hTk 11 Z Z (mv Z)<|hTk 12 Z Z (mv Z)<|hTk 13 Z Z (W.and Z Z)<|hTk 14 Z Z (mv Z)<|hTk 15 Z Z (W.cpl Z)<|hTk 16 Z Z (mv Z)<|hTk 17 Z Z (W.and Z Z)<|hTk 18 Z Z (W.xor Z Z)<|hTk 20 Z Z (mv Z)<|hTk 21 Z Z (mv Z)<|z5g fun x70 h71=>hTk 22 Z Z (ixO 331 Z Z Z h71 tu232 z60)<|hTk 23 Z Z (ld 331 Z Z (Foc.el h71) z9i Z)<|hTk 25 Z Z (mv Z)<|hTk 26 Z Z (mv Z)<|z5g fun x72 h73=>hTk 27 Z Z (ixO 108 Z Z Z h73 tu232 z60)<|hTk 28 Z Z (ld 108 Z Z (Foc.el h73) z9i Z)<|z2v 3 [] [] Z (by kernel_rfl) Z (gd0 Z) Z Tryz.func177 Z Z (z2u _ _) (Y2 Z Z) rN Z (fun _ _=>z1x) fun r74 n75=>z2v 5 [] [] Z (by kernel_rfl) Z (gd0 Z) Z Tryz.func177 Z Z (z2u _ _) (Y2 Z Z) rN Z (fun _ _=>z1x) fun r76 n77=>hTk 6 Z Z (W.xor Z Z)<|z2v 8 [] [] Z (by kernel_rfl) Z (gd0 Z) Z Tryz.func177 Z Z (z2u _ _) (Y2 Z Z) rN Z (fun _ _=>z1x) fun r78 n79=>hTk 9 Z Z (W.xor Z Z)<|hTk 10 Z Z (W.add Z Z)<|hTk 19 Z Z (W.add Z Z)<|hTk 24 Z Z (W.add Z Z)<|hTk 29 Z Z (W.add Z Z)<|hTk 30 Z Z (asg Z)<|zvq 19 Z Z fun y80=>z3e (by kernel_rfl)<|z0m<|gSR<|Zm Z<|Zc [] [] Tryz.func177 Z (z2u _ _) fun r81 n82=>Zm Z<|Zc [] [] Tryz.func177 Z (z2u _ _) fun r83 n84=>Zq (W.xor Z Z)<|Zm Z<|Zc [] [] Tryz.func177 Z (z2u _ _) fun r85 n86=>Zq (W.xor Z Z)<|Zm Z<|Zm Z<|Zq (W.and Z Z)<|Zm Z<|Zm Z<|Zq (W.and Z Z)<|Zq (W.xor Z Z)<|Zm Z<|Zm Z<|Zq (W.and Z Z)<|Zq (W.xor Z Z)<|Zq (W.add Z Z)<|Za Z<|z27 20 Z fun y87=>Zn<|z2g<|Zm Z<|Zm Z<|Zq (W.add Z Z)<|Zm Z<|Zm Z<|Zm Z<|z0t fun x88 h89=>Zq (ixB 332 Z Z Z h89 tu143 z60)<|Zq (ld 332 Z Z (fP (.el h89)) z9i Z)<|Zm Z<|Zq (W.add Z Z)<|Zm Z<|Zm Z<|Zm Z<|Zq (litA (R:=z0p) [y80+y87,x56,x58,x60,x88+y80,x62,x64,x66] (#v[y80+y87,x56,x58,x60,x88+y80,x62,x64,x66]:Vector UInt32 8) (pP Z Z<|pP Z Z<|pP Z Z<|pP Z Z<|pP Z Z<|pP Z Z<|pP Z Z<|pP Z Z<|pN) Z tu143 zhd Z z60)<|Es (sto 332 Z Z fH Z zhd)<|z21<|z3l<|z0m<|z2g<|Zm Z<|Zq (I.add Z Z)<|Za Z<|z27 12 Z fun y90=>z21<|z1m (fun aa ww h=>Zu h [1,2,108,331,332])
    ·refine z1z<|z10<|z14<|z3p (fun aa ww h=>Zu h [1,2,332])
   ·refine z7r (fun (s91:(Vector UInt32 8)) aa ww=>Sta (ctx 203 H [] w) [(2,.val (z05 v1 0)),(4,.val (z05 v2 0))] [(1,some (v1,.box 143 [.rd (z3m 8 z0p) s91])),(2,some (v2,.box 143 [.rd (z3m 8 z0p) (Vector.replicate 8 0)]))] aa ww) ?_ (fun s91=>?_)
    ·refine gSR<|Zb Z<|z29 (fun (s92:(Vector UInt32 8) × Int) aa ww=>Sta (ctx 203 H [] w) [(2,.val (z05 v1 0)),(4,.val (z05 v2 0)),(11,.val (z05 v52 0)),(21,.rd z08 s92.2)] [(1,some (v1,.box 143 [.rd (z3m 8 z0p) s92.1])),(2,some (v2,.box 143 [.rd (z3m 8 z0p) (Vector.replicate 8 0)])),(332,some (v52,.box 143 [.rd (z3m 8 z0p) s53]))] aa ww) (fun aa ww h=>Zu h [1,2,332]) (fun s92=>?_);refine z0q<|gSR<|Zm Z<|Zq (I.lss Z Z)<|Zj Z (fun h93=>?_) (fun h93=>?_)
     ·refine Zt<|z0q<|z5f<|z6l [1] mixed Z Z<|hTk 0 Z Z (mv Z)<|z5g fun x94 h95=>hTk 1 Z Z (ixB 1 Z Z Z h95 tu143 z60)<|hTk 3 Z Z (mv Z)<|z5g fun x96 h97=>hTk 4 Z Z (ixB 332 Z Z Z h97 tu143 z60)<|hTk 5 Z Z (ld 332 Z Z (fP (.el h97)) z9i Z)<|hRun 2 Z (by kernel_rfl) (gd0 Z) Z Z z1x (ld 1 Z Z (fP (.el h95)) z9i Z)<|hTk 6 Z Z (W.add Z Z)<|z5g fun x98 h99=>hTk 7 Z Z (ixB 1 Z Z Z h99 tu143 z60)<|Zp 8 Z Z Z Z Z (sto 1 Z Z (fP (.el h99)) Z z60)<|z3e (by kernel_rfl)<|z3l<|z0m<|z2g<|Zm Z<|Zq (I.add Z Z)<|Za Z<|z27 21 Z fun y100=>z21<|z1m (fun aa ww h=>Zu h [1,2,332])
     ·refine z1z<|z10<|z14<|z3p (fun aa ww h=>Zu h [1,2])
    ·refine gSR<|Zq (ld 1 Z Z fH zrq Z)<|Es (sto 2 Z Z fH Z zhd)<|Zn<|z0k<|zaz [] [] Z (eC 2 Z Z zrq<|eN) (rN)
def z5e (a1:List UInt8) (s4:(Vector UInt32 8) × Int):Option (Sum ((Vector UInt32 8)) ((Vector UInt32 8) × Int)) :=
 if decide ((w64 (s4.2+64))≤(a1.length:Int)) then
  cut a1 s4.2 (w64 (s4.2+64)) >>= fun x6 =>
  z93 s4.1 x6 >>= fun r8 =>
  some (w64 (s4.2+64)) >>= fun y10 =>
  some (.inr (r8,y10))
 else
  some (.inl s4.1)
def z99 (a0:Vector UInt32 8) (a1:List UInt8):Option ((Vector UInt32 8)) :=
 (iter (z5e a1) (a0,0)) >>= fun s3 =>
 some s3
theorem zhe (a0:Vector UInt32 8) (a1:List UInt8):z1u Tryz.prog 73 [.rd (z3m 8 z0p) a0,.rd (z03 u8R) a1] [] (z99 a0 a1) (fun r nv=>⟨[.rd (z3m 8 z0p) r],[]⟩):=by
 refine z2f 21 Tryz.func73 Z Z Z fun H w=>?_;refine gSR<|Eb Z (bx 1 Z) fun v1=>Eb Z (z5l 2 zhd (.zr (R:=(z3m 8 z0p)) (x:=(Vector.replicate 8 0)) zs5)) fun v2=>Zn<|z7r (fun (s3:(Vector UInt32 8)) aa ww=>Sta (ctx 21 H [] w) [(2,.val (z05 v1 0)),(4,.val (z05 v2 0))] [(1,some (v1,.box 143 [.rd (z3m 8 z0p) s3])),(2,some (v2,.box 143 [.rd (z3m 8 z0p) (Vector.replicate 8 0)]))] aa ww) ?_ (fun s3=>?_)
 ·refine gSR<|Zb Z<|z29 (fun (s4:(Vector UInt32 8) × Int) aa ww=>Sta (ctx 21 H [] w) [(1,.rd (z03 u8R) a1),(2,.val (z05 v1 0)),(4,.val (z05 v2 0)),(5,.rd z08 s4.2)] [(1,some (v1,.box 143 [.rd (z3m 8 z0p) s4.1])),(2,some (v2,.box 143 [.rd (z3m 8 z0p) (Vector.replicate 8 0)]))] aa ww) (fun aa ww h=>Zu h [1,2]) (fun s4=>?_);refine z0q<|gSR<|Zm Z<|Zq (I.add Z Z)<|Zm Z<|Zq (z4f Z .rd Z tu94)<|Zq (I.leq Z Z)<|Zj Z (fun h5=>?_) (fun h5=>?_)
  ·refine Zt<|z0q<|z5f<|z6l [1] mixed Z Z<|hTk 1 Z Z (mv Z)<|hTk 2 Z Z (mv Z)<|hTk 3 Z Z (mv Z)<|hTk 4 Z Z (I.add Z Z)<|z5g fun x6 h7=>hTk 5 Z Z (cut' Z (.to Z) (.to Z) h7 tu94 ti5)<|hRun 0 Z (by kernel_rfl) (gd0 Z) Z Z anyJ (ld 1 Z Z fH zrq Z)<|zze 6 [] [] Z (by kernel_rfl) Z (gd0 Z) Z Tryz.func133 Z Z (zh8 _ _) (Y2 Z Z) rN Z fun r8 n9=>Zp 7 Z Z Z Z Z (sto 1 Z Z fH Z zhd)<|z3e (by kernel_rfl)<|z3l<|z0m<|z2g<|Zm Z<|Zq (I.add Z Z)<|Za Z<|z27 5 Z fun y10=>z21<|z1m (fun aa ww h=>Zu h [1,2])
  ·refine z1z<|z10<|z14<|z3p (fun aa ww h=>Zu h [1,2])
 ·refine gSR<|Zq (ld 1 Z Z fH zrq Z)<|Es (sto 2 Z Z fH Z zhd)<|Zn<|z0k<|zaz [] [] Z (eC 2 Z Z zrq<|eN) (rN)
def z4x (a0:Vector UInt32 8) (s5:V3 × Int):Option (Sum (V3) (V3 × Int)) :=
 if decide (s5.2<32) then
  z7m a0 (w64 (Int.tdiv s5.2 4)) >>= fun x7 =>
  chk (0≤w64 (24 - (w64 (8 * (Int.tmod s5.2 4))))) >>= fun u9 =>
  z7m s5.1 s5.2 >>= fun x11 =>
  some (w64 (s5.2+1)) >>= fun y13 =>
  some (.inr (zij s5.1 s5.2 ((z4m x7 ((w64 (24 - (w64 (8 * (Int.tmod s5.2 4)))):Int).toNat)).toUInt8),y13))
 else
  some (.inl s5.1)
def z8f (a0:Vector UInt32 8):Option (V3) :=
 (iter (z4x a0) ((Vector.replicate 32 0),0)) >>= fun s4 =>
 some s4
theorem zfw (a0:Vector UInt32 8):z1u Tryz.prog 72 [.rd (z3m 8 z0p) a0] [] (z8f a0) (fun r nv=>⟨[.rd aZ r],[]⟩):=by
 refine z2f 22 Tryz.func72 Z Z Z fun H w=>?_;refine gSR<|Eb Z (bx 1 Z) fun v1=>Eb Z (z5l 2 z3v (.zr (R:=aZ) (x:=(Vector.replicate 32 0)) zfn)) fun v2=>Zn<|gSR<|Eb Z (z5l 3 z3v (.zr (R:=aZ) (x:=(Vector.replicate 32 0)) zfn)) fun v3=>Zn<|z7r (fun (s4:V3) aa ww=>Sta (ctx 22 H [] w) [(2,.val (z05 v2 0)),(3,.val (z05 v3 0))] [(2,some (v2,.box 54 [.rd aZ (Vector.replicate 32 0)])),(3,some (v3,.box 54 [.rd aZ s4]))] aa ww) ?_ (fun s4=>?_)
 ·refine gSR<|Zb Z<|z29 (fun (s5:V3 × Int) aa ww=>Sta (ctx 22 H [] w) [(1,.val (z05 v1 0)),(2,.val (z05 v2 0)),(3,.val (z05 v3 0)),(4,.rd z08 s5.2)] [(1,some (v1,.box 143 [.rd (z3m 8 z0p) a0])),(2,some (v2,.box 54 [.rd aZ (Vector.replicate 32 0)])),(3,some (v3,.box 54 [.rd aZ s5.1]))] aa ww) (fun aa ww h=>Zu h [1,2,3]) (fun s5=>?_);refine z0q<|gSR<|Zm Z<|Zq (I.lss Z Z)<|Zj Z (fun h6=>?_) (fun h6=>?_)
  ·refine Zt<|z0q<|z5f<|z2g<|Zm Z<|Zm Z<|Zq (I.quo Z Z (by decide))<|z0t fun x7 h8=>Zq (ixB 1 Z Z Z h8 tu143 z60)<|Zq (ld 1 Z Z (fP (.el h8)) z9i Z)<|Zm Z<|Zq (I.rem Z Z (by decide))<|Zq (I.mul Z Z)<|Zq (I.sub Z Z)<|z0t fun u9 h10=>Zq (W.shr Z Z (z5h h10))<|Zq (W.toB Z tu63 tu5)<|z0t fun x11 h12=>Zq (ixB 3 Z Z Z h12 tu54 ti5)<|Es (sto 3 Z Z (fP (.el h12)) Z ti5)<|z21<|z3l<|z0m<|z2g<|Zm Z<|Zq (I.add Z Z)<|Za Z<|z27 4 Z fun y13=>z21<|z1m (fun aa ww h=>Zu h [1,2,3])
  ·refine z1z<|z10<|z14<|z3p (fun aa ww h=>Zu h [2,3])
 ·refine gSR<|Zq (ld 3 Z Z fH z6a Z)<|Es (sto 2 Z Z fH Z z3v)<|Zn<|z0k<|zaz [] [] Z (eC 2 Z Z z6a<|eN) (rN)
def zas (a0:List UInt8):Option (V3) :=
 zbv >>= fun r2 =>
 app 1 ([]:List UInt8) a0 >>= fun x5 =>
 zak (a0.length:Int) >>= fun r8 =>
 app 1 x5 r8 >>= fun x10 =>
 z99 r2 x10 >>= fun r13 =>
 z8f r13 >>= fun r15 =>
 some r15
end
section
open Go Go.RowKit
set_option maxRecDepth 100000
theorem zfe (a0:List UInt8):z1u Tryz.prog 35 [.rd (z03 u8R) a0] [] (zas a0) (fun r nv=>⟨[.rd aZ r],[]⟩):=by
 refine z2f 13 Tryz.func35 Z Z Z fun H w=>?_;refine gSR<|Eb Z (z5l 1 z3v (.zr (R:=aZ) (x:=(Vector.replicate 32 0)) zfn)) fun v1=>Zn<|gSR<|Zc [] [] Tryz.func74 Z (zi1) fun r2 n3=>Ef Z (lit (R:=u8R) (([]:List UInt8):List UInt8) 2 (pN) Z tu94 ti5 Z Z) fun v4=>Zm Z<|z0t fun x5 h6=>Ef Z (apn 2 Z Z Z .rd h6 tu94 ti5 Z Z Z) fun v7=>Zm Z<|Zq (z4f Z .rd Z tu94)<|Zc [] [(100,3)] Tryz.func75 Z (zju _) fun r8 n9=>z0t fun x10 h11=>Ef Z (apn 2 Z Z Z (.own 3 Z) h11 tu94 ti5 Z Z Z) fun v12=>zl7 2 [10] Z (fS Z<|fN)<|Zc [] [] Tryz.func73 Z (zhe _ _) fun r13 n14=>Zc [] [] Tryz.func72 Z (zfw _) fun r15 n16=>Es (sto 1 Z Z fH Z z3v)<|Zn<|z0k<|zaz [] [] Z (eC 1 Z Z z6a<|eN) (rN)
def zci (a0:z0a):Option (V3) :=
 z9v a0 >>= fun r3 =>
 zas r3 >>= fun r5 =>
 some r5
theorem zl2 (a0:z0a):z1u Tryz.prog 18 [.rd z04 a0] [] (zci a0) (fun r nv=>⟨[.rd aZ r],[]⟩):=by
 refine z2f 6 Tryz.func18 Z Z Z fun H w=>?_;refine gSR<|Eb Z (bx 1 Z) fun v1=>Eb Z (z5l 2 z3v (.zr (R:=aZ) (x:=(Vector.replicate 32 0)) zfn)) fun v2=>Zn<|gSR<|Zq (ld 1 Z Z fH zeb Z)<|Zc [] [(100,3)] Tryz.func36 Z (zib _) fun r3 n4=>zl7 3 [4] Z (fS Z<|fN)<|Zc [] [] Tryz.func35 Z (zfe _) fun r5 n6=>Es (sto 2 Z Z fH Z z3v)<|Zn<|z0k<|zaz [] [] Z (eC 2 Z Z z6a<|eN) (rN)
def z7h (a0:V3) (a1:V3) (s4:Int):Option (Sum (Sum Int Unit) Int) :=
 if decide (s4<32) then
  z7m a0 s4 >>= fun x6 =>
  z7m a1 s4 >>= fun x8 =>
  if decide (x6<x8) then
   some (.inl (.inl (-1)))
  else
   z7m a0 s4 >>= fun x11 =>
   z7m a1 s4 >>= fun x13 =>
   if decide (x13<x11) then
    some (.inl (.inl 1))
   else
    some (.inr (w64 (s4+1)))
 else
  some (.inl (.inr ()))
def z86 (a0:V3) (a1:V3):Option (Int) :=
 z67 (iter (z7h a0 a1) 0) fun s3 =>
 some 0
theorem zee (a0:V3) (a1:V3):z1u Tryz.prog 31 [.rd aZ a0,.rd aZ a1] [] (z86 a0 a1) (fun r nv=>⟨[.rd z08 r],[]⟩):=by
 refine z2f 24 Tryz.func31 Z Z Z fun H w=>?_;refine gSR<|Eb Z (bx 1 Z) fun v1=>Eb Z (bx 2 Z) fun v2=>Zb Z<|z8i (fun (s3:Unit) aa ww=>Sta (ctx 24 H [] w) [] [] aa ww) ?_ (fun s3=>?_)
 ·refine gSR<|Zb Z<|z29 (fun (s4:Int) aa ww=>Sta (ctx 24 H [] w) [(2,.val (z05 v1 0)),(3,.val (z05 v2 0)),(5,.rd z08 s4)] [(1,some (v1,.box 54 [.rd aZ a0])),(2,some (v2,.box 54 [.rd aZ a1]))] aa ww) (fun aa ww h=>Zu h [1,2]) (fun s4=>?_);refine z0q<|gSR<|Zm Z<|Zq (I.lss Z Z)<|Zj Z (fun h5=>?_) (fun h5=>?_)
  ·refine Zt<|z0q<|z5f<|z0q<|z0q<|zhp mixed (by kernel_rfl)<|Rq Z (mv Z)<|z6z fun x6 h7=>Rq Z (ixB 1 Z Z Z h7 tu54 ti5)<|Rq Z (ld 1 Z Z (fP (.el h7)) ty5 Z)<|Rq Z (mv Z)<|z6z fun x8 h9=>Rq Z (ixB 2 Z Z Z h9 tu54 ti5)<|Rq Z (ld 2 Z Z (fP (.el h9)) ty5 Z)<|Rq Z (B.lss Z Z)<|zng<|z0m<|gIf Z Z (fun h10=>?_) (fun h10=>?_)
   ·refine gSR<|Zb Z<|z0k<|z0v<|z4p<|z0v<|z8c<|z5n<|Ze [] [] Z
   ·refine Zt<|z0q<|zhp mixed (by kernel_rfl)<|Rq Z (mv Z)<|z6z fun x11 h12=>Rq Z (ixB 1 Z Z Z h12 tu54 ti5)<|Rq Z (ld 1 Z Z (fP (.el h12)) ty5 Z)<|Rq Z (mv Z)<|z6z fun x13 h14=>Rq Z (ixB 2 Z Z Z h14 tu54 ti5)<|Rq Z (ld 2 Z Z (fP (.el h14)) ty5 Z)<|Rq Z (B.gtr Z Z)<|zng<|z0m<|gIf Z Z (fun h15=>?_) (fun h15=>?_)
    ·refine gSR<|Zb Z<|z0k<|z4p<|z0v<|z8c<|z5n<|Ze [] [] Z
    ·refine z38<|z3l<|z0m<|z2g<|Zm Z<|Zq (I.add Z Z)<|Za Z<|z21<|z1m (fun aa ww h=>Zu h [1,2])
  ·refine z1z<|z10<|z14<|z6x (fun aa ww h=>Zu h [])
 ·refine gSR<|Zb Z<|z0k<|Ze [] [] Z
def z4k (a0:List V3) (s2:Int):Option (Sum (Sum Bool Unit) Int) :=
 if decide (s2<(a0.length:Int)) then
  idx a0 (w64 (s2 - 1)) >>= fun x4 =>
  idx a0 s2 >>= fun x6 =>
  z86 x4 x6 >>= fun r8 =>
  if decide (0≤r8) then
   some (.inl (.inl false))
  else
   some (.inr (w64 (s2+1)))
 else
  some (.inl (.inr ()))
def z79 (a0:List V3):Option (Bool) :=
 z67 (iter (z4k a0) 1) fun s1 =>
 some true
theorem zca (a0:List V3):z1u Tryz.prog 37 [.rd (z03 aZ) a0] [] (z79 a0) (fun r nv=>⟨[.rd z09 r],[]⟩):=by
 refine z2f 21 Tryz.func37 Z Z Z fun H w=>?_;refine gSR<|Zb Z<|z8i (fun (s1:Unit) aa ww=>Sta (ctx 21 H [] w) [] [] aa ww) ?_ (fun s1=>?_)
 ·refine gSR<|Zb Z<|z29 (fun (s2:Int) aa ww=>Sta (ctx 21 H [] w) [(0,.rd (z03 aZ) a0),(3,.rd z08 s2)] [] aa ww) (fun aa ww h=>Zu h []) (fun s2=>?_);refine z0q<|gSR<|Zm Z<|Zm Z<|Zq (z4f Z .rd Z tu22)<|Zq (I.lss Z Z)<|Zj Z (fun h3=>?_) (fun h3=>?_)
  ·refine Zt<|z0q<|z5f<|z0q<|z6l [] mixed Z Z<|hTk 0 Z Z (mv Z)<|hTk 1 Z Z (mv Z)<|hTk 2 Z Z (I.sub Z Z)<|z5g fun x4 h5=>hTk 3 Z Z (ixR Z Z h5 tu22 z3v Z)<|hTk 4 Z Z (ldR Z z6a)<|hTk 5 Z Z (mv Z)<|hTk 6 Z Z (mv Z)<|z5g fun x6 h7=>hTk 7 Z Z (ixR Z Z h7 tu22 z3v Z)<|hTk 8 Z Z (ldR Z z6a)<|z2v 9 [] [] Z (by kernel_rfl) Z (gd0 Z) Z Tryz.func31 Z Z (zee _ _) (Y2 Z Z) rN Z (fun _ _=>z1x) fun r8 n9=>hTk 10 Z Z (I.geq Z Z)<|z3e (by kernel_rfl)<|z0m<|gIf Z Z (fun h10=>?_) (fun h10=>?_)
   ·refine gSR<|Zb Z<|z0k<|z4p<|z0v<|z8c<|z5n<|Ze [] [] Z
   ·refine z38<|z3l<|z0m<|z2g<|Zm Z<|Zq (I.add Z Z)<|Za Z<|z21<|z1m (fun aa ww h=>Zu h [])
  ·refine z1z<|z10<|z14<|z6x (fun aa ww h=>Zu h [])
 ·refine gSR<|Zb Z<|z0k<|Ze [] [] Z
def z5s (a2:UInt64) (s2:UInt64 × UInt64 × UInt64):Option (Sum UInt64 (UInt64 × UInt64 × UInt64)) :=
 if decide (0<s2.2.1) then
  (if (s2.2.1 % 2)==1 then
   chk (a2≠0) >>= fun u6 =>
   some ((s2.2.2 * s2.1) % a2) >>= fun y8 =>
   some y8
  else
   some s2.2.2) >>= fun s4 =>
  chk (a2≠0) >>= fun u9 =>
  some ((s2.1 * s2.1) % a2) >>= fun y11 =>
  some (.inr (y11,s2.2.1 / 2,s4))
 else
  some (.inl s2.2.2)
def z83 (a0:UInt64) (a1:UInt64) (a2:UInt64):Option (UInt64) :=
 (iter (z5s a2) (a0,a1,1)) >>= fun s1 =>
 some s1
theorem zcw (a0:UInt64) (a1:UInt64) (a2:UInt64):z1u Tryz.prog 122 [.rd z2x a0,.rd z2x a1,.rd z2x a2] [] (z83 a0 a1 a2) (fun r nv=>⟨[.rd z2x r],[]⟩):=by
 refine z2f 26 Tryz.func122 Z Z Z fun H w=>?_;refine gSR<|Zb Z<|gSR<|Zb Z<|z7r (fun (s1:UInt64) aa ww=>Sta (ctx 26 H [] w) [(7,.rd z2x s1)] [] aa ww) ?_ (fun s1=>?_)
 ·refine z29 (fun (s2:UInt64 × UInt64 × UInt64) aa ww=>Sta (ctx 26 H [] w) [(0,.rd z2x s2.1),(1,.rd z2x s2.2.1),(2,.rd z2x a2),(7,.rd z2x s2.2.2)] [] aa ww) (fun aa ww h=>Zu h []) (fun s2=>?_);refine z0q<|gSR<|Zm Z<|Zq (U.gtr Z Z)<|Zj Z (fun h3=>?_) (fun h3=>?_)
  ·refine Zt<|z5f<|z7r (fun (s4:UInt64) aa ww=>Sta (ctx 26 H [] w) [(0,.rd z2x s2.1),(1,.rd z2x s2.2.1),(2,.rd z2x a2),(7,.rd z2x s4)] [] aa ww) ?_ (fun s4=>?_)
   ·refine gSR<|Zm Z<|Zq (U.rem Z Z (by decide))<|Zq (U.eql Z Z)<|Zj Z (fun h5=>?_) (fun h5=>?_)
    ·refine z2g<|Zm Z<|Zm Z<|Zq (U.mul Z Z)<|Zm Z<|z0t fun u6 h7=>Zq (U.rem Z Z (z5h h7))<|Za Z<|z27 7 Z fun y8=>z21<|z3p (fun aa ww h=>Zu h [])
    ·refine z38<|z3p (fun aa ww h=>Zu h [])
   ·refine gSR<|Zm Z<|Zm Z<|Zq (U.mul Z Z)<|Zm Z<|z0t fun u9 h10=>Zq (U.rem Z Z (z5h h10))<|Za Z<|z27 0 Z fun y11=>Zn<|z2g<|Zm Z<|Zq (U.quo Z Z (by decide))<|Za Z<|z21<|z3l<|z1m (fun aa ww h=>Zu h [])
  ·refine z1z<|z10<|z14<|z3p (fun aa ww h=>Zu h [])
 ·refine gSR<|Zm Z<|Zb Z<|z0k<|Ze [] [] Z
def zap (a0:UInt32):Option (Bool) :=
 if decide (1≤a0) then
  if decide (a0<1000000007) then
   z83 a0.toUInt64 500000003 1000000007 >>= fun r3 =>
   some (r3==1)
  else
   some false
 else
  some false
theorem zfg (a0:UInt32):z1u Tryz.prog 67 [.rd z0p a0] [] (zap a0) (fun r nv=>⟨[.rd z09 r],[]⟩):=by
 refine z2f 15 Tryz.func67 Z Z Z fun H w=>?_;refine gSR<|Zb Z<|gSR<|Zm Z<|Zq (W.geq Z Z)<|Zm Z<|z28 5 Z (fun h1=>?_) (fun h1=>?_)
 ·refine lKn 4 Z h1<|z1l Zx Z Z (mv Z)<|z1l Zx Z Z (W.lss Z Z)<|Zq (pkT Z Z)<|Zm Z<|z28 9 Z (fun h2=>?_) (fun h2=>?_)
  ·refine lKn 7 Z h2<|lKn 8 Z h2<|z1l Zx Z Z (mv Z)<|z1l Zx Z Z (W.toU Z tu63 tu44)<|zfv [] [] Zx Z Tryz.func122 Z Z (zcw _ _ _) (aQ Z<|aQ Z<|aQ Z<|aN) rN fun r3 n4=>z1l Zx Z Z (U.eql Z Z)<|Zq (pkT Z Z)<|Zb Z<|z0k<|Ze [] [] Z
  ·refine lKn 7 Z h2<|lKn 8 Z h2<|Zk Z<|Zk Z<|Zk Z<|Zk Z<|Zq (pkF Z Z)<|Zb Z<|z0k<|Ze [] [] Z
 ·refine lKn 4 Z h1<|Zk Z<|Zk Z<|Zq (pkF Z Z)<|Zm Z<|Zk Z<|Zk Z<|Zk Z<|Zk Z<|Zq (pkF Z Z)<|Zb Z<|z0k<|Ze [] [] Z
def z6m (a0:List UInt8) (s4:Int):Option (Sum (Sum Bool Unit) Int) :=
 if decide (s4<(a0.length:Int)) then
  idx a0 s4 >>= fun x6 =>
  if decide (x6<33) then
   some (.inl (.inl false))
  else
   idx a0 s4 >>= fun x9 =>
   if decide (126<x9) then
    some (.inl (.inl false))
   else
    some (.inr (w64 (s4+1)))
 else
  some (.inl (.inr ()))
def z8s (a0:List UInt8):Option (Bool) :=
 if decide ((a0.length:Int)<1) then
  some false
 else
  if decide (20<(a0.length:Int)) then
   some false
  else
   z67 (iter (z6m a0) 0) fun s3 =>
   some true
theorem zdi (a0:List UInt8):z1u Tryz.prog 123 [.rd z3q a0] [] (z8s a0) (fun r nv=>⟨[.rd z09 r],[]⟩):=by
 refine z2f 28 Tryz.func123 Z Z Z fun H w=>?_;refine gSR<|Zb Z<|z0q<|gSR<|Zm Z<|Zq (zy8 Z Z tu9)<|Zq (I.lss Z Z)<|Zm Z<|z28 7 Z (fun h1=>?_) (fun h1=>?_)
 ·refine lKn 6 Z h1<|Zk Z<|Zk Z<|Zk Z<|Zq (pkT Z Z)<|Zn<|zdc Z<|gSR<|Zb Z<|z0k<|z0v<|Ze [] [] Z
 ·refine lKn 6 Z h1<|z1l Zx Z Z (mv Z)<|z1l Zx Z Z (zy8 Z Z tu9)<|z1l Zx Z Z (I.gtr Z Z)<|Zq (pkF Z Z)<|Zj Z (fun h2=>?_) (fun h2=>?_)
  ·refine gKn 10 Z h2<|gSR<|Zb Z<|z0k<|z0v<|Ze [] [] Z
  ·refine gKn 10 Z h2<|Zt<|z8i (fun (s3:Unit) aa ww=>Sta (ctx 28 H [] w) [] [] aa ww) ?_ (fun s3=>?_)
   ·refine gSR<|Zb Z<|z29 (fun (s4:Int) aa ww=>Sta (ctx 28 H [] w) [(0,.rd z3q a0),(3,.rd z08 s4)] [] aa ww) (fun aa ww h=>Zu h []) (fun s4=>?_);refine z0q<|gSR<|Zm Z<|Zm Z<|Zq (zy8 Z Z tu9)<|Zq (I.lss Z Z)<|Zj Z (fun h5=>?_) (fun h5=>?_)
    ·refine Zt<|z0q<|z5f<|gSR<|Zm Z<|Zm Z<|z0t fun x6 h7=>Zq (idxT Z Z tu9 (z5x h7).1 (z5x h7).2.1)<|Zq (B.lss Z Z)<|Zm Z<|z28 22 Z (fun h8=>?_) (fun h8=>?_)
     ·refine lKn 21 Z h8<|Zk Z<|Zk Z<|Zk Z<|Zk Z<|Zq (pkT Z Z)<|Zn<|zdc Z<|gSR<|Zb Z<|z0k<|z4p<|z0v<|z8c<|z5n<|Ze [] [] Z
     ·refine lKn 21 Z h8<|z1l Zx Z Z (mv Z)<|z1l Zx Z Z (mv Z)<|z0t fun x9 h10=>z1l Zx Z Z (idxT Z Z tu9 (z5x h10).1 (z5x h10).2.1)<|z1l Zx Z Z (B.gtr Z Z)<|Zq (pkF Z Z)<|Zj Z (fun h11=>?_) (fun h11=>?_)
      ·refine gKn 26 Z h11<|gSR<|Zb Z<|z0k<|z4p<|z0v<|z8c<|z5n<|Ze [] [] Z
      ·refine gKn 26 Z h11<|z38<|z3l<|z0m<|z2g<|Zm Z<|Zq (I.add Z Z)<|Za Z<|z21<|z1m (fun aa ww h=>Zu h [])
    ·refine z1z<|z10<|z14<|z6x (fun aa ww h=>Zu h [])
   ·refine gSR<|Zb Z<|z0k<|Ze [] [] Z
def z7w (a0:UInt64):Option (Int) :=
 some (w64 (((a0 % 9223372036854775808) / 4503599627370496).toNat:Int)) >>= fun y1 =>
 some y1
theorem zfq (a0:UInt64):z1u Tryz.prog 207 [.rd z2x a0] [] (z7w a0) (fun r nv=>⟨[.rd z08 r],[]⟩):=by
 refine z2f 7 Tryz.func207 Z Z Z fun H w=>?_;refine gSR<|Zb Z<|gSR<|Zm Z<|Zq (U.rem Z Z (by decide))<|Zq (U.quo Z Z (by decide))<|Zq (U.toI Z tu44 tu3)<|Za Z<|z27 2 Z fun y1=>Zn<|z0k<|Ze [] [] Z
def za8 (a0:UInt64):Option (UInt64) :=
 some (a0 % 4503599627370496) >>= fun y1 =>
 some y1
theorem zfm (a0:UInt64):z1u Tryz.prog 208 [.rd z2x a0] [] (za8 a0) (fun r nv=>⟨[.rd z2x r],[]⟩):=by
 refine z2f 5 Tryz.func208 Z Z Z fun H w=>?_;refine gSR<|Zb Z<|gSR<|Zm Z<|Zq (U.rem Z Z (by decide))<|Za Z<|z27 2 Z fun y1=>Zn<|z0k<|Ze [] [] Z
def z9w (a0:UInt64):Option (UInt8) :=
 z7w a0 >>= fun r1 =>
 za8 a0 >>= fun r3 =>
 z67 (if r1==0 then
  if r3==0 then
   some (.inl 1)
  else
   some (.inr ())
 else
  some (.inr ())) fun s5 =>
 if r1==0 then
  some 2
 else
  if decide (r1<2047) then
   some 3
  else
   if r3==0 then
    some 4
   else
    some 5
theorem zi5 (a0:UInt64):z1u Tryz.prog 198 [.rd z2x a0] [] (z9w a0) (fun r nv=>⟨[.rd u8R r],[]⟩):=by
 refine z2f 21 Tryz.func198 Z Z Z fun H w=>?_;refine gSR<|Zb Z<|gSR<|Zm Z<|Zc [] [] Tryz.func207 Z (zfq _) fun r1 n2=>Zm Z<|Zc [] [] Tryz.func208 Z (zfm _) fun r3 n4=>Za Z<|Zb Z<|z8i (fun (s5:Unit) aa ww=>Sta (ctx 21 H [] w) [(3,.rd z08 r1),(4,.rd z2x r3)] [] aa ww) ?_ (fun s5=>?_)
 ·refine gSR<|Zm Z<|Zq (I.eql Z Z)<|Zm Z<|z28 11 Z (fun h6=>?_) (fun h6=>?_)
  ·refine lKn 10 Z h6<|z1l Zx Z Z (mv Z)<|z1l Zx Z Z (U.eql Z Z)<|Zq (pkT Z Z)<|Zj Z (fun h7=>?_) (fun h7=>?_)
   ·refine gKn 13 Z h7<|gSR<|Zb Z<|z0k<|z5n<|Ze [] [] Z
   ·refine gKn 13 Z h7<|z38<|z6x (fun aa ww h=>Zu h [])
  ·refine lKn 10 Z h6<|Zk Z<|Zk Z<|Zq (pkF Z Z)<|Zn<|zfk Z<|z38<|z6x (fun aa ww h=>Zu h [])
 ·refine z0q<|gSR<|Zm Z<|Zq (I.eql Z Z)<|Zj Z (fun h8=>?_) (fun h8=>?_)
  ·refine gSR<|Zb Z<|z0k<|z0v<|Ze [] [] Z
  ·refine Zt<|z0q<|gSR<|Zm Z<|Zq (I.lss Z Z)<|Zj Z (fun h9=>?_) (fun h9=>?_)
   ·refine gSR<|Zb Z<|z0k<|z0v<|Ze [] [] Z
   ·refine Zt<|z0q<|gSR<|Zm Z<|Zq (U.eql Z Z)<|Zj Z (fun h10=>?_) (fun h10=>?_)
    ·refine gSR<|Zb Z<|z0k<|z0v<|Ze [] [] Z
    ·refine Zt<|gSR<|Zb Z<|z0k<|Ze [] [] Z
def z9y (a0:UInt64):Option (UInt64) :=
 z9w a0 >>= fun r1 =>
 if r1==5 then
  some 9221120237041090560
 else
  some a0
theorem zhl (a0:UInt64):z1u Tryz.prog 171 [.rd z2x a0] [] (z9y a0) (fun r nv=>⟨[.rd z2x r],[]⟩):=by
 refine z2f 7 Tryz.func171 Z Z Z fun H w=>?_;refine gSR<|Zb Z<|z0q<|gSR<|Zm Z<|Zc [] [] Tryz.func198 Z (zi5 _) fun r1 n2=>Zq (B.eql Z Z)<|Zj Z (fun h3=>?_) (fun h3=>?_)
 ·refine gSR<|Zb Z<|z0k<|z0v<|Ze [] [] Z
 ·refine Zt<|gSR<|Zm Z<|Zb Z<|z0k<|Ze [] [] Z
def z4i (a0:List UInt8) (s2:Int):Option (Sum (Sum Bool Unit) Int) :=
 if decide (s2<(a0.length:Int)) then
  idx a0 s2 >>= fun x4 =>
  if decide (x4<32) then
   some (.inl (.inl false))
  else
   idx a0 s2 >>= fun x7 =>
   if decide (126<x7) then
    some (.inl (.inl false))
   else
    some (.inr (w64 (s2+1)))
 else
  some (.inl (.inr ()))
def z74 (a0:List UInt8):Option (Bool) :=
 z67 (iter (z4i a0) 0) fun s1 =>
 some true
theorem zfa (a0:List UInt8):z1u Tryz.prog 172 [.rd z3q a0] [] (z74 a0) (fun r nv=>⟨[.rd z09 r],[]⟩):=by
 refine z2f 20 Tryz.func172 Z Z Z fun H w=>?_;refine gSR<|Zb Z<|z8i (fun (s1:Unit) aa ww=>Sta (ctx 20 H [] w) [] [] aa ww) ?_ (fun s1=>?_)
 ·refine gSR<|Zb Z<|z29 (fun (s2:Int) aa ww=>Sta (ctx 20 H [] w) [(0,.rd z3q a0),(3,.rd z08 s2)] [] aa ww) (fun aa ww h=>Zu h []) (fun s2=>?_);refine z0q<|gSR<|Zm Z<|Zm Z<|Zq (zy8 Z Z tu9)<|Zq (I.lss Z Z)<|Zj Z (fun h3=>?_) (fun h3=>?_)
  ·refine Zt<|z0q<|z5f<|gSR<|Zm Z<|Zm Z<|z0t fun x4 h5=>Zq (idxT Z Z tu9 (z5x h5).1 (z5x h5).2.1)<|Zq (B.lss Z Z)<|Zm Z<|z28 14 Z (fun h6=>?_) (fun h6=>?_)
   ·refine lKn 13 Z h6<|Zk Z<|Zk Z<|Zk Z<|Zk Z<|Zq (pkT Z Z)<|Zn<|zdc Z<|gSR<|Zb Z<|z0k<|z4p<|z0v<|z8c<|z5n<|Ze [] [] Z
   ·refine lKn 13 Z h6<|z1l Zx Z Z (mv Z)<|z1l Zx Z Z (mv Z)<|z0t fun x7 h8=>z1l Zx Z Z (idxT Z Z tu9 (z5x h8).1 (z5x h8).2.1)<|z1l Zx Z Z (B.gtr Z Z)<|Zq (pkF Z Z)<|Zj Z (fun h9=>?_) (fun h9=>?_)
    ·refine gKn 18 Z h9<|gSR<|Zb Z<|z0k<|z4p<|z0v<|z8c<|z5n<|Ze [] [] Z
    ·refine gKn 18 Z h9<|z38<|z3l<|z0m<|z2g<|Zm Z<|Zq (I.add Z Z)<|Za Z<|z21<|z1m (fun aa ww h=>Zu h [])
  ·refine z1z<|z10<|z14<|z6x (fun aa ww h=>Zu h [])
 ·refine gSR<|Zb Z<|z0k<|Ze [] [] Z
def za0 (a0:z02):Option (Int) :=
 if a0.Kind==1 then
  if a0.Bits==0 then
   if a0.Text==[] then
    some 0
   else
    some 8
  else
   some 8
 else
  if a0.Kind==2 then
   (if a0.Num==0 then
    if a0.Text==[] then
     z9y a0.Bits >>= fun r9 =>
     some (r9==a0.Bits)
    else
     some false
   else
    some false) >>= fun s6 =>
   if s6 then
    some 0
   else
    some 8
  else
   if a0.Kind==3 then
    (if a0.Num==0 then
     if a0.Bits==0 then
      if decide ((a0.Text.length:Int)≤30) then
       z74 a0.Text >>= fun r17 =>
       some r17
      else
       some false
     else
      some false
    else
     some false) >>= fun s13 =>
    if s13 then
     some 0
    else
     some 8
   else
    some 8
theorem zii (a0:z02):z1u Tryz.prog 124 [.rd z0d a0] [] (za0 a0) (fun r nv=>⟨[.rd z08 r],[]⟩):=by
 refine z2f 54 Tryz.func124 Z Z Z fun H w=>?_;refine gSR<|Eb Z (bx 1 Z) fun v1=>Zb Z<|z0q<|gSR<|Zq (faB 1 Z Z Tryz.underlying46 Z (by exact ti5))<|Zq (ld 1 Z Z (fP (z2m _)) ty5 Z)<|Zn<|z5f<|gSR<|Zq (B.eql Z Z)<|Zb Z<|gIf Z Z (fun h2=>?_) (fun h2=>?_)
 ·refine gKn 6 Z h2<|gSR<|Zq (faB 1 Z Z Tryz.underlying46 Z (by exact zp4))<|Zq (ld 1 Z Z (fP (z44 _)) znt Z)<|Zq (U.eql Z Z)<|Zm Z<|z28 10 Z (fun h3=>?_) (fun h3=>?_)
  ·refine lKn 9 Z h3<|z1l Zx Z Z (faB 1 Z Z Tryz.underlying46 Z (by exact ti9))<|z1l Zx Z Z (ld 1 Z Z (fP (z3o _)) ty9 Z)<|z1l Zx Z Z (eqS Z Z)<|Zq (pkT Z Z)<|Zj Z (fun h4=>?_) (fun h4=>?_)
   ·refine gKn 13 Z h4<|gSR<|Zb Z<|z0k<|z4p<|z0v<|Ze [] [] Z
   ·refine gKn 13 Z h4<|z38<|z3l<|z0m<|gSR<|Zb Z<|z0k<|Ze [] [] Z
  ·refine lKn 9 Z h3<|Zk Z<|Zk Z<|Zk Z<|Zq (pkF Z Z)<|Zn<|zfk Z<|z38<|z3l<|z0m<|gSR<|Zb Z<|z0k<|Ze [] [] Z
 ·refine gKn 6 Z h2<|gSR<|Zq (B.eql Z Z)<|Zb Z<|gIf Z Z (fun h5=>?_) (fun h5=>?_)
  ·refine gKn 16 Z h5<|z7r (fun (s6:Bool) aa ww=>Sta (ctx 54 H [] w) [(32,.rd z09 s6)] [] aa ww) ?_ (fun s6=>?_)
   ·refine z6l [] mixed Z Z<|hTk 0 Z Z (faB 1 Z Z Tryz.underlying46 Z (by exact ti2))<|hTk 1 Z Z (ld 1 Z Z (fP (z57 _)) ty2 Z)<|hTk 2 Z Z (I.eql Z Z)<|hTk 3 Z Z (mv Z)<|hIf 20 Z Z (fun h7=>?_) (fun h7=>?_)
    ·refine hKn 19 Z Z h7<|Zg 4 Z Z (faB 1 Z Z Tryz.underlying46 Z (by exact ti9))<|Zg 5 Z Z (ld 1 Z Z (fP (z3o _)) ty9 Z)<|Zg 6 Z Z (eqS Z Z)<|hTk 7 Z Z (pkT Z Z)<|hTk 8 Z Z (mv Z)<|hIf 25 Z Z (fun h8=>?_) (fun h8=>?_)
     ·refine hKn 23 Z Z h8<|hKn 24 Z Z h8<|Zg 9 Z Z (faB 1 Z Z Tryz.underlying46 Z (by exact zp4))<|Zg 10 Z Z (ld 1 Z Z (fP (z44 _)) znt Z)<|Zg 12 Z Z (faB 1 Z Z Tryz.underlying46 Z (by exact zp4))<|Zg 13 Z Z (ld 1 Z Z (fP (z44 _)) znt Z)<|z2v 11 [] [] Z (by kernel_rfl) Z Zx Z Tryz.func171 Z Z (zhl _) (Y1 Z) rN Z (fun _ _=>z1x) fun r9 n10=>Zg 14 Z Z (U.eql Z Z)<|hTk 15 Z Z (pkT Z Z)<|z3e (by kernel_rfl)<|z3p (fun aa ww h=>Zu h [])
     ·refine hKn 23 Z Z h8<|hKn 24 Z Z h8<|hSk 9 Z Z<|hSk 10 Z Z<|hSk 11 Z Z<|hSk 12 Z Z<|hSk 13 Z Z<|hSk 14 Z Z<|hTk 15 Z Z (pkF Z Z)<|z3e (by kernel_rfl)<|z3p (fun aa ww h=>Zu h [])
    ·refine hKn 19 Z Z h7<|hSk 4 Z Z<|hSk 5 Z Z<|hSk 6 Z Z<|hTk 7 Z Z (pkF Z Z)<|hTk 8 Z Z (mv Z)<|hSk 9 Z Z<|hSk 10 Z Z<|hSk 11 Z Z<|hSk 12 Z Z<|hSk 13 Z Z<|hSk 14 Z Z<|hTk 15 Z Z (pkF Z Z)<|z3e (by kernel_rfl)<|z3p (fun aa ww h=>Zu h [])
   ·refine gIf Z Z (fun h11=>?_) (fun h11=>?_)
    ·refine gSR<|Zb Z<|z0k<|z4p<|z0v<|Ze [] [] Z
    ·refine z38<|z3l<|z0m<|gSR<|Zb Z<|z0k<|Ze [] [] Z
  ·refine gKn 16 Z h5<|gSR<|Zq (B.eql Z Z)<|Zb Z<|gIf Z Z (fun h12=>?_) (fun h12=>?_)
   ·refine gKn 34 Z h12<|z7r (fun (s13:Bool) aa ww=>Sta (ctx 54 H [] w) [(53,.rd z09 s13)] [] aa ww) ?_ (fun s13=>?_)
    ·refine z2g<|Zq (faB 1 Z Z Tryz.underlying46 Z (by exact ti2))<|Zq (ld 1 Z Z (fP (z57 _)) ty2 Z)<|Zq (I.eql Z Z)<|Zm Z<|z28 38 Z (fun h14=>?_) (fun h14=>?_)
     ·refine lKn 37 Z h14<|z1l Zx Z Z (faB 1 Z Z Tryz.underlying46 Z (by exact zp4))<|z1l Zx Z Z (ld 1 Z Z (fP (z44 _)) znt Z)<|z1l Zx Z Z (U.eql Z Z)<|Zq (pkT Z Z)<|Zm Z<|z28 43 Z (fun h15=>?_) (fun h15=>?_)
      ·refine lKn 41 Z h15<|lKn 42 Z h15<|z1l Zx Z Z (faB 1 Z Z Tryz.underlying46 Z (by exact ti9))<|z1l Zx Z Z (ld 1 Z Z (fP (z3o _)) ty9 Z)<|z1l Zx Z Z (zy8 Z Z tu9)<|z1l Zx Z Z (I.leq Z Z)<|Zq (pkT Z Z)<|Zm Z<|z28 49 Z (fun h16=>?_) (fun h16=>?_)
       ·refine lKn 47 Z h16<|lKn 48 Z h16<|z1l Zx Z Z (faB 1 Z Z Tryz.underlying46 Z (by exact ti9))<|z1l Zx Z Z (ld 1 Z Z (fP (z3o _)) ty9 Z)<|zfv [] [] Zx Z Tryz.func172 Z Z (zfa _) (Y1 Z) rN fun r17 n18=>Zq (pkT Z Z)<|z21<|z3p (fun aa ww h=>Zu h [])
       ·refine lKn 47 Z h16<|lKn 48 Z h16<|Zk Z<|Zk Z<|Zk Z<|Zq (pkF Z Z)<|z21<|z3p (fun aa ww h=>Zu h [])
      ·refine lKn 41 Z h15<|lKn 42 Z h15<|Zk Z<|Zk Z<|Zk Z<|Zk Z<|Zq (pkF Z Z)<|Zm Z<|Zk Z<|Zk Z<|Zk Z<|Zq (pkF Z Z)<|z21<|z3p (fun aa ww h=>Zu h [])
     ·refine lKn 37 Z h14<|Zk Z<|Zk Z<|Zk Z<|Zq (pkF Z Z)<|Zm Z<|Zk Z<|Zk Z<|Zk Z<|Zk Z<|Zq (pkF Z Z)<|Zm Z<|Zk Z<|Zk Z<|Zk Z<|Zq (pkF Z Z)<|z21<|z3p (fun aa ww h=>Zu h [])
    ·refine gIf Z Z (fun h19=>?_) (fun h19=>?_)
     ·refine gSR<|Zb Z<|z0k<|z4p<|z0v<|Ze [] [] Z
     ·refine z38<|z3l<|z0m<|gSR<|Zb Z<|z0k<|Ze [] [] Z
   ·refine gKn 34 Z h12<|z38<|z3l<|z0m<|gSR<|Zb Z<|z0k<|Ze [] [] Z
def z7q (a0:z07):Option (Int) :=
 some (decide (a0.Value=(⟨0,0,0,[]⟩:z02))) >>= fun y2 =>
 if a0.Kind==1 then
  if a0.Key==[] then
   if y2 then
    some 0
   else
    some 8
  else
   some 8
 else
  (if a0.Kind==2 then
   some true
  else
   some (a0.Kind==3)) >>= fun s6 =>
  if s6 then
   z8s a0.Key >>= fun r9 =>
   if r9 then
    if y2 then
     some 0
    else
     some 8
   else
    some 8
  else
   if a0.Kind==4 then
    z8s a0.Key >>= fun r14 =>
    if r14 then
     za0 a0.Value >>= fun r17 =>
     if r17==0 then
      some 0
     else
      some 8
    else
     some 8
   else
    some 8
theorem zfr (a0:z07):z1u Tryz.prog 68 [.rd z0i a0] [] (z7q a0) (fun r nv=>⟨[.rd z08 r],[]⟩):=by
 refine z2f 38 Tryz.func68 Z Z Z fun H w=>?_;refine gSR<|Eb Z (bx 1 Z) fun v1=>Zb Z<|gSR<|Zq (faB 1 Z Z Tryz.underlying52 Z (by exact zad))<|Zq (ld 1 Z Z (fP (z33 _)) zh5 Z)<|Zq (bld (x':=(⟨0,0,0,[]⟩:z02)) [(0,1),(1,1),(2,1),(3,1)] Tryz.underlying46 zad Z zjt Z (Bld.done Z))<|Zq (eqA Z Z eq46 Z Z gq46)<|Za Z<|z27 3 Z fun y2=>Zn<|z0q<|gSR<|Zq (faB 1 Z Z Tryz.underlying52 Z (by exact ti5))<|Zq (ld 1 Z Z (fP (z15 _)) ty5 Z)<|Zn<|z5f<|gSR<|Zq (B.eql Z Z)<|Zb Z<|gIf Z Z (fun h3=>?_) (fun h3=>?_)
 ·refine gKn 11 Z h3<|gSR<|Zq (faB 1 Z Z Tryz.underlying52 Z (by exact ti9))<|Zq (ld 1 Z Z (fP (z1i _)) ty9 Z)<|Zq (eqS Z Z)<|Zm Z<|z28 15 Z (fun h4=>?_) (fun h4=>?_)
  ·refine lKn 14 Z h4<|z1l Zx Z Z (mv Z)<|Zq (pkT Z Z)<|Zj Z (fun h5=>?_) (fun h5=>?_)
   ·refine gKn 3 Z h5<|gKn 16 Z h5<|gSR<|Zb Z<|z0k<|z4p<|z0v<|Ze [] [] Z
   ·refine gKn 3 Z h5<|gKn 16 Z h5<|z38<|z3l<|z0m<|gSR<|Zb Z<|z0k<|Ze [] [] Z
  ·refine lKn 14 Z h4<|Zk Z<|Zq (pkF Z Z)<|Zn<|zfk Z<|z38<|z3l<|z0m<|gSR<|Zb Z<|z0k<|Ze [] [] Z
 ·refine gKn 11 Z h3<|z7r (fun (s6:Bool) aa ww=>Sta (ctx 38 H [] w) [(1,.val (z05 v1 0)),(3,.rd z09 y2),(9,.rd u8R a0.Kind),(18,.rd z09 s6)] [(1,some (v1,.box 52 [.rd z0i a0]))] aa ww) ?_ (fun s6=>?_)
  ·refine gSR<|Zq (B.eql Z Z)<|Zb Z<|gIf Z Z (fun h7=>?_) (fun h7=>?_)
   ·refine gKn 19 Z h7<|z38<|z3p (fun aa ww h=>Zu h [1])
   ·refine gKn 19 Z h7<|z2g<|Zq (B.eql Z Z)<|Za Z<|z21<|z3p (fun aa ww h=>Zu h [1])
  ·refine gIf Z Z (fun h8=>?_) (fun h8=>?_)
   ·refine gSR<|Zq (faB 1 Z Z Tryz.underlying52 Z (by exact ti9))<|Zq (ld 1 Z Z (fP (z1i _)) ty9 Z)<|Zc [] [] Tryz.func123 Z (zdi _) fun r9 n10=>Zm Z<|z28 24 Z (fun h11=>?_) (fun h11=>?_)
    ·refine lKn 23 Z h11<|z1l Zx Z Z (mv Z)<|Zq (pkT Z Z)<|Zj Z (fun h12=>?_) (fun h12=>?_)
     ·refine gKn 3 Z h12<|gKn 25 Z h12<|gSR<|Zb Z<|z0k<|z4p<|z0v<|Ze [] [] Z
     ·refine gKn 3 Z h12<|gKn 25 Z h12<|z38<|z3l<|z0m<|gSR<|Zb Z<|z0k<|Ze [] [] Z
    ·refine lKn 23 Z h11<|Zk Z<|Zq (pkF Z Z)<|Zn<|zfk Z<|z38<|z3l<|z0m<|gSR<|Zb Z<|z0k<|Ze [] [] Z
   ·refine gSR<|Zq (B.eql Z Z)<|Zb Z<|gIf Z Z (fun h13=>?_) (fun h13=>?_)
    ·refine gKn 28 Z h13<|gSR<|Zq (faB 1 Z Z Tryz.underlying52 Z (by exact ti9))<|Zq (ld 1 Z Z (fP (z1i _)) ty9 Z)<|Zc [] [] Tryz.func123 Z (zdi _) fun r14 n15=>Zm Z<|z28 32 Z (fun h16=>?_) (fun h16=>?_)
     ·refine lKn 31 Z h16<|z1l Zx Z Z (faB 1 Z Z Tryz.underlying52 Z (by exact zad))<|z1l Zx Z Z (ld 1 Z Z (fP (z33 _)) zh5 Z)<|zfv [] [] Zx Z Tryz.func124 Z Z (zii _) (Y1 Z) rN fun r17 n18=>z1l Zx Z Z (I.eql Z Z)<|Zq (pkT Z Z)<|Zj Z (fun h19=>?_) (fun h19=>?_)
      ·refine gKn 36 Z h19<|gSR<|Zb Z<|z0k<|z4p<|z0v<|Ze [] [] Z
      ·refine gKn 36 Z h19<|z38<|z3l<|z0m<|gSR<|Zb Z<|z0k<|Ze [] [] Z
     ·refine lKn 31 Z h16<|Zk Z<|Zk Z<|Zk Z<|Zk Z<|Zq (pkF Z Z)<|Zn<|zfk Z<|z38<|z3l<|z0m<|gSR<|Zb Z<|z0k<|Ze [] [] Z
    ·refine gKn 28 Z h13<|z38<|z3l<|z0m<|gSR<|Zb Z<|z0k<|Ze [] [] Z
def z41 (a0:UInt32):Option (Bool) :=
 some (decide (a0.toUInt64<500000003)) >>= fun y1 =>
 some y1
theorem z5w (a0:UInt32):z1u Tryz.prog 69 [.rd z0p a0] [] (z41 a0) (fun r nv=>⟨[.rd z09 r],[]⟩):=by
 refine z2f 6 Tryz.func69 Z Z Z fun H w=>?_;refine gSR<|Zb Z<|gSR<|Zm Z<|Zq (W.toU Z tu63 tu44)<|Zq (U.lss Z Z)<|Za Z<|z27 2 Z fun y1=>Zn<|z0k<|Ze [] [] Z
def z85 (a0:z0a):Option (Int) :=
 if decide (4<(a0.Preds.length:Int)) then
  some 4
 else
  z79 a0.Preds >>= fun r3 =>
  if !r3 then
   some 32
  else
   (zap a0.Author >>= fun r7 =>
   if !r7 then
    some true
   else
    if decide (1000000000000<a0.Stamp) then
     some true
    else
     z7q a0.Act >>= fun r11 =>
     if r11 != 0 then
      some true
     else
      z41 a0.Sig.E >>= fun r14 =>
      if !r14 then
       some true
      else
       z41 a0.Sig.S >>= fun r17 =>
       some (!r17)) >>= fun s6 =>
   if s6 then
    some 8
   else
    some 0
theorem zcu (a0:z0a):z1u Tryz.prog 33 [.rd z04 a0] [] (z85 a0) (fun r nv=>⟨[.rd z08 r],[]⟩):=by
 refine z2f 40 Tryz.func33 Z Z Z fun H w=>?_;refine gSR<|Eb Z (bx 1 Z) fun v1=>Zb Z<|z0q<|gSR<|Zq (faB 1 Z Z Tryz.underlying67 Z (by exact zb4))<|Zq (ld 1 Z Z (fP (z1b _)) zbp Z)<|Zq (z4f Z .rd Z tu22)<|Zq (I.gtr Z Z)<|Zj Z (fun h2=>?_) (fun h2=>?_)
 ·refine gSR<|Zb Z<|z0k<|z0v<|Ze [] [] Z
 ·refine Zt<|z0q<|gSR<|Zq (faB 1 Z Z Tryz.underlying67 Z (by exact zb4))<|Zq (ld 1 Z Z (fP (z1b _)) zbp Z)<|Zc [] [] Tryz.func37 Z (zca _) fun r3 n4=>Zq (zgu Z)<|Zj Z (fun h5=>?_) (fun h5=>?_)
  ·refine gSR<|Zb Z<|z0k<|z0v<|Ze [] [] Z
  ·refine Zt<|z0q<|z7r (fun (s6:Bool) aa ww=>Sta (ctx 40 H [] w) [(39,.rd z09 s6)] [] aa ww) ?_ (fun s6=>?_)
   ·refine z2g<|Zq (faB 1 Z Z Tryz.underlying67 Z (by exact z60))<|Zq (ld 1 Z Z (fP (z56 _)) z9i Z)<|Zc [] [] Tryz.func67 Z (zfg _) fun r7 n8=>Zq (zgu Z)<|Zm Z<|z28 15 Z (fun h9=>?_) (fun h9=>?_)
    ·refine lKn 14 Z h9<|Zk Z<|Zk Z<|Zk Z<|Zq (pkT Z Z)<|Zm Z<|Zk Z<|Zk Z<|Zk Z<|Zk Z<|Zq (pkT Z Z)<|Zm Z<|Zk Z<|Zk Z<|Zk Z<|Zk Z<|Zk Z<|Zq (pkT Z Z)<|Zm Z<|Zk Z<|Zk Z<|Zk Z<|Zk Z<|Zk Z<|Zq (pkT Z Z)<|z21<|z3p (fun aa ww h=>Zu h [])
    ·refine lKn 14 Z h9<|z1l Zx Z Z (faB 1 Z Z Tryz.underlying67 Z (by exact zp4))<|z1l Zx Z Z (ld 1 Z Z (fP (z3u _)) znt Z)<|z1l Zx Z Z (U.gtr Z Z)<|Zq (pkF Z Z)<|Zm Z<|z28 20 Z (fun h10=>?_) (fun h10=>?_)
     ·refine lKn 18 Z h10<|lKn 19 Z h10<|Zk Z<|Zk Z<|Zk Z<|Zk Z<|Zq (pkT Z Z)<|Zm Z<|Zk Z<|Zk Z<|Zk Z<|Zk Z<|Zk Z<|Zq (pkT Z Z)<|Zm Z<|Zk Z<|Zk Z<|Zk Z<|Zk Z<|Zk Z<|Zq (pkT Z Z)<|z21<|z3p (fun aa ww h=>Zu h [])
     ·refine lKn 18 Z h10<|lKn 19 Z h10<|z1l Zx Z Z (faB 1 Z Z Tryz.underlying67 Z (by exact ze9))<|z1l Zx Z Z (ld 1 Z Z (fP (z0w _)) ty52 Z)<|zfv [] [] Zx Z Tryz.func68 Z Z (zfr _) (Y1 Z) rN fun r11 n12=>z1l Zx Z Z (I.neq Z Z)<|Zq (pkF Z Z)<|Zm Z<|z28 26 Z (fun h13=>?_) (fun h13=>?_)
      ·refine lKn 24 Z h13<|lKn 25 Z h13<|Zk Z<|Zk Z<|Zk Z<|Zk Z<|Zk Z<|Zq (pkT Z Z)<|Zm Z<|Zk Z<|Zk Z<|Zk Z<|Zk Z<|Zk Z<|Zq (pkT Z Z)<|z21<|z3p (fun aa ww h=>Zu h [])
      ·refine lKn 24 Z h13<|lKn 25 Z h13<|z1l Zx Z Z (faB 1 Z Z Tryz.underlying67 Z (by exact znj))<|z1l Zx Z Z (faB 1 Z Z Tryz.underlying65 Z (by exact z60))<|z1l Zx Z Z (ld 1 Z Z ((fP (z3z _)).part (z4v _)) z9i Z)<|zfv [] [] Zx Z Tryz.func69 Z Z (z5w _) (Y1 Z) rN fun r14 n15=>z1l Zx Z Z (zgu Z)<|Zq (pkF Z Z)<|Zm Z<|z28 33 Z (fun h16=>?_) (fun h16=>?_)
       ·refine lKn 31 Z h16<|lKn 32 Z h16<|Zk Z<|Zk Z<|Zk Z<|Zk Z<|Zk Z<|Zq (pkT Z Z)<|z21<|z3p (fun aa ww h=>Zu h [])
       ·refine lKn 31 Z h16<|lKn 32 Z h16<|z1l Zx Z Z (faB 1 Z Z Tryz.underlying67 Z (by exact znj))<|z1l Zx Z Z (faB 1 Z Z Tryz.underlying65 Z (by exact z60))<|z1l Zx Z Z (ld 1 Z Z ((fP (z3z _)).part (z6c _)) z9i Z)<|zfv [] [] Zx Z Tryz.func69 Z Z (z5w _) (Y1 Z) rN fun r17 n18=>z1l Zx Z Z (zgu Z)<|Zq (pkF Z Z)<|z21<|z3p (fun aa ww h=>Zu h [])
   ·refine gIf Z Z (fun h19=>?_) (fun h19=>?_)
    ·refine gSR<|Zb Z<|z0k<|z0v<|Ze [] [] Z
    ·refine Zt<|gSR<|Zb Z<|z0k<|Ze [] [] Z
def z5j (a0:UInt32) (a1:UInt64):Option (UInt32) :=
 z83 a0.toUInt64 a1 1000000007 >>= fun r1 =>
 some r1.toUInt32
theorem z9h (a0:UInt32) (a1:UInt64):z1u Tryz.prog 126 [.rd z0p a0,.rd z2x a1] [] (z5j a0 a1) (fun r nv=>⟨[.rd z0p r],[]⟩):=by
 refine z2f 10 Tryz.func126 Z Z Z fun H w=>?_;refine gSR<|Zb Z<|gSR<|Zm Z<|Zq (W.toU Z tu63 tu44)<|Zm Z<|Zc [] [] Tryz.func122 Z (zcw _ _ _) fun r1 n2=>Zq (U.toW Z tu44 tu63)<|Zb Z<|z0k<|Ze [] [] Z
def ze1 (a0:UInt32):Option (UInt32 × Int) :=
 zap a0 >>= fun r1 =>
 if !r1 then
  some (0,2)
 else
  z5j a0 500000002 >>= fun r4 =>
  some (r4,0)
theorem zk2 (a0:UInt32):z1u Tryz.prog 125 [.rd z0p a0] [] (ze1 a0) (fun r nv=>⟨[.rd z0p r.1,.rd z08 r.2],[]⟩):=by
 refine z2f 9 Tryz.func125 Z Z Z fun H w=>?_;refine gSR<|Za Z<|Zb Z<|z0q<|gSR<|Zm Z<|Zc [] [] Tryz.func67 Z (zfg _) fun r1 n2=>Zq (zgu Z)<|Zj Z (fun h3=>?_) (fun h3=>?_)
 ·refine gSR<|Za Z<|Zb Z<|z0k<|z0v<|Ze [] [] Z
 ·refine Zt<|gSR<|Zm Z<|Zc [] [] Tryz.func126 Z (z9h _ _) fun r4 n5=>Za Z<|Zb Z<|z0k<|Ze [] [] Z
def zd5 (a0:UInt64):Option (UInt32) :=
 z5j 4 a0 >>= fun r1 =>
 some r1
theorem zit (a0:UInt64):z1u Tryz.prog 175 [.rd z2x a0] [] (zd5 a0) (fun r nv=>⟨[.rd z0p r],[]⟩):=by
 refine z2f 5 Tryz.func175 Z Z Z fun H w=>?_;refine gSR<|Zb Z<|gSR<|Zm Z<|Zc [] [] Tryz.func126 Z (z9h _ _) fun r1 n2=>Zb Z<|z0k<|Ze [] [] Z
def zdy (a0:UInt32):Option (UInt32) :=
 zd5 a0.toUInt64 >>= fun r1 =>
 some r1
theorem zk5 (a0:UInt32):z1u Tryz.prog 129 [.rd z0p a0] [] (zdy a0) (fun r nv=>⟨[.rd z0p r],[]⟩):=by
 refine z2f 6 Tryz.func129 Z Z Z fun H w=>?_;refine gSR<|Zb Z<|gSR<|Zm Z<|Zq (W.toU Z tu63 tu44)<|Zc [] [] Tryz.func175 Z (zit _) fun r1 n2=>Zb Z<|z0k<|Ze [] [] Z
def zal (a0:UInt32) (a1:UInt32):Option (UInt32) :=
 some (((a0.toUInt64 * a1.toUInt64) % 1000000007).toUInt32) >>= fun y1 =>
 some y1
theorem zg8 (a0:UInt32) (a1:UInt32):z1u Tryz.prog 128 [.rd z0p a0,.rd z0p a1] [] (zal a0 a1) (fun r nv=>⟨[.rd z0p r],[]⟩):=by
 refine z2f 12 Tryz.func128 Z Z Z fun H w=>?_;refine gSR<|Zb Z<|gSR<|Zm Z<|Zq (W.toU Z tu63 tu44)<|Zm Z<|Zq (W.toU Z tu63 tu44)<|Zq (U.mul Z Z)<|Zq (U.rem Z Z (by decide))<|Zq (U.toW Z tu44 tu63)<|Za Z<|z27 4 Z fun y1=>Zn<|z0k<|Ze [] [] Z
def z8t (a0:UInt32):Option ((List UInt8)) :=
 some [(a0 / 16777216).toUInt8,((a0 / 65536) % 256).toUInt8,((a0 / 256) % 256).toUInt8,(a0 % 256).toUInt8]
theorem zdt (a0:UInt32):z1u Tryz.prog 173 [.rd z0p a0] [] (z8t a0) (fun r nv=>⟨[.val (nv 0)],[(100,some (nv 0,.list u8R 5 r))]⟩):=by
 refine z2f 18 Tryz.func173 Z Z Z fun H w=>?_;refine gSR<|Zb Z<|gSR<|Zm Z<|Zq (W.quo Z Z (by decide))<|Zq (W.toB Z tu63 tu5)<|Zm Z<|Zq (W.quo Z Z (by decide))<|Zq (W.rem Z Z (by decide))<|Zq (W.toB Z tu63 tu5)<|Zm Z<|Zq (W.quo Z Z (by decide))<|Zq (W.rem Z Z (by decide))<|Zq (W.toB Z tu63 tu5)<|Zm Z<|Zq (W.rem Z Z (by decide))<|Zq (W.toB Z tu63 tu5)<|Ef Z (lit (R:=u8R) ([(a0 / 16777216).toUInt8,((a0 / 65536) % 256).toUInt8,((a0 / 256) % 256).toUInt8,(a0 % 256).toUInt8]:List UInt8) 1 (pP Z Z<|pP Z Z<|pP Z Z<|pP Z Z<|pN) Z tu94 ti5 Z Z) fun v1=>Zb Z<|z0k<|Ze [v1] [1] Z
def z59 (r1:V3) (s5:UInt64 × Int):Option (Sum UInt64 (UInt64 × Int)) :=
 if decide (s5.2<8) then
  z7m r1 s5.2 >>= fun x7 =>
  some ((256 * s5.1)+x7.toUInt64) >>= fun y9 =>
  some (w64 (s5.2+1)) >>= fun y10 =>
  some (.inr (y9,y10))
 else
  some (.inl s5.1)
def z8w (a0:List UInt8):Option (UInt64) :=
 zas a0 >>= fun r1 =>
 (iter (z59 r1) (0,0)) >>= fun s4 =>
 some s4
theorem zh1 (a0:List UInt8):z1u Tryz.prog 174 [.rd (z03 u8R) a0] [] (z8w a0) (fun r nv=>⟨[.rd z2x r],[]⟩):=by
 refine z2f 20 Tryz.func174 Z Z Z fun H w=>?_;refine gSR<|Zb Z<|gSR<|Zm Z<|Zc [] [] Tryz.func35 Z (zfe _) fun r1 n2=>Eb Z (z5l 1 z3v (.zr (R:=aZ) (x:=(Vector.replicate 32 0)) zfn)) fun v3=>Es (sto 1 Z Z fH Z z3v)<|Zn<|gSR<|Zb Z<|z7r (fun (s4:UInt64) aa ww=>Sta (ctx 20 H [] w) [(4,.rd z2x s4)] [] aa ww) ?_ (fun s4=>?_)
 ·refine gSR<|Zb Z<|z29 (fun (s5:UInt64 × Int) aa ww=>Sta (ctx 20 H [] w) [(3,.val (z05 v3 0)),(4,.rd z2x s5.1),(5,.rd z08 s5.2)] [(1,some (v3,.box 54 [.rd aZ r1]))] aa ww) (fun aa ww h=>Zu h [1]) (fun s5=>?_);refine z0q<|gSR<|Zm Z<|Zq (I.lss Z Z)<|Zj Z (fun h6=>?_) (fun h6=>?_)
  ·refine Zt<|z0q<|z5f<|z2g<|Zm Z<|Zq (U.mul Z Z)<|Zm Z<|z0t fun x7 h8=>Zq (ixB 1 Z Z Z h8 tu54 ti5)<|Zq (ld 1 Z Z (fP (.el h8)) ty5 Z)<|Zq (B.toU Z tu5 tu44)<|Zq (U.add Z Z)<|Za Z<|z27 4 Z fun y9=>z21<|z3l<|z0m<|z2g<|Zm Z<|Zq (I.add Z Z)<|Za Z<|z27 5 Z fun y10=>z21<|z1m (fun aa ww h=>Zu h [1])
  ·refine z1z<|z10<|z14<|z3p (fun aa ww h=>Zu h [])
 ·refine gSR<|Zm Z<|Zb Z<|z0k<|Ze [] [] Z
def z73 (a0:UInt32) (a1:UInt32) (a2:List UInt8):Option (UInt32) :=
 z8t a0 >>= fun r2 =>
 app 1 [99] r2 >>= fun x4 =>
 z8t a1 >>= fun r7 =>
 app 1 x4 r7 >>= fun x9 =>
 app 1 x9 a2 >>= fun x12 =>
 z8w x12 >>= fun r15 =>
 some ((r15 % 500000003).toUInt32) >>= fun y17 =>
 some y17
theorem zeq (a0:UInt32) (a1:UInt32) (a2:List UInt8):z1u Tryz.prog 127 [.rd z0p a0,.rd z0p a1,.rd (z03 u8R) a2] [] (z73 a0 a1 a2) (fun r nv=>⟨[.rd z0p r],[]⟩):=by
 refine z2f 21 Tryz.func127 Z Z Z fun H w=>?_;refine gSR<|Zb Z<|gSR<|Ef Z (lit (R:=u8R) ([99]:List UInt8) 1 (pP Z Z<|pN) Z tu94 ti5 Z Z) fun v1=>Zm Z<|Zc [] [(100,2)] Tryz.func173 Z (zdt _) fun r2 n3=>z0t fun x4 h5=>Ef Z (apn 1 Z Z Z (.own 2 Z) h5 tu94 ti5 Z Z Z) fun v6=>Zm Z<|Zc [] [(100,3)] Tryz.func173 Z (zdt _) fun r7 n8=>z0t fun x9 h10=>Ef Z (apn 1 Z Z Z (.own 3 Z) h10 tu94 ti5 Z Z Z) fun v11=>Zb Z<|gSR<|Zm Z<|Zm Z<|z0t fun x12 h13=>Ef Z (apn 1 Z Z Z .rd h13 tu94 ti5 Z Z Z) fun v14=>zl7 1 [17] Z (fS Z<|fN)<|Zc [] [] Tryz.func174 Z (zh1 _) fun r15 n16=>Zq (U.rem Z Z (by decide))<|Zq (U.toW Z tu44 tu63)<|Za Z<|z27 6 Z fun y17=>Zn<|z0k<|Ze [] [] Z
def za2 (a0:UInt32) (a1:List UInt8) (a2:z0c):Option (Bool) :=
 z41 a2.E >>= fun r2 =>
 if !r2 then
  some false
 else
  z41 a2.S >>= fun r5 =>
  if !r5 then
   some false
  else
   z5j a0 a2.E.toUInt64 >>= fun r8 =>
   ze1 r8 >>= fun r10 =>
   zdy a2.S >>= fun r12 =>
   zal r12 r10.1 >>= fun r14 =>
   z73 r14 a0 a1 >>= fun r16 =>
   some (r16==a2.E)
theorem zic (a0:UInt32) (a1:List UInt8) (a2:z0c):z1u Tryz.prog 70 [.rd z0p a0,.rd (z03 u8R) a1,.rd z0r a2] [] (za2 a0 a1 a2) (fun r nv=>⟨[.rd z09 r],[]⟩):=by
 refine z2f 39 Tryz.func70 Z Z Z fun H w=>?_;refine gSR<|Eb Z (bx 1 Z) fun v1=>Zb Z<|z0q<|gSR<|Zq (faB 1 Z Z Tryz.underlying65 Z (by exact z60))<|Zq (ld 1 Z Z (fP (z4v _)) z9i Z)<|Zc [] [] Tryz.func69 Z (z5w _) fun r2 n3=>Zq (zgu Z)<|Zm Z<|z28 13 Z (fun h4=>?_) (fun h4=>?_)
 ·refine lKn 12 Z h4<|Zk Z<|Zk Z<|Zk Z<|Zk Z<|Zq (pkT Z Z)<|Zn<|zdc Z<|gSR<|Zb Z<|z0k<|z0v<|Ze [] [] Z
 ·refine lKn 12 Z h4<|z1l Zx Z Z (faB 1 Z Z Tryz.underlying65 Z (by exact z60))<|z1l Zx Z Z (ld 1 Z Z (fP (z6c _)) z9i Z)<|zfv [] [] Zx Z Tryz.func69 Z Z (z5w _) (Y1 Z) rN fun r5 n6=>z1l Zx Z Z (zgu Z)<|Zq (pkF Z Z)<|Zj Z (fun h7=>?_) (fun h7=>?_)
  ·refine gKn 17 Z h7<|gSR<|Zb Z<|z0k<|z0v<|Ze [] [] Z
  ·refine gKn 17 Z h7<|Zt<|gSR<|Zm Z<|Zq (faB 1 Z Z Tryz.underlying65 Z (by exact z60))<|Zq (ld 1 Z Z (fP (z4v _)) z9i Z)<|Zq (W.toU Z tu63 tu44)<|Zc [] [] Tryz.func126 Z (z9h _ _) fun r8 n9=>Zc [] [] Tryz.func125 Z (zk2 _) fun r10 n11=>Zm Z<|Zq (ext Z Z)<|Zq (ext Z Z)<|Za Z<|Zb Z<|z0q<|z6l [] mixed Z Z<|hTk 0 Z Z (faB 1 Z Z Tryz.underlying65 Z (by exact z60))<|hTk 1 Z Z (ld 1 Z Z (fP (z6c _)) z9i Z)<|hTk 3 Z Z (mv Z)<|hTk 5 Z Z (mv Z)<|hTk 6 Z Z (mv Z)<|hTk 8 Z Z (faB 1 Z Z Tryz.underlying65 Z (by exact z60))<|hTk 9 Z Z (ld 1 Z Z (fP (z4v _)) z9i Z)<|z2v 2 [] [] Z (by kernel_rfl) Z (gd0 Z) Z Tryz.func129 Z Z (zk5 _) (Y1 Z) rN Z (fun _ _=>z1x) fun r12 n13=>z2v 4 [] [] Z (by kernel_rfl) Z (gd0 Z) Z Tryz.func128 Z Z (zg8 _ _) (Y2 Z Z) rN Z (fun _ _=>z1x) fun r14 n15=>z2v 7 [] [] Z (by kernel_rfl) Z (gd0 Z) Z Tryz.func127 Z Z (zeq _ _ _) (aQ Z<|aQ Z<|aQ Z<|aN) rN Z (fun _ _=>z1x) fun r16 n17=>hTk 10 Z Z (W.eql Z Z)<|hTk 11 Z Z (asg Z)<|z3e (by kernel_rfl)<|z0m<|z0k<|Ze [] [] Z
def zba (a0:z0a):Option (Bool) :=
 z8n a0 >>= fun r2 =>
 za2 a0.Author r2 a0.Sig >>= fun r4 =>
 some r4
theorem zh9 (a0:z0a):z1u Tryz.prog 34 [.rd z04 a0] [] (zba a0) (fun r nv=>⟨[.rd z09 r],[]⟩):=by
 refine z2f 10 Tryz.func34 Z Z Z fun H w=>?_;refine gSR<|Eb Z (bx 1 Z) fun v1=>Zb Z<|z0q<|z6l [11] mixed Z Z<|hTk 0 Z Z (faB 1 Z Z Tryz.underlying67 Z (by exact z60))<|hTk 1 Z Z (ld 1 Z Z (fP (z56 _)) z9i Z)<|hTk 2 Z Z (ld 1 Z Z fH zeb Z)<|hTk 4 Z Z (faB 1 Z Z Tryz.underlying67 Z (by exact znj))<|hTk 5 Z Z (ld 1 Z Z (fP (z3z _)) ty65 Z)<|z2v 3 [] [(100,11)] Z (by kernel_rfl) Z (gd0 Z) Z Tryz.func71 Z Z (zdu _) (Y1 Z) rN Z (fun _ _=>z37) fun r2 n3=>hFrz 11 [6] Z (fS Z<|fN)<|z2v 6 [] [] Z (by kernel_rfl) Z (gd0 Z) Z Tryz.func70 Z Z (zic _ _ _) (aQ Z<|aQ Z<|aQ Z<|aN) rN Z (fun _ _=>z9l) fun r4 n5=>hTk 7 Z Z (asg Z)<|z3e (by kernel_rfl)<|z0m<|z0k<|Ze [] [] Z
def z98 (a0:z0a):Option (Int) :=
 z85 a0 >>= fun r2 =>
 if r2 != 0 then
  z85 a0 >>= fun r5 =>
  some r5
 else
  zba a0 >>= fun r7 =>
  if !r7 then
   some 22
  else
   some 0
theorem zh7 (a0:z0a):z1u Tryz.prog 17 [.rd z04 a0] [] (z98 a0) (fun r nv=>⟨[.rd z08 r],[]⟩):=by
 refine z2f 11 Tryz.func17 Z Z Z fun H w=>?_;refine gSR<|Eb Z (bx 1 Z) fun v1=>Zb Z<|z0q<|gSR<|Zq (ld 1 Z Z fH zeb Z)<|Zc [] [] Tryz.func33 Z (zcu _) fun r2 n3=>Zq (I.neq Z Z)<|Zj Z (fun h4=>?_) (fun h4=>?_)
 ·refine gSR<|Zq (ld 1 Z Z fH zeb Z)<|Zc [] [] Tryz.func33 Z (zcu _) fun r5 n6=>Zb Z<|z0k<|z0v<|Ze [] [] Z
 ·refine Zt<|z0q<|gSR<|Zq (ld 1 Z Z fH zeb Z)<|Zc [] [] Tryz.func34 Z (zh9 _) fun r7 n8=>Zq (zgu Z)<|Zj Z (fun h9=>?_) (fun h9=>?_)
  ·refine gSR<|Zb Z<|z0k<|z0v<|Ze [] [] Z
  ·refine Zt<|gSR<|Zb Z<|z0k<|Ze [] [] Z
end
section
open Go Go.RowKit
set_option maxRecDepth 100000
def z0h (a0:List V3) (a1:V3) (s4:Int × Int):Option (Sum Int (Int × Int)) :=
 if decide (s4.1<s4.2) then
  some (w64 ((z71 (UInt64.ofInt (w64 (s4.1+s4.2))) 1).toNat:Int)) >>= fun y6 =>
  idx a0 y6 >>= fun x7 =>
  z87 x7 a1 >>= fun r9 =>
  if decide (r9<0) then
   some (.inr (w64 (y6+1),s4.2))
  else
   some (.inr (s4.1,y6))
 else
  some (.inl s4.1)
def z0e (a0:List V3) (a1:V3):Option (Int × Bool) :=
 some (a0.length:Int) >>= fun y2 =>
 (iter (z0h a0 a1) (0,y2)) >>= fun s3 =>
 if decide (s3<y2) then
  idx a0 s3 >>= fun x13 =>
  z87 x13 a1 >>= fun r15 =>
  some (s3,r15==0)
 else
  some (s3,false)
theorem z2t (a0:List V3) (a1:V3):z1u Tryz.prog 121 [.rd (z03 aZ) a0,.rd aZ a1,.val (.func (.func 51) #[] #[])] [] (z0e a0 a1) (fun r nv=>⟨[.rd z08 r.1,.rd z09 r.2],[]⟩):=by
 refine z2f 49 Tryz.func121 Z Z Z fun H w=>?_;refine gSR<|Eb Z (bx 1 Z) fun v1=>Za Z<|Zb Z<|gSR<|Zm Z<|Zq (z4f Z .rd Z tu22)<|Za Z<|z27 8 Z fun y2=>Zn<|gSR<|Zm Z<|Za Z<|Zb Z<|z7r (fun (s3:Int) aa ww=>Sta (ctx 49 H [] w) [(0,.rd (z03 aZ) a0),(2,.val (.func (.func 51) #[] #[])),(4,.val (z05 v1 0)),(8,.rd z08 y2),(9,.rd z08 s3)] [(1,some (v1,.box 54 [.rd aZ a1]))] aa ww) ?_ (fun s3=>?_)
 ·refine z29 (fun (s4:Int × Int) aa ww=>Sta (ctx 49 H [] w) [(0,.rd (z03 aZ) a0),(2,.val (.func (.func 51) #[] #[])),(4,.val (z05 v1 0)),(8,.rd z08 y2),(9,.rd z08 s4.1),(10,.rd z08 s4.2)] [(1,some (v1,.box 54 [.rd aZ a1]))] aa ww) (fun aa ww h=>Zu h [1]) (fun s4=>?_);refine z0q<|gSR<|Zm Z<|Zm Z<|Zq (I.lss Z Z)<|Zj Z (fun h5=>?_) (fun h5=>?_)
  ·refine Zt<|z5f<|gSR<|Zm Z<|Zm Z<|Zq (I.add Z Z)<|Zq (I.toU Z tu3 Tryz.underlying116)<|Zq (U.shr Z Z (Int.natCast_nonneg _))<|Zq (U.toI Z Tryz.underlying116 tu3)<|Za Z<|z27 11 Z fun y6=>Zn<|z0q<|z6l [] mixed Z Z<|hTk 0 Z Z (mv Z)<|hTk 1 Z Z (mv Z)<|hTk 2 Z Z (mv Z)<|z5g fun x7 h8=>hTk 3 Z Z (ixR Z Z h8 tu22 z3v Z)<|hTk 4 Z Z (ldR Z z6a)<|hTk 5 Z Z (ld 1 Z Z fH z6a Z)<|ztg 6 [] [] Z (by kernel_rfl) Z (gd0 Z) Z Tryz.func51 Z Z Z (z92 _ _) (Y2 Z Z) (cN) Z rN Z (fun _ _=>z1x) fun r9 n10=>hTk 7 Z Z (I.lss Z Z)<|z3e (by kernel_rfl)<|z0m<|gIf Z Z (fun h11=>?_) (fun h11=>?_)
   ·refine z2g<|Zm Z<|Zq (I.add Z Z)<|Za Z<|z21<|z3l<|z1m (fun aa ww h=>Zu h [1])
   ·refine z2g<|Zm Z<|Za Z<|z21<|z3l<|z1m (fun aa ww h=>Zu h [1])
  ·refine z1z<|z10<|z14<|z3p (fun aa ww h=>Zu h [1])
 ·refine z0q<|z6l [] mixed Z Z<|hTk 0 Z Z (mv Z)<|hTk 1 Z Z (mv Z)<|hTk 2 Z Z (mv Z)<|hTk 3 Z Z (I.lss Z Z)<|hTk 4 Z Z (mv Z)<|hIf 39 Z Z (fun h12=>?_) (fun h12=>?_)
  ·refine hKn 38 Z Z h12<|Zg 5 Z Z (mv Z)<|Zg 6 Z Z (mv Z)<|Zg 7 Z Z (mv Z)<|z5g fun x13 h14=>Zg 8 Z Z (ixR Z Z h14 tu22 z3v Z)<|Zg 9 Z Z (ldR Z z6a)<|Zg 10 Z Z (ld 1 Z Z fH z6a Z)<|ztg 11 [] [] Z (by kernel_rfl) Z Zx Z Tryz.func51 Z Z Z (z92 _ _) (Y2 Z Z) (cN) Z rN Z (fun _ _=>z1x) fun r15 n16=>Zg 12 Z Z (I.eql Z Z)<|hTk 13 Z Z (pkT Z Z)<|hTk 14 Z Z (asg Z)<|hTk 15 Z Z (asg Z)<|z3e (by kernel_rfl)<|z0m<|z0k<|Ze [] [] Z
  ·refine hKn 38 Z Z h12<|hSk 5 Z Z<|hSk 6 Z Z<|hSk 7 Z Z<|hSk 8 Z Z<|hSk 9 Z Z<|hSk 10 Z Z<|hSk 11 Z Z<|hSk 12 Z Z<|hTk 13 Z Z (pkF Z Z)<|hTk 14 Z Z (asg Z)<|hTk 15 Z Z (asg Z)<|z3e (by kernel_rfl)<|z0m<|z0k<|Ze [] [] Z
def zde (a0:z00) (a1:V3):Option (Int × Bool) :=
 z0e a0.IDs a1 >>= fun r3 =>
 some (r3.1,r3.2)
theorem zhr (a0:z00) (a1:V3):z1u Tryz.prog 66 [.rd z01 a0,.rd aZ a1] [] (zde a0 a1) (fun r nv=>⟨[.rd z08 r.1,.rd z09 r.2],[]⟩):=by
 refine z2f 12 Tryz.func66 Z Z Z fun H w=>?_;refine gSR<|Eb Z (bx 1 Z) fun v1=>Eb Z (bx 2 Z) fun v2=>Za Z<|Zb Z<|gSR<|Zq (faB 1 Z Z Tryz.underlying25 Z (by exact zb4))<|Zq (ld 1 Z Z (fP (z0n _)) zbp Z)<|Zq (ld 2 Z Z fH z6a Z)<|Zc [] [] Tryz.func121 Z (z2t _ _) fun r3 n4=>Zq (ext Z Z)<|Zq (ext Z Z)<|Za Z<|Zb Z<|z0k<|Ze [] [] Z
def z8p (a0:z00) (s3:Int):Option (Sum (Sum Int Unit) Int) :=
 if decide (s3<(a0.IDs.length:Int)) then
  idx a0.IDs (w64 (s3 - 1)) >>= fun x5 =>
  idx a0.IDs s3 >>= fun x7 =>
  z87 x5 x7 >>= fun r9 =>
  if decide (0≤r9) then
   some (.inl (.inl 32))
  else
   some (.inr (w64 (s3+1)))
 else
  some (.inl (.inr ()))
def zab (a0:z00) (s19:(List Int) × (List (List Int)) × (List Int) × Int) (x22:z0a) (s26:(List (List Int)) × Int):Option (Sum (Sum (Sum (Sum Int ((List Int) × (List (List Int)) × (List Int))) ((List Int) × (List (List Int)) × (List Int) × Int)) ((List (List Int)))) ((List (List Int)) × Int)) :=
 if decide (s26.2<(x22.Preds.length:Int)) then
  idx x22.Preds s26.2 >>= fun x29 =>
  zde a0 x29 >>= fun r32 =>
  if !r32.2 then
   some (.inl (.inl (.inl (.inl 40))))
  else
   idx s26.1 r32.1 >>= fun x35 =>
   app 8 x35 [s19.2.2.2] >>= fun x38 =>
   some (.inr (s26.1.set (r32.1:Int).toNat x38,w64 (s26.2+1)))
 else
  some (.inl (.inr s26.1))
def zaa (a0:z00) (s19:(List Int) × (List (List Int)) × (List Int) × Int):Option (Sum (Sum Int ((List Int) × (List (List Int)) × (List Int))) ((List Int) × (List (List Int)) × (List Int) × Int)) :=
 if decide (s19.2.2.2<(a0.Ops.length:Int)) then
  idx a0.Ops s19.2.2.2 >>= fun x22 =>
  z67 (iter (zab a0 s19 x22) (s19.2.1,0)) fun s25 =>
  idx s19.1 s19.2.2.2 >>= fun x42 =>
  idx (s19.1.set (s19.2.2.2:Int).toNat (x22.Preds.length:Int)) s19.2.2.2 >>= fun x44 =>
  if x44==0 then
   app 8 s19.2.2.1 [s19.2.2.2] >>= fun x48 =>
   some (.inr (s19.1.set (s19.2.2.2:Int).toNat (x22.Preds.length:Int),s25,x48,w64 (s19.2.2.2+1)))
  else
   some (.inr (s19.1.set (s19.2.2.2:Int).toNat (x22.Preds.length:Int),s25,s19.2.2.1,w64 (s19.2.2.2+1)))
 else
  some (.inl (.inr (s19.1,s19.2.1,s19.2.2.1)))
def zac (x59:List Int) (s61:(List Int) × (List Int) × Int):Option (Sum ((List Int) × (List Int)) ((List Int) × (List Int) × Int)) :=
 if decide (s61.2.2<(x59.length:Int)) then
  idx x59 s61.2.2 >>= fun x64 =>
  idx s61.1 x64 >>= fun x66 =>
  idx s61.1 x64 >>= fun x68 =>
  idx (s61.1.set (x64:Int).toNat (w64 (x66 - 1))) x64 >>= fun x70 =>
  if x70==0 then
   app 8 s61.2.1 [x64] >>= fun x74 =>
   some (.inr (s61.1.set (x64:Int).toNat (w64 (x66 - 1)),x74,w64 (s61.2.2+1)))
  else
   some (.inr (s61.1.set (x64:Int).toNat (w64 (x66 - 1)),s61.2.1,w64 (s61.2.2+1)))
 else
  some (.inl (s61.1,s61.2.1))
def zbo (s18:(List Int) × (List (List Int)) × (List Int)) (s53:(List Int) × (List Int) × Int):Option (Sum Int ((List Int) × (List Int) × Int)) :=
 if decide (s53.2.2<(s53.2.1.length:Int)) then
  (idx s53.2.1 s53.2.2 >>= fun x57 =>
  idx s18.2.1 x57 >>= fun x59 =>
  iter (zac x59) (s53.1,s53.2.1,0)) >>= fun s56 =>
  some (w64 (s53.2.2+1)) >>= fun y78 =>
  some (.inr (s56.1,s56.2,y78))
 else
  some (.inl s53.2.2)
def zjd (a0:z00):Option (Int) :=
 z67 (iter (z8p a0) 1) fun s2 =>
 mkn 8 0 (a0.Ops.length:Int) >>= fun x12 =>
 mkn 24 ([]:List Int) (a0.Ops.length:Int) >>= fun x15 =>
 z67 (iter (zaa a0) (x12,x15,[],0)) fun s18 =>
 (iter (zbo s18) (s18.1,s18.2.2,0)) >>= fun s52 =>
 if decide (s52<(a0.Ops.length:Int)) then
  some 36
 else
  some 0
theorem zre (a0:z00):z1u Tryz.prog 48 [.rd z01 a0] [] (zjd a0) (fun r nv=>⟨[.rd z08 r],[]⟩):=by
 refine z2f 133 Tryz.func48 Z Z Z fun H w=>?_;refine gSR<|Eb Z (bx 1 Z) fun v1=>Zb Z<|z8i (fun (s2:Unit) aa ww=>Sta (ctx 133 H [] w) [(1,.val (z05 v1 0))] [(1,some (v1,.box 25 [.rd z01 a0]))] aa ww) ?_ (fun s2=>?_)
 ·refine gSR<|Zb Z<|z29 (fun (s3:Int) aa ww=>Sta (ctx 133 H [] w) [(1,.val (z05 v1 0)),(3,.rd z08 s3)] [(1,some (v1,.box 25 [.rd z01 a0]))] aa ww) (fun aa ww h=>h.sub [1] (sS Z<|sS Z<|sN) (Y0 Z)) (fun s3=>?_);refine z0q<|gSR<|Zm Z<|Zq (faB 1 Z Z Tryz.underlying25 Z (by exact zb4))<|Zq (ld 1 Z Z (fP (z0n _)) zbp Z)<|Zq (z4f Z .rd Z tu22)<|Zq (I.lss Z Z)<|Zj Z (fun h4=>?_) (fun h4=>?_)
  ·refine Zt<|z0q<|z5f<|z0q<|z6l [] mixed Z Z<|hTk 0 Z Z (faB 1 Z Z Tryz.underlying25 Z (by exact zb4))<|hTk 1 Z Z (ld 1 Z Z (fP (z0n _)) zbp Z)<|hTk 2 Z Z (mv Z)<|hTk 3 Z Z (I.sub Z Z)<|z5g fun x5 h6=>hTk 4 Z Z (ixR Z Z h6 tu22 z3v Z)<|hTk 5 Z Z (ldR Z z6a)<|hTk 6 Z Z (faB 1 Z Z Tryz.underlying25 Z (by exact zb4))<|hTk 7 Z Z (ld 1 Z Z (fP (z0n _)) zbp Z)<|hTk 8 Z Z (mv Z)<|z5g fun x7 h8=>hTk 9 Z Z (ixR Z Z h8 tu22 z3v Z)<|hTk 10 Z Z (ldR Z z6a)<|z2v 11 [] [] Z (by kernel_rfl) Z (gd0 Z) Z Tryz.func51 Z Z (z92 _ _) (Y2 Z Z) rN Z (fun _ _=>z1x) fun r9 n10=>hTk 12 Z Z (I.geq Z Z)<|z3e (by kernel_rfl)<|z0m<|gIf Z Z (fun h11=>?_) (fun h11=>?_)
   ·refine gSR<|Zb Z<|z0k<|z4p<|z0v<|z8c<|z5n<|zaz [] [] Z (eE Z<|eN) (rN)
   ·refine z38<|z3l<|z0m<|z2g<|Zm Z<|Zq (I.add Z Z)<|Za Z<|z21<|z1m (fun aa ww h=>h.sub [1] (sS Z<|sS Z<|sN) (Y0 Z))
  ·refine z1z<|z10<|z14<|z6x (fun aa ww h=>h.sub [1] (sS Z<|sN) (Y0 Z))
 ·refine gSR<|Zq (faB 1 Z Z Tryz.underlying25 Z (by exact zcg))<|Zq (ld 1 Z Z (fP (z06 _)) zep Z)<|Zq (z4f Z .rd Z tu23)<|z0t fun x12 h13=>Ef Z (mks (R:=z08) 44 Z Z h13 tu98 ti3 (Zr.num Z) Z) fun v14=>Zb Z<|gSR<|Zq (faB 1 Z Z Tryz.underlying25 Z (by exact zcg))<|Zq (ld 1 Z Z (fP (z06 _)) zep Z)<|Zq (z4f Z .rd Z tu23)<|z0t fun x15 h16=>Ef Z (mksF 45 Z Z h16 Tryz.underlying160 ti98 Z) fun v17=>z19j (base:=100000) (lits:=[(1,some (v1,.box 25 [.rd z01 a0])),(44,some (v14,.list z08 3 x12)),(45,some (v17,.list zhg 98 (zaw (fun _=>Value.slice none 0 0) x15)))]) z08 3 [1,44,45] (z16c h16) (Zi Z<|Zi Z<|Zi Z<|rN)<|Zb Z<|gSR<|Zb Z<|z8i (fun (s18:(List Int) × (List (List Int)) × (List Int)) aa ww=>∃ nv:Nat→Value,Sta (ctx 133 H [] w) [(1,.val (z05 v1 0)),(4,.val v14),(5,.val v17),(6,.val (nv 0))] ([(1,some (v1,.box 25 [.rd z01 a0])),(44,some (v14,.list z08 3 s18.1)),(45,some (v17,.list zhg 98 (zaw (fun j=>nv (j+1)) s18.2.1))),(50,some ((nv 0),.list z08 3 s18.2.2))]++zps 100000 z08 3 (fun j=>nv (j+1)) s18.2.1 0) aa ww) ?_ (fun s18=>?_)
  ·refine gSR<|Zq (faB 1 Z Z Tryz.underlying25 Z (by exact zcg))<|Zq (ld 1 Z Z (fP (z06 _)) zep Z)<|Zq (z4f Z .rd Z tu23)<|Zm Z<|Zn<|zyo z08 3 56<|z29 (fun (s19:(List Int) × (List (List Int)) × (List Int) × Int) aa ww=>∃ nv:Nat→Value,Sta (ctx 133 H [] w) [(1,.val (z05 v1 0)),(4,.val v14),(5,.val v17),(6,.val (nv 0)),(45,.rd (z03 z04) a0.Ops),(46,.rd z08 (a0.Ops.length:Int)),(47,.rd z08 s19.2.2.2)] ([(1,some (v1,.box 25 [.rd z01 a0])),(44,some (v14,.list z08 3 s19.1)),(45,some (v17,.list zhg 98 (zaw (fun j=>nv (j+1)) s19.2.1))),(55,some ((nv 0),.list z08 3 s19.2.2.1))]++zps 100000 z08 3 (fun j=>nv (j+1)) s19.2.1 0) aa ww) (fun aa ww h=>⟨nvlF [(.slice none 0 0)] (fun _=>Value.slice none 0 0),h.subF (by repeat (first | refine z6w.cons Z ?_ | exact z6w.tail)) [1,44,45,56] (Zs Z Z Z Z<|sS Z<|sS Z<|sS Z<|sN) (Zi Z<|Zi Z<|Zi Z<|Zi Z<|rN) rfl⟩) (fun s19=>?_)
   refine gEx fun n20=>gSR<|Zq (I.lss Z Z)<|Zn<|z0q<|gIf Z Z (fun h21=>?_) (fun h21=>?_)
   ·refine Zt<|z0q<|z5f<|gSR<|Zm Z<|z0t fun x22 h23=>Zq (ixR Z Z h23 tu23 zb1 Z)<|Zq (ldR Z zeb)<|Eb Z (z5l 57 zb1 (ZrE.rd (R:=z0p) (x:=0) (Zr.num Z) (ZrE.nilS (ZrE.rd (R:=z2x) (x:=0) (Zr.num Z) (ZrE.rd (R:=z0i) (x:=(⟨0,[],(⟨0,0,0,[]⟩:z02)⟩:z07)) zla (ZrE.rd (R:=z0r) (x:=(⟨0,0⟩:z0c)) zoe ZrE.nil Z) Z) Z)) Z)) fun v24=>Za Z<|zft aZ [.rd z0p 0,.rd (z03 aZ) [],.rd z2x 0,.rd z0i (⟨0,[],(⟨0,0,0,[]⟩:z02)⟩:z07),.rd z0r (⟨0,0⟩:z0c)] 57 [.rd z0p 0] [.rd z2x 0,.rd z0i (⟨0,[],(⟨0,0,0,[]⟩:z02)⟩:z07),.rd z0r (⟨0,0⟩:z0c)] Z Z Z<|zfs (R:=z04) (⟨0,[],0,(⟨0,[],(⟨0,0,0,[]⟩:z02)⟩:z07),(⟨0,0⟩:z0c)⟩:z0a) 57 Z (Sp.via (Sp.prod (Sp.prod (Sp.prod (Sp.prod (Sp.prod Sp.unit))))))<|Es (sto 57 Z Z fH Z zb1)<|Zn<|z8i (fun (s25:(List (List Int))) aa ww=>∃ nv:Nat→Value,Sta (ctx 133 H [] w) [(1,.val (z05 v1 0)),(4,.val v14),(5,.val v17),(6,.val (n20 0)),(7,.rd z08 s19.2.2.2),(8,.val (z05 v24 0)),(45,.rd (z03 z04) a0.Ops),(46,.rd z08 (a0.Ops.length:Int)),(47,.rd z08 s19.2.2.2)] ([(1,some (v1,.box 25 [.rd z01 a0])),(44,some (v14,.list z08 3 s19.1)),(45,some (v17,.list zhg 98 (zaw (fun j=>nv (j+0)) s25))),(55,some ((n20 0),.list z08 3 s19.2.2.1)),(57,some (v24,.box 67 [.rd z04 x22]))]++zps 100000 z08 3 (fun j=>nv (j+0)) s25 0) aa ww) ?_ (fun s25=>?_)
    ·refine gSR<|Zq (faB 57 Z Z Tryz.underlying67 Z (by exact zb4))<|Zq (ld 57 Z Z (fP (z1b _)) zbp Z)<|Zq (z4f Z .rd Z tu22)<|Zm Z<|Zn<|z29 (fun (s26:(List (List Int)) × Int) aa ww=>∃ nv:Nat→Value,Sta (ctx 133 H [] w) [(1,.val (z05 v1 0)),(4,.val v14),(5,.val v17),(6,.val (n20 0)),(7,.rd z08 s19.2.2.2),(8,.val (z05 v24 0)),(45,.rd (z03 z04) a0.Ops),(46,.rd z08 (a0.Ops.length:Int)),(47,.rd z08 s19.2.2.2),(53,.rd (z03 aZ) x22.Preds),(54,.rd z08 (x22.Preds.length:Int)),(55,.rd z08 s26.2)] ([(1,some (v1,.box 25 [.rd z01 a0])),(44,some (v14,.list z08 3 s19.1)),(45,some (v17,.list zhg 98 (zaw (fun j=>nv (j+0)) s26.1))),(55,some ((n20 0),.list z08 3 s19.2.2.1)),(57,some (v24,.box 67 [.rd z04 x22]))]++zps 100000 z08 3 (fun j=>nv (j+0)) s26.1 0) aa ww) (fun aa ww h=>⟨nvlF [] (fun j=>n20 (j+1)),h.subF (by repeat (first | refine z6w.cons Z ?_ | exact z6w.tail)) [1,44,45,55,57] (Zs Z Z Z Z<|Zs Z Z Z Z<|Zs Z Z Z Z<|sN) (Zi Z<|Zi Z<|Zi Z<|Zi Z<|Zi Z<|rN) rfl⟩) (fun s26=>?_)
     refine gEx fun n27=>gSR<|Zq (I.lss Z Z)<|Zn<|z0q<|gIf Z Z (fun h28=>?_) (fun h28=>?_)
     ·refine Zt<|z0q<|z5f<|gSR<|z0t fun x29 h30=>Zq (ixR Z Z h30 tu22 z3v Z)<|Zq (ldR Z z6a)<|Eb Z (z5l 58 z3v (.zr (R:=aZ) (x:=(Vector.replicate 32 0)) zfn)) fun v31=>Es (sto 58 Z Z fH Z z3v)<|Zn<|gSR<|Zq (ld 1 Z Z fH zb9 Z)<|Zq (ld 58 Z Z fH z6a Z)<|call [] [] Z Tryz.func66 Z Z (zhr _ _) (Y2 Z Z) rN fun r32 n33=>Zm Z<|Zq (ext Z Z)<|Zq (ext Z Z)<|Za Z<|Zb Z<|z0q<|gSR<|Zm Z<|Zq (zgu Z)<|Zj Z (fun h34=>?_) (fun h34=>?_)
      ·refine gSR<|Zb Z<|z0k<|z0v<|z4p<|z0v<|z8c<|z5n<|z4p<|z0v<|z8c<|z5n<|zaz [] [] Z (eE Z<|eN) (rN)
      ·refine Zt<|z2g<|Zm Z<|Zm Z<|Zm Z<|Zm Z<|z0t fun x35 h36=>Zq (ixO 45 Z Z Z (zpj h36) Tryz.underlying160 ti98)<|Zq (ldF 45 Z Z h36 ty98 Z)<|Zm Z<|Ef Z (lit (R:=z08) ([s19.2.2.2]:List Int) 59 (pP Z Z<|pN) Z tu98 ti3 Z Z) fun v37=>z0t fun x38 h39=>lApF (base:=100000) (lits:=[(1,some (v1,.box 25 [.rd z01 a0])),(44,some (v14,.list z08 3 s19.1)),(55,some ((n20 0),.list z08 3 s19.2.2.1)),(57,some (v24,.box 67 [.rd z04 x22])),(58,some (v31,.box 54 [.rd aZ x29])),(59,some (v37,.list z08 3 [s19.2.2.2]))]) 45 [1,44,55,57,58,59] (by repeat (first | refine z6w.cons Z ?_ | exact z6w.tail)) Z Z Z h36 Z Z Z Z (.own 59 Z) h39 Z (fun _ h=>by cases h; rfl) (fun _ h=>by cases h; rfl) Z Z tu98 ti3 Z Z Z Tryz.underlying160 ti98 ty98 (Zi Z<|Zi Z<|Zi Z<|Zi Z<|Zi Z<|Zi Z<|rN) Z fun v40=>z21<|z3l<|z0m<|z2g<|Zq (I.add Z Z)<|Zm Z<|z21<|z1m (fun aa ww h=>⟨nvlF [] (updF (fun j=>n27 (j+0)) (r32.1:Int).toNat v40),h.subF (by repeat (first | refine z6w.cons Z ?_ | exact z6w.tail)) [1,44,45,55,57] (Zs Z Z Z Z<|Zs Z Z Z Z<|Zs Z Z Z Z<|sN) (Zi Z<|Zi Z<|Zi Z<|Zi Z<|Zi Z<|rN) rfl⟩)
     ·refine z1z<|z10<|z14<|z6x (fun aa ww h=>⟨nvlF [] (fun j=>n27 (j+0)),h.subF (by repeat (first | refine z6w.cons Z ?_ | exact z6w.tail)) [1,44,45,55,57] (Zs Z Z Z Z<|Zs Z Z Z Z<|sS Z<|sN) (Zi Z<|Zi Z<|Zi Z<|Zi Z<|Zi Z<|rN) rfl⟩)
    ·refine gEx fun n41=>gSR<|Zm Z<|Zm Z<|Zq (faB 57 Z Z Tryz.underlying67 Z (by exact zb4))<|Zq (ld 57 Z Z (fP (z1b _)) zbp Z)<|Zq (z4f Z .rd Z tu22)<|z0t fun x42 h43=>Zq (ixO 44 Z Z Z h43 tu98 ti3)<|Es (sto 44 Z Z (Foc.el h43) Z ti3)<|Zn<|gSR<|Zm Z<|Zm Z<|z0t fun x44 h45=>Zq (ixO 44 Z Z Z h45 tu98 ti3)<|Zq (ld 44 Z Z (Foc.el h45) ty3 Z)<|Zq (I.eql Z Z)<|Zj Z (fun h46=>?_) (fun h46=>?_)
     ·refine z2g<|Zm Z<|Zm Z<|Ef Z (lit (R:=z08) ([s19.2.2.2]:List Int) 60 (pP Z Z<|pN) Z tu98 ti3 Z Z) fun v47=>z0t fun x48 h49=>Ef Z (apn 55 Z Z Z (.own 60 Z) h49 tu98 ti3 Z Z Z) fun v50=>Za Z<|z21<|z3l<|z0m<|z2g<|Zq (I.add Z Z)<|Zm Z<|z21<|z1m (fun aa ww h=>⟨nvlF [v50] (fun j=>n41 (j+0)),h.subF (by repeat (first | refine z6w.cons Z ?_ | exact z6w.tail)) [1,44,45,55] (Zs Z Z Z Z<|sS Z<|sS Z<|sS Z<|sN) (Zi Z<|Zi Z<|Zi Z<|Zi Z<|rN) rfl⟩)
     ·refine z38<|z3l<|z0m<|z2g<|Zq (I.add Z Z)<|Zm Z<|z21<|z1m (fun aa ww h=>⟨nvlF [(n20 0)] (fun j=>n41 (j+0)),h.subF (by repeat (first | refine z6w.cons Z ?_ | exact z6w.tail)) [1,44,45,55] (Zs Z Z Z Z<|sS Z<|sS Z<|sS Z<|sN) (Zi Z<|Zi Z<|Zi Z<|Zi Z<|rN) rfl⟩)
   ·refine z1z<|z10<|z14<|z6x (fun aa ww h=>⟨nvlF [(n20 0)] (fun j=>n20 (j+1)),h.subF (by repeat (first | refine z6w.cons Z ?_ | exact z6w.tail)) [1,44,45,55] (Zs Z Z Z Z<|sN) (Zi Z<|Zi Z<|Zi Z<|Zi Z<|rN) rfl⟩)
  ·refine gEx fun n51=>gSR<|Zb Z<|z7r (fun (s52:Int) aa ww=>Sta (ctx 133 H [] w) [(1,.val (z05 v1 0)),(13,.rd z08 s52)] [(1,some (v1,.box 25 [.rd z01 a0]))] aa ww) ?_ (fun s52=>?_)
   ·refine z199 (base:=100000) (T:=3) (lits:=[(1,some (v1,.box 25 [.rd z01 a0])),(44,some (v14,.list z08 3 s18.1)),(50,some ((n51 0),.list z08 3 s18.2.2))]) (by repeat (first | refine z6w.cons Z ?_ | exact z6w.tail)) 45 Z [1,44,50] (Zi Z<|Zi Z<|Zi Z<|rN) Z Z<|z29 (fun (s53:(List Int) × (List Int) × Int) aa ww=>∃ nv:Nat→Value,Sta (ctx 133 H [] w) [(1,.val (z05 v1 0)),(4,.val v14),(5,.val v17),(6,.val (nv 0)),(13,.rd z08 s53.2.2)] [(1,some (v1,.box 25 [.rd z01 a0])),(44,some (v14,.list z08 3 s53.1)),(45,some (v17,.list (z03 z08) 98 s18.2.1)),(50,some ((nv 0),.list z08 3 s53.2.1))] aa ww) (fun aa ww h=>⟨nvl [(n51 0)],h.sub [1,44,45,50] (Zs Z Z Z Z<|sS Z<|sN) (Zi Z<|Zi Z<|Zi Z<|Zi Z<|rN)⟩) (fun s53=>?_)
    refine gEx fun n54=>z0q<|gSR<|Zm Z<|Zm Z<|Zq (z4f Z (.own 50 Z) Z tu98)<|Zq (I.lss Z Z)<|Zj Z (fun h55=>?_) (fun h55=>?_)
    ·refine Zt<|z7r (fun (s56:(List Int) × (List Int)) aa ww=>∃ nv:Nat→Value,Sta (ctx 133 H [] w) [(1,.val (z05 v1 0)),(4,.val v14),(5,.val v17),(6,.val (nv 0)),(13,.rd z08 s53.2.2)] [(1,some (v1,.box 25 [.rd z01 a0])),(44,some (v14,.list z08 3 s56.1)),(45,some (v17,.list (z03 z08) 98 s18.2.1)),(50,some ((nv 0),.list z08 3 s56.2))] aa ww) ?_ (fun s56=>?_)
     ·refine z5f<|gSR<|Zm Z<|Zm Z<|Zm Z<|z0t fun x57 h58=>Zq (ixO 50 Z Z Z h58 tu98 ti3)<|Zq (ld 50 Z Z (Foc.el h58) ty3 Z)<|z0t fun x59 h60=>Zq (ixO 45 Z Z Z h60 Tryz.underlying160 ti98)<|Zq (ld 45 Z Z (Foc.el h60) ty98 Z)<|Zq (z4f Z .rd Z tu98)<|Zm Z<|Zn<|z29 (fun (s61:(List Int) × (List Int) × Int) aa ww=>∃ nv:Nat→Value,Sta (ctx 133 H [] w) [(1,.val (z05 v1 0)),(4,.val v14),(5,.val v17),(6,.val (nv 0)),(13,.rd z08 s53.2.2),(106,.rd (z03 z08) x59),(107,.rd z08 (x59.length:Int)),(108,.rd z08 s61.2.2)] [(1,some (v1,.box 25 [.rd z01 a0])),(44,some (v14,.list z08 3 s61.1)),(45,some (v17,.list (z03 z08) 98 s18.2.1)),(50,some ((nv 0),.list z08 3 s61.2.1))] aa ww) (fun aa ww h=>⟨nvl [(n54 0)],h.sub [1,44,45,50] (Zs Z Z Z Z<|Zs Z Z Z Z<|sN) (Zi Z<|Zi Z<|Zi Z<|Zi Z<|rN)⟩) (fun s61=>?_)
      refine gEx fun n62=>gSR<|Zq (I.lss Z Z)<|Zn<|z0q<|gIf Z Z (fun h63=>?_) (fun h63=>?_)
      ·refine Zt<|z0q<|z5f<|gSR<|z0t fun x64 h65=>Zq (ixR Z Z h65 tu98 ti3 Z)<|Zq (ldR Z ty3)<|Zb Z<|gSR<|Zm Z<|Zm Z<|z0t fun x66 h67=>Zq (ixO 44 Z Z Z h67 tu98 ti3)<|Zq (ld 44 Z Z (Foc.el h67) ty3 Z)<|Zq (I.sub Z Z)<|z0t fun x68 h69=>Zq (ixO 44 Z Z Z h69 tu98 ti3)<|Es (sto 44 Z Z (Foc.el h69) Z ti3)<|Zn<|gSR<|Zm Z<|Zm Z<|z0t fun x70 h71=>Zq (ixO 44 Z Z Z h71 tu98 ti3)<|Zq (ld 44 Z Z (Foc.el h71) ty3 Z)<|Zq (I.eql Z Z)<|Zj Z (fun h72=>?_) (fun h72=>?_)
       ·refine z2g<|Zm Z<|Zm Z<|Ef Z (lit (R:=z08) ([x64]:List Int) 61 (pP Z Z<|pN) Z tu98 ti3 Z Z) fun v73=>z0t fun x74 h75=>Ef Z (apn 50 Z Z Z (.own 61 Z) h75 tu98 ti3 Z Z Z) fun v76=>Za Z<|z21<|z3l<|z0m<|z2g<|Zq (I.add Z Z)<|Zm Z<|z21<|z1m (fun aa ww h=>⟨nvl [v76],h.sub [1,44,45,50] (Zs Z Z Z Z<|Zs Z Z Z Z<|sN) (Zi Z<|Zi Z<|Zi Z<|Zi Z<|rN)⟩)
       ·refine z38<|z3l<|z0m<|z2g<|Zq (I.add Z Z)<|Zm Z<|z21<|z1m (fun aa ww h=>⟨nvl [(n62 0)],h.sub [1,44,45,50] (Zs Z Z Z Z<|Zs Z Z Z Z<|sN) (Zi Z<|Zi Z<|Zi Z<|Zi Z<|rN)⟩)
      ·refine z1z<|z10<|z14<|z3l<|z3p (fun aa ww h=>⟨nvl [(n62 0)],h.sub [1,44,45,50] (Zs Z Z Z Z<|sS Z<|sN) (Zi Z<|Zi Z<|Zi Z<|Zi Z<|rN)⟩)
     ·refine gEx fun n77=>z2g<|Zm Z<|Zq (I.add Z Z)<|Za Z<|z27 13 Z fun y78=>z21<|z1m (fun aa ww h=>⟨nvl [(n77 0)],h.sub [1,44,45,50] (Zs Z Z Z Z<|sS Z<|sN) (Zi Z<|Zi Z<|Zi Z<|Zi Z<|rN)⟩)
    ·refine z1z<|z10<|z14<|z3p (fun aa ww h=>h.sub [1] (sS Z<|sS Z<|sN) (Y0 Z))
   ·refine z0q<|gSR<|Zm Z<|Zq (faB 1 Z Z Tryz.underlying25 Z (by exact zcg))<|Zq (ld 1 Z Z (fP (z06 _)) zep Z)<|Zq (z4f Z .rd Z tu23)<|Zq (I.lss Z Z)<|Zj Z (fun h79=>?_) (fun h79=>?_)
    ·refine gSR<|Zb Z<|z0k<|z0v<|zaz [] [] Z (eE Z<|eN) (rN)
    ·refine Zt<|gSR<|Zb Z<|z0k<|zaz [] [] Z (eE Z<|eN) (rN)
def zbm (a0:z00) (s5:Int):Option (Sum (Sum Int Unit) Int) :=
 if decide (s5<(a0.Ops.length:Int)) then
  idx a0.Ops s5 >>= fun x7 =>
  zws x7 >>= fun r10 =>
  (if r10.2 != 0 then
   some true
  else
   idx a0.IDs s5 >>= fun x15 =>
   if !decide (r10.1=x15) then
    some true
   else
    zge x7 >>= fun r18 =>
    some (r18 != 0)) >>= fun s13 =>
  if s13 then
   some (.inl (.inl 8))
  else
   some (.inr (w64 (s5+1)))
 else
  some (.inl (.inr ()))
def z3f (a0:z00):Option (Int) :=
 if decide (60<(a0.Ops.length:Int)) then
  some 4
 else
  if (a0.IDs.length:Int) != (a0.Ops.length:Int) then
   some 8
  else
   z67 (iter (zbm a0) 0) fun s4 =>
   zjd a0 >>= fun r21 =>
   some r21
theorem z8q (a0:z00):z1u Tryz.prog 23 [.rd z01 a0] [zG1] (z3f a0) (fun r nv=>⟨[.rd z08 r],[(1001,some (.bool true,.glob 1 (z3m 64 z0p) z5i))]⟩):=by
 refine z2f 50 Tryz.func23 Z Z Z fun H w=>?_;refine gSR<|Eb Z (bx 1 Z) fun v1=>Zb Z<|z0q<|gSR<|Zq (faB 1 Z Z Tryz.underlying25 Z (by exact zcg))<|Zq (ld 1 Z Z (fP (z06 _)) zep Z)<|Zq (z4f Z .rd Z tu23)<|Zq (I.gtr Z Z)<|Zj Z (fun h2=>?_) (fun h2=>?_)
 ·refine gSR<|Zb Z<|z0k<|z0v<|Ze [] [1001] Z
 ·refine Zt<|z0q<|gSR<|Zq (faB 1 Z Z Tryz.underlying25 Z (by exact zb4))<|Zq (ld 1 Z Z (fP (z0n _)) zbp Z)<|Zq (z4f Z .rd Z tu22)<|Zq (faB 1 Z Z Tryz.underlying25 Z (by exact zcg))<|Zq (ld 1 Z Z (fP (z06 _)) zep Z)<|Zq (z4f Z .rd Z tu23)<|Zq (I.neq Z Z)<|Zj Z (fun h3=>?_) (fun h3=>?_)
  ·refine gSR<|Zb Z<|z0k<|z0v<|Ze [] [1001] Z
  ·refine Zt<|z8i (fun (s4:Unit) aa ww=>Sta (ctx 50 H [zG1] w) [(1,.val (z05 v1 0))] [(1,some (v1,.box 25 [.rd z01 a0])),zG1] aa ww) ?_ (fun s4=>?_)
   ·refine gSR<|Zq (faB 1 Z Z Tryz.underlying25 Z (by exact zcg))<|Zq (ld 1 Z Z (fP (z06 _)) zep Z)<|Zq (z4f Z .rd Z tu23)<|Zm Z<|Zn<|z29 (fun (s5:Int) aa ww=>Sta (ctx 50 H [zG1] w) [(1,.val (z05 v1 0)),(19,.rd (z03 z04) a0.Ops),(20,.rd z08 (a0.Ops.length:Int)),(21,.rd z08 s5)] [(1,some (v1,.box 25 [.rd z01 a0])),zG1] aa ww) (fun aa ww h=>Zu h [1,1001]) (fun s5=>?_);refine gSR<|Zq (I.lss Z Z)<|Zn<|z0q<|gIf Z Z (fun h6=>?_) (fun h6=>?_)
    ·refine Zt<|z0q<|z5f<|gSR<|Zm Z<|z0t fun x7 h8=>Zq (ixR Z Z h8 tu23 zb1 Z)<|Zq (ldR Z zeb)<|Eb Z (z5l 1100 zb1 (ZrE.rd (R:=z0p) (x:=0) (Zr.num Z) (ZrE.nilS (ZrE.rd (R:=z2x) (x:=0) (Zr.num Z) (ZrE.rd (R:=z0i) (x:=(⟨0,[],(⟨0,0,0,[]⟩:z02)⟩:z07)) zla (ZrE.rd (R:=z0r) (x:=(⟨0,0⟩:z0c)) zoe ZrE.nil Z) Z) Z)) Z)) fun v9=>Za Z<|zft aZ [.rd z0p 0,.rd (z03 aZ) [],.rd z2x 0,.rd z0i (⟨0,[],(⟨0,0,0,[]⟩:z02)⟩:z07),.rd z0r (⟨0,0⟩:z0c)] 1100 [.rd z0p 0] [.rd z2x 0,.rd z0i (⟨0,[],(⟨0,0,0,[]⟩:z02)⟩:z07),.rd z0r (⟨0,0⟩:z0c)] Z Z Z<|zfs (R:=z04) (⟨0,[],0,(⟨0,[],(⟨0,0,0,[]⟩:z02)⟩:z07),(⟨0,0⟩:z0c)⟩:z0a) 1100 Z (Sp.via (Sp.prod (Sp.prod (Sp.prod (Sp.prod (Sp.prod Sp.unit))))))<|Es (sto 1100 Z Z fH Z zb1)<|Zn<|gSR<|Zq (ld 1100 Z Z fH zeb Z)<|Zc [1001] [] Tryz.func46 Z (zul _) fun r10 n11=>Zm Z<|Zq (ext Z Z)<|Zq (ext Z Z)<|Eb Z (z5l 1101 z3v (.zr (R:=aZ) (x:=(Vector.replicate 32 0)) zfn)) fun v12=>Es (sto 1101 Z Z fH Z z3v)<|Zb Z<|z7r (fun (s13:Bool) aa ww=>Sta (ctx 50 H [zG1] w) [(1,.val (z05 v1 0)),(19,.rd (z03 z04) a0.Ops),(20,.rd z08 (a0.Ops.length:Int)),(21,.rd z08 s5),(46,.rd z09 s13)] [(1,some (v1,.box 25 [.rd z01 a0])),zG1] aa ww) ?_ (fun s13=>?_)
     ·refine z6l [1001] mixed Z Z<|hTk 0 Z Z (mv Z)<|hTk 1 Z Z (I.neq Z Z)<|hTk 2 Z Z (mv Z)<|hIf 33 Z Z (fun h14=>?_) (fun h14=>?_)
      ·refine hKn 32 Z Z h14<|hSk 3 Z Z<|hSk 4 Z Z<|hSk 5 Z Z<|hSk 6 Z Z<|hSk 7 Z Z<|hSk 8 Z Z<|hSk 9 Z Z<|hTk 10 Z Z (pkT Z Z)<|hTk 11 Z Z (mv Z)<|hSk 12 Z Z<|hSk 13 Z Z<|hSk 14 Z Z<|hTk 15 Z Z (pkT Z Z)<|z3e (by kernel_rfl)<|z3p (fun aa ww h=>Zu h [1,1001])
      ·refine hKn 32 Z Z h14<|Zg 3 Z Z (ld 1101 Z Z fH z6a Z)<|Zg 4 Z Z (faB 1 Z Z Tryz.underlying25 Z (by exact zb4))<|Zg 5 Z Z (ld 1 Z Z (fP (z0n _)) zbp Z)<|Zg 6 Z Z (mv Z)<|z5g fun x15 h16=>Zg 7 Z Z (ixR Z Z h16 tu22 z3v Z)<|Zg 8 Z Z (ldR Z z6a)<|Zg 9 Z Z (neA Z Z eq54 Z Z gq54)<|hTk 10 Z Z (pkF Z Z)<|hTk 11 Z Z (mv Z)<|hIf 42 Z Z (fun h17=>?_) (fun h17=>?_)
       ·refine hKn 40 Z Z h17<|hKn 41 Z Z h17<|hSk 12 Z Z<|hSk 13 Z Z<|hSk 14 Z Z<|hTk 15 Z Z (pkT Z Z)<|z3e (by kernel_rfl)<|z3p (fun aa ww h=>Zu h [1,1001])
       ·refine hKn 40 Z Z h17<|hKn 41 Z Z h17<|Zg 12 Z Z (ld 1100 Z Z fH zeb Z)<|z2v 13 [1001] [] Z (by kernel_rfl) Z Zx Z Tryz.func47 Z Z (zkh _) (Y1 Z) (Y0 Z) Z (fun _ _=>z1x) fun r18 n19=>Zg 14 Z Z (I.neq Z Z)<|hTk 15 Z Z (pkF Z Z)<|z3e (by kernel_rfl)<|z3p (fun aa ww h=>Zu h [1,1001])
     ·refine gIf Z Z (fun h20=>?_) (fun h20=>?_)
      ·refine gSR<|Zb Z<|z0k<|z4p<|z0v<|z8c<|z5n<|Ze [] [1001] Z
      ·refine z38<|z3l<|z0m<|z2g<|Zq (I.add Z Z)<|Zm Z<|z21<|z1m (fun aa ww h=>Zu h [1,1001])
    ·refine z1z<|z10<|z14<|z6x (fun aa ww h=>Zu h [1,1001])
   ·refine gSR<|Zq (ld 1 Z Z fH zb9 Z)<|Zc [] [] Tryz.func48 Z (zre _) fun r21 n22=>Zb Z<|z0k<|Ze [] [1001] Z
def z7y (a0:List V3) (a1:V3) (s3:Int):Option (Sum (Sum Int Unit) Int) :=
 if decide (s3<(a0.length:Int)) then
  idx a0 s3 >>= fun x5 =>
  if decide (x5=a1) then
   some (.inl (.inl s3))
  else
   some (.inr (w64 (s3+1)))
 else
  some (.inl (.inr ()))
def z94 (a0:List V3) (a1:V3):Option (Int) :=
 z67 (iter (z7y a0 a1) 0) fun s2 =>
 some (-1)
theorem zl6 (a0:List V3) (a1:V3):z1u Tryz.prog 77 [.rd (z03 aZ) a0,.rd aZ a1] [] (z94 a0 a1) (fun r nv=>⟨[.rd z08 r],[]⟩):=by
 refine z2f 19 Tryz.func77 Z Z Z fun H w=>?_;refine gSR<|Eb Z (bx 1 Z) fun v1=>Zb Z<|z8i (fun (s2:Unit) aa ww=>Sta (ctx 19 H [] w) [] [] aa ww) ?_ (fun s2=>?_)
 ·refine gSR<|Zb Z<|z29 (fun (s3:Int) aa ww=>Sta (ctx 19 H [] w) [(0,.rd (z03 aZ) a0),(3,.val (z05 v1 0)),(5,.rd z08 s3)] [(1,some (v1,.box 54 [.rd aZ a1]))] aa ww) (fun aa ww h=>Zu h [1]) (fun s3=>?_);refine z0q<|gSR<|Zm Z<|Zm Z<|Zq (z4f Z .rd Z tu22)<|Zq (I.lss Z Z)<|Zj Z (fun h4=>?_) (fun h4=>?_)
  ·refine Zt<|z0q<|z5f<|z0q<|zhp mixed (by kernel_rfl)<|Rq Z (mv Z)<|Rq Z (mv Z)<|z6z fun x5 h6=>Rq Z (ixR Z Z h6 tu22 z3v Z)<|Rq Z (ldR Z z6a)<|Rq Z (ld 1 Z Z fH z6a Z)<|Rq Z (eqA Z Z eq54 Z Z gq54)<|zng<|z0m<|gIf Z Z (fun h7=>?_) (fun h7=>?_)
   ·refine gSR<|Zm Z<|Zb Z<|z0k<|z4p<|z0v<|z8c<|z5n<|Ze [] [] Z
   ·refine z38<|z3l<|z0m<|z2g<|Zm Z<|Zq (I.add Z Z)<|Za Z<|z21<|z1m (fun aa ww h=>Zu h [1])
  ·refine z1z<|z10<|z14<|z6x (fun aa ww h=>Zu h [])
 ·refine gSR<|Zb Z<|z0k<|Ze [] [] Z
def z7a (a0:List V3) (a1:List V3) (s2:Int):Option (Sum (Sum Bool Unit) Int) :=
 if decide (s2<(a1.length:Int)) then
  idx a1 s2 >>= fun x4 =>
  z94 a0 x4 >>= fun r6 =>
  if decide (r6<0) then
   some (.inl (.inl false))
  else
   some (.inr (w64 (s2+1)))
 else
  some (.inl (.inr ()))
def z4e (a0:List V3) (a1:List V3):Option (Bool) :=
 z67 (iter (z7a a0 a1) 0) fun s1 =>
 some true
theorem zkd (a0:List V3) (a1:List V3):z1u Tryz.prog 38 [.rd (z03 aZ) a0,.rd (z03 aZ) a1] [] (z4e a0 a1) (fun r nv=>⟨[.rd z09 r],[]⟩):=by
 refine z2f 19 Tryz.func38 Z Z Z fun H w=>?_;refine gSR<|Zb Z<|z8i (fun (s1:Unit) aa ww=>Sta (ctx 19 H [] w) [] [] aa ww) ?_ (fun s1=>?_)
 ·refine gSR<|Zb Z<|z29 (fun (s2:Int) aa ww=>Sta (ctx 19 H [] w) [(0,.rd (z03 aZ) a0),(1,.rd (z03 aZ) a1),(5,.rd z08 s2)] [] aa ww) (fun aa ww h=>Zu h []) (fun s2=>?_);refine z0q<|gSR<|Zm Z<|Zm Z<|Zq (z4f Z .rd Z tu22)<|Zq (I.lss Z Z)<|Zj Z (fun h3=>?_) (fun h3=>?_)
  ·refine Zt<|z0q<|z5f<|gSR<|Zm Z<|Zm Z<|Zm Z<|z0t fun x4 h5=>Zq (ixR Z Z h5 tu22 z3v Z)<|Zq (ldR Z z6a)<|Zc [] [] Tryz.func77 Z (zl6 _ _) fun r6 n7=>Zq (I.lss Z Z)<|Zj Z (fun h8=>?_) (fun h8=>?_)
   ·refine gSR<|Zb Z<|z0k<|z4p<|z0v<|z8c<|z5n<|Ze [] [] Z
   ·refine z38<|z3l<|z0m<|z2g<|Zm Z<|Zq (I.add Z Z)<|Za Z<|z21<|z1m (fun aa ww h=>Zu h [])
  ·refine z1z<|z10<|z14<|z6x (fun aa ww h=>Zu h [])
 ·refine gSR<|Zb Z<|z0k<|Ze [] [] Z
theorem zia (a0:List V3) (q0:Value) (l0:List V3) (a1:V3):z1u Tryz.prog 77 [.vw aZ q0 l0 a0,.rd aZ a1] [(1,some (q0,.list aZ 54 l0))] (z94 a0 a1) (fun r nv=>⟨[.rd z08 r],[(1,some (q0,.list aZ 54 l0))]⟩):=by
 refine z2f 19 Tryz.func77 Z Z Z fun H w=>?_;refine gSR<|Eb Z (bx 2 Z) fun v1=>Zb Z<|z8i (fun (s2:Unit) aa ww=>Sta (ctx 19 H [(1,some (q0,.list aZ 54 l0))] w) [] [(1,some (q0,.list aZ 54 l0))] aa ww) ?_ (fun s2=>?_)
 ·refine gSR<|Zb Z<|z29 (fun (s3:Int) aa ww=>Sta (ctx 19 H [(1,some (q0,.list aZ 54 l0))] w) [(0,.vw aZ q0 l0 a0),(3,.val (z05 v1 0)),(5,.rd z08 s3)] [(1,some (q0,.list aZ 54 l0)),(2,some (v1,.box 54 [.rd aZ a1]))] aa ww) (fun aa ww h=>Zu h [1,2]) (fun s3=>?_);refine z0q<|gSR<|Zm Z<|Zm Z<|Zq (z4f Z (.vw 1 Z) Z tu22)<|Zq (I.lss Z Z)<|Zj Z (fun h4=>?_) (fun h4=>?_)
  ·refine Zt<|z0q<|z5f<|z0q<|zhp mixed (by kernel_rfl)<|Rq Z (mv Z)<|Rq Z (mv Z)<|z6z fun x5 h6=>Rq Z (ixQ 1 Z Z Z h6 tu22 z3v)<|Rq Z (ldQ 1 Z Z z6a Z)<|Rq Z (ld 2 Z Z fH z6a Z)<|Rq Z (eqA Z Z eq54 Z Z gq54)<|zng<|z0m<|gIf Z Z (fun h7=>?_) (fun h7=>?_)
   ·refine gSR<|Zm Z<|Zb Z<|z0k<|z4p<|z0v<|z8c<|z5n<|Ze [] [1] Z
   ·refine z38<|z3l<|z0m<|z2g<|Zm Z<|Zq (I.add Z Z)<|Za Z<|z21<|z1m (fun aa ww h=>Zu h [1,2])
  ·refine z1z<|z10<|z14<|z6x (fun aa ww h=>Zu h [1])
 ·refine gSR<|Zb Z<|z0k<|Ze [] [1] Z
theorem zh6 (a0:List V3) (q0:Value) (l0:List V3) (a1:List V3):z1u Tryz.prog 38 [.vw aZ q0 l0 a0,.rd (z03 aZ) a1] [(1,some (q0,.list aZ 54 l0))] (z4e a0 a1) (fun r nv=>⟨[.rd z09 r],[(1,some (q0,.list aZ 54 l0))]⟩):=by
 refine z2f 19 Tryz.func38 Z Z Z fun H w=>?_;refine gSR<|Zb Z<|z8i (fun (s1:Unit) aa ww=>Sta (ctx 19 H [(1,some (q0,.list aZ 54 l0))] w) [] [(1,some (q0,.list aZ 54 l0))] aa ww) ?_ (fun s1=>?_)
 ·refine gSR<|Zb Z<|z29 (fun (s2:Int) aa ww=>Sta (ctx 19 H [(1,some (q0,.list aZ 54 l0))] w) [(0,.vw aZ q0 l0 a0),(1,.rd (z03 aZ) a1),(5,.rd z08 s2)] [(1,some (q0,.list aZ 54 l0))] aa ww) (fun aa ww h=>Zu h [1]) (fun s2=>?_);refine z0q<|gSR<|Zm Z<|Zm Z<|Zq (z4f Z .rd Z tu22)<|Zq (I.lss Z Z)<|Zj Z (fun h3=>?_) (fun h3=>?_)
  ·refine Zt<|z0q<|z5f<|gSR<|Zm Z<|Zm Z<|Zm Z<|z0t fun x4 h5=>Zq (ixR Z Z h5 tu22 z3v Z)<|Zq (ldR Z z6a)<|Zc [1] [(1,1)] Tryz.func77 Z (zia _ _ _ _) fun r6 n7=>Zq (I.lss Z Z)<|Zj Z (fun h8=>?_) (fun h8=>?_)
   ·refine gSR<|Zb Z<|z0k<|z4p<|z0v<|z8c<|z5n<|Ze [] [1] Z
   ·refine z38<|z3l<|z0m<|z2g<|Zm Z<|Zq (I.add Z Z)<|Za Z<|z21<|z1m (fun aa ww h=>Zu h [1])
  ·refine z1z<|z10<|z14<|z6x (fun aa ww h=>Zu h [1])
 ·refine gSR<|Zb Z<|z0k<|Ze [] [1] Z
def z40 (a0:z00) (s6:(List Int) × (List V3) × (List Bool) × Bool) (s9:Int):Option (Sum (Sum ((List Int)) ((List Int) × (List V3) × (List Bool) × Bool)) Int) :=
 if decide (s9<(a0.Ops.length:Int)) then
  (idx s6.2.2.1 s9 >>= fun x12 =>
  if !x12 then
   idx a0.Ops s9 >>= fun x15 =>
   z4e s6.2.1 x15.Preds >>= fun r17 =>
   some r17
  else
   some false) >>= fun s11 =>
  if s11 then
   app 8 s6.1 [s9] >>= fun x20 =>
   idx a0.IDs s9 >>= fun x22 =>
   app 32 s6.2.1 [x22] >>= fun x24 =>
   idx s6.2.2.1 s9 >>= fun x26 =>
   some (.inl (.inr (x20,x24,s6.2.2.1.set (s9:Int).toNat true,true)))
  else
   some (.inr (w64 (s9+1)))
 else
  some (.inl (.inr (s6.1,s6.2.1,s6.2.2.1,false)))
def z42 (a0:z00) (s6:(List Int) × (List V3) × (List Bool) × Bool):Option (Sum ((List Int)) ((List Int) × (List V3) × (List Bool) × Bool)) :=
 if s6.2.2.2 then
  iter (z40 a0 s6) 0
 else
  some (.inl s6.1)
def z69 (a0:z00):Option ((List Int)) :=
 mkn 1 false (a0.Ops.length:Int) >>= fun x2 =>
 (iter (z42 a0) ([],[],x2,true)) >>= fun s5 =>
 some s5
set_option maxHeartbeats 4000000 in
theorem zi0 (a0:z00):z1u Tryz.prog 39 [.rd z01 a0] [] (z69 a0) (fun r nv=>⟨[.val (nv 0)],[(100,some (nv 0,.list z08 3 r))]⟩):=by
 refine z2f 51 Tryz.func39 Z Z Z fun H w=>?_;refine gSR<|Eb Z (bx 1 Z) fun v1=>Zb Z<|gSR<|Zb Z<|gSR<|Zb Z<|gSR<|Zq (faB 1 Z Z Tryz.underlying25 Z (by exact zcg))<|Zq (ld 1 Z Z (fP (z06 _)) zep Z)<|Zq (z4f Z .rd Z tu23)<|z0t fun x2 h3=>Ef Z (mks (R:=z09) 2 Z Z h3 Tryz.underlying109 ti4 Zr.bool Z) fun v4=>Zb Z<|z7r (fun (s5:(List Int)) aa ww=>∃ nv:Nat→Value,Sta (ctx 51 H [] w) [(3,.val (nv 0))] [(3,some ((nv 0),.list z08 3 s5))] aa ww) ?_ (fun s5=>?_)
 ·refine gSR<|Zb Z<|zyo z08 3 6<|zyo aZ 54 7<|z29 (fun (s6:(List Int) × (List V3) × (List Bool) × Bool) aa ww=>∃ nv:Nat→Value,Sta (ctx 51 H [] w) [(1,.val (z05 v1 0)),(3,.val (nv 0)),(4,.val (nv 1)),(5,.val v4),(6,.rd z09 s6.2.2.2)] [(1,some (v1,.box 25 [.rd z01 a0])),(4,some ((nv 0),.list z08 3 s6.1)),(5,some ((nv 1),.list aZ 54 s6.2.1)),(2,some (v4,.list z09 4 s6.2.2.1))] aa ww) (fun aa ww h=>⟨nvl [(.slice none 0 0),(.slice none 0 0)],Zu h [1,6,7,2]⟩) (fun s6=>?_)
  refine gEx fun n7=>z0q<|gSR<|Zm Z<|Zj Z (fun h8=>?_) (fun h8=>?_)
  ·refine gKn 6 Z h8<|Zt<|z5f<|gSR<|Zb Z<|gSR<|Zb Z<|z29 (fun (s9:Int) aa ww=>Sta (ctx 51 H [] w) [(1,.val (z05 v1 0)),(3,.val (n7 0)),(4,.val (n7 1)),(5,.val v4),(6,.rd z09 false),(7,.rd z08 s9)] [(1,some (v1,.box 25 [.rd z01 a0])),(4,some ((n7 0),.list z08 3 s6.1)),(5,some ((n7 1),.list aZ 54 s6.2.1)),(2,some (v4,.list z09 4 s6.2.2.1))] aa ww) (fun aa ww h=>Zu h [1,4,5,2]) (fun s9=>?_);refine z0q<|gSR<|Zm Z<|Zq (faB 1 Z Z Tryz.underlying25 Z (by exact zcg))<|Zq (ld 1 Z Z (fP (z06 _)) zep Z)<|Zq (z4f Z .rd Z tu23)<|Zq (I.lss Z Z)<|Zj Z (fun h10=>?_) (fun h10=>?_)
   ·refine Zt<|z0q<|z5f<|z7r (fun (s11:Bool) aa ww=>Sta (ctx 51 H [] w) [(1,.val (z05 v1 0)),(3,.val (n7 0)),(4,.val (n7 1)),(5,.val v4),(6,.rd z09 false),(7,.rd z08 s9),(34,.rd z09 s11)] [(1,some (v1,.box 25 [.rd z01 a0])),(4,some ((n7 0),.list z08 3 s6.1)),(5,some ((n7 1),.list aZ 54 s6.2.1)),(2,some (v4,.list z09 4 s6.2.2.1))] aa ww) ?_ (fun s11=>?_)
    ·refine z2g<|Zm Z<|Zm Z<|z0t fun x12 h13=>Zq (ixO 2 Z Z Z h13 Tryz.underlying109 ti4)<|Zq (ld 2 Z Z (Foc.el h13) ty4 Z)<|Zq (zgu Z)<|Zm Z<|z28 25 Z (fun h14=>?_) (fun h14=>?_)
     ·refine lKn 24 Z h14<|z1l Zx Z Z (mv Z)<|z1l Zx Z Z (faB 1 Z Z Tryz.underlying25 Z (by exact zcg))<|z1l Zx Z Z (ld 1 Z Z (fP (z06 _)) zep Z)<|z1l Zx Z Z (mv Z)<|z0t fun x15 h16=>z1l Zx Z Z (ixR Z Z h16 tu23 zb1 Z)<|z1l Zx Z Z (faR Z (z1b _) Tryz.underlying67 Z Z (by exact zb4))<|z1l Zx Z Z (ldR Z zbp)<|zfv [5] [(1,5)] Zx Z Tryz.func38 Z Z (zh6 _ _ _ _) (aW Z<|aQ Z<|aN) (Y0 Z) fun r17 n18=>Zq (pkT Z Z)<|z21<|z3p (fun aa ww h=>Zu h [1,4,5,2])
     ·refine lKn 24 Z h14<|Zk Z<|Zk Z<|Zk Z<|Zk Z<|Zk Z<|Zk Z<|Zk Z<|Zk Z<|Zq (pkF Z Z)<|z21<|z3p (fun aa ww h=>Zu h [1,4,5,2])
    ·refine gIf Z Z (fun h19=>?_) (fun h19=>?_)
     ·refine z0q<|zye [(3,.val (n7 0)),(4,.val (n7 1)),(1,.val (z05 v1 0)),(5,.val v4),(7,.rd z08 s9)] [(1,some (v1,.box 25 [.rd z01 a0])),(4,some ((n7 0),.list z08 3 s6.1)),(5,some ((n7 1),.list aZ 54 s6.2.1)),(2,some (v4,.list z09 4 s6.2.2.1))] [1,4,5,2] (Zs Z Z Z Z<|sS Z<|sN) (Zi Z<|Zi Z<|Zi Z<|Zi Z<|rN)<|z9g fun x20 h21=>z9g fun x22 h23=>z9g fun x24 h25=>z9g fun x26 h27=>gOr [(3,.val (n7 0),14),(4,.val (n7 1),15)] [⟨8,none,[(4,some ([1], fun nv=>((nv 1),.list z08 3 [s9])))]⟩,⟨4,some ([], fun nv=>((n7 0),.list z08 3 s6.1)),[(5,some ([2], fun nv=>((nv 2),.list z08 3 x20)))]⟩,⟨1,some ([], fun nv=>(v1,.box 25 [.rd z01 a0])),[]⟩,⟨9,none,[(12,none)]⟩,⟨5,some ([], fun nv=>((n7 1),.list aZ 54 s6.2.1)),[(13,some ([4], fun nv=>((nv 4),.list aZ 54 x24)))]⟩,⟨2,some ([], fun nv=>(v4,.list z09 4 s6.2.2.1)),[(17,some ([], fun nv=>(v4,.list z09 4 (s6.2.2.1.set (s9:Int).toNat true))))]⟩] [pd 35 (.val v4),pd 36 (.rd z08 s9),⟨some (37,[], fun nv=>.val (n7 0)),[],[],[0]⟩,pd 38 (.rd z08 s9),⟨some (39,[1], fun nv=>.val (nv 1)),[(0,0,true)],[1],[]⟩,⟨some (40,[2], fun nv=>.val (nv 2)),[(1,0,true),(0,1,false)],[2],[]⟩,⟨some (41,[], fun nv=>.val (n7 1)),[],[],[1]⟩,pk 42 (.val (z05 v1 (0+0))) [(2,0,false)],pk 43 (.rd (z03 aZ) a0.IDs) [(2,0,false)],pd 44 (.rd z08 s9),pd 45 (.rp aZ x22),pd 46 (.rd aZ x22),⟨some (47,[], fun nv=>.rd (z03 aZ) [x22]),[(3,0,true)],[3],[]⟩,⟨some (48,[4], fun nv=>.val (nv 4)),[(4,0,true)],[4],[]⟩,⟨some (3,[2], fun nv=>.val (nv 2)),[],[],[]⟩,⟨some (4,[4], fun nv=>.val (nv 4)),[],[],[]⟩,pk 49 (.val (z05 v4 ((s9:Int).toNat * 1))) [(5,0,false)],⟨none,[(5,0,true)],[],[]⟩,pd 6 (.rd z09 true)] mixed (oC (oRn (fun nv E=>mv Z))<|oC (oRn (fun nv E=>mv Z))<|oC (oRn (fun nv E=>mv Z))<|oC (oRn (fun nv E=>mv Z))<|oC (oEf 8 1 (fun nv E=>lit (R:=z08) ([s9]:List Int) 8 (pP Z Z<|pN) Z tu98 ti3 Z Z))<|oC (oEf 4 2 (fun nv E=>apn 4 Z Z Z (.own 8 Z) h21 tu98 ti3 Z Z Z))<|oC (oRn (fun nv E=>mv Z))<|oC (oRn (fun nv E=>faB 1 Z Z Tryz.underlying25 Z (by exact zb4)))<|oC (oRn (fun nv E=>ld 1 Z Z (fP (z0n _)) zbp Z))<|oC (oRn (fun nv E=>mv Z))<|oC (oRn (fun nv E=>ixR Z Z h23 tu22 z3v Z))<|oC (oRn (fun nv E=>ldR Z z6a))<|oC (oFz (A1:=fun nv=>[(9,some ((nv 3),.list aZ 54 [x22]))]) 9 3 (oEf 9 3 (fun nv E=>lit (R:=aZ) ([x22]:List V3) 9 (pP Z Z<|pN) Z tu22 z3v Z Z)))<|oC (oEf 5 4 (fun nv E=>apn 5 Z Z Z .rd h25 tu22 z3v Z Z Z))<|oC (oRn (fun nv E=>asg Z))<|oC (oRn (fun nv E=>asg Z))<|oC (oRn (fun nv E=>ixO 2 Z Z Z h27 Tryz.underlying109 ti4))<|oC (oEs 2 (fun nv E=>sto 2 Z Z (Foc.el h27) Z ti4))<|oC (oRn (fun nv E=>asg Z))<|oN) fun n28=>z0m<|z1z<|z15f Z<|z10<|z14<|z3l<|z1m (fun aa ww h=>⟨nvl [(n28 2),(n28 4)],Zu h [1,4,5,2]⟩)
     ·refine z38<|z3l<|z0m<|z2g<|Zm Z<|Zq (I.add Z Z)<|Za Z<|z21<|z1m (fun aa ww h=>Zu h [1,4,5,2])
   ·refine z1z<|z10<|z14<|z3l<|z1m (fun aa ww h=>⟨nvl [(n7 0),(n7 1)],Zu h [1,4,5,2]⟩)
  ·refine gKn 6 Z h8<|z1z<|z10<|z14<|z3p (fun aa ww h=>⟨nvl [(n7 0)],Zu h [4]⟩)
 ·refine gEx fun n29=>gSR<|Zm Z<|Zb Z<|z0k<|Ze [(n29 0)] [3] Z
def z5m (a0:z00) (s6:Int):Option (Sum (Sum Int Unit) Int) :=
 if decide (s6<(a0.Ops.length:Int)) then
  idx a0.Ops s6 >>= fun x8 =>
  z4e a0.IDs x8.Preds >>= fun r10 =>
  if !r10 then
   some (.inl (.inl 40))
  else
   some (.inr (w64 (s6+1)))
 else
  some (.inl (.inr ()))
def za5 (a0:z00):Option (Int) :=
 z79 a0.IDs >>= fun r2 =>
 if !r2 then
  some 32
 else
  z67 (iter (z5m a0) 0) fun s5 =>
  z69 a0 >>= fun r13 =>
  if decide ((r13.length:Int)<(a0.Ops.length:Int)) then
   some 36
  else
   some 0
theorem zie (a0:z00):z1u Tryz.prog 19 [.rd z01 a0] [] (za5 a0) (fun r nv=>⟨[.rd z08 r],[]⟩):=by
 refine z2f 32 Tryz.func19 Z Z Z fun H w=>?_;refine gSR<|Eb Z (bx 1 Z) fun v1=>Zb Z<|z0q<|gSR<|Zq (faB 1 Z Z Tryz.underlying25 Z (by exact zb4))<|Zq (ld 1 Z Z (fP (z0n _)) zbp Z)<|Zc [] [] Tryz.func37 Z (zca _) fun r2 n3=>Zq (zgu Z)<|Zj Z (fun h4=>?_) (fun h4=>?_)
 ·refine gSR<|Zb Z<|z0k<|z0v<|Ze [] [] Z
 ·refine Zt<|z8i (fun (s5:Unit) aa ww=>Sta (ctx 32 H [] w) [(1,.val (z05 v1 0))] [(1,some (v1,.box 25 [.rd z01 a0]))] aa ww) ?_ (fun s5=>?_)
  ·refine gSR<|Zb Z<|z29 (fun (s6:Int) aa ww=>Sta (ctx 32 H [] w) [(1,.val (z05 v1 0)),(3,.rd z08 s6)] [(1,some (v1,.box 25 [.rd z01 a0]))] aa ww) (fun aa ww h=>Zu h [1]) (fun s6=>?_);refine z0q<|gSR<|Zm Z<|Zq (faB 1 Z Z Tryz.underlying25 Z (by exact zcg))<|Zq (ld 1 Z Z (fP (z06 _)) zep Z)<|Zq (z4f Z .rd Z tu23)<|Zq (I.lss Z Z)<|Zj Z (fun h7=>?_) (fun h7=>?_)
   ·refine Zt<|z0q<|z5f<|z0q<|z6l [] mixed Z Z<|hTk 0 Z Z (faB 1 Z Z Tryz.underlying25 Z (by exact zb4))<|hTk 1 Z Z (ld 1 Z Z (fP (z0n _)) zbp Z)<|hTk 2 Z Z (faB 1 Z Z Tryz.underlying25 Z (by exact zcg))<|hTk 3 Z Z (ld 1 Z Z (fP (z06 _)) zep Z)<|hTk 4 Z Z (mv Z)<|z5g fun x8 h9=>hTk 5 Z Z (ixR Z Z h9 tu23 zb1 Z)<|hTk 6 Z Z (faR Z (z1b _) Tryz.underlying67 Z Z (by exact zb4))<|hTk 7 Z Z (ldR Z zbp)<|z2v 8 [] [] Z (by kernel_rfl) Z (gd0 Z) Z Tryz.func38 Z Z (zkd _ _) (Y2 Z Z) rN Z (fun _ _=>z9l) fun r10 n11=>hTk 9 Z Z (zgu Z)<|z3e (by kernel_rfl)<|z0m<|gIf Z Z (fun h12=>?_) (fun h12=>?_)
    ·refine gSR<|Zb Z<|z0k<|z4p<|z0v<|z8c<|z5n<|Ze [] [] Z
    ·refine z38<|z3l<|z0m<|z2g<|Zm Z<|Zq (I.add Z Z)<|Za Z<|z21<|z1m (fun aa ww h=>Zu h [1])
   ·refine z1z<|z10<|z14<|z6x (fun aa ww h=>Zu h [1])
  ·refine z0q<|z0q<|z6l [38] mixed Z Z<|hTk 0 Z Z (ld 1 Z Z fH zb9 Z)<|hTk 3 Z Z (faB 1 Z Z Tryz.underlying25 Z (by exact zcg))<|hTk 4 Z Z (ld 1 Z Z (fP (z06 _)) zep Z)<|hTk 5 Z Z (z4f Z .rd Z tu23)<|z2v 1 [] [(100,38)] Z (by kernel_rfl) Z (gd0 Z) Z Tryz.func39 Z Z (zi0 _) (Y1 Z) rN Z (fun _ _=>z37) fun r13 n14=>Zf 2 Z Z z1x (z4f Z (.own 38 Z) Z tu98)<|hTk 6 Z Z (I.lss Z Z)<|z3e (by kernel_rfl)<|z0m<|gIf Z Z (fun h15=>?_) (fun h15=>?_)
   ·refine gSR<|Zb Z<|z0k<|z0v<|Ze [] [] Z
   ·refine Zt<|gSR<|Zb Z<|z0k<|Ze [] [] Z
def z5t (a0:z00) (s5:Int):Option (Sum (Sum Int Unit) Int) :=
 if decide (s5<(a0.Ops.length:Int)) then
  idx a0.Ops s5 >>= fun x7 =>
  z98 x7 >>= fun r9 =>
  if r9 != 0 then
   some (.inl (.inl 8))
  else
   idx a0.Ops s5 >>= fun x12 =>
   idx a0.IDs s5 >>= fun x14 =>
   zci x12 >>= fun r16 =>
   if !decide (r16=x14) then
    some (.inl (.inl 8))
   else
    some (.inr (w64 (s5+1)))
 else
  some (.inl (.inr ()))
def z7z (a0:z00):Option (Int) :=
 if decide (60<(a0.Ops.length:Int)) then
  some 4
 else
  if (a0.IDs.length:Int) != (a0.Ops.length:Int) then
   some 8
  else
   z67 (iter (z5t a0) 0) fun s4 =>
   za5 a0 >>= fun r19 =>
   some r19
theorem zi2 (a0:z00):z1u Tryz.prog 6 [.rd z01 a0] [] (z7z a0) (fun r nv=>⟨[.rd z08 r],[]⟩):=by
 refine z2f 45 Tryz.func6 Z Z Z fun H w=>?_;refine gSR<|Eb Z (bx 1 Z) fun v1=>Zb Z<|z0q<|gSR<|Zq (faB 1 Z Z Tryz.underlying25 Z (by exact zcg))<|Zq (ld 1 Z Z (fP (z06 _)) zep Z)<|Zq (z4f Z .rd Z tu23)<|Zq (I.gtr Z Z)<|Zj Z (fun h2=>?_) (fun h2=>?_)
 ·refine gSR<|Zb Z<|z0k<|z0v<|Ze [] [] Z
 ·refine Zt<|z0q<|gSR<|Zq (faB 1 Z Z Tryz.underlying25 Z (by exact zb4))<|Zq (ld 1 Z Z (fP (z0n _)) zbp Z)<|Zq (z4f Z .rd Z tu22)<|Zq (faB 1 Z Z Tryz.underlying25 Z (by exact zcg))<|Zq (ld 1 Z Z (fP (z06 _)) zep Z)<|Zq (z4f Z .rd Z tu23)<|Zq (I.neq Z Z)<|Zj Z (fun h3=>?_) (fun h3=>?_)
  ·refine gSR<|Zb Z<|z0k<|z0v<|Ze [] [] Z
  ·refine Zt<|z8i (fun (s4:Unit) aa ww=>Sta (ctx 45 H [] w) [(1,.val (z05 v1 0))] [(1,some (v1,.box 25 [.rd z01 a0]))] aa ww) ?_ (fun s4=>?_)
   ·refine gSR<|Zb Z<|z29 (fun (s5:Int) aa ww=>Sta (ctx 45 H [] w) [(1,.val (z05 v1 0)),(3,.rd z08 s5)] [(1,some (v1,.box 25 [.rd z01 a0]))] aa ww) (fun aa ww h=>Zu h [1]) (fun s5=>?_);refine z0q<|gSR<|Zm Z<|Zq (faB 1 Z Z Tryz.underlying25 Z (by exact zcg))<|Zq (ld 1 Z Z (fP (z06 _)) zep Z)<|Zq (z4f Z .rd Z tu23)<|Zq (I.lss Z Z)<|Zj Z (fun h6=>?_) (fun h6=>?_)
    ·refine Zt<|z0q<|z5f<|z0q<|z6l [] mixed Z Z<|hTk 0 Z Z (faB 1 Z Z Tryz.underlying25 Z (by exact zcg))<|hTk 1 Z Z (ld 1 Z Z (fP (z06 _)) zep Z)<|hTk 2 Z Z (mv Z)<|z5g fun x7 h8=>hTk 3 Z Z (ixR Z Z h8 tu23 zb1 Z)<|hTk 4 Z Z (ldR Z zeb)<|z2v 5 [] [] Z (by kernel_rfl) Z (gd0 Z) Z Tryz.func17 Z Z (zh7 _) (Y1 Z) rN Z (fun _ _=>z1x) fun r9 n10=>hTk 6 Z Z (I.neq Z Z)<|hTk 7 Z Z (mv Z)<|hIf 29 Z Z (fun h11=>?_) (fun h11=>?_)
     ·refine hKn 28 Z Z h11<|hSk 8 Z Z<|hSk 9 Z Z<|hSk 10 Z Z<|hSk 11 Z Z<|hSk 12 Z Z<|hSk 13 Z Z<|hSk 14 Z Z<|hSk 15 Z Z<|hSk 16 Z Z<|hSk 17 Z Z<|hSk 18 Z Z<|hSk 19 Z Z<|hTk 20 Z Z (pkT Z Z)<|z3e (by kernel_rfl)<|z0m<|zdc Z<|gSR<|Zb Z<|z0k<|z4p<|z0v<|z8c<|z5n<|Ze [] [] Z
     ·refine hKn 28 Z Z h11<|Zg 8 Z Z (faB 1 Z Z Tryz.underlying25 Z (by exact zcg))<|Zg 9 Z Z (ld 1 Z Z (fP (z06 _)) zep Z)<|Zg 10 Z Z (mv Z)<|z5g fun x12 h13=>Zg 11 Z Z (ixR Z Z h13 tu23 zb1 Z)<|Zg 12 Z Z (ldR Z zeb)<|Zg 14 Z Z (faB 1 Z Z Tryz.underlying25 Z (by exact zb4))<|Zg 15 Z Z (ld 1 Z Z (fP (z0n _)) zbp Z)<|Zg 16 Z Z (mv Z)<|z5g fun x14 h15=>Zg 17 Z Z (ixR Z Z h15 tu22 z3v Z)<|Zg 18 Z Z (ldR Z z6a)<|zze 13 [] [] Z (by kernel_rfl) Z Zx Z Tryz.func18 Z Z (zl2 _) (Y1 Z) rN Z fun r16 n17=>z10i 19 Z (by kernel_rfl) (by kernel_rfl) (by kernel_rfl) Zx Z Z z9l (neA Z Z eq54 Z Z gq54)<|hTk 20 Z Z (pkF Z Z)<|z3e (by kernel_rfl)<|z0m<|gIf Z Z (fun h18=>?_) (fun h18=>?_)
      ·refine gKn 41 Z h18<|gSR<|Zb Z<|z0k<|z4p<|z0v<|z8c<|z5n<|Ze [] [] Z
      ·refine gKn 41 Z h18<|z38<|z3l<|z0m<|z2g<|Zm Z<|Zq (I.add Z Z)<|Za Z<|z21<|z1m (fun aa ww h=>Zu h [1])
    ·refine z1z<|z10<|z14<|z6x (fun aa ww h=>Zu h [1])
   ·refine gSR<|Zq (ld 1 Z Z fH zb9 Z)<|Zc [] [] Tryz.func19 Z (zie _) fun r19 n20=>Zb Z<|z0k<|Ze [] [] Z
end
section
open Go Go.Shelf Go.RowKit Go.Lib
theorem zr9 {P:Program} {k:Nat} (w:World) (dT sT ty elem:TypeId) (g o dLen dCap:Nat) (a:Addr) (sLen sCap:Nat) (cur:Array Value) (t:TypeId) (cs:List Value)
  (hu:P.underlying dT=some (.slice elem)) (hs:(P.info? elem).map (·.size)=some k)
  (hg:w.heap[g]? = some (.cells cur t (0,0))) (hn:cs.length=Nat.min sLen dLen * k)
  (hsrc:∀ j v,cs[j]? = some v→w.cell? (a.add j)=some v) (hfit:o+cs.length≤cur.size) (h1:∀ v∈cs,v.oneCell'=true) :
  (Builtin.copy_ #[dT,sT] ty #[.slice (some ⟨g,o,none⟩) dLen dCap,.slice (some a) sLen sCap]).run P w =
   .ok (goInt (Nat.min sLen dLen)) (w.setRow g (cur.toList.take o++cs++cur.toList.drop (o+cs.length)).toArray):=by
 have hl:=run_firstCells_some (P:=P) w k (Nat.min sLen dLen) a sLen sCap cs hn hsrc;have hst:=run_storeCells_at P g o t cs 0 cur w hg (by simpa using hfit) h1
 cases hq:P.info? elem with
 | none=>simp [hq] at hs
 | some i =>
  have hi:i.size=k:=by simpa [hq] using hs
  simp [Builtin.copy_,run_underlying hu,Builtin.lenOf,sizeOf,typeInfo,hq,hi,hl,hst]
theorem z12m {P:Program} (w:World) {o:Oper} {a:Act} {K:Act→World→Prop} {Q:Exit→Act→World→Prop} (d s:Operand) (t t':TypeId)
  (ho:o.op=.call { callee:=.builtin .copy,args:=#[d,s],argTypes:=#[t,t'] }) (v u:Value) (hd:a.eval d=v) (hs:a.eval s=u) {v':Value} {w':World}
  (hr:(Builtin.copy_ #[t,t'] o.type #[v,u]).run P w=.ok v' w') (h:K (a.put o.dst v') w'):o.wp P a w K Q:=by
 unfold Oper.wp execOp;simp only [ho,resolve,invoke,builtin,Sem.run_bind,Sem.run_pure,Result.andThen_ok,List.map_toArray,List.map_cons,List.map_nil,hd,hs,hr];exact h
theorem zdo {P:Program} (w:World) {ops:Array Oper} {rest:List Oper} {o:Oper} {a:Act} {Q:Exit→Act→World→Prop} (hgd:o.guard=none) (d s:Operand) (t t':TypeId)
  (ho:o.op=.call { callee:=.builtin .copy,args:=#[d,s],argTypes:=#[t,t'] }) (v u:Value) (hd:a.eval d=v) (hs:a.eval s=u) {v':Value} {w':World}
  (hr:(Builtin.copy_ #[t,t'] o.type #[v,u]).run P w=.ok v' w') (h:wpList P ops Q rest (a.put o.dst v') w'):wpList P ops Q (o::rest) a w :=
 wpList_plain hgd fun _ hK=>z12m w d s t t' ho v u hd hs hr (hK _ _ h)
theorem zgj {P:Program} {ops:Array Oper} {o:Oper} {a:Act} {w:World} {K:Act→World→Prop} {Q:Exit→Act→World→Prop} {E:Prop}
  (hg:o.guard=none) (d x:Operand) (dT sT:TypeId) (hop:o.op=Op.call { callee:=Callee.builtin Builtin.copy,args:=#[d,x],argTypes:=#[dT,sT] })
  (v u:Value) (hd:a.eval d=v) (hx:a.eval x=u) {v':Value} {w':World} (hr:(Builtin.copy_ #[dT,sT] o.type #[v,u]).run P w=.ok v' w') (hK:K (a.put o.dst v') w') :
  if Region.wanted o (yielded ops a.tmps)=true then Oper.wp P o a w K Q else E:=by
 have hw:Region.wanted o (yielded ops a.tmps)=true:=by simp [Region.wanted,hg]
 rw [if_pos hw];unfold Oper.wp;simp [execOp,hop,resolve,invoke,builtin,hd,hx,hr,Result.andThen];exact hK
section
variable (b n c i vb vc:Nat) (xs ys:List Value) (C V:Array Value) (w:World)
theorem zxz:TI Tryz.prog 54 (.agg (Array.replicate 32 (.int .u8 0))) 32 32:=z3v
theorem z10l:(Tryz.prog.info? 54).map (·.size)=some 32:=by kernel_rfl
set_option maxHeartbeats 4000000 in
set_option maxRecDepth 100000 in
theorem zx4 (hi:i<n) (hroom:n+1≤c) (hc63:c≤9223372036854775807) (hvb:vb≠b) (hC:w.heap[b]? = some (.cells C 54 (0,0))) (hV:w.heap[vb]? = some (.cells V 54 (0,0)))
  (hCs:C.size=c * 32) (hxs:C.toList.take (n * 32)=xs) (hys:V.toList.take 32=ys) (hyl:ys.length=32) (h1x:∀ v∈xs,v.oneCell'=true) (h1y:∀ v∈ys,v.oneCell'=true) :
  Calls Tryz.prog 118 #[.slice (some ⟨b,0,none⟩) n c,.int .i64 i,.slice (some ⟨vb,0,none⟩) 1 vc] w fun e w' =>
   e=.returned (.slice (some ⟨b,0,none⟩) (n+1) c)∧∃ D,w'=w.drew.setRow b D∧D.size=C.size∧D.toList.take ((n+1) * 32)=xs.take (i * 32)++ys++xs.drop (i * 32):=by
 have hsz:=z10l;have u22:Tryz.prog.underlying 22=some (.slice 54):=Tryz.underlying22;have hcc:∀ j v,C.toList[j]? = some v→w.cell? ⟨b,j,none⟩=some v:=fun j v hj=>by
  rw [Array.getElem?_toList] at hj; unfold World.cell?; rw [hC]; exact hj
 have hcv:∀ j v,V.toList[j]? = some v→w.cell? ⟨vb,j,none⟩=some v:=fun j v hj=>by
  rw [Array.getElem?_toList] at hj; unfold World.cell?; rw [hV]; exact hj
 have hxl:xs.length=n * 32:=by rw [← hxs,List.length_take,Array.length_toList]; omega
 have hxg:∀ j v,xs[j]? = some v→C.toList[j]? = some v:=fun j v hj=>by
  rw [← hxs,List.getElem?_take] at hj; split at hj
  ·exact hj
  ·cases hj
 have hyg:∀ j v,ys[j]? = some v→V.toList[j]? = some v:=fun j v hj=>by
  rw [← hys,List.getElem?_take] at hj; split at hj
  ·exact hj
  ·cases hj
 have hVs:V.size≠0:=by
  have:ys.length≤V.size:=by rw [← hys,List.length_take,Array.length_toList]; omega
  omega
 have hov:∀ lb cb,(callFunc 169 #[.slice (some ⟨vb,0,none⟩) 1 vc,.slice (some ⟨b,(i+1) * 32,none⟩) lb cb]).run Tryz.prog w=.ok (.value (.bool false)) w:=fun lb cb=>by
  rw [run_callFunc_extern Tryz.func169 (by kernel_rfl) (by kernel_rfl) (by kernel_rfl) (e:=Extern.SlicesOverlaps.overlaps #[22,22] #[4]) (by kernel_rfl),
   Lib.run_overlaps_apart w 22 4 54 u22 32 Tryz.sizeOf54 ⟨vb,0,none⟩ ⟨b,(i+1) * 32,none⟩ 1 vc lb cb hvb 54 54 V.size C.size (by simp [World.shape?,hV]) (by simp [World.shape?,hC]) (by omega) (by simp [World.frozen?,hV]) (by simp [World.frozen?,hV])]
  rfl
 have hdl:(xs.drop (i * 32)).length=(n - i) * 32:=by rw [List.length_drop,hxl,Nat.sub_mul]
 have hmin1:Nat.min (n+1 - i) (n - i)=n - i:=by simp only [Nat.min_def]; split <;> omega
 have hcp1:∀ ty dc sc,(Builtin.copy_ #[22,22] ty #[.slice (some ⟨b,(i+1) * 32,none⟩) (n - i) dc,.slice (some ⟨b,i * 32,none⟩) (n+1 - i) sc]).run Tryz.prog w.drew =
   .ok (goInt ((n - i:Nat):Int)) (w.drew.setRow b (C.toList.take ((i+1) * 32)++xs.drop (i * 32)++C.toList.drop ((i+1) * 32+(xs.drop (i * 32)).length)).toArray):=fun ty dc sc=>by
  have e:=zr9 (P:=Tryz.prog) w.drew 22 22 ty 54 b ((i+1) * 32) (n - i) dc ⟨b,i * 32,none⟩ (n+1 - i) sc C 54 (xs.drop (i * 32)) u22 hsz hC (by rw [hmin1,hdl])
   (fun j v hj=>by rw [Addr.add_lit]; exact hcc _ v (hxg _ v (by rwa [List.getElem?_drop] at hj))) (by rw [hdl,hCs]; omega) (fun v hv=>h1x v (List.mem_of_mem_drop hv))
  rw [hmin1] at e; exact e
 obtain ⟨D1,hD1⟩:∃ D1,D1=(C.toList.take ((i+1) * 32)++xs.drop (i * 32)++C.toList.drop ((i+1) * 32+(xs.drop (i * 32)).length)).toArray:=⟨_,rfl⟩
 rw [← hD1] at hcp1;have hD1s:D1.size=C.size:=by
  rw [hD1]; simp only [List.size_toArray,List.length_append,List.length_take,List.length_drop,Array.length_toList,hxl]; omega
 obtain ⟨W1,hW1⟩:∃ W1,W1=w.drew.setRow b D1:=⟨_,rfl⟩
 have hB1:W1.heap[b]? = some (.cells D1 54 (0,0)):=by rw [hW1]; exact setRow_heap w.drew b C D1 54 (0,0) hC
 have hV1:W1.heap[vb]? = some (.cells V 54 (0,0)):=by rw [hW1,setRow_other w.drew b vb D1 hvb]; exact hV
 obtain ⟨D2,hD2⟩:∃ D2,D2=(D1.toList.take (i * 32)++ys++D1.toList.drop (i * 32+ys.length)).toArray:=⟨_,rfl⟩
 have hcp2:∀ ty dc,(Builtin.copy_ #[22,22] ty #[.slice (some ⟨b,i * 32,none⟩) (n+1 - i) dc,.slice (some ⟨vb,0,none⟩) 1 vc]).run Tryz.prog W1=.ok (goInt 1) (W1.setRow b D2):=fun ty dc=>by
  have hm:Nat.min 1 (n+1 - i)=1:=by simp only [Nat.min_def]; split <;> omega
  have e:=zr9 (P:=Tryz.prog) W1 22 22 ty 54 b (i * 32) (n+1 - i) dc ⟨vb,0,none⟩ 1 vc D1 54 ys u22 hsz hB1 (by rw [hm,hyl])
   (fun j v hj=>by
    rw [Addr.add_lit,Nat.zero_add]
    have:=hyg j v hj
    rw [Array.getElem?_toList] at this
    unfold World.cell?; rw [hV1]; exact this) (by rw [hyl,hD1s,hCs]; omega) h1y
  rw [hm,← hD2] at e; exact e
 have hfin:D2.size=C.size∧D2.toList.take ((n+1) * 32)=xs.take (i * 32)++ys++xs.drop (i * 32):=by
  have t1:D1.toList.take (i * 32)=xs.take (i * 32):=by
   rw [hD1,← hxs,List.take_take];simp only [List.append_assoc];rw [List.take_append_of_le_length (by rw [List.length_take,Array.length_toList]; omega),List.take_take]
   congr 1; omega
  have t2:(D1.toList.drop ((i+1) * 32)).take ((n - i) * 32)=xs.drop (i * 32):=by
   have el:(C.toList.take ((i+1) * 32)).length=(i+1) * 32:=by rw [List.length_take,Array.length_toList]; omega
   rw [hD1];simp only [List.append_assoc];rw [List.drop_append,el,Nat.sub_self,List.drop_zero,List.drop_eq_nil_of_le (by rw [el]; omega),List.nil_append,List.take_append_of_le_length (by rw [hdl]; omega),List.take_of_length_le (by rw [hdl]; omega)]
  constructor
  ·rw [hD2]; simp only [List.size_toArray,List.length_append,List.length_take,List.length_drop,Array.length_toList,hyl]; omega
  ·rw [hD2];simp only [List.append_assoc];have el:(D1.toList.take (i * 32)).length=i * 32:=by rw [List.length_take,Array.length_toList]; omega
   rw [List.take_append,el,List.take_of_length_le (by rw [el]; omega),List.take_append,hyl,List.take_of_length_le (l:=ys) (by rw [hyl]; omega),t1,
    show i * 32+32=(i+1) * 32 by omega, show (n+1) * 32 - i * 32 - 32=(n - i) * 32 by omega,t2]
 have hz1:¬ ((1:Int)=0):=by decide
 have hz2:¬ ((i:Int)=(n:Int)):=by omega
 have hw1:IntKind.i64.wrap ((i:Int)+1)=(i:Int)+1:=by rw [IntKind.wrap_i64]; omega
 have hb1:(0:Int)≤(i:Int)+1:=by omega
 have hin:i≤n:=by omega
 have htn:((i:Int)+1).toNat=i+1:=by omega
 have hb2:¬ (c=i+1):=by omega
 have hb3:(i:Int)≤(n:Int)+1:=by omega
 have hb4:¬ (c=i):=by omega
 subst hW1
 clear hcc hcv hxg hyg hD1 hD2 hxs hys hC hV hB1 hV1 h1x h1y hdl hmin1 hxl hyl
 go_enter Tryz.func118,Tryz.ntmps118
 go_wp2_with (simp only [hov])
 go_region_law (refine zgj rfl _ _ 22 22 rfl (.slice (some ⟨b,(i+1) * 32,none⟩) (n - i) (c - (i+1))) (.slice (some ⟨b,i * 32,none⟩) (n+1 - i) (c - i)) (by simp [Act.eval,Act.put]) (by simp [Act.eval,Act.put]) (hcp1 3 (c - (i+1)) (c - i)) ?_)
 go_wp2_with (at_builtin; refine zdo _ rfl _ _ 22 22 rfl _ _ rfl rfl (hcp2 _ _) ?_)
 go_ret
 exact ⟨rfl,D2, by rw [setRow_setRow],hfin⟩
set_option maxHeartbeats 4000000 in
set_option maxRecDepth 100000 in
theorem z119 (hi:i<n) (hnc:n≤c) (hroom:c<n+1) (hn:n≤1000000) (hvb:vb≠b) (hC:w.heap[b]? = some (.cells C 54 (0,0))) (hV:w.heap[vb]? = some (.cells V 54 (0,0)))
  (hCs:C.size=c * 32) (hxs:C.toList.take (n * 32)=xs) (hys:V.toList.take 32=ys) (hyl:ys.length=32) (h1x:∀ v∈xs,v.oneCell'=true) (h1y:∀ v∈ys,v.oneCell'=true) :
  Calls Tryz.prog 118 #[.slice (some ⟨b,0,none⟩) n c,.int .i64 i,.slice (some ⟨vb,0,none⟩) 1 vc] w fun e w' =>
   ∃ G,e=.returned (.slice (some ⟨w.heap.size,0,none⟩) (n+1) G)∧n+1≤G∧G≤maxLen∧∃ D,w'.heap[w.heap.size]? = some (.cells D 54 (0,0))∧w.grownBy w' none∧D.size=G * 32∧D.toList.take ((n+1) * 32)=xs.take (i * 32)++ys++xs.drop (i * 32):=by
 have hsz:=z10l;have u22:Tryz.prog.underlying 22=some (.slice 54):=Tryz.underlying22;have u3:Tryz.prog.underlying 3=some (.int .i64):=Tryz.underlying3;have hcn:c=n:=by omega
 subst hcn;have hcc:∀ j v,C.toList[j]? = some v→w.cell? ⟨b,j,none⟩=some v:=fun j v hj=>by
  rw [Array.getElem?_toList] at hj; unfold World.cell?; rw [hC]; exact hj
 have hxl:xs.length=c * 32:=by rw [← hxs,List.length_take,Array.length_toList]; omega
 have hxg:∀ j v,xs[j]? = some v→C.toList[j]? = some v:=fun j v hj=>by
  rw [← hxs,List.getElem?_take] at hj; split at hj
  ·exact hj
  ·cases hj
 have hyg:∀ j v,ys[j]? = some v→V.toList[j]? = some v:=fun j v hj=>by
  rw [← hys,List.getElem?_take] at hj; split at hj
  ·exact hj
  ·cases hj
 have hbw:b<w.heap.size:=(Array.getElem?_eq_some_iff.1 hC).1;have hvw:vb<w.heap.size:=(Array.getElem?_eq_some_iff.1 hV).1;have hkk:(c:Int)+1 - (i:Int)=((c+1 - i:Nat):Int):=by omega
 obtain ⟨i0,hi0,hz0,hzs,hzb⟩:=zxz;have hold:(Builtin.firstCells i0.size i (.slice (some ⟨b,0,none⟩) i c)).run Tryz.prog w.drew=.ok (xs.take (i * 32)).toArray w.drew:=by
  rw [hzs]
  exact run_firstCells_some w.drew 32 i ⟨b,0,none⟩ i c (xs.take (i * 32)) (by rw [List.length_take]; omega) (fun j v hj=>by
   rw [Addr.add_lit,Nat.zero_add];rw [List.getElem?_take] at hj
   split at hj
   ·exact hcc j v (hxg j v hj)
   ·cases hj)
 obtain ⟨G,hG⟩:∃ G,G=grownCap w (c+1) c 54:=⟨_,rfl⟩
 obtain ⟨ROW,hROW⟩:∃ ROW:Array Value,ROW=(xs.take (i * 32)).toArray++Builtin.zeroCells (Array.replicate 32 (.int .u8 0)) (c+1 - i)++Builtin.zeroCells (Array.replicate 32 (.int .u8 0)) (G - (c+1)):=⟨_,rfl⟩
 have hrz:∀ ty,(Builtin.append_ #[22,3] ty #[.slice (some ⟨b,0,none⟩) i c,.int .i64 ((c:Int)+1 - (i:Int))]).run Tryz.prog w =
   .ok (.slice (some ⟨w.heap.size,0,none⟩) (c+1) G) (w.drew.alloc (.cells ROW 54)):=fun ty=>by
  have h:=Lib.run_append_grow_zeros w 22 3 ty 54 i0 _ .i64 .i64 u22 u3 hi0 hz0 (some ⟨b,0,none⟩) i c (xs.take (i * 32)) hold (c+1 - i) (by omega) (by omega) (by omega) (by omega) (by rw [hzb]; omega) (by rw [hzb, show i+(c+1 - i)=c+1 by omega]; exact growslice_fits (by omega) (by omega));rw [show i+(c+1 - i)=c+1 by omega] at h;rw [hkk,hROW,hG];exact h
 have hGn:c+1≤G:=by rw [hG]; exact grownCap_ge w _ _ _
 have hGm:G≤maxLen:=by rw [hG]; exact grownCap_le_maxLen w (c+1) c 54 (by unfold maxLen; omega)
 have hG63:G≤9223372036854775807:=by unfold maxLen at hGm; omega
 have hRs:ROW.size=G * 32:=by
  rw [hROW]; simp only [Array.size_append,List.size_toArray,List.length_take,size_zeroCells,Array.size_replicate,hxl]; omega
 have hRt:ROW.toList.take (i * 32)=xs.take (i * 32):=by
  rw [hROW]; simp only [Array.toList_append,List.append_assoc];rw [List.take_append_of_le_length (by rw [List.length_take]; omega),List.take_take]; congr 1; omega
 obtain ⟨D1,hD1⟩:∃ D1,D1=(ROW.toList.take (i * 32)++ys++ROW.toList.drop (i * 32+ys.length)).toArray:=⟨_,rfl⟩
 have hD1s:D1.size=G * 32:=by
  rw [hD1]; simp only [List.size_toArray,List.length_append,List.length_take,List.length_drop,Array.length_toList,hyl]; omega
 obtain ⟨D2,hD2⟩:∃ D2,D2=(D1.toList.take ((i+1) * 32)++xs.drop (i * 32)++D1.toList.drop ((i+1) * 32+(xs.drop (i * 32)).length)).toArray:=⟨_,rfl⟩
 have hdl:(xs.drop (i * 32)).length=(c - i) * 32:=by rw [List.length_drop,hxl,Nat.sub_mul]
 have hD2s:D2.size=G * 32:=by
  rw [hD2]; simp only [List.size_toArray,List.length_append,List.length_take,List.length_drop,Array.length_toList,hxl]; omega
 have hfin:D2.toList.take ((c+1) * 32)=xs.take (i * 32)++ys++xs.drop (i * 32):=by
  have e1:(ROW.toList.take (i * 32)).length=i * 32:=by rw [List.length_take,Array.length_toList]; omega
  have e2:D1.toList.take ((i+1) * 32)=xs.take (i * 32)++ys:=by
   rw [hD1]; simp only [List.append_assoc];rw [List.take_append,e1,List.take_of_length_le (by rw [e1]; omega),List.take_append_of_le_length (by rw [hyl]; omega),List.take_of_length_le (l:=ys) (by rw [hyl]; omega),hRt]
  have e3:(D1.toList.take ((i+1) * 32)).length=(i+1) * 32:=by rw [List.length_take,Array.length_toList]; omega
  rw [hD2]; simp only [List.append_assoc];rw [List.take_append,e3,List.take_of_length_le (by rw [e3]; omega),List.take_append_of_le_length (by rw [hdl]; omega),List.take_of_length_le (l:=xs.drop (i * 32)) (by rw [hdl]; omega),e2,List.append_assoc]
 have hcpA:∀ (W:World),W.heap=w.heap.push (.cells ROW 54)→∀ ty dc,(Builtin.copy_ #[22,22] ty #[.slice (some ⟨w.heap.size,i * 32,none⟩) (c+1 - i) dc,.slice (some ⟨vb,0,none⟩) 1 vc]).run Tryz.prog W=.ok (goInt 1) (W.setRow w.heap.size D1):=fun W hW ty dc=>by
  have hm:Nat.min 1 (c+1 - i)=1:=by simp only [Nat.min_def]; split <;> omega
  have hN:W.heap[w.heap.size]? = some (.cells ROW 54 (0,0)):=by rw [hW,Array.getElem?_push_size]
  have hV1:W.heap[vb]? = some (.cells V 54 (0,0)):=by rw [hW,Array.getElem?_push_lt hvw]; rw [← hV,Array.getElem?_eq_getElem hvw]
  have e:=zr9 (P:=Tryz.prog) W 22 22 ty 54 w.heap.size (i * 32) (c+1 - i) dc ⟨vb,0,none⟩ 1 vc ROW 54 ys u22 hsz hN (by rw [hm,hyl])
   (fun j v hj=>by
    rw [Addr.add_lit,Nat.zero_add]
    have:=hyg j v hj
    rw [Array.getElem?_toList] at this
    unfold World.cell?; rw [hV1]; exact this) (by rw [hyl,hRs]; omega) h1y
  rw [hm,← hD1] at e; exact e
 have hcpB:∀ (W W0:World),W0.heap=w.heap.push (.cells ROW 54)→W.heap=(W0.setRow w.heap.size D1).heap→∀ ty dc sc,(Builtin.copy_ #[22,22] ty #[.slice (some ⟨w.heap.size,(i+1) * 32,none⟩) (c - i) dc,.slice (some ⟨b,i * 32,none⟩) (c - i) sc]).run Tryz.prog W=.ok (goInt ((c - i:Nat):Int)) (W.setRow w.heap.size D2):=fun W W0 hW0 hW ty dc sc=>by
  have hm:Nat.min (c - i) (c - i)=c - i:=Nat.min_self _;have hN:W.heap[w.heap.size]? = some (.cells D1 54 (0,0)):=by rw [hW]; exact setRow_heap W0 w.heap.size ROW D1 54 (0,0) (by rw [hW0,Array.getElem?_push_size])
  have hB1:W.heap[b]? = some (.cells C 54 (0,0)):=by
   rw [hW,setRow_other W0 w.heap.size b D1 (by omega),hW0,Array.getElem?_push_lt hbw,← hC,Array.getElem?_eq_getElem hbw]
  have e:=zr9 (P:=Tryz.prog) W 22 22 ty 54 w.heap.size ((i+1) * 32) (c - i) dc ⟨b,i * 32,none⟩ (c - i) sc D1 54 (xs.drop (i * 32)) u22 hsz hN (by rw [hm,hdl])
   (fun j v hj=>by
    rw [Addr.add_lit]
    have:=hxg _ v (by rwa [List.getElem?_drop] at hj)
    rw [Array.getElem?_toList] at this
    unfold World.cell?; rw [hB1]; exact this) (by rw [hdl,hD1s]; omega) (fun v hv=>h1x v (List.mem_of_mem_drop hv))
  rw [hm,← hD2] at e; exact e
 have hz1:¬ ((1:Int)=0):=by decide
 have hz2:¬ ((i:Int)=(c:Int)):=by omega
 have hz3:(c:Int)<(c:Int)+1:=by omega
 have hw1:IntKind.i64.wrap ((i:Int)+1)=(i:Int)+1:=by rw [IntKind.wrap_i64]; omega
 have hb1:(0:Int)≤(i:Int)+1:=by omega
 have hin:i≤c:=by omega
 have htn:((i:Int)+1).toNat=i+1:=by omega
 have hGi:¬ (G=i):=by omega
 have hGim:¬ (G=i+1):=by omega
 have hci:¬ (c=i):=by omega
 have hb3:(i:Int)≤(c:Int):=by omega
 have hE1:((w.alloc (.cells ROW 54)).drew).heap=w.heap.push (.cells ROW 54):=rfl;have hF1:(((w.alloc (.cells ROW 54)).drew.setRow w.heap.size D1).drew).heap=(((w.alloc (.cells ROW 54)).drew).setRow w.heap.size D1).heap:=rfl
 clear hROW hold hG hRt hD1 hD2 hxs hys hC hV h1x h1y hdl hxl hyl hcc hxg hyg hi0 hz0 hzs hzb hkk hnc hroom
 go_enter Tryz.func118,Tryz.ntmps118
 go_wp2_with (first
  | (at_builtin; refine Lib.wpList_append_run _ rfl _ _ _ _ rfl _ _ rfl rfl _ _ (hrz _) ?_)
  | (at_builtin; refine zdo _ rfl _ _ 22 22 rfl _ _ rfl rfl (hcpA _ hE1 _ _) ?_))
 go_region_law (refine zgj rfl _ _ 22 22 rfl (.slice (some ⟨w.heap.size,(i+1) * 32,none⟩) (c - i) (G - (i+1))) (.slice (some ⟨b,i * 32,none⟩) (c - i) (c - i)) (by simp [Act.eval,Act.put]) (by simp [Act.eval,Act.put]) (hcpB _ _ hE1 hF1 3 (G - (i+1)) (c - i)) ?_)
 go_wp2
 go_ret
 refine ⟨G,rfl,hGn,hGm,D2,?_,⟨rfl,rfl,rfl,?_, fun k hk _=>?_⟩,hD2s,hfin⟩
 ·exact setRow_heap _ w.heap.size D1 D2 54 (0,0) (setRow_heap ((w.alloc (.cells ROW 54)).drew) w.heap.size ROW D1 54 (0,0) (by rw [hE1,Array.getElem?_push_size]))
 ·rw [setRow_size]; show _≤((w.alloc (.cells ROW 54)).drew.setRow w.heap.size D1).heap.size; rw [setRow_size,hE1,Array.size_push]; omega
 ·rw [setRow_other _ w.heap.size k D2 (by omega)]; show ((w.alloc (.cells ROW 54)).drew.setRow w.heap.size D1).heap[k]? = _;rw [setRow_other _ w.heap.size k D1 (by omega),hE1,Array.getElem?_push_lt hk,Array.getElem?_eq_getElem hk]
set_option maxHeartbeats 4000000 in
set_option maxRecDepth 100000 in
theorem z162 (p0 p1:Value) (h0:w.ownsRow 0 54 32 p0 n xs) (h1:w.ownsRow 0 54 32 p1 1 ys) (hn:n≤1000000) (h1y:∀ v∈ys,v.oneCell'=true) :
  Calls Tryz.prog 118 #[p0,.int .i64 n,p1] w fun e w'=>∃ v',e=.returned v'∧w'.ownsRow 0 54 32 v' (n+1) (xs++ys)∧w.grownBy w' p0.ownBlock∧∀ b,v'.ownBlock=some b→p0.ownBlock=some b∨w.heap.size≤b:=by
 have u22:Tryz.prog.underlying 22=some (.slice 54):=Tryz.underlying22;obtain ⟨p,c,rfl⟩:=z2l h0;obtain ⟨q,d,rfl⟩:=z2l h1;obtain ⟨p',c',w',hrun,ho,hg,hs⟩:=zf1 (P:=Tryz.prog) (rt:=22) (w:=w) u22 zxz (by simp [Value.cells]) (by decide) h0 (Rd.of_own h1) h1y (by omega) (by omega) (Nat.zero_le _);have hz1:¬ ((1:Int)=0):=by decide
 have hnc:n≤c:=by
  rcases h0.2 with ⟨e,rfl⟩ | ⟨g,cap,cur,e,_,_,h,_⟩
  ·omega
  ·simp only [Value.slice.injEq] at e; omega
 have hc63:c≤9223372036854775807:=by
  rcases h0.2 with ⟨e,rfl⟩ | ⟨g,cap,cur,e,_,_,_,h,_⟩
  ·simp only [Value.slice.injEq] at e; omega
  ·simp only [Value.slice.injEq] at e; unfold maxLen at h; omega
 have hin:n≤n:=Nat.le_refl _;have hp0:p=none→n=0∧c=0:=fun e=>by
  rcases h0.2 with ⟨e',rfl⟩ | ⟨g,cap,cur,e',_⟩
  ·simp only [Value.slice.injEq] at e'; omega
  ·rw [e] at e'; simp at e'
 clear h0 h1 h1y
 go_enter Tryz.func118,Tryz.ntmps118
 cases p with
 | none =>
  obtain ⟨rfl,rfl⟩:=hp0 rfl
  clear hp0
  go_wp2_with (at_builtin; refine Lib.wpList_append_run _ rfl _ _ _ _ rfl _ _ rfl rfl _ _ hrun ?_)
  go_ret
  exact ⟨_,rfl,ho,hg,hs⟩
 | some a =>
  clear hp0
  obtain ⟨ab,ao,asp⟩:=a
  go_wp2_with (at_builtin; refine Lib.wpList_append_run _ rfl _ _ _ _ rfl _ _ rfl rfl _ _ hrun ?_)
  all_goals (go_ret; exact ⟨_,rfl,ho,hg,hs⟩)
end
end
section
open Go Go.RowKit
theorem relB {S S':Blk} {w w':World}:∀ {l:List UInt8} {cs:List Value},z5r u8R S w cs l→z5r u8R S' w' cs l
 | [],cs,h=>h
 | x::l,cs,h=>by
  obtain ⟨c,d,rfl,h1,h2⟩:=h;exact ⟨c,d,rfl,h1,relB h2⟩
theorem relD {S S':Blk} {w w':World}:∀ {l:List V3} {cs:List Value},z5r (z3m 32 u8R) S w cs l→z5r (z3m 32 u8R) S' w' cs l
 | [],cs,h=>h
 | x::l,cs,h=>by
  obtain ⟨c,d,rfl,h1,h2⟩:=h;exact ⟨c,d,rfl,relB h1,relD h2⟩
def insF (c0:List V3) (i:Int) (c1:List V3):Option (List V3) :=
 chk (0≤i∧i.toNat≤c0.length∧c0.length≤1000000∧c1.length=1) >>= fun _=>some (c0.take i.toNat++c1++c0.drop i.toNat)
theorem z14b (p0 p1:Value) (n i:Nat) (xs ys:List Value) (w:World) (hi:i≤n) (h0:w.ownsRow 0 54 32 p0 n xs) (h1:w.ownsRow 0 54 32 p1 1 ys) (hsep:∀ b,p0.ownBlock=some b→p1.ownBlock≠some b) (hn:n≤1000000)
  (h1x:∀ v∈xs,v.oneCell'=true) (h1y:∀ v∈ys,v.oneCell'=true) :
  Calls Tryz.prog 118 #[p0,.int .i64 i,p1] w fun e w'=>∃ v',e=.returned v'∧w'.ownsRow 0 54 32 v' (n+1) (xs.take (i * 32)++ys++xs.drop (i * 32))∧w.grownBy w' p0.ownBlock∧∀ b,v'.ownBlock=some b→p0.ownBlock=some b∨w.heap.size≤b:=by
 have hxl:=h0.1;by_cases hin:i=n
 ·subst hin;refine (z162 i xs ys w p0 p1 h0 h1 hn h1y).mono fun e w' ⟨v',a,b,c,d⟩=>⟨v',a,?_,c,d⟩;rw [List.take_of_length_le (by omega),List.drop_eq_nil_of_le (by omega),List.append_nil];exact b
 ·rcases h0.2 with ⟨rfl,rfl⟩ | ⟨b,c,C,rfl,-,hC,hnc,hcm,hCs,hxs⟩
  ·omega
  rcases h1.2 with ⟨rfl,e⟩ | ⟨vb,vc,V,rfl,-,hV,-,-,hVs,hys⟩
  ·omega
  have hvb:vb≠b:=fun e=>hsep b rfl (by rw [e]; rfl);have hyl:ys.length=32:=by have:=h1.1; omega
  have hlen:(xs.take (i * 32)++ys++xs.drop (i * 32)).length=(n+1) * 32:=by
   simp only [List.length_append,List.length_take,List.length_drop,hyl]; omega
  by_cases hroom:n+1≤c
  ·refine (zx4 b n c i vb vc xs ys C V w (by omega) hroom (by unfold maxLen at hcm; omega) hvb hC hV hCs hxs (by simpa using hys) hyl h1x h1y).mono fun e w' ⟨a,D,a2,a3,a4⟩=>⟨_,a,?_,?_, fun b' hb'=>.inl hb'⟩
   ·refine ⟨hlen,.inr ⟨b,c,D,rfl,Nat.zero_le _,?_,hroom,hcm,a3.trans hCs,a4⟩⟩;rw [a2]; exact setRow_heap w.drew b C D 54 (0,0) hC
   ·rw [a2];refine ⟨rfl,rfl,rfl,?_, fun k hk hne=>?_⟩
    ·rw [setRow_size]; exact Nat.le_refl _
    ·rw [setRow_other w.drew b k D (fun e=>hne (by rw [e]; rfl))]; rfl
  ·refine (z119 b n c i vb vc xs ys C V w (by omega) hnc (by omega) hn hvb hC hV hCs hxs (by simpa using hys) hyl h1x h1y).mono fun e w' ⟨G,a,g1,g2,D,a1,a2,a3,a4⟩=>⟨_,a,?_,?_, fun b' hb'=>.inr ?_⟩
   ·exact ⟨hlen,.inr ⟨w.heap.size,G,D,rfl,Nat.zero_le _,a1,g1,g2,a3,a4⟩⟩
   ·exact ⟨a2.os,a2.tape,a2.output,a2.size, fun k hk _=>a2.block k hk (by simp)⟩
   ·simp only [Value.ownBlock,Option.some.injEq] at hb'; omega
theorem z15b (p0 p1:Value) (c0 c1:List V3) (i:Int):z1u Tryz.prog 118 [.val p0,.rd z08 i,.val p1] [(1,some (p0,.list (z3m 32 u8R) 54 c0)),(2,some (p1,.list (z3m 32 u8R) 54 c1))] (insF c0 i c1)
  (fun r nv=>⟨[.val (nv 0)],[(100,some (nv 0,.list (z3m 32 u8R) 54 r))]⟩):=by
 intro r hr H vs w hvs hres;have hb:(0≤i∧i.toNat≤c0.length∧c0.length≤1000000∧c1.length=1)∧r=c0.take i.toNat++c1++c0.drop i.toNat:=by
  unfold insF chk at hr
  split at hr
  ·rename_i h; simp at hr; exact ⟨h, by rw [← hr,List.append_assoc]⟩
  ·simp at hr
 obtain ⟨⟨hi0,hi1,hn,hc1⟩,rfl⟩:=hb
 match vs,hvs with
 | [v0,v1,v2],hvs =>
 obtain ⟨h0,h1,h2,_⟩:=hvs;have e0:v0=p0:=h0.1;have e2:v2=p1:=h2.1;have e1:v1=.int .i64 i:=z4q h1;subst e0; subst e2; subst e1;obtain ⟨j,rfl⟩:∃ j:Nat,i=(j:Int):=⟨i.toNat, by omega⟩
 simp only [Int.toNat_natCast] at hi1 ⊢;obtain ⟨xs,x1,x2⟩:=z7c (hres.conts 1 v0 _ rfl);obtain ⟨ys,y1,y2⟩:=z7c (hres.conts 2 v2 _ rfl);rw [hc1] at y1;have hsep:∀ b,v0.ownBlock=some b→v2.ownBlock≠some b:=fun b hb hb2=>by
  obtain ⟨p,c,rfl⟩:=z2l x1;obtain ⟨q,d,rfl⟩:=z2l y1;exact hres.excl 1 _ _ 2 _ _ rfl rfl (by decide) b (by rw [z5v]; exact hb) (by rw [z5v]; exact hb2)
 refine (z14b v0 v2 c0.length j xs ys w hi1 x1 y1 hsep hn x2.one y2.one).mono fun e w' ⟨v',he,hw,hg,hs⟩=>?_;have only:∀ r v c (q:z4l),lr [(100,some (v',q))] r=some (v,c)→r=100∧v=v'∧c=q:=fun r v c q h=>by
  rw [z1a] at h
  split at h
  ·rename_i e; cases h; exact ⟨e.symm,rfl,rfl⟩
  ·simp [lr,lk] at h
 have hlen:(c0.take j++c1++c0.drop j).length=c0.length+1:=by
  simp only [List.length_append,List.length_take,List.length_drop,hc1]; omega
 obtain ⟨p',c',rfl⟩:=z2l hw;refine ⟨fun _=>.slice p' (c0.length+1) c',[.slice p' (c0.length+1) c'],he,⟨⟨rfl,rfl⟩,trivial⟩, fun r v c h=>?_, fun r v c r' v2' c2' h h' hne=>?_, fun r v c h b hb=>?_,hg.os,hg.tape,hg.output,hg.size, fun k hk=>?_⟩
 ·obtain ⟨rfl,rfl,rfl⟩:=only _ _ _ _ h;refine zjh (B:=0) (xs:=xs.take (j * 32)++ys++xs.drop (j * 32)) (by rw [hlen]; exact hw) ?_;exact ((relD (x2.take j)).append (relD y2)).append (relD (x2.drop j))
 ·exact absurd ((only _ _ _ _ h).1.trans (only _ _ _ _ h').1.symm) hne
 ·obtain ⟨rfl,rfl,rfl⟩:=only _ _ _ _ h;rw [z5v] at hb;rcases hs b hb with h | h
  ·exact .inr ⟨1,_,_,rfl, by obtain ⟨p,c,rfl⟩:=z2l x1; rw [z5v]; exact h⟩
  ·exact .inl h
 ·refine hg.block k hk.1 fun e=>hk.2 ⟨1,_,_,rfl,?_⟩;obtain ⟨p,c,rfl⟩:=z2l x1; rw [z5v]; exact e.symm
end
section
open Go Go.RowKit
section
variable {ρ:Type} {C:World→World→Prop} {P:Program} {Γ:Ctx} {l:z1p} {res:Res} {d:Tmp} {ty:TypeId} {pos:String} {after:Array Edge} {g:Option (Nat × Bool)}
def zes (b c:List UInt8):Bool:=Op.bytesLess b c
theorem z15h {ρ:Operand→Value} {w:World} {x y:Operand} {T T':TypeId} {s s':ByteArray} (hx:ρ x=(.string s)) (hy:ρ y=(.string s')) :
  (execOp ρ ⟨some d,.binOp .lss T x y T',ty,pos,after,g⟩).run P w=.ok (.value (.bool (Op.bytesLess s.toList s'.toList))) w:=(zaf (by rw [hx,hy]; rfl) (by rw [hx,hy]; rfl))
theorem ltS {x y:Operand} {T T':TypeId} {b c:List UInt8} (hx:opE l x=some (.rd z3q b)) (hy:opE l y=some (.rd z3q c)):Run C P Γ l res ⟨some d,.binOp .lss T x y T',ty,pos,after,g⟩ (.rd z09 (zes b c)):=fun _ w ha=>by
 obtain ⟨s,h1,rfl⟩:=zc8 (ha.vl hx);obtain ⟨t,h2,rfl⟩:=zc8 (ha.vl hy);exact ⟨_, fun w' _=>z15h h1 h2, by rw [z3c,z3c]; exact z8e⟩
theorem ze7:∀ x y:List UInt8,Op.bytesLess y x=!(Op.bytesLess x y || x==y)
 | [],[]=>rfl
 | [],_::_=>rfl
 | _::_,[]=>rfl
 | a::x,b::y=>by
  have ih:=ze7 x y;simp only [Op.bytesLess];by_cases e:a=b
  ·subst e;simp [ih]
  ·have e':¬ b=a:=fun h=>e h.symm;by_cases l:a<b
   ·have l':¬ b<a:=fun h=>by rw [UInt8.lt_iff_toNat_lt] at *; omega
    simp [e,e',l,l']
   ·have l':b<a:=by
     rw [UInt8.lt_iff_toNat_lt] at *
     have:a.toNat≠b.toNat:=fun h=>e (UInt8.toNat_inj.1 h)
     omega
    simp [e,e',l,l']
theorem z15t {ρ:Operand→Value} {w:World} {x y:Operand} {T T':TypeId} {s s':ByteArray} (hx:ρ x=(.string s)) (hy:ρ y=(.string s')) :
  (execOp ρ ⟨some d,.binOp .gtr T x y T',ty,pos,after,g⟩).run P w=.ok (.value (.bool (!(Op.bytesLess s.toList s'.toList || s.toList==s'.toList)))) w:=(zaf (by rw [hx,hy]; rfl) (by rw [hx,hy]; rfl))
theorem z14p {ρ:Operand→Value} {w:World} {x y:Operand} {T T':TypeId} {s s':ByteArray} (hx:ρ x=(.string s)) (hy:ρ y=(.string s')) :
  (execOp ρ ⟨some d,.binOp .leq T x y T',ty,pos,after,g⟩).run P w=.ok (.value (.bool (Op.bytesLess s.toList s'.toList || s.toList==s'.toList))) w:=(zaf (by rw [hx,hy]; rfl) (by rw [hx,hy]; rfl))
theorem z169 {ρ:Operand→Value} {w:World} {x y:Operand} {T T':TypeId} {s s':ByteArray} (hx:ρ x=(.string s)) (hy:ρ y=(.string s')) :
  (execOp ρ ⟨some d,.binOp .geq T x y T',ty,pos,after,g⟩).run P w=.ok (.value (.bool (!Op.bytesLess s.toList s'.toList))) w:=(zaf (by rw [hx,hy]; rfl) (by rw [hx,hy]; rfl))
theorem gtS {x y:Operand} {T T':TypeId} {b c:List UInt8} (hx:opE l x=some (.rd z3q b)) (hy:opE l y=some (.rd z3q c)):Run C P Γ l res ⟨some d,.binOp .gtr T x y T',ty,pos,after,g⟩ (.rd z09 (zes c b)):=fun _ w ha=>by
 obtain ⟨s,h1,rfl⟩:=zc8 (ha.vl hx);obtain ⟨t,h2,rfl⟩:=zc8 (ha.vl hy);exact ⟨_, fun w' _=>z15t h1 h2, by rw [z3c,z3c,← ze7]; exact z8e⟩
theorem leS {x y:Operand} {T T':TypeId} {b c:List UInt8} (hx:opE l x=some (.rd z3q b)) (hy:opE l y=some (.rd z3q c)):Run C P Γ l res ⟨some d,.binOp .leq T x y T',ty,pos,after,g⟩ (.rd z09 (!zes c b)):=fun _ w ha=>by
 obtain ⟨s,h1,rfl⟩:=zc8 (ha.vl hx);obtain ⟨t,h2,rfl⟩:=zc8 (ha.vl hy);exact ⟨_, fun w' _=>z14p h1 h2, by rw [z3c,z3c,zes,ze7,Bool.not_not]; exact z8e⟩
theorem geS {x y:Operand} {T T':TypeId} {b c:List UInt8} (hx:opE l x=some (.rd z3q b)) (hy:opE l y=some (.rd z3q c)):Run C P Γ l res ⟨some d,.binOp .geq T x y T',ty,pos,after,g⟩ (.rd z09 (!zes b c)):=fun _ w ha=>by
 obtain ⟨s,h1,rfl⟩:=zc8 (ha.vl hx);obtain ⟨t,h2,rfl⟩:=zc8 (ha.vl hy);exact ⟨_, fun w' _=>z169 h1 h2, by rw [z3c,z3c]; exact z8e⟩
end
end
section
open Go Go.RowKit
set_option maxRecDepth 100000
def z8d (a0:z00) (s4:(List (V3 × Int)) × Int):Option (Sum ((List (V3 × Int))) ((List (V3 × Int)) × Int)) :=
 if decide (s4.2<(a0.IDs.length:Int)) then
  idx a0.IDs s4.2 >>= fun x6 =>
  some (.inr (zmz s4.1 x6 s4.2,w64 (s4.2+1)))
 else
  some (.inl s4.1)
def z8o (a0:z00):Option ((List (V3 × Int))) :=
 (iter (z8d a0) (([]:List (V3 × Int)),0)) >>= fun s3 =>
 some s3
theorem zdp (a0:z00):z1u Tryz.prog 44 [.rd z01 a0] [] (z8o a0) (fun r nv=>⟨[.val (nv 0)],[(100,some (nv 0,.map aZ z08 r))]⟩):=by
 refine z2f 23 Tryz.func44 Z Z Z fun H w=>?_;refine gSR<|Eb Z (bx 1 Z) fun v1=>Zb Z<|gSR<|Zq (faB 1 Z Z Tryz.underlying25 Z (by exact zb4))<|Zq (ld 1 Z Z (fP (z0n _)) zbp Z)<|Zq (z4f Z .rd Z tu22)<|Ef Z (mkm aZ z08 2 (Or.inr ⟨_,_,Z,rfl⟩) Tryz.underlying107) fun v2=>Zb Z<|z7r (fun (s3:(List (V3 × Int))) aa ww=>Sta (ctx 23 H [] w) [(3,.val v2)] [(2,some (v2,.map aZ z08 s3))] aa ww) ?_ (fun s3=>?_)
 ·refine gSR<|Zq (faB 1 Z Z Tryz.underlying25 Z (by exact zb4))<|Zq (ld 1 Z Z (fP (z0n _)) zbp Z)<|Zq (z4f Z .rd Z tu22)<|Zm Z<|Zn<|z29 (fun (s4:(List (V3 × Int)) × Int) aa ww=>Sta (ctx 23 H [] w) [(3,.val v2),(11,.rd (z03 aZ) a0.IDs),(12,.rd z08 (a0.IDs.length:Int)),(13,.rd z08 s4.2)] [(2,some (v2,.map aZ z08 s4.1))] aa ww) (fun aa ww h=>Zu h [2]) (fun s4=>?_);refine gSR<|Zq (I.lss Z Z)<|Zn<|z0q<|gIf Z Z (fun h5=>?_) (fun h5=>?_)
  ·refine Zt<|z0q<|z5f<|gSR<|Zm Z<|z0t fun x6 h7=>Zq (ixR Z Z h7 tu22 z3v Z)<|Zq (ldR Z z6a)<|Eb Z (z5l 3 z3v (.zr (R:=aZ) (x:=(Vector.replicate 32 0)) zfn)) fun v8=>Za Z<|Es (sto 3 Z Z fH Z z3v)<|Zn<|z2g<|Zm Z<|Zq (ld 3 Z Z fH z6a Z)<|Zm Z<|Es (mup 2 Z Z Z Z ky54 Tryz.underlying107)<|z21<|z3l<|z0m<|z2g<|Zq (I.add Z Z)<|Zm Z<|z21<|z1m (fun aa ww h=>Zu h [2])
  ·refine z1z<|z10<|z14<|z3p (fun aa ww h=>Zu h [2])
 ·refine gSR<|Zm Z<|Zb Z<|z0k<|Ze [v2] [2] Z
def z6j (a0:z00) (a1:List Bool) (s3:(List V3) × Int):Option (Sum ((List V3)) ((List V3) × Int)) :=
 if decide (s3.2<(a1.length:Int)) then
  idx a1 s3.2 >>= fun x6 =>
  if x6 then
   idx a0.IDs s3.2 >>= fun x9 =>
   app 32 s3.1 [x9] >>= fun x12 =>
   some (.inr (x12,w64 (s3.2+1)))
  else
   some (.inr (s3.1,w64 (s3.2+1)))
 else
  some (.inl s3.1)
def z8r (a0:z00) (a1:List Bool):Option ((List V3)) :=
 (iter (z6j a0 a1) ([],0)) >>= fun s2 =>
 some s2
theorem zdf (a0:z00) (a1:List Bool):z1u Tryz.prog 45 [.rd z01 a0,.rd (z03 z09) a1] [] (z8r a0 a1) (fun r nv=>⟨[.val (nv 0)],[(100,some (nv 0,.list aZ 54 r))]⟩):=by
 refine z2f 26 Tryz.func45 Z Z Z fun H w=>?_;refine gSR<|Eb Z (bx 1 Z) fun v1=>Zb Z<|gSR<|Zb Z<|z7r (fun (s2:(List V3)) aa ww=>∃ nv:Nat→Value,Sta (ctx 26 H [] w) [(5,.val (nv 0))] [(3,some ((nv 0),.list aZ 54 s2))] aa ww) ?_ (fun s2=>?_)
 ·refine gSR<|Zm Z<|Zq (z4f Z .rd Z Tryz.underlying109)<|Zm Z<|Zn<|zyo aZ 54 6<|z29 (fun (s3:(List V3) × Int) aa ww=>∃ nv:Nat→Value,Sta (ctx 26 H [] w) [(1,.rd (z03 z09) a1),(2,.val (z05 v1 0)),(5,.val (nv 0)),(8,.rd z08 (a1.length:Int)),(9,.rd z08 s3.2)] [(1,some (v1,.box 25 [.rd z01 a0])),(5,some ((nv 0),.list aZ 54 s3.1))] aa ww) (fun aa ww h=>⟨nvl [(.slice none 0 0)],Zu h [1,6]⟩) (fun s3=>?_);refine gEx fun n4=>gSR<|Zq (I.lss Z Z)<|Zn<|z0q<|gIf Z Z (fun h5=>?_) (fun h5=>?_)
  ·refine Zt<|z0q<|z5f<|gSR<|Zm Z<|Zb Z<|gSR<|Zm Z<|Zm Z<|z0t fun x6 h7=>Zq (ixR Z Z h7 Tryz.underlying109 ti4 Z)<|Zq (ldR Z ty4)<|Zj Z (fun h8=>?_) (fun h8=>?_)
   ·refine z2g<|Zm Z<|Zq (faB 1 Z Z Tryz.underlying25 Z (by exact zb4))<|Zq (ld 1 Z Z (fP (z0n _)) zbp Z)<|Zm Z<|z0t fun x9 h10=>Zq (ixR Z Z h10 tu22 z3v Z)<|Zq (ldR Z z6a)<|Ef Z (lit (R:=aZ) ([x9]:List V3) 7 (pP Z Z<|pN) Z tu22 z3v Z Z) fun v11=>zl7 7 [22] Z (fS Z<|fN)<|z0t fun x12 h13=>Ef Z (apn 5 Z Z Z .rd h13 tu22 z3v Z Z Z) fun v14=>Za Z<|z21<|z3l<|z0m<|z2g<|Zq (I.add Z Z)<|Zm Z<|z21<|z1m (fun aa ww h=>⟨nvl [v14],Zu h [1,5]⟩)
   ·refine z38<|z3l<|z0m<|z2g<|Zq (I.add Z Z)<|Zm Z<|z21<|z1m (fun aa ww h=>⟨nvl [(n4 0)],Zu h [1,5]⟩)
  ·refine z1z<|z10<|z14<|z3p (fun aa ww h=>⟨nvl [(n4 0)],Zu h [5]⟩)
 ·refine gEx fun n15=>gSR<|Zm Z<|Zb Z<|z0k<|Ze [(n15 0)] [3] Z
def z7b (x7:List Bool) (s11:(List Bool) × Int):Option (Sum ((List Bool)) ((List Bool) × Int)) :=
 if decide (s11.2<(x7.length:Int)) then
  idx s11.1 s11.2 >>= fun x13 =>
  some (.inr (s11.1.set (s11.2:Int).toNat true,w64 (s11.2+1)))
 else
  some (.inl s11.1)
def z7f (r5:(List (V3 × Int))) (x19:z0a) (s22:(List Bool) × Int):Option (Sum ((List Bool)) ((List Bool) × Int)) :=
 if decide (s22.2<(x19.Preds.length:Int)) then
  idx x19.Preds s22.2 >>= fun x24 =>
  idx s22.1 ((zax r5 x24).getD 0) >>= fun x27 =>
  some (.inr (s22.1.set ((zax r5 x24).getD 0:Int).toNat false,w64 (s22.2+1)))
 else
  some (.inl s22.1)
def z78 (a0:z00) (r5:(List (V3 × Int))) (s16:(List Bool) × Int):Option (Sum ((List Bool)) ((List Bool) × Int)) :=
 if decide (s16.2<(a0.Ops.length:Int)) then
  (idx a0.Ops s16.2 >>= fun x19 =>
  iter (z7f r5 x19) (s16.1,0)) >>= fun s18 =>
  some (.inr (s18,w64 (s16.2+1)))
 else
  some (.inl s16.1)
def zbh (a0:z00):Option ((List V3) × Int) :=
 z3f a0 >>= fun r2 =>
 if r2 != 0 then
  some ([],r2)
 else
  z8o a0 >>= fun r5 =>
  mkn 1 false (a0.IDs.length:Int) >>= fun x7 =>
  (iter (z7b x7) (x7,0)) >>= fun s10 =>
  (iter (z78 a0 r5) (s10,0)) >>= fun s15 =>
  z8r a0 s15 >>= fun r29 =>
  some (r29,0)
theorem zkc (a0:z00):z1u Tryz.prog 22 [.rd z01 a0] [zG1] (zbh a0) (fun r nv=>⟨[.val (nv 0),.rd z08 r.2],[(1001,some (.bool true,.glob 1 (z3m 64 z0p) z5i)),(100,some (nv 0,.list aZ 54 r.1))]⟩):=by
 refine z2f 56 Tryz.func22 Z Z Z fun H w=>?_;refine gSR<|Eb Z (bx 1 Z) fun v1=>Za Z<|Zb Z<|z0q<|gSR<|Zq (ld 1 Z Z fH zb9 Z)<|Zc [1001] [] Tryz.func23 Z (z8q _) fun r2 n3=>Zb Z<|gSR<|Zm Z<|Zq (I.neq Z Z)<|Zj Z (fun h4=>?_) (fun h4=>?_)
 ·refine gSR<|Zm Z<|Za Z<|Zb Z<|z0k<|z0v<|zwd aZ 54 2<|Ze [(.slice none 0 0)] [1001,2] Z
 ·refine Zt<|gSR<|Zq (ld 1 Z Z fH zb9 Z)<|Zc [] [(100,3)] Tryz.func44 Z (zdp _) fun r5 n6=>Zb Z<|gSR<|Zq (faB 1 Z Z Tryz.underlying25 Z (by exact zb4))<|Zq (ld 1 Z Z (fP (z0n _)) zbp Z)<|Zq (z4f Z .rd Z tu22)<|z0t fun x7 h8=>Ef Z (mks (R:=z09) 4 Z Z h8 Tryz.underlying109 ti4 Zr.bool Z) fun v9=>Zb Z<|z7r (fun (s10:(List Bool)) aa ww=>Sta (ctx 56 H [zG1] w) [(1,.val (z05 v1 0)),(5,.val (n6 0)),(6,.val v9)] [(1,some (v1,.box 25 [.rd z01 a0])),(3,some ((n6 0),.map aZ z08 r5)),(4,some (v9,.list z09 4 s10)),zG1] aa ww) ?_ (fun s10=>?_)
  ·refine gSR<|Zm Z<|Zq (z4f Z (.own 4 Z) Z Tryz.underlying109)<|Zm Z<|Zn<|z29 (fun (s11:(List Bool) × Int) aa ww=>Sta (ctx 56 H [zG1] w) [(1,.val (z05 v1 0)),(5,.val (n6 0)),(6,.val v9),(24,.rd z08 (x7.length:Int)),(25,.rd z08 s11.2)] [(1,some (v1,.box 25 [.rd z01 a0])),(3,some ((n6 0),.map aZ z08 r5)),(4,some (v9,.list z09 4 s11.1)),zG1] aa ww) (fun aa ww h=>Zu h [1,3,4,1001]) (fun s11=>?_);refine gSR<|Zq (I.lss Z Z)<|Zn<|z0q<|gIf Z Z (fun h12=>?_) (fun h12=>?_)
   ·refine Zt<|z0q<|z5f<|gSR<|Zm Z<|Zb Z<|z2g<|Zm Z<|Zm Z<|z0t fun x13 h14=>Zq (ixO 4 Z Z Z h14 Tryz.underlying109 ti4)<|Es (sto 4 Z Z (Foc.el h14) Z ti4)<|z21<|z3l<|z0m<|z2g<|Zq (I.add Z Z)<|Zm Z<|z21<|z1m (fun aa ww h=>Zu h [1,3,4,1001])
   ·refine z1z<|z10<|z14<|z3p (fun aa ww h=>Zu h [1,3,4,1001])
  ·refine z7r (fun (s15:(List Bool)) aa ww=>Sta (ctx 56 H [zG1] w) [(1,.val (z05 v1 0)),(6,.val v9)] [(1,some (v1,.box 25 [.rd z01 a0])),(4,some (v9,.list z09 4 s15)),zG1] aa ww) ?_ (fun s15=>?_)
   ·refine gSR<|Zq (faB 1 Z Z Tryz.underlying25 Z (by exact zcg))<|Zq (ld 1 Z Z (fP (z06 _)) zep Z)<|Zq (z4f Z .rd Z tu23)<|Zm Z<|Zn<|z29 (fun (s16:(List Bool) × Int) aa ww=>Sta (ctx 56 H [zG1] w) [(1,.val (z05 v1 0)),(5,.val (n6 0)),(6,.val v9),(33,.rd (z03 z04) a0.Ops),(34,.rd z08 (a0.Ops.length:Int)),(35,.rd z08 s16.2)] [(1,some (v1,.box 25 [.rd z01 a0])),(3,some ((n6 0),.map aZ z08 r5)),(4,some (v9,.list z09 4 s16.1)),zG1] aa ww) (fun aa ww h=>Zu h [1,3,4,1001]) (fun s16=>?_)
    refine gSR<|Zq (I.lss Z Z)<|Zn<|z0q<|gIf Z Z (fun h17=>?_) (fun h17=>?_)
    ·refine Zt<|z7r (fun (s18:(List Bool)) aa ww=>Sta (ctx 56 H [zG1] w) [(1,.val (z05 v1 0)),(5,.val (n6 0)),(6,.val v9),(33,.rd (z03 z04) a0.Ops),(34,.rd z08 (a0.Ops.length:Int)),(35,.rd z08 s16.2)] [(1,some (v1,.box 25 [.rd z01 a0])),(3,some ((n6 0),.map aZ z08 r5)),(4,some (v9,.list z09 4 s18)),zG1] aa ww) ?_ (fun s18=>?_)
     ·refine z5f<|gSR<|z0t fun x19 h20=>Zq (ixR Z Z h20 tu23 zb1 Z)<|Zq (ldR Z zeb)<|Eb Z (z5l 1100 zb1 (ZrE.rd (R:=z0p) (x:=0) (Zr.num Z) (ZrE.nilS (ZrE.rd (R:=z2x) (x:=0) (Zr.num Z) (ZrE.rd (R:=z0i) (x:=(⟨0,[],(⟨0,0,0,[]⟩:z02)⟩:z07)) zla (ZrE.rd (R:=z0r) (x:=(⟨0,0⟩:z0c)) zoe ZrE.nil Z) Z) Z)) Z)) fun v21=>zft aZ [.rd z0p 0,.rd (z03 aZ) [],.rd z2x 0,.rd z0i (⟨0,[],(⟨0,0,0,[]⟩:z02)⟩:z07),.rd z0r (⟨0,0⟩:z0c)] 1100 [.rd z0p 0] [.rd z2x 0,.rd z0i (⟨0,[],(⟨0,0,0,[]⟩:z02)⟩:z07),.rd z0r (⟨0,0⟩:z0c)] Z Z Z<|zfs (R:=z04) (⟨0,[],0,(⟨0,[],(⟨0,0,0,[]⟩:z02)⟩:z07),(⟨0,0⟩:z0c)⟩:z0a) 1100 Z (Sp.via (Sp.prod (Sp.prod (Sp.prod (Sp.prod (Sp.prod Sp.unit))))))<|Es (sto 1100 Z Z fH Z zb1)<|Zn<|gSR<|Zq (faB 1100 Z Z Tryz.underlying67 Z (by exact zb4))<|Zq (ld 1100 Z Z (fP (z1b _)) zbp Z)<|Zq (z4f Z .rd Z tu22)<|Zm Z<|Zn<|z29 (fun (s22:(List Bool) × Int) aa ww=>Sta (ctx 56 H [zG1] w) [(1,.val (z05 v1 0)),(5,.val (n6 0)),(6,.val v9),(33,.rd (z03 z04) a0.Ops),(34,.rd z08 (a0.Ops.length:Int)),(35,.rd z08 s16.2),(40,.rd (z03 aZ) x19.Preds),(41,.rd z08 (x19.Preds.length:Int)),(42,.rd z08 s22.2)] [(1,some (v1,.box 25 [.rd z01 a0])),(3,some ((n6 0),.map aZ z08 r5)),(4,some (v9,.list z09 4 s22.1)),zG1] aa ww) (fun aa ww h=>Zu h [1,3,4,1001]) (fun s22=>?_)
      refine gSR<|Zq (I.lss Z Z)<|Zn<|z0q<|gIf Z Z (fun h23=>?_) (fun h23=>?_)
      ·refine Zt<|z0q<|z5f<|gSR<|z0t fun x24 h25=>Zq (ixR Z Z h25 tu22 z3v Z)<|Zq (ldR Z z6a)<|Eb Z (z5l 1101 z3v (.zr (R:=aZ) (x:=(Vector.replicate 32 0)) zfn)) fun v26=>Es (sto 1101 Z Z fH Z z3v)<|Zn<|z2g<|Zm Z<|Zm Z<|Zq (ld 1101 Z Z fH z6a Z)<|Zq (mlk Z (.own 3 Z Z) Z ky54 Tryz.underlying107 ti3 (Zr.num Z) Z)<|z0t fun x27 h28=>Zq (ixO 4 Z Z Z h28 Tryz.underlying109 ti4)<|Es (sto 4 Z Z (Foc.el h28) Z ti4)<|z21<|z3l<|z0m<|z2g<|Zq (I.add Z Z)<|Zm Z<|z21<|z1m (fun aa ww h=>Zu h [1,3,4,1001])
      ·refine z1z<|z10<|z14<|z3l<|z3p (fun aa ww h=>Zu h [1,3,4,1001])
     ·refine z2g<|Zq (I.add Z Z)<|Zm Z<|z21<|z1m (fun aa ww h=>Zu h [1,3,4,1001])
    ·refine z1z<|z10<|z14<|z3p (fun aa ww h=>Zu h [1,4,1001])
   ·refine gSR<|Zq (ld 1 Z Z fH zb9 Z)<|Zm Z<|zl7 4 [6,54] Z (fS Z<|fS Z<|fN)<|Zc [] [(100,1102)] Tryz.func45 Z (zdf _ _) fun r29 n30=>Za Z<|Zb Z<|z0k<|Ze [(n30 0)] [1001,1102] Z
def zch (a0:z00) (a1:V3):Option (Int × Int) :=
 z3f a0 >>= fun r3 =>
 if r3 != 0 then
  some (0,r3)
 else
  z0e a0.IDs a1 >>= fun r6 =>
  if !r6.2 then
   some (0,6)
  else
   some (r6.1,0)
theorem zkz (a0:z00) (a1:V3):z1u Tryz.prog 78 [.rd z01 a0,.rd aZ a1] [zG1] (zch a0 a1) (fun r nv=>⟨[.rd z08 r.1,.rd z08 r.2],[(1001,some (.bool true,.glob 1 (z3m 64 z0p) z5i))]⟩):=by
 refine z2f 24 Tryz.func78 Z Z Z fun H w=>?_;refine gSR<|Eb Z (bx 1 Z) fun v1=>Eb Z (bx 2 Z) fun v2=>Za Z<|Zb Z<|z0q<|gSR<|Zq (ld 1 Z Z fH zb9 Z)<|Zc [1001] [] Tryz.func23 Z (z8q _) fun r3 n4=>Zb Z<|gSR<|Zm Z<|Zq (I.neq Z Z)<|Zj Z (fun h5=>?_) (fun h5=>?_)
 ·refine gSR<|Zm Z<|Za Z<|Zb Z<|z0k<|z0v<|Ze [] [1001] Z
 ·refine Zt<|gSR<|Zq (faB 1 Z Z Tryz.underlying25 Z (by exact zb4))<|Zq (ld 1 Z Z (fP (z0n _)) zbp Z)<|Zq (ld 2 Z Z fH z6a Z)<|Zc [] [] Tryz.func121 Z (z2t _ _) fun r6 n7=>Zm Z<|Zq (ext Z Z)<|Zq (ext Z Z)<|Za Z<|Zb Z<|z0q<|gSR<|Zm Z<|Zq (zgu Z)<|Zj Z (fun h8=>?_) (fun h8=>?_)
  ·refine gSR<|Za Z<|Zb Z<|z0k<|z0v<|Ze [] [1001] Z
  ·refine Zt<|gSR<|Zm Z<|Za Z<|Zb Z<|z0k<|Ze [] [1001] Z
def z7u (c1_0:List (V3 × Int)) (c3_0:z00) (rec:V3→(List (V3 × Int))→(List Bool)→z00→Option ((List Bool))) (x8:z0a) (s10:(List Bool) × Int):Option (Sum ((List Bool)) ((List Bool) × Int)) :=
 if decide (s10.2<(x8.Preds.length:Int)) then
  idx x8.Preds s10.2 >>= fun x12 =>
  rec x12 c1_0 s10.1 c3_0 >>= fun r15 =>
  some (.inr (r15,w64 (s10.2+1)))
 else
  some (.inl s10.1)
def z6f (rec:V3→(List (V3 × Int))→(List Bool)→z00→Option ((List Bool))) (a0:V3) (c1_0:List (V3 × Int)) (c2_0:List Bool) (c3_0:z00):Option ((List Bool)) :=
 some ((zax c1_0 a0).getD 0) >>= fun y2 =>
 idx c2_0 y2 >>= fun x3 =>
 if x3 then
  some c2_0
 else
  idx c2_0 y2 >>= fun x6 =>
  idx c3_0.Ops y2 >>= fun x8 =>
  iter (z7u c1_0 c3_0 rec x8) (c2_0.set (y2:Int).toNat true,0)
def z30:Nat→V3→(List (V3 × Int))→(List Bool)→z00→Option ((List Bool))
 | 0,_,_,_,_=>none
 | N+1,a0,c1_0,c2_0,c3_0=>z6f (z30 N) a0 c1_0 c2_0 c3_0
theorem zih (rec:V3→(List (V3 × Int))→(List Bool)→z00→Option ((List Bool))) (ih:∀ (a0:V3) (p1_0:Value) (q1_0:Value) (c1_0:List (V3 × Int)) (p2_0:Value) (q2_0:Value) (c2_0:List Bool) (p3_0:Value) (c3_0:z00) (p4_0:Value),z1u Tryz.prog 134 [.rd aZ a0,.val (z05 p1_0 0),.val (z05 p2_0 0),.val (z05 p3_0 0),.val (z05 p4_0 0)] [(1,some (p1_0,.box 107 [.val q1_0])),(2,some (q1_0,.map aZ z08 c1_0)),(3,some (p2_0,.box 109 [.val q2_0])),(4,some (q2_0,.list z09 4 c2_0)),(5,some (p3_0,.box 25 [.rd z01 c3_0])),(6,some (p4_0,.box 202 [.val (.func (.func 134) #[] #[z05 p1_0 0,z05 p2_0 0,z05 p3_0 0,z05 p4_0 0])]))] (rec a0 c1_0 c2_0 c3_0) (fun r nv=>⟨[],[(1,some (p1_0,.box 107 [.val q1_0])),(2,some (q1_0,.map aZ z08 c1_0)),(3,some (p2_0,.box 109 [.val q2_0])),(4,some (q2_0,.list z09 4 r)),(5,some (p3_0,.box 25 [.rd z01 c3_0])),(6,some (p4_0,.box 202 [.val (.func (.func 134) #[] #[z05 p1_0 0,z05 p2_0 0,z05 p3_0 0,z05 p4_0 0])]))]⟩)) (a0:V3) (p1_0:Value) (q1_0:Value) (c1_0:List (V3 × Int)) (p2_0:Value) (q2_0:Value) (c2_0:List Bool) (p3_0:Value) (c3_0:z00) (p4_0:Value):z1u Tryz.prog 134 [.rd aZ a0,.val (z05 p1_0 0),.val (z05 p2_0 0),.val (z05 p3_0 0),.val (z05 p4_0 0)] [(1,some (p1_0,.box 107 [.val q1_0])),(2,some (q1_0,.map aZ z08 c1_0)),(3,some (p2_0,.box 109 [.val q2_0])),(4,some (q2_0,.list z09 4 c2_0)),(5,some (p3_0,.box 25 [.rd z01 c3_0])),(6,some (p4_0,.box 202 [.val (.func (.func 134) #[] #[z05 p1_0 0,z05 p2_0 0,z05 p3_0 0,z05 p4_0 0])]))] (z6f rec a0 c1_0 c2_0 c3_0) (fun r nv=>⟨[],[(1,some (p1_0,.box 107 [.val q1_0])),(2,some (q1_0,.map aZ z08 c1_0)),(3,some (p2_0,.box 109 [.val q2_0])),(4,some (q2_0,.list z09 4 r)),(5,some (p3_0,.box 25 [.rd z01 c3_0])),(6,some (p4_0,.box 202 [.val (.func (.func 134) #[] #[z05 p1_0 0,z05 p2_0 0,z05 p3_0 0,z05 p4_0 0])]))]⟩):=by
 refine z2f 34 Tryz.func134 Z Z Z fun H w=>?_;refine gSR<|Eb Z (bx 7 Z) fun v1=>Zn<|gSR<|Zq (ldV 1 Z Z .here z198 Z)<|Zq (ld 7 Z Z fH z6a Z)<|Zq (mlk Z (.own 2 Z Z) Z ky54 Tryz.underlying107 ti3 (Zr.num Z) Z)<|Za Z<|z27 6 Z fun y2=>Zn<|z0q<|gSR<|Zq (ldV 3 Z Z .here z15z Z)<|Zm Z<|z0t fun x3 h4=>Zq (ixO 4 Z Z Z h4 Tryz.underlying109 ti4)<|Zq (ld 4 Z Z (Foc.el h4) ty4 Z)<|Zj Z (fun h5=>?_) (fun h5=>?_)
 ·refine z0k<|z0v<|Ze [] [1,2,3,4,5,6] Z
 ·refine Zt<|gSR<|Zq (ldV 3 Z Z .here z15z Z)<|Zm Z<|z0t fun x6 h7=>Zq (ixO 4 Z Z Z h7 Tryz.underlying109 ti4)<|Es (sto 4 Z Z (Foc.el h7) Z ti4)<|Zn<|gSR<|Zq (faB 5 Z Z Tryz.underlying25 Z (by exact zcg))<|Zq (ld 5 Z Z (fP (z06 _)) zep Z)<|Zm Z<|z0t fun x8 h9=>Zq (ixR Z Z h9 tu23 zb1 Z)<|Zq (faR Z (z1b _) Tryz.underlying67 Z Z (by exact zb4))<|Zq (ldR Z zbp)<|Zq (z4f Z .rd Z tu22)<|Zm Z<|Zn<|z29 (fun (s10:(List Bool) × Int) aa ww=>Sta (ctx 34 H [(1,some (p1_0,.box 107 [.val q1_0])),(2,some (q1_0,.map aZ z08 c1_0)),(3,some (p2_0,.box 109 [.val q2_0])),(4,some (q2_0,.list z09 4 c2_0)),(5,some (p3_0,.box 25 [.rd z01 c3_0])),(6,some (p4_0,.box 202 [.val (.func (.func 134) #[] #[z05 p1_0 0,z05 p2_0 0,z05 p3_0 0,z05 p4_0 0])]))] w) [(4,.val (z05 p4_0 0)),(24,.rd (z03 aZ) x8.Preds),(25,.rd z08 (x8.Preds.length:Int)),(26,.rd z08 s10.2)] [(6,some (p4_0,.box 202 [.val (.func (.func 134) #[] #[z05 p1_0 0,z05 p2_0 0,z05 p3_0 0,z05 p4_0 0])])),(2,some (q1_0,.map aZ z08 c1_0)),(1,some (p1_0,.box 107 [.val q1_0])),(4,some (q2_0,.list z09 4 s10.1)),(3,some (p2_0,.box 109 [.val q2_0])),(5,some (p3_0,.box 25 [.rd z01 c3_0]))] aa ww) (fun aa ww h=>Zu h [6,2,1,4,3,5]) (fun s10=>?_)
  refine gSR<|Zq (I.lss Z Z)<|Zn<|z0q<|gIf Z Z (fun h11=>?_) (fun h11=>?_)
  ·refine Zt<|z0q<|z5f<|gSR<|z0t fun x12 h13=>Zq (ixR Z Z h13 tu22 z3v Z)<|Zq (ldR Z z6a)<|Eb Z (z5l 8 z3v (.zr (R:=aZ) (x:=(Vector.replicate 32 0)) zfn)) fun v14=>Es (sto 8 Z Z fH Z z3v)<|Zn<|z2g<|Zq (ldV 6 Z Z .here z18w Z)<|Zq (ld 8 Z Z fH z6a Z)<|zk9 [1,2,3,4,5,6] [(1,1),(2,2),(3,3),(4,4),(5,5),(6,6)] (gd0 Z) Z Z Tryz.func134 Z Z (ih _ _ _ _ _ _ _ _ _ _) (Y1 Z) (cQ 1 Z<|cQ 3 Z<|cQ 5 Z<|cQ 6 Z<|cN) (Zi Z<|Zi Z<|Zi Z<|Zi Z<|Zi Z<|Zi Z<|rN) fun r15 n16=>z21<|z3l<|z0m<|z2g<|Zq (I.add Z Z)<|Zm Z<|z21<|z1m (fun aa ww h=>Zu h [6,2,1,4,3,5])
  ·refine z1z<|z10<|z14<|Ze [] [1,2,3,4,5,6] Z
theorem zc9:∀ (N:Nat) (a0:V3) (p1_0:Value) (q1_0:Value) (c1_0:List (V3 × Int)) (p2_0:Value) (q2_0:Value) (c2_0:List Bool) (p3_0:Value) (c3_0:z00) (p4_0:Value),z1u Tryz.prog 134 [.rd aZ a0,.val (z05 p1_0 0),.val (z05 p2_0 0),.val (z05 p3_0 0),.val (z05 p4_0 0)] [(1,some (p1_0,.box 107 [.val q1_0])),(2,some (q1_0,.map aZ z08 c1_0)),(3,some (p2_0,.box 109 [.val q2_0])),(4,some (q2_0,.list z09 4 c2_0)),(5,some (p3_0,.box 25 [.rd z01 c3_0])),(6,some (p4_0,.box 202 [.val (.func (.func 134) #[] #[z05 p1_0 0,z05 p2_0 0,z05 p3_0 0,z05 p4_0 0])]))] (z30 N a0 c1_0 c2_0 c3_0) (fun r nv=>⟨[],[(1,some (p1_0,.box 107 [.val q1_0])),(2,some (q1_0,.map aZ z08 c1_0)),(3,some (p2_0,.box 109 [.val q2_0])),(4,some (q2_0,.list z09 4 r)),(5,some (p3_0,.box 25 [.rd z01 c3_0])),(6,some (p4_0,.box 202 [.val (.func (.func 134) #[] #[z05 p1_0 0,z05 p2_0 0,z05 p3_0 0,z05 p4_0 0])]))]⟩)
 | 0,a0,p1_0,q1_0,c1_0,p2_0,q2_0,c2_0,p3_0,c3_0,p4_0=>fun r hr=>absurd hr (by simp [z30])
 | N+1,a0,p1_0,q1_0,c1_0,p2_0,q2_0,c2_0,p3_0,c3_0,p4_0=>zih (z30 N) (zc9 N) a0 p1_0 q1_0 c1_0 p2_0 q2_0 c2_0 p3_0 c3_0 p4_0
theorem zho (a0:V3) (p1_0:Value) (q1_0:Value) (c1_0:List (V3 × Int)) (p2_0:Value) (q2_0:Value) (c2_0:List Bool) (p3_0:Value) (c3_0:z00) (p4_0:Value):z1u Tryz.prog 134 [.rd aZ a0,.val (z05 p1_0 0),.val (z05 p2_0 0),.val (z05 p3_0 0),.val (z05 p4_0 0)] [(1,some (p1_0,.box 107 [.val q1_0])),(2,some (q1_0,.map aZ z08 c1_0)),(3,some (p2_0,.box 109 [.val q2_0])),(4,some (q2_0,.list z09 4 c2_0)),(5,some (p3_0,.box 25 [.rd z01 c3_0])),(6,some (p4_0,.box 202 [.val (.func (.func 134) #[] #[z05 p1_0 0,z05 p2_0 0,z05 p3_0 0,z05 p4_0 0])]))] (z30 1000 a0 c1_0 c2_0 c3_0) (fun r nv=>⟨[],[(1,some (p1_0,.box 107 [.val q1_0])),(2,some (q1_0,.map aZ z08 c1_0)),(3,some (p2_0,.box 109 [.val q2_0])),(4,some (q2_0,.list z09 4 r)),(5,some (p3_0,.box 25 [.rd z01 c3_0])),(6,some (p4_0,.box 202 [.val (.func (.func 134) #[] #[z05 p1_0 0,z05 p2_0 0,z05 p3_0 0,z05 p4_0 0])]))]⟩):=zc9 1000 a0 p1_0 q1_0 c1_0 p2_0 q2_0 c2_0 p3_0 c3_0 p4_0
def z8x (a0:z00) (a1:List V3) (r2:(List (V3 × Int))) (s11:(List Bool) × Int):Option (Sum ((List Bool)) ((List Bool) × Int)) :=
 if decide (s11.2<(a1.length:Int)) then
  idx a1 s11.2 >>= fun x13 =>
  (z30 1000) x13 r2 s11.1 a0 >>= fun r16 =>
  some (.inr (r16,w64 (s11.2+1)))
 else
  some (.inl s11.1)
def zbl (a0:z00) (a1:List V3):Option ((List Bool)) :=
 z8o a0 >>= fun r2 =>
 mkn 1 false (a0.IDs.length:Int) >>= fun x5 =>
 (iter (z8x a0 a1 r2) (x5,0)) >>= fun s10 =>
 some s10
theorem zk4 (a0:z00) (a1:List V3):z1u Tryz.prog 79 [.rd z01 a0,.rd (z03 aZ) a1] [] (zbl a0 a1) (fun r nv=>⟨[.val (nv 0)],[(100,some (nv 0,.list z09 4 r))]⟩):=by
 refine z2f 28 Tryz.func79 Z Z Z fun H w=>?_;refine gSR<|Eb Z (bx 1 Z) fun v1=>Zb Z<|gSR<|Zq (ld 1 Z Z fH zb9 Z)<|Zc [] [(100,2)] Tryz.func44 Z (zdp _) fun r2 n3=>Eb Z (z5l 3 z186 (.val Z)) fun v4=>Es (zwb 3 Z Z (.here z0g) Z z36 z0g z186)<|Zn<|gSR<|Zq (faB 1 Z Z Tryz.underlying25 Z (by exact zb4))<|Zq (ld 1 Z Z (fP (z0n _)) zbp Z)<|Zq (z4f Z .rd Z tu22)<|z0t fun x5 h6=>Ef Z (mks (R:=z09) 4 Z Z h6 Tryz.underlying109 ti4 Zr.bool Z) fun v7=>Eb Z (z5l 5 z16v (.val Z)) fun v8=>Es (zwb 5 Z Z (.here z0g) Z z36 z0g z16v)<|Zn<|gSR<|Eb Z (z5l 6 z16w (.val Z)) fun v9=>Zn<|gSR<|Zq (mkf mp0 (mp4 Z Z Z Z))<|Es (zwb 6 Z Z (.here z0g) Z z36 z0g z16w)<|Zn<|z7r (fun (s10:(List Bool)) aa ww=>Sta (ctx 28 H [] w) [(6,.val (z05 v8 0))] [(4,some (v7,.list z09 4 s10)),(5,some (v8,.box 109 [.val v7]))] aa ww) ?_ (fun s10=>?_)
 ·refine gSR<|Zm Z<|Zq (z4f Z .rd Z tu22)<|Zm Z<|Zn<|z29 (fun (s11:(List Bool) × Int) aa ww=>Sta (ctx 28 H [] w) [(6,.val (z05 v8 0)),(7,.val (z05 v9 0)),(17,.rd (z03 aZ) a1),(18,.rd z08 (a1.length:Int)),(19,.rd z08 s11.2)] [(4,some (v7,.list z09 4 s11.1)),(5,some (v8,.box 109 [.val v7])),(6,some (v9,.box 202 [.val (.func (.func 134) #[] #[z05 v4 0,z05 v8 0,z05 v1 0,z05 v9 0])])),(2,some ((n3 0),.map aZ z08 r2)),(3,some (v4,.box 107 [.val (n3 0)])),(1,some (v1,.box 25 [.rd z01 a0]))] aa ww) (fun aa ww h=>Zu h [4,5,6,2,3,1]) (fun s11=>?_)
  refine gSR<|Zq (I.lss Z Z)<|Zn<|z0q<|gIf Z Z (fun h12=>?_) (fun h12=>?_)
  ·refine Zt<|z0q<|z5f<|gSR<|z0t fun x13 h14=>Zq (ixR Z Z h14 tu22 z3v Z)<|Zq (ldR Z z6a)<|Eb Z (z5l 7 z3v (.zr (R:=aZ) (x:=(Vector.replicate 32 0)) zfn)) fun v15=>Es (sto 7 Z Z fH Z z3v)<|Zn<|z2g<|Zq (ldV 6 Z Z .here z18w Z)<|Zq (ld 7 Z Z fH z6a Z)<|zk9 [3,2,5,4,1,6] [(1,3),(2,2),(3,5),(4,4),(5,1),(6,6)] (gd0 Z) Z Z Tryz.func134 Z Z (zho _ _ _ _ _ _ _ _ _ _) (Y1 Z) (cQ 3 Z<|cQ 5 Z<|cQ 1 Z<|cQ 6 Z<|cN) (Zi Z<|Zi Z<|Zi Z<|Zi Z<|Zi Z<|Zi Z<|rN) fun r16 n17=>z21<|z3l<|z0m<|z2g<|Zq (I.add Z Z)<|Zm Z<|z21<|z1m (fun aa ww h=>Zu h [4,5,6,2,3,1])
  ·refine z1z<|z10<|z14<|z3p (fun aa ww h=>Zu h [4,5])
 ·refine gSR<|Zq (ldV 5 Z Z .here z15z Z)<|Zb Z<|z0k<|Ze [v7] [4] Z
def z4z (a0:z00) (a1:V3):Option ((List V3) × Int) :=
 zch a0 a1 >>= fun r3 =>
 if r3.2 != 0 then
  some ([],r3.2)
 else
  idx a0.Ops r3.1 >>= fun x6 =>
  zbl a0 x6.Preds >>= fun r8 =>
  z8r a0 r8 >>= fun r10 =>
  some (r10,0)
theorem zbu (a0:z00) (a1:V3):z1u Tryz.prog 40 [.rd z01 a0,.rd aZ a1] [zG1] (z4z a0 a1) (fun r nv=>⟨[.val (nv 0),.rd z08 r.2],[(1001,some (.bool true,.glob 1 (z3m 64 z0p) z5i)),(100,some (nv 0,.list aZ 54 r.1))]⟩):=by
 refine z2f 27 Tryz.func40 Z Z Z fun H w=>?_;refine gSR<|Eb Z (bx 1 Z) fun v1=>Eb Z (bx 2 Z) fun v2=>Za Z<|Zb Z<|gSR<|Zq (ld 1 Z Z fH zb9 Z)<|Zq (ld 2 Z Z fH z6a Z)<|Zc [1001] [] Tryz.func78 Z (zkz _ _) fun r3 n4=>Zm Z<|Zq (ext Z Z)<|Zq (ext Z Z)<|Za Z<|Zb Z<|z0q<|gSR<|Zm Z<|Zq (I.neq Z Z)<|Zj Z (fun h5=>?_) (fun h5=>?_)
 ·refine gSR<|Zm Z<|Za Z<|Zb Z<|z0k<|z0v<|zwd aZ 54 3<|Ze [(.slice none 0 0)] [1001,3] Z
 ·refine Zt<|z0q<|z6l [28,31] mixed Z Z<|hTk 0 Z Z (ld 1 Z Z fH zb9 Z)<|hTk 1 Z Z (ld 1 Z Z fH zb9 Z)<|hTk 2 Z Z (faB 1 Z Z Tryz.underlying25 Z (by exact zcg))<|hTk 3 Z Z (ld 1 Z Z (fP (z06 _)) zep Z)<|hTk 4 Z Z (mv Z)<|z5g fun x6 h7=>hTk 5 Z Z (ixR Z Z h7 tu23 zb1 Z)<|hTk 6 Z Z (faR Z (z1b _) Tryz.underlying67 Z Z (by exact zb4))<|hTk 7 Z Z (ldR Z zbp)<|z2v 8 [] [(100,28)] Z (by kernel_rfl) Z (gd0 Z) Z Tryz.func79 Z Z (zk4 _ _) (Y2 Z Z) rN Z (fun _ _=>z37) fun r8 n9=>hFrz 28 [25] Z (fS Z<|fN)<|z2v 9 [] [(100,31)] Z (by kernel_rfl) Z (gd0 Z) Z Tryz.func45 Z Z (zdf _ _) (Y2 Z Z) rN Z (fun _ _=>z37) fun r10 n11=>Zf 10 Z Z z37 (asg Z)<|hTk 11 Z Z (asg Z)<|z3e (by kernel_rfl)<|z0m<|z0k<|Ze [(n11 0)] [1001,31] Z
def zgo (a0:z0a):Option (z0a) :=
 z18 a0.Preds >>= fun r3 =>
 some (⟨a0.Author,r3,a0.Stamp,a0.Act,a0.Sig⟩:z0a)
theorem zhx (a0:z0a):z1u Tryz.prog 119 [.rd z04 a0] [] (zgo a0) (fun r nv=>⟨[.rd z04 r],[]⟩):=by
 refine z2f 8 Tryz.func119 Z Z Z fun H w=>?_;refine gSR<|Eb Z (bx 1 Z) fun v1=>Eb Z (z5l 2 zb1 (ZrE.rd (R:=z0p) (x:=0) (Zr.num Z) (ZrE.nilS (ZrE.rd (R:=z2x) (x:=0) (Zr.num Z) (ZrE.rd (R:=z0i) (x:=(⟨0,[],(⟨0,0,0,[]⟩:z02)⟩:z07)) zla (ZrE.rd (R:=z0r) (x:=(⟨0,0⟩:z0c)) zoe ZrE.nil Z) Z) Z)) Z)) fun v2=>Zn<|gSR<|Zq (faB 1 Z Z Tryz.underlying67 Z (by exact zb4))<|Zq (ld 1 Z Z (fP (z1b _)) zbp Z)<|Zc [] [(100,3)] Tryz.func60 Z (z3w _) fun r3 n4=>Zq (faB 1 Z Z Tryz.underlying67 Z (by exact zb4))<|lSpl (R:=z04) 1 Z (Sp.via (Sp.prod (Sp.prod (Sp.prod (Sp.prod (Sp.prod Sp.unit))))))<|Es (zwb 1 Z Z (zb0.cast (zb0.next z17 (zb0.here z17)) Z) Z z36 z0g zb4)<|Zn<|gSR<|lPow [.rd z0p a0.Author,.rd (z03 aZ) r3,.rd z2x a0.Stamp,.rd z0i a0.Act,.rd z0r a0.Sig] 1 3 [.rd z0p a0.Author] [.rd z2x a0.Stamp,.rd z0i a0.Act,.rd z0r a0.Sig] Z Z Z Z Z<|zfs (R:=z04) (⟨a0.Author,r3,a0.Stamp,a0.Act,a0.Sig⟩:z0a) 1 Z (Sp.via (Sp.prod (Sp.prod (Sp.prod (Sp.prod (Sp.prod Sp.unit))))))<|Zq (ld 1 Z Z fH zeb Z)<|zft aZ [.rd z0p 0,.rd (z03 aZ) [],.rd z2x 0,.rd z0i (⟨0,[],(⟨0,0,0,[]⟩:z02)⟩:z07),.rd z0r (⟨0,0⟩:z0c)] 2 [.rd z0p 0] [.rd z2x 0,.rd z0i (⟨0,[],(⟨0,0,0,[]⟩:z02)⟩:z07),.rd z0r (⟨0,0⟩:z0c)] Z Z Z<|zfs (R:=z04) (⟨0,[],0,(⟨0,[],(⟨0,0,0,[]⟩:z02)⟩:z07),(⟨0,0⟩:z0c)⟩:z0a) 2 Z (Sp.via (Sp.prod (Sp.prod (Sp.prod (Sp.prod (Sp.prod Sp.unit))))))<|Es (sto 2 Z Z fH Z zb1)<|Zn<|z0k<|zaz [] [] Z (eC 2 Z Z zeb<|eN) (rN)
def zgi (a0:z00) (a2:z0a) (r5:Int × Bool) (r11:List V3) (s16:(List z0a) × Int):Option (Sum ((List z0a)) ((List z0a) × Int)) :=
 if decide (s16.2<(r11.length:Int)) then
  some (decide (s16.2<r5.1)) >>= fun y19 =>
  if y19 then
   idx a0.Ops s16.2 >>= fun x21 =>
   zgo x21 >>= fun r23 =>
   app 112 s16.1 [r23] >>= fun x26 =>
   some (.inr (x26,w64 (s16.2+1)))
  else
   some (s16.2==r5.1) >>= fun y29 =>
   if y29 then
    zgo a2 >>= fun r31 =>
    app 112 s16.1 [r31] >>= fun x34 =>
    some (.inr (x34,w64 (s16.2+1)))
   else
    idx a0.Ops (w64 (s16.2 - 1)) >>= fun x37 =>
    zgo x37 >>= fun r39 =>
    app 112 s16.1 [r39] >>= fun x42 =>
    some (.inr (x42,w64 (s16.2+1)))
 else
  some (.inl s16.1)
def zif (a0:z00) (a1:V3) (a2:z0a):Option (z00 × Bool) :=
 zde a0 a1 >>= fun r5 =>
 if r5.2 then
  some (a0,false)
 else
  z18 a0.IDs >>= fun r8 =>
  insF r8 r5.1 [a1] >>= fun r11 =>
  (iter (zgi a0 a2 r5 r11) ([],0)) >>= fun s15 =>
  some ((⟨r11,s15⟩:z00),true)
set_option maxHeartbeats 4000000 in
theorem zwc (a0:z00) (a1:V3) (a2:z0a):z1u Tryz.prog 63 [.rd z01 a0,.rd aZ a1,.rd z04 a2] [] (zif a0 a1 a2) (fun r nv=>⟨[.rd z01 r.1,.rd z09 r.2],[]⟩):=by
 refine z2f 74 Tryz.func63 Z Z Z fun H w=>?_;refine gSR<|Eb Z (bx 1 Z) fun v1=>Eb Z (bx 2 Z) fun v2=>Eb Z (bx 3 Z) fun v3=>Eb Z (z5l 4 zfh (ZrE.nilS (ZrE.nilS ZrE.nil))) fun v4=>Zb Z<|gSR<|Zq (ld 1 Z Z fH zb9 Z)<|Zq (ld 2 Z Z fH z6a Z)<|Zc [] [] Tryz.func66 Z (zhr _ _) fun r5 n6=>Zm Z<|Zq (ext Z Z)<|Zq (ext Z Z)<|Za Z<|Zb Z<|z0q<|gSR<|Zm Z<|Zj Z (fun h7=>?_) (fun h7=>?_)
 ·refine gKn 17 Z h7<|gKn 9 Z h7<|gSR<|Zq (ld 1 Z Z fH zb9 Z)<|zft aZ [.rd (z03 aZ) [],.val (.slice none 0 0)] 4 [] [.val (.slice none 0 0)] Z Z Z<|zft z04 [.rd (z03 aZ) [],.rd (z03 z04) []] 4 [.rd (z03 aZ) []] [] Z Z Z<|zfs (R:=z01) (⟨[],[]⟩:z00) 4 Z (Sp.via (Sp.prod (Sp.prod Sp.unit)))<|Es (sto 4 Z Z fH Z zfh)<|Zb Z<|z0k<|z0v<|zaz [] [] Z (eC 4 Z Z zb9<|eE Z<|eN) (rN)
 ·refine gKn 17 Z h7<|gKn 9 Z h7<|Zt<|z0q<|zye [(3,.val (z05 v1 0)),(4,.val (z05 v2 0)),(5,.val (z05 v3 0)),(6,.val (z05 v4 0)),(8,.rd z08 r5.1)] [(1,some (v1,.box 25 [.rd z01 a0])),(2,some (v2,.box 54 [.rd aZ a1])),(3,some (v3,.box 67 [.rd z04 a2])),(4,some (v4,.box 25 [.val (.slice none 0 0),.val (.slice none 0 0)]))] [1,2,3,4] (Zs Z Z Z Z<|sS Z<|sN) (Zi Z<|Zi Z<|Zi Z<|Zi Z<|rN)<|z9g fun r8 h10=>z9g fun r11 h13=>gOr [] [⟨1,some ([], fun nv=>(v1,.box 25 [.rd z01 a0])),[]⟩,⟨5,none,[(2,some ([1], fun nv=>((nv 1),.list aZ 54 r8))),(6,none)]⟩,⟨2,some ([], fun nv=>(v2,.box 54 [.rd aZ a1])),[]⟩,⟨6,none,[(5,some ([2], fun nv=>((nv 2),.list aZ 54 [a1]))),(6,none)]⟩,⟨7,none,[(6,some ([3], fun nv=>((nv 3),.list aZ 54 r11)))]⟩,⟨8,none,[(8,some ([4], fun nv=>((nv 4),.box 25 [.val (.slice none 0 0),.val (.slice none 0 0)]))),(9,some ([3,4], fun nv=>((nv 4),.box 25 [.val (nv 3),.val (.slice none 0 0)])))]⟩] [pk 20 (.val (z05 v1 (0+0))) [(0,0,false)],pk 21 (.rd (z03 aZ) a0.IDs) [(0,0,false)],⟨some (22,[1], fun nv=>.val (nv 1)),[(1,0,true)],[1],[]⟩,pd 23 (.rd z08 r5.1),pk 24 (.rd aZ a1) [(2,0,false)],⟨some (25,[2], fun nv=>.val (nv 2)),[(3,0,true)],[2],[]⟩,⟨some (26,[3], fun nv=>.val (nv 3)),[(3,1,true),(1,1,true),(4,0,true)],[3],[]⟩,⟨some (27,[3], fun nv=>.agg [.val (nv 3),.val (.slice none 0 0)]),[],[],[]⟩,⟨some (10,[4], fun nv=>.val (z05 (nv 4) 0)),[(5,0,true)],[4],[]⟩,⟨none,[(5,1,true)],[],[]⟩] mixed (oC (oRn (fun nv E=>faB 1 Z Z Tryz.underlying25 Z (by exact zb4)))<|oC (oRn (fun nv E=>ld 1 Z Z (fP (z0n _)) zbp Z))<|oC (oCl [1] [] [(100,5)] h10 Tryz.func60 Z (fun nv=>(z3w _)) (fun nv=>(Y1 Z)) (fun nv E=>rN))<|oC (oRn (fun nv E=>mv Z))<|oC (oRn (fun nv E=>ld 2 Z Z fH z6a Z))<|oC (oEf 6 2 (fun nv E=>lit (R:=aZ) ([a1]:List V3) 6 (pP Z Z<|pN) Z tu22 z3v Z Z))<|oC (oCl [3] [5,6] [(100,7)] h13 Tryz.func118 Z (fun nv=>(z15b _ _ _ _ _)) (fun nv=>(aQ Z<|aQ Z<|aQ Z<|aN)) (fun nv E=>(Zi Z<|Zi Z<|rN)))<|oC (oRn (fun nv E=>zwm [(0,1),(1,1)] Tryz.underlying25 zfh (ZrE.nilS (ZrE.nilS ZrE.nil)) Z (zkm.cons Z Z z0g (zb0.cast (zb0.here z0g) Z)<|zkm.done Z)))<|oC (oEb 8 4 (fun nv E=>z5l 8 zfh (ZrE.nilS (ZrE.nilS ZrE.nil))))<|oC (oEs 8 (fun nv E=>zwq 8 Z Z (z0l.cast (z0l.cons z0g (z0l.cons z0g z0l.nil)) Z) Z (z54.cons z36 (z54.cons z36 z54.nil)) (z0l.cast (z0l.cons z0g (z0l.cons z0g z0l.nil)) Z) zfh))<|oN) fun n14=>z0m<|z7r (fun (s15:(List z0a)) aa ww=>∃ nv:Nat→Value,Sta (ctx 74 H [] w) [(6,.val (z05 v4 0)),(10,.val (z05 (nv 0) 0))] [(4,some (v4,.box 25 [.val (.slice none 0 0),.val (.slice none 0 0)])),(7,some ((nv 1),.list aZ 54 r11)),(9,some ((nv 2),.list z04 67 s15)),(8,some ((nv 0),.box 25 [.val (nv 1),.val (nv 2)]))] aa ww) ?_ (fun s15=>?_)
  ·refine gSR<|Zq (faB 8 Z Z Tryz.underlying25 Z (by exact zb4))<|Zq (ldV 8 Z Z (At.cast At.here Z) sc22 Z)<|Zq (z4f Z (.own 7 Z) Z tu22)<|Zm Z<|Zn<|zyo z04 67 11<|z29 (fun (s16:(List z0a) × Int) aa ww=>∃ nv:Nat→Value,Sta (ctx 74 H [] w) [(3,.val (z05 v1 0)),(5,.val (z05 v3 0)),(6,.val (z05 v4 0)),(8,.rd z08 r5.1),(10,.val (z05 (nv 0) 0)),(30,.rd z08 (r11.length:Int)),(31,.rd z08 s16.2)] [(1,some (v1,.box 25 [.rd z01 a0])),(3,some (v3,.box 67 [.rd z04 a2])),(4,some (v4,.box 25 [.val (.slice none 0 0),.val (.slice none 0 0)])),(7,some ((nv 1),.list aZ 54 r11)),(10,some ((nv 2),.list z04 67 s16.1)),(8,some ((nv 0),.box 25 [.val (nv 1),.val (nv 2)]))] aa ww) (fun aa ww h=>⟨nvl [(n14 4),(n14 3),(.slice none 0 0)],Zu h [1,3,4,7,11,8]⟩) (fun s16=>?_)
   refine gEx fun n17=>gSR<|Zq (I.lss Z Z)<|Zn<|z0q<|gIf Z Z (fun h18=>?_) (fun h18=>?_)
   ·refine Zt<|z0q<|z5f<|gSR<|Zm Z<|Zb Z<|z5f<|gSR<|Zm Z<|Zm Z<|Zq (I.lss Z Z)<|Za Z<|z27 46 Z fun y19=>Zj Z (fun h20=>?_) (fun h20=>?_)
    ·refine zye [(3,.val (z05 v1 0)),(5,.val (z05 v3 0)),(6,.val (z05 v4 0)),(8,.rd z08 r5.1),(10,.val (z05 (n17 0) 0)),(30,.rd z08 (r11.length:Int)),(31,.rd z08 s16.2),(11,.rd z08 s16.2)] [(1,some (v1,.box 25 [.rd z01 a0])),(3,some (v3,.box 67 [.rd z04 a2])),(4,some (v4,.box 25 [.val (.slice none 0 0),.val (.slice none 0 0)])),(7,some ((n17 1),.list aZ 54 r11)),(10,some ((n17 2),.list z04 67 s16.1)),(8,some ((n17 0),.box 25 [.val (n17 1),.val (n17 2)]))] [1,3,4,7,10,8] (Zs Z Z Z Z<|Zs Z Z Z Z<|sN) (Zi Z<|Zi Z<|Zi Z<|Zi Z<|Zi Z<|Zi Z<|rN)<|z9g fun x21 h22=>z9g fun r23 h25=>z9g fun x26 h27=>gOr [] [⟨8,some ([], fun nv=>((n17 0),.box 25 [.val (n17 1),.val (n17 2)])),[(11,some ([2], fun nv=>((n17 0),.box 25 [.val (n17 1),.val (nv 2)])))]⟩,⟨1,some ([], fun nv=>(v1,.box 25 [.rd z01 a0])),[]⟩,⟨12,none,[(8,none)]⟩,⟨10,some ([], fun nv=>((n17 2),.list z04 67 s16.1)),[(9,some ([2], fun nv=>((nv 2),.list z04 67 x26)))]⟩] [pk 50 (.val (z05 (n17 0) (0+1))) [(0,0,false)],pk 51 (.val (n17 2)) [(0,0,false)],pk 52 (.val (z05 v1 (0+1))) [(1,0,false)],pk 53 (.rd (z03 z04) a0.Ops) [(1,0,false)],pd 54 (.rd z08 s16.2),pd 55 (.rp z04 x21),pd 56 (.rd z04 x21),pd 57 (.rd z04 r23),⟨some (58,[], fun nv=>.rd (z03 z04) [r23]),[(2,0,true)],[1],[]⟩,⟨some (59,[2], fun nv=>.val (nv 2)),[(3,0,true)],[2],[]⟩,pk 60 (.val (z05 (n17 0) (0+1))) [(0,0,false)],⟨none,[(3,1,false),(0,0,true)],[],[]⟩] mixed (oC (oRn (fun nv E=>faB 8 Z Z Tryz.underlying25 Z (by exact zcg)))<|oC (oRn (fun nv E=>ldV 8 Z Z (At.cast (At.next z0g At.here) Z) sc23 Z))<|oC (oRn (fun nv E=>faB 1 Z Z Tryz.underlying25 Z (by exact zcg)))<|oC (oRn (fun nv E=>ld 1 Z Z (fP (z06 _)) zep Z))<|oC (oRn (fun nv E=>mv Z))<|oC (oRn (fun nv E=>ixR Z Z h22 tu23 zb1 Z))<|oC (oRn (fun nv E=>ldR Z zeb))<|oC (oCl [] [] [] h25 Tryz.func119 Z (fun nv=>(zhx _)) (fun nv=>(Y1 Z)) (fun nv E=>rN))<|oC (oFz (A1:=fun nv=>[(12,some ((nv 1),.list z04 67 [r23]))]) 12 1 (oEf 12 1 (fun nv E=>lit (R:=z04) ([r23]:List z0a) 12 (pP Z Z<|pN) Z tu23 zb1 Z Z)))<|oC (oEf 10 2 (fun nv E=>apn 10 Z Z Z .rd h27 tu23 zb1 Z Z Z))<|oC (oRn (fun nv E=>faB 8 Z Z Tryz.underlying25 Z (by exact zcg)))<|oC (oEs 8 (fun nv E=>zwb 8 Z Z (zb0.cast (zb0.next z0g (zb0.here z0g)) Z) Z z36 z0g zcg))<|oN) fun n28=>z3l<|z3l<|z0m<|z2g<|Zq (I.add Z Z)<|Zm Z<|z21<|z1m (fun aa ww h=>⟨nvl [(n17 0),(n17 1),(n28 2)],Zu h [1,3,4,7,10,8]⟩)
    ·refine gSR<|Zm Z<|Zm Z<|Zq (I.eql Z Z)<|Za Z<|z27 61 Z fun y29=>Zj Z (fun h30=>?_) (fun h30=>?_)
     ·refine zye [(3,.val (z05 v1 0)),(5,.val (z05 v3 0)),(6,.val (z05 v4 0)),(8,.rd z08 r5.1),(10,.val (z05 (n17 0) 0)),(30,.rd z08 (r11.length:Int)),(31,.rd z08 s16.2)] [(1,some (v1,.box 25 [.rd z01 a0])),(3,some (v3,.box 67 [.rd z04 a2])),(4,some (v4,.box 25 [.val (.slice none 0 0),.val (.slice none 0 0)])),(7,some ((n17 1),.list aZ 54 r11)),(10,some ((n17 2),.list z04 67 s16.1)),(8,some ((n17 0),.box 25 [.val (n17 1),.val (n17 2)]))] [1,3,4,7,10,8] (Zs Z Z Z Z<|sS Z<|sS Z<|sS Z<|sN) (Zi Z<|Zi Z<|Zi Z<|Zi Z<|Zi Z<|Zi Z<|rN)<|z9g fun r31 h33=>z9g fun x34 h35=>gOr [] [⟨8,some ([], fun nv=>((n17 0),.box 25 [.val (n17 1),.val (n17 2)])),[(7,some ([2], fun nv=>((n17 0),.box 25 [.val (n17 1),.val (nv 2)])))]⟩,⟨3,some ([], fun nv=>(v3,.box 67 [.rd z04 a2])),[]⟩,⟨13,none,[(4,none)]⟩,⟨10,some ([], fun nv=>((n17 2),.list z04 67 s16.1)),[(5,some ([2], fun nv=>((nv 2),.list z04 67 x34)))]⟩] [pk 65 (.val (z05 (n17 0) (0+1))) [(0,0,false)],pk 66 (.val (n17 2)) [(0,0,false)],pk 67 (.rd z04 a2) [(1,0,false)],pd 68 (.rd z04 r31),⟨some (69,[], fun nv=>.rd (z03 z04) [r31]),[(2,0,true)],[1],[]⟩,⟨some (70,[2], fun nv=>.val (nv 2)),[(3,0,true)],[2],[]⟩,pk 71 (.val (z05 (n17 0) (0+1))) [(0,0,false)],⟨none,[(3,1,false),(0,0,true)],[],[]⟩] mixed (oC (oRn (fun nv E=>faB 8 Z Z Tryz.underlying25 Z (by exact zcg)))<|oC (oRn (fun nv E=>ldV 8 Z Z (At.cast (At.next z0g At.here) Z) sc23 Z))<|oC (oRn (fun nv E=>ld 3 Z Z fH zeb Z))<|oC (oCl [] [] [] h33 Tryz.func119 Z (fun nv=>(zhx _)) (fun nv=>(Y1 Z)) (fun nv E=>rN))<|oC (oFz (A1:=fun nv=>[(13,some ((nv 1),.list z04 67 [r31]))]) 13 1 (oEf 13 1 (fun nv E=>lit (R:=z04) ([r31]:List z0a) 13 (pP Z Z<|pN) Z tu23 zb1 Z Z)))<|oC (oEf 10 2 (fun nv E=>apn 10 Z Z Z .rd h35 tu23 zb1 Z Z Z))<|oC (oRn (fun nv E=>faB 8 Z Z Tryz.underlying25 Z (by exact zcg)))<|oC (oEs 8 (fun nv E=>zwb 8 Z Z (zb0.cast (zb0.next z0g (zb0.here z0g)) Z) Z z36 z0g zcg))<|oN) fun n36=>z3l<|z3l<|z0m<|z2g<|Zq (I.add Z Z)<|Zm Z<|z21<|z1m (fun aa ww h=>⟨nvl [(n17 0),(n17 1),(n36 2)],Zu h [1,3,4,7,10,8]⟩)
     ·refine zye [(3,.val (z05 v1 0)),(5,.val (z05 v3 0)),(6,.val (z05 v4 0)),(8,.rd z08 r5.1),(10,.val (z05 (n17 0) 0)),(30,.rd z08 (r11.length:Int)),(31,.rd z08 s16.2),(11,.rd z08 s16.2)] [(1,some (v1,.box 25 [.rd z01 a0])),(3,some (v3,.box 67 [.rd z04 a2])),(4,some (v4,.box 25 [.val (.slice none 0 0),.val (.slice none 0 0)])),(7,some ((n17 1),.list aZ 54 r11)),(10,some ((n17 2),.list z04 67 s16.1)),(8,some ((n17 0),.box 25 [.val (n17 1),.val (n17 2)]))] [1,3,4,7,10,8] (Zs Z Z Z Z<|Zs Z Z Z Z<|sN) (Zi Z<|Zi Z<|Zi Z<|Zi Z<|Zi Z<|Zi Z<|rN)<|z9g fun x37 h38=>z9g fun r39 h41=>z9g fun x42 h43=>gOr [] [⟨8,some ([], fun nv=>((n17 0),.box 25 [.val (n17 1),.val (n17 2)])),[(12,some ([2], fun nv=>((n17 0),.box 25 [.val (n17 1),.val (nv 2)])))]⟩,⟨1,some ([], fun nv=>(v1,.box 25 [.rd z01 a0])),[]⟩,⟨14,none,[(9,none)]⟩,⟨10,some ([], fun nv=>((n17 2),.list z04 67 s16.1)),[(10,some ([2], fun nv=>((nv 2),.list z04 67 x42)))]⟩] [pk 34 (.val (z05 (n17 0) (0+1))) [(0,0,false)],pk 35 (.val (n17 2)) [(0,0,false)],pk 36 (.val (z05 v1 (0+1))) [(1,0,false)],pk 37 (.rd (z03 z04) a0.Ops) [(1,0,false)],pd 38 (.rd z08 s16.2),pd 39 (.rd z08 (w64 (s16.2 - 1))),pd 40 (.rp z04 x37),pd 41 (.rd z04 x37),pd 42 (.rd z04 r39),⟨some (43,[], fun nv=>.rd (z03 z04) [r39]),[(2,0,true)],[1],[]⟩,⟨some (44,[2], fun nv=>.val (nv 2)),[(3,0,true)],[2],[]⟩,pk 45 (.val (z05 (n17 0) (0+1))) [(0,0,false)],⟨none,[(3,1,false),(0,0,true)],[],[]⟩] mixed (oC (oRn (fun nv E=>faB 8 Z Z Tryz.underlying25 Z (by exact zcg)))<|oC (oRn (fun nv E=>ldV 8 Z Z (At.cast (At.next z0g At.here) Z) sc23 Z))<|oC (oRn (fun nv E=>faB 1 Z Z Tryz.underlying25 Z (by exact zcg)))<|oC (oRn (fun nv E=>ld 1 Z Z (fP (z06 _)) zep Z))<|oC (oRn (fun nv E=>mv Z))<|oC (oRn (fun nv E=>I.sub Z Z))<|oC (oRn (fun nv E=>ixR Z Z h38 tu23 zb1 Z))<|oC (oRn (fun nv E=>ldR Z zeb))<|oC (oCl [] [] [] h41 Tryz.func119 Z (fun nv=>(zhx _)) (fun nv=>(Y1 Z)) (fun nv E=>rN))<|oC (oFz (A1:=fun nv=>[(14,some ((nv 1),.list z04 67 [r39]))]) 14 1 (oEf 14 1 (fun nv E=>lit (R:=z04) ([r39]:List z0a) 14 (pP Z Z<|pN) Z tu23 zb1 Z Z)))<|oC (oEf 10 2 (fun nv E=>apn 10 Z Z Z .rd h43 tu23 zb1 Z Z Z))<|oC (oRn (fun nv E=>faB 8 Z Z Tryz.underlying25 Z (by exact zcg)))<|oC (oEs 8 (fun nv E=>zwb 8 Z Z (zb0.cast (zb0.next z0g (zb0.here z0g)) Z) Z z36 z0g zcg))<|oN) fun n44=>z3l<|z3l<|z0m<|z2g<|Zq (I.add Z Z)<|Zm Z<|z21<|z1m (fun aa ww h=>⟨nvl [(n17 0),(n17 1),(n44 2)],Zu h [1,3,4,7,10,8]⟩)
   ·refine z1z<|z10<|z14<|z3p (fun aa ww h=>⟨nvl [(n17 0),(n17 1),(n17 2)],Zu h [4,7,10,8]⟩)
  ·refine gEx fun n45=>gSR<|lPow [.rd (z03 aZ) r11,.val (n45 2)] 8 7 [] [.val (n45 2)] Z Z Z Z Z<|lPow [.rd (z03 aZ) r11,.rd (z03 z04) s15] 8 9 [.rd (z03 aZ) r11] [] Z Z Z Z Z<|zfs (R:=z01) (⟨r11,s15⟩:z00) 8 Z (Sp.via (Sp.prod (Sp.prod Sp.unit)))<|Zq (ld 8 Z Z fH zb9 Z)<|zft aZ [.rd (z03 aZ) [],.val (.slice none 0 0)] 4 [] [.val (.slice none 0 0)] Z Z Z<|zft z04 [.rd (z03 aZ) [],.rd (z03 z04) []] 4 [.rd (z03 aZ) []] [] Z Z Z<|zfs (R:=z01) (⟨[],[]⟩:z00) 4 Z (Sp.via (Sp.prod (Sp.prod Sp.unit)))<|Es (sto 4 Z Z fH Z zfh)<|Zb Z<|z0k<|zaz [] [] Z (eC 4 Z Z zb9<|eE Z<|eN) (rN)
def zis (a0:V3) (c1_0:z00):Option (Bool) :=
 zde c1_0 a0 >>= fun r2 =>
 some (!r2.2)
theorem zrn (a0:V3) (p1_0:Value) (c1_0:z00):z1u Tryz.prog 65 [.rd aZ a0,.val (z05 p1_0 0)] [(1,some (p1_0,.box 25 [.rd z01 c1_0]))] (zis a0 c1_0) (fun r nv=>⟨[.rd z09 r],[(1,some (p1_0,.box 25 [.rd z01 c1_0]))]⟩):=by
 refine z2f 14 Tryz.func65 Z Z Z fun H w=>?_;refine gSR<|Eb Z (bx 2 Z) fun v1=>Zb Z<|gSR<|Zq (ld 1 Z Z fH zb9 Z)<|Zq (ld 2 Z Z fH z6a Z)<|Zc [] [] Tryz.func66 Z (zhr _ _) fun r2 n3=>Zm Z<|Zq (ext Z Z)<|Zq (ext Z Z)<|Za Z<|Zb Z<|gSR<|Zm Z<|Zq (zgu Z)<|Zb Z<|z0k<|Ze [] [1] Z
def z1g (a0:List V3) (c1_0:z00) (s2:Int):Option (Sum (Sum Int Unit) Int) :=
 if decide (s2<(a0.length:Int)) then
  idx a0 s2 >>= fun x4 =>
  zis x4 c1_0 >>= fun r6 =>
  if r6 then
   some (.inl (.inl s2))
  else
   some (.inr (w64 (s2+1)))
 else
  some (.inl (.inr ()))
def z3g (a0:List V3) (c1_0:z00):Option (Int) :=
 z67 (iter (z1g a0 c1_0) 0) fun s1 =>
 some (-1)
theorem z7t (a0:List V3) (p1_0:Value) (c1_0:z00):z1u Tryz.prog 120 [.rd (z03 aZ) a0,.val (.func (.func 65) #[] #[z05 p1_0 0])] [(1,some (p1_0,.box 25 [.rd z01 c1_0]))] (z3g a0 c1_0) (fun r nv=>⟨[.rd z08 r],[(1,some (p1_0,.box 25 [.rd z01 c1_0]))]⟩):=by
 refine z2f 19 Tryz.func120 Z Z Z fun H w=>?_;refine gSR<|Zb Z<|z8i (fun (s1:Unit) aa ww=>Sta (ctx 19 H [(1,some (p1_0,.box 25 [.rd z01 c1_0]))] w) [] [(1,some (p1_0,.box 25 [.rd z01 c1_0]))] aa ww) ?_ (fun s1=>?_)
 ·refine gSR<|Zm Z<|Zq (z4f Z .rd Z tu22)<|Zm Z<|Zn<|z29 (fun (s2:Int) aa ww=>Sta (ctx 19 H [(1,some (p1_0,.box 25 [.rd z01 c1_0]))] w) [(0,.rd (z03 aZ) a0),(1,.val (.func (.func 65) #[] #[z05 p1_0 0])),(7,.rd z08 (a0.length:Int)),(8,.rd z08 s2)] [(1,some (p1_0,.box 25 [.rd z01 c1_0]))] aa ww) (fun aa ww h=>Zu h [1]) (fun s2=>?_);refine gSR<|Zq (I.lss Z Z)<|Zn<|z0q<|gIf Z Z (fun h3=>?_) (fun h3=>?_)
  ·refine Zt<|z0q<|z5f<|gSR<|Zm Z<|Zb Z<|gSR<|Zm Z<|Zm Z<|Zm Z<|z0t fun x4 h5=>Zq (ixR Z Z h5 tu22 z3v Z)<|Zq (ldR Z z6a)<|zk9 [1] [(1,1)] (gd0 Z) Z Z Tryz.func65 Z Z (zrn _ _ _) (Y1 Z) (cQ 1 Z<|cN) (Y0 Z) fun r6 n7=>Zj Z (fun h8=>?_) (fun h8=>?_)
   ·refine gSR<|Zm Z<|Zb Z<|z0k<|z4p<|z0v<|z8c<|z5n<|Ze [] [1] Z
   ·refine z38<|z3l<|z0m<|z2g<|Zq (I.add Z Z)<|Zm Z<|z21<|z1m (fun aa ww h=>Zu h [1])
  ·refine z1z<|z10<|z14<|z6x (fun aa ww h=>Zu h [1])
 ·refine gSR<|Zb Z<|z0k<|Ze [] [1] Z
def z1v (a0:List V3) (c1_0:z00):Option (Bool) :=
 z3g a0 c1_0 >>= fun r1 =>
 some (decide (0≤r1)) >>= fun y3 =>
 some y3
theorem z6y (a0:List V3) (p1_0:Value) (c1_0:z00):z1u Tryz.prog 64 [.rd (z03 aZ) a0,.val (.func (.func 65) #[] #[z05 p1_0 0])] [(1,some (p1_0,.box 25 [.rd z01 c1_0]))] (z1v a0 c1_0) (fun r nv=>⟨[.rd z09 r],[(1,some (p1_0,.box 25 [.rd z01 c1_0]))]⟩):=by
 refine z2f 9 Tryz.func64 Z Z Z fun H w=>?_;refine gSR<|Zb Z<|gSR<|Zm Z<|Zm Z<|Zc [1] [(1,1)] Tryz.func120 Z (z7t _ _ _) fun r1 n2=>Zq (I.geq Z Z)<|Za Z<|z27 4 Z fun y3=>Zn<|z0k<|Ze [] [1] Z
def zmd (a0:z00) (a1:z0a):Option (z00 × V3 × Int) :=
 z3f a0 >>= fun r5 =>
 (if r5==0 then
  zge a1 >>= fun r9 =>
  some r9
 else
  some r5) >>= fun s7 =>
 if s7 != 0 then
  some ((⟨[],[]⟩:z00),(Vector.replicate 32 0),s7)
 else
  zws a1 >>= fun r12 =>
  zif a0 r12.1 a1 >>= fun r15 =>
  if !r15.2 then
   some ((⟨[],[]⟩:z00),(Vector.replicate 32 0),14)
  else
   z1v a1.Preds a0 >>= fun r19 =>
   if r19 then
    some ((⟨[],[]⟩:z00),(Vector.replicate 32 0),40)
   else
    some ((a0.Ops.length:Int)==60) >>= fun y22 =>
    if y22 then
     some ((⟨[],[]⟩:z00),(Vector.replicate 32 0),18)
    else
     some (r15.1,r12.1,0)
theorem zwa (a0:z00) (a1:z0a):z1u Tryz.prog 30 [.rd z01 a0,.rd z04 a1] [zG1] (zmd a0 a1) (fun r nv=>⟨[.rd z01 r.1,.rd aZ r.2.1,.rd z08 r.2.2],[(1001,some (.bool true,.glob 1 (z3m 64 z0p) z5i))]⟩):=by
 refine z2f 56 Tryz.func30 Z Z Z fun H w=>?_;refine gSR<|Eb Z (bx 1 Z) fun v1=>Eb Z (bx 2 Z) fun v2=>Eb Z (z5l 3 zfh (ZrE.nilS (ZrE.nilS ZrE.nil))) fun v3=>Eb Z (z5l 4 z3v (.zr (R:=aZ) (x:=(Vector.replicate 32 0)) zfn)) fun v4=>Zb Z<|gSR<|Zq (ld 1 Z Z fH zb9 Z)<|Zc [1001] [] Tryz.func23 Z (z8q _) fun r5 n6=>Zb Z<|z7r (fun (s7:Int) aa ww=>Sta (ctx 56 H [zG1] w) [(2,.val (z05 v1 0)),(3,.val (z05 v2 0)),(4,.val (z05 v3 0)),(5,.val (z05 v4 0)),(7,.rd z08 s7)] [(1,some (v1,.box 25 [.rd z01 a0])),(2,some (v2,.box 67 [.rd z04 a1])),(3,some (v3,.box 25 [.val (.slice none 0 0),.val (.slice none 0 0)])),(4,some (v4,.box 54 [.rd aZ (Vector.replicate 32 0)])),zG1] aa ww) ?_ (fun s7=>?_)
 ·refine gSR<|Zm Z<|Zq (I.eql Z Z)<|Zj Z (fun h8=>?_) (fun h8=>?_)
  ·refine z2g<|Zq (ld 2 Z Z fH zeb Z)<|Zc [1001] [] Tryz.func47 Z (zkh _) fun r9 n10=>Za Z<|z21<|z3p (fun aa ww h=>Zu h [1,2,3,4,1001])
  ·refine z38<|z3p (fun aa ww h=>Zu h [1,2,3,4,1001])
 ·refine z0q<|gSR<|Zm Z<|Zq (I.neq Z Z)<|Zj Z (fun h11=>?_) (fun h11=>?_)
  ·refine gSR<|Zq (zwm [(0,1),(1,1)] Tryz.underlying25 zfh (ZrE.nilS (ZrE.nilS ZrE.nil)) Z (zkm.done Z))<|Zq (bldG (x':=((Vector.replicate 32 0):V3)) tu54 z3v zfn ti5 (Bld.done Z))<|Zm Z<|Es (zwq 3 Z Z (z0l.cast (z0l.cons z0g (z0l.cons z0g z0l.nil)) Z) Z (z54.cons z36 (z54.cons z36 z54.nil)) (z0l.cast (z0l.cons z0g (z0l.cons z0g z0l.nil)) Z) zfh)<|Es (sto 4 Z Z fH Z z3v)<|Zb Z<|z0k<|z0v<|zug aZ [.rd (z03 aZ) [],.val (.slice none 0 0)] 3 [] [.val (.slice none 0 0)] Z Z Z<|zug z04 [.rd (z03 aZ) [],.rd (z03 z04) []] 3 [.rd (z03 aZ) []] [] Z Z Z<|eJoi (R:=z01) (⟨[],[]⟩:z00) 3 Z (Sp.via (Sp.prod (Sp.prod Sp.unit)))<|zaz [] [1001] Z (eC 3 Z Z zb9<|eC 4 Z Z z6a<|eE Z<|eN) (Y0 Z)
  ·refine Zt<|gSR<|Zq (ld 2 Z Z fH zeb Z)<|Zc [1001] [] Tryz.func46 Z (zul _) fun r12 n13=>Zm Z<|Zq (ext Z Z)<|Zq (ext Z Z)<|Eb Z (z5l 1100 z3v (.zr (R:=aZ) (x:=(Vector.replicate 32 0)) zfn)) fun v14=>Es (sto 1100 Z Z fH Z z3v)<|Zb Z<|gSR<|Zq (ld 1 Z Z fH zb9 Z)<|Zq (ld 1100 Z Z fH z6a Z)<|Zq (ld 2 Z Z fH zeb Z)<|Zc [] [] Tryz.func63 Z (zwc _ _ _) fun r15 n16=>Zm Z<|Zq (ext Z Z)<|Zq (ext Z Z)<|Eb Z (z5l 1101 zfh (ZrE.nilS (ZrE.nilS ZrE.nil))) fun v17=>zft aZ [.rd (z03 aZ) [],.val (.slice none 0 0)] 1101 [] [.val (.slice none 0 0)] Z Z Z<|zft z04 [.rd (z03 aZ) [],.rd (z03 z04) []] 1101 [.rd (z03 aZ) []] [] Z Z Z<|zfs (R:=z01) (⟨[],[]⟩:z00) 1101 Z (Sp.via (Sp.prod (Sp.prod Sp.unit)))<|Es (sto 1101 Z Z fH Z zfh)<|Zb Z<|z0q<|z5f<|gSR<|Zm Z<|Zq (zgu Z)<|Zb Z<|gIf Z Z (fun h18=>?_) (fun h18=>?_)
   ·refine gKn 37 Z h18<|gSR<|Zq (zwm [(0,1),(1,1)] Tryz.underlying25 zfh (ZrE.nilS (ZrE.nilS ZrE.nil)) Z (zkm.done Z))<|Zq (bldG (x':=((Vector.replicate 32 0):V3)) tu54 z3v zfn ti5 (Bld.done Z))<|Es (zwq 3 Z Z (z0l.cast (z0l.cons z0g (z0l.cons z0g z0l.nil)) Z) Z (z54.cons z36 (z54.cons z36 z54.nil)) (z0l.cast (z0l.cons z0g (z0l.cons z0g z0l.nil)) Z) zfh)<|Es (sto 4 Z Z fH Z z3v)<|Zb Z<|z0k<|z4p<|z0v<|zug aZ [.rd (z03 aZ) [],.val (.slice none 0 0)] 3 [] [.val (.slice none 0 0)] Z Z Z<|zug z04 [.rd (z03 aZ) [],.rd (z03 z04) []] 3 [.rd (z03 aZ) []] [] Z Z Z<|eJoi (R:=z01) (⟨[],[]⟩:z00) 3 Z (Sp.via (Sp.prod (Sp.prod Sp.unit)))<|zaz [] [1001] Z (eC 3 Z Z zb9<|eC 4 Z Z z6a<|eE Z<|eN) (Y0 Z)
   ·refine gKn 37 Z h18<|gSR<|Zq (faB 2 Z Z Tryz.underlying67 Z (by exact zb4))<|Zq (ld 2 Z Z (fP (z1b _)) zbp Z)<|Zq (mkf mp0 (mp1 Z))<|Zc [1] [(1,1)] Tryz.func64 Z (z6y _ _ _) fun r19 n20=>Zb Z<|gIf Z Z (fun h21=>?_) (fun h21=>?_)
    ·refine gKn 44 Z h21<|gSR<|Zq (zwm [(0,1),(1,1)] Tryz.underlying25 zfh (ZrE.nilS (ZrE.nilS ZrE.nil)) Z (zkm.done Z))<|Zq (bldG (x':=((Vector.replicate 32 0):V3)) tu54 z3v zfn ti5 (Bld.done Z))<|Es (zwq 3 Z Z (z0l.cast (z0l.cons z0g (z0l.cons z0g z0l.nil)) Z) Z (z54.cons z36 (z54.cons z36 z54.nil)) (z0l.cast (z0l.cons z0g (z0l.cons z0g z0l.nil)) Z) zfh)<|Es (sto 4 Z Z fH Z z3v)<|Zb Z<|z0k<|z4p<|z0v<|zug aZ [.rd (z03 aZ) [],.val (.slice none 0 0)] 3 [] [.val (.slice none 0 0)] Z Z Z<|zug z04 [.rd (z03 aZ) [],.rd (z03 z04) []] 3 [.rd (z03 aZ) []] [] Z Z Z<|eJoi (R:=z01) (⟨[],[]⟩:z00) 3 Z (Sp.via (Sp.prod (Sp.prod Sp.unit)))<|zaz [] [1001] Z (eC 3 Z Z zb9<|eC 4 Z Z z6a<|eE Z<|eN) (Y0 Z)
    ·refine gKn 44 Z h21<|gSR<|Zq (faB 1 Z Z Tryz.underlying25 Z (by exact zcg))<|Zq (ld 1 Z Z (fP (z06 _)) zep Z)<|Zq (z4f Z .rd Z tu23)<|Zq (I.eql Z Z)<|Za Z<|z27 47 Z fun y22=>Zj Z (fun h23=>?_) (fun h23=>?_)
     ·refine gSR<|Zq (zwm [(0,1),(1,1)] Tryz.underlying25 zfh (ZrE.nilS (ZrE.nilS ZrE.nil)) Z (zkm.done Z))<|Zq (bldG (x':=((Vector.replicate 32 0):V3)) tu54 z3v zfn ti5 (Bld.done Z))<|Es (zwq 3 Z Z (z0l.cast (z0l.cons z0g (z0l.cons z0g z0l.nil)) Z) Z (z54.cons z36 (z54.cons z36 z54.nil)) (z0l.cast (z0l.cons z0g (z0l.cons z0g z0l.nil)) Z) zfh)<|Es (sto 4 Z Z fH Z z3v)<|Zb Z<|z0k<|z4p<|z0v<|zug aZ [.rd (z03 aZ) [],.val (.slice none 0 0)] 3 [] [.val (.slice none 0 0)] Z Z Z<|zug z04 [.rd (z03 aZ) [],.rd (z03 z04) []] 3 [.rd (z03 aZ) []] [] Z Z Z<|eJoi (R:=z01) (⟨[],[]⟩:z00) 3 Z (Sp.via (Sp.prod (Sp.prod Sp.unit)))<|zaz [] [1001] Z (eC 3 Z Z zb9<|eC 4 Z Z z6a<|eE Z<|eN) (Y0 Z)
     ·refine z38<|z3l<|z0m<|z0q<|z6l [3,4] mixed Z Z<|hTk 0 Z Z (ld 1101 Z Z fH zb9 Z)<|hTk 1 Z Z (ld 1100 Z Z fH z6a Z)<|hPnl aZ [.rd (z03 aZ) [],.val (.slice none 0 0)] 3 [] [.val (.slice none 0 0)] Z Z Z<|hPnl z04 [.rd (z03 aZ) [],.rd (z03 z04) []] 3 [.rd (z03 aZ) []] [] Z Z Z<|hJoi (R:=z01) (⟨[],[]⟩:z00) 3 Z (Sp.via (Sp.prod (Sp.prod Sp.unit)))<|Zp 2 Z Z Z Z Z (sto 3 Z Z fH Z zfh)<|Zp 3 Z Z Z Z Z (sto 4 Z Z fH Z z3v)<|hTk 4 Z Z (asg Z)<|z3e (by kernel_rfl)<|z0m<|z0k<|zaz [] [1001] Z (eC 3 Z Z zb9<|eC 4 Z Z z6a<|eE Z<|eN) (Y0 Z)
def z68 (a0:z0a):Option (Bool) :=
 if decide (20<(a0.Preds.length:Int)) then
  some true
 else
  if decide (100<(a0.Act.Key.length:Int)) then
   some true
  else
   some (decide (100<(a0.Act.Value.Text.length:Int))) >>= fun y4 =>
   some y4
theorem zhn (a0:z0a):z1u Tryz.prog 32 [.rd z04 a0] [] (z68 a0) (fun r nv=>⟨[.rd z09 r],[]⟩):=by
 refine z2f 22 Tryz.func32 Z Z Z fun H w=>?_;refine gSR<|Eb Z (bx 1 Z) fun v1=>Zb Z<|gSR<|Zq (faB 1 Z Z Tryz.underlying67 Z (by exact zb4))<|Zq (ld 1 Z Z (fP (z1b _)) zbp Z)<|Zq (z4f Z .rd Z tu22)<|Zq (I.gtr Z Z)<|Zm Z<|z28 7 Z (fun h2=>?_) (fun h2=>?_)
 ·refine lKn 6 Z h2<|Zk Z<|Zk Z<|Zk Z<|Zk Z<|Zk Z<|Zq (pkT Z Z)<|Zm Z<|Zk Z<|Zk Z<|Zk Z<|Zk Z<|Zk Z<|Zk Z<|Zq (pkT Z Z)<|Zb Z<|z0k<|Ze [] [] Z
 ·refine lKn 6 Z h2<|z1l Zx Z Z (faB 1 Z Z Tryz.underlying67 Z (by exact ze9))<|z1l Zx Z Z (faB 1 Z Z Tryz.underlying52 Z (by exact ti9))<|z1l Zx Z Z (ld 1 Z Z ((fP (z0w _)).part (z1i _)) ty9 Z)<|z1l Zx Z Z (zy8 Z Z tu9)<|z1l Zx Z Z (I.gtr Z Z)<|Zq (pkF Z Z)<|Zm Z<|z28 14 Z (fun h3=>?_) (fun h3=>?_)
  ·refine lKn 12 Z h3<|lKn 13 Z h3<|Zk Z<|Zk Z<|Zk Z<|Zk Z<|Zk Z<|Zk Z<|Zq (pkT Z Z)<|Zb Z<|z0k<|Ze [] [] Z
  ·refine lKn 12 Z h3<|lKn 13 Z h3<|z1l Zx Z Z (faB 1 Z Z Tryz.underlying67 Z (by exact ze9))<|z1l Zx Z Z (faB 1 Z Z Tryz.underlying52 Z (by exact zad))<|z1l Zx Z Z (faB 1 Z Z Tryz.underlying46 Z (by exact ti9))<|z1l Zx Z Z (ld 1 Z Z (((fP (z0w _)).part (z33 _)).part (z3o _)) ty9 Z)<|z1l Zx Z Z (zy8 Z Z tu9)<|z1l Zx Z Z (I.gtr Z Z)<|Zq (pkF Z Z)<|Za Z<|z27 2 Z fun y4=>Zn<|z0k<|Ze [] [] Z
def z4o (a0:z00) (s3:Int):Option (Sum (Sum Bool Unit) Int) :=
 if decide (s3<(a0.Ops.length:Int)) then
  if decide (s3≤70) then
   idx a0.Ops s3 >>= fun x6 =>
   z68 x6 >>= fun r8 =>
   if r8 then
    some (.inl (.inl true))
   else
    some (.inr (w64 (s3+1)))
  else
   some (.inl (.inr ()))
 else
  some (.inl (.inr ()))
def z9t (a0:z00):Option (Bool) :=
 z67 (iter (z4o a0) 0) fun s2 =>
 if decide (16<(a0.Ops.length:Int)) then
  if decide ((a0.Ops.length:Int)≤60) then
   some true
  else
   if decide (70<(a0.Ops.length:Int)) then
    some true
   else
    some (decide (70<(a0.IDs.length:Int))) >>= fun y14 =>
    some y14
 else
  if decide (70<(a0.Ops.length:Int)) then
   some true
  else
   some (decide (70<(a0.IDs.length:Int))) >>= fun y16 =>
   some y16
theorem zhs (a0:z00):z1u Tryz.prog 16 [.rd z01 a0] [] (z9t a0) (fun r nv=>⟨[.rd z09 r],[]⟩):=by
 refine z2f 43 Tryz.func16 Z Z Z fun H w=>?_;refine gSR<|Eb Z (bx 1 Z) fun v1=>Zb Z<|z8i (fun (s2:Unit) aa ww=>Sta (ctx 43 H [] w) [(1,.val (z05 v1 0))] [(1,some (v1,.box 25 [.rd z01 a0]))] aa ww) ?_ (fun s2=>?_)
 ·refine gSR<|Zb Z<|z29 (fun (s3:Int) aa ww=>Sta (ctx 43 H [] w) [(1,.val (z05 v1 0)),(3,.rd z08 s3)] [(1,some (v1,.box 25 [.rd z01 a0]))] aa ww) (fun aa ww h=>Zu h [1]) (fun s3=>?_);refine z0q<|gSR<|Zm Z<|Zq (faB 1 Z Z Tryz.underlying25 Z (by exact zcg))<|Zq (ld 1 Z Z (fP (z06 _)) zep Z)<|Zq (z4f Z .rd Z tu23)<|Zq (I.lss Z Z)<|Zm Z<|z28 9 Z (fun h4=>?_) (fun h4=>?_)
  ·refine lKn 8 Z h4<|z1l Zx Z Z (mv Z)<|z1l Zx Z Z (I.leq Z Z)<|Zq (pkT Z Z)<|Zj Z (fun h5=>?_) (fun h5=>?_)
   ·refine gKn 11 Z h5<|Zt<|z0q<|z5f<|gSR<|Zq (faB 1 Z Z Tryz.underlying25 Z (by exact zcg))<|Zq (ld 1 Z Z (fP (z06 _)) zep Z)<|Zm Z<|z0t fun x6 h7=>Zq (ixR Z Z h7 tu23 zb1 Z)<|Zq (ldR Z zeb)<|Zc [] [] Tryz.func32 Z (zhn _) fun r8 n9=>Zj Z (fun h10=>?_) (fun h10=>?_)
    ·refine gSR<|Zb Z<|z0k<|z4p<|z0v<|z8c<|z5n<|Ze [] [] Z
    ·refine z38<|z3l<|z0m<|z2g<|Zm Z<|Zq (I.add Z Z)<|Za Z<|z21<|z1m (fun aa ww h=>Zu h [1])
   ·refine gKn 11 Z h5<|z1z<|z10<|z14<|z6x (fun aa ww h=>Zu h [1])
  ·refine lKn 8 Z h4<|Zk Z<|Zk Z<|Zq (pkF Z Z)<|Zn<|zfk Z<|z1z<|z10<|z14<|z6x (fun aa ww h=>Zu h [1])
 ·refine gSR<|Zq (faB 1 Z Z Tryz.underlying25 Z (by exact zcg))<|Zq (ld 1 Z Z (fP (z06 _)) zep Z)<|Zq (z4f Z .rd Z tu23)<|Zq (I.gtr Z Z)<|Zm Z<|z28 25 Z (fun h11=>?_) (fun h11=>?_)
  ·refine lKn 24 Z h11<|z1l Zx Z Z (faB 1 Z Z Tryz.underlying25 Z (by exact zcg))<|z1l Zx Z Z (ld 1 Z Z (fP (z06 _)) zep Z)<|z1l Zx Z Z (z4f Z .rd Z tu23)<|z1l Zx Z Z (I.leq Z Z)<|Zq (pkT Z Z)<|Zm Z<|z28 31 Z (fun h12=>?_) (fun h12=>?_)
   ·refine lKn 29 Z h12<|lKn 30 Z h12<|Zk Z<|Zk Z<|Zk Z<|Zk Z<|Zq (pkT Z Z)<|Zm Z<|Zk Z<|Zk Z<|Zk Z<|Zk Z<|Zq (pkT Z Z)<|Zb Z<|z0k<|Ze [] [] Z
   ·refine lKn 29 Z h12<|lKn 30 Z h12<|z1l Zx Z Z (faB 1 Z Z Tryz.underlying25 Z (by exact zcg))<|z1l Zx Z Z (ld 1 Z Z (fP (z06 _)) zep Z)<|z1l Zx Z Z (z4f Z .rd Z tu23)<|z1l Zx Z Z (I.gtr Z Z)<|Zq (pkF Z Z)<|Zm Z<|z28 37 Z (fun h13=>?_) (fun h13=>?_)
    ·refine lKn 35 Z h13<|lKn 36 Z h13<|Zk Z<|Zk Z<|Zk Z<|Zk Z<|Zq (pkT Z Z)<|Zb Z<|z0k<|Ze [] [] Z
    ·refine lKn 35 Z h13<|lKn 36 Z h13<|z1l Zx Z Z (faB 1 Z Z Tryz.underlying25 Z (by exact zb4))<|z1l Zx Z Z (ld 1 Z Z (fP (z0n _)) zbp Z)<|z1l Zx Z Z (z4f Z .rd Z tu22)<|z1l Zx Z Z (I.gtr Z Z)<|Zq (pkF Z Z)<|Za Z<|z27 2 Z fun y14=>Zn<|z0k<|Ze [] [] Z
  ·refine lKn 24 Z h11<|Zk Z<|Zk Z<|Zk Z<|Zk Z<|Zq (pkF Z Z)<|Zm Z<|z1l Zx Z Z (faB 1 Z Z Tryz.underlying25 Z (by exact zcg))<|z1l Zx Z Z (ld 1 Z Z (fP (z06 _)) zep Z)<|z1l Zx Z Z (z4f Z .rd Z tu23)<|z1l Zx Z Z (I.gtr Z Z)<|Zq (pkF Z Z)<|Zm Z<|z28 37 Z (fun h15=>?_) (fun h15=>?_)
   ·refine lKn 35 Z h15<|lKn 36 Z h15<|Zk Z<|Zk Z<|Zk Z<|Zk Z<|Zq (pkT Z Z)<|Zb Z<|z0k<|Ze [] [] Z
   ·refine lKn 35 Z h15<|lKn 36 Z h15<|z1l Zx Z Z (faB 1 Z Z Tryz.underlying25 Z (by exact zb4))<|z1l Zx Z Z (ld 1 Z Z (fP (z0n _)) zbp Z)<|z1l Zx Z Z (z4f Z .rd Z tu22)<|z1l Zx Z Z (I.gtr Z Z)<|Zq (pkF Z Z)<|Za Z<|z27 2 Z fun y16=>Zn<|z0k<|Ze [] [] Z
end
end Go.Proofs.YtcneilabmjkdlabGreatDoor
