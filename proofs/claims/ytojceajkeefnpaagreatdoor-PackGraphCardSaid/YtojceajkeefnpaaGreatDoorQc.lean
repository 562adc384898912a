import Derived.Test.YtojceajkeefnpaaGreatDoorQb
set_option linter.unusedSimpArgs false
set_option linter.unusedVariables false
namespace Go.Proofs.YtojceajkeefnpaaGreatDoor
section
open Go Go.RowKit
set_option maxRecDepth 100000
theorem zem (a1:Int):z23 Tryz.prog 151 [.val (.slice none 0 0),.rd z0f a1] [] (z3z a1) (fun r nv=>⟨[.val (nv 0)],[(100,some (nv 0,.list u8R 5 r))]⟩):=by
 refine z2m 27 Tryz.func151 Z Z Z fun H w=>?_;refine gSR<|Zb Z<|z0x<|gSR<|Zm Z<|Zq (I.lss Z Z)<|Zj Z (fun h1=>?_) (fun h1=>?_)
 ·refine z1az
 ·refine Zt<|z0x<|gSR<|Zm Z<|Zm Z<|Zq (capN Z Z tu52)<|Zm Z<|z15w u8R 11 Z<|Zq (z3e Z .rd Z tu52)<|Zq (I.sub Z Z)<|Zq (I.sub Z Z)<|Za Z<|z24 1 Z fun y2=>Zn<|gSR<|Zm Z<|Zq (I.gtr Z Z)<|Zj Z (fun h3=>?_) (fun h3=>?_)
  ·refine z28<|Zm Z<|Zm Z<|Zq (capN Z Z tu52)<|Zq (cutN Z Z tu52 ti5)<|Zm Z<|z0q fun x4 h5=>Ef Z (apZ 1 Z Z h5 tu52 tu3 ti5 (Zr.num Z) Z) fun v6=>Zm Z<|z15w u8R 23 Z<|Zq (z3e Z .rd Z tu52)<|z0q fun x7 h8=>Ef Z (cutO 1 Z Z Z h8 tu52 ti5) fun v9=>Zb Z<|gSR<|Zm Z<|Zb Z<|z0n<|Ze [v9] [1] Z
  ·refine Zt<|gSR<|Zm Z<|Zb Z<|z0n<|zlp u8R 5 2<|Ze [(.slice none 0 0)] [2] Z
def z16 (a0:List (List UInt8)) (s2:Int × Int):Option (Sum Int (Int × Int)) :=
 if decide (s2.2<(a0.length:Int)) then
  idx a0 s2.2 >>= fun x4 =>
  some (w64 (s2.1+(x4.length:Int))) >>= fun y6 =>
  if decide (y6<0) then
   none
  else
   some (.inr (y6,w64 (s2.2+1)))
 else
  some (.inl s2.1)
def z14 (a0:List (List UInt8)) (s11:(List UInt8) × Int):Option (Sum ((List UInt8)) ((List UInt8) × Int)) :=
 if decide (s11.2<(a0.length:Int)) then
  idx a0 s11.2 >>= fun x14 =>
  app 1 s11.1 x14 >>= fun x16 =>
  some (.inr (x16,w64 (s11.2+1)))
 else
  some (.inl s11.1)
def z2h (a0:List (List UInt8)):Option ((List UInt8)) :=
 (iter (z16 a0) (0,0)) >>= fun s1 =>
 z3z s1 >>= fun r8 =>
 (iter (z14 a0) (r8,0)) >>= fun s10 =>
 some s10
theorem z6o (a0:List (List UInt8)):z23 Tryz.prog 108 [.rd (z02 (z02 u8R)) a0] [] (z2h a0) (fun r nv=>⟨[.val (nv 0)],[(100,some (nv 0,.list u8R 5 r))]⟩):=by
 refine z2m 36 Tryz.func108 Z Z Z fun H w=>?_;refine gSR<|Zb Z<|gSR<|Zb Z<|z7x (fun (s1:Int) aa ww=>Sta (ctx 36 H [] w) [(0,.rd (z02 (z02 u8R)) a0),(3,.rd z0f s1)] [] aa ww) ?_ (fun s1=>?_)
 ·refine gSR<|Zm Z<|Zq (z3e Z .rd Z tu193)<|Zm Z<|Zn<|z29 (fun (s2:Int × Int) aa ww=>Sta (ctx 36 H [] w) [(0,.rd (z02 (z02 u8R)) a0),(3,.rd z0f s2.1),(9,.rd (z02 (z02 u8R)) a0),(10,.rd z0f (a0.length:Int)),(11,.rd z0f s2.2)] [] aa ww) (fun aa ww h=>Zu h []) (fun s2=>?_);refine gSR<|Zq (I.lss Z Z)<|Zn<|z0x<|gIf Z Z (fun h3=>?_) (fun h3=>?_)
  ·refine Zt<|z0x<|z4s<|gSR<|z0q fun x4 h5=>Zq (ixR Z Z h5 tu193 zet Z)<|Zq (ldR Z znl)<|Zb Z<|gSR<|Zm Z<|Zm Z<|Zq (z3e Z .rd Z tu52)<|Zq (I.add Z Z)<|Za Z<|z24 3 Z fun y6=>Zn<|gSR<|Zm Z<|Zq (I.lss Z Z)<|Zj Z (fun h7=>?_) (fun h7=>?_)
   ·refine z1az
   ·refine z30<|z3c<|z0y<|z28<|Zq (I.add Z Z)<|Zm Z<|z1p<|z1s (fun aa ww h=>Zu h [])
  ·refine z27<|z19<|z1b<|z3k (fun aa ww h=>Zu h [])
 ·refine gSR<|Zm Z<|Zc [] [(100,1)] Tryz.func151 Z (zem _) fun r8 n9=>Zb Z<|z7x (fun (s10:(List UInt8)) aa ww=>∃ nv:Nat→Value,Sta (ctx 36 H [] w) [(6,.val (nv 0))] [(1,some ((nv 0),.list u8R 5 s10))] aa ww) ?_ (fun s10=>?_)
  ·refine gSR<|Zm Z<|Zq (z3e Z .rd Z tu193)<|Zm Z<|Zn<|z29 (fun (s11:(List UInt8) × Int) aa ww=>∃ nv:Nat→Value,Sta (ctx 36 H [] w) [(6,.val (nv 0)),(25,.rd (z02 (z02 u8R)) a0),(26,.rd z0f (a0.length:Int)),(27,.rd z0f s11.2)] [(1,some ((nv 0),.list u8R 5 s11.1))] aa ww) (fun aa ww h=>⟨nvl [(n9 0)],Zu h [1]⟩) (fun s11=>?_);refine gEx fun n12=>gSR<|Zq (I.lss Z Z)<|Zn<|z0x<|gIf Z Z (fun h13=>?_) (fun h13=>?_)
   ·refine Zt<|z0x<|z4s<|gSR<|z0q fun x14 h15=>Zq (ixR Z Z h15 tu193 zet Z)<|Zq (ldR Z znl)<|Zb Z<|z28<|Zm Z<|Zm Z<|z0q fun x16 h17=>Ef Z (apn 1 Z Z Z .rd h17 tu52 ti5 Z Z Z) fun v18=>Za Z<|z1p<|z3c<|z0y<|z28<|Zq (I.add Z Z)<|Zm Z<|z1p<|z1s (fun aa ww h=>⟨nvl [v18],Zu h [1]⟩)
   ·refine z27<|z19<|z1b<|z3k (fun aa ww h=>⟨nvl [(n12 0)],Zu h [1]⟩)
  ·refine gEx fun n19=>gSR<|Zm Z<|Zb Z<|z0n<|Ze [(n19 0)] [1] Z
def zbx (a0:List UInt8):Option ((List UInt8) × Int) :=
 if decide (10000<(a0.length:Int)) then
  some ([],4)
 else
  z4n (UInt64.ofInt (a0.length:Int)) >>= fun r2 =>
  app 1 r2 a0 >>= fun x4 =>
  some (x4,0)
theorem zfb (a0:List UInt8):z23 Tryz.prog 59 [.rd (z02 u8R) a0] [] (zbx a0) (fun r nv=>⟨[.val (nv 0),.rd z0f r.2],[(100,some (nv 0,.list u8R 5 r.1))]⟩):=by
 refine z2m 13 Tryz.func59 Z Z Z fun H w=>?_;refine gSR<|Za Z<|Zb Z<|z0x<|gSR<|Zm Z<|Zq (z3e Z .rd Z tu52)<|Zq (I.gtr Z Z)<|Zj Z (fun h1=>?_) (fun h1=>?_)
 ·refine gSR<|Za Z<|Zb Z<|z0n<|z0u<|zlp u8R 5 1<|Ze [(.slice none 0 0)] [1] Z
 ·refine Zt<|gSR<|Zm Z<|Zq (z3e Z .rd Z tu52)<|Zq (I.toU Z tu3 tu35)<|Zc [] [(100,2)] Tryz.func57 Z (z47 _) fun r2 n3=>Zm Z<|z0q fun x4 h5=>Ef Z (apn 2 Z Z Z .rd h5 tu52 ti5 Z Z Z) fun v6=>Za Z<|Zb Z<|z0n<|Ze [v6] [2] Z
def zf5 (a0:Int):Option ((List UInt8)) :=
 z4n ((zkj (UInt64.ofInt a0) 1) ^^^ (UInt64.ofInt (shrI a0 63))) >>= fun r1 =>
 some r1
theorem zp9 (a0:Int):z23 Tryz.prog 193 [.rd z0f a0] [] (zf5 a0) (fun r nv=>⟨[.val (nv 0)],[(100,some (nv 0,.list u8R 5 r))]⟩):=by
 refine z2m 11 Tryz.func193 Z Z Z fun H w=>?_;refine gSR<|Zb Z<|gSR<|Zm Z<|Zq (I.toU Z Tryz.underlying2 tu35)<|Zq (U.shl Z Z (Int.natCast_nonneg _))<|Zm Z<|Zq (I.shr Z Z (Int.natCast_nonneg _))<|Zq (I.toU Z Tryz.underlying2 tu35)<|Zq (U.xor Z Z)<|Zc [] [(100,1)] Tryz.func57 Z (z47 _) fun r1 n2=>Zb Z<|z0n<|Ze [(n2 0)] [1] Z
def z93 (a0:z00) (s14:(List UInt8) × Int):Option (Sum ((List UInt8)) ((List UInt8) × Int)) :=
 if decide (0≤s14.2) then
  chk (0≤s14.2) >>= fun u17 =>
  app 1 s14.1 [(z6l a0.Bits ((s14.2:Int).toNat)).toUInt8] >>= fun x20 =>
  some (w64 (s14.2 - 8)) >>= fun y23 =>
  some (.inr (x20,y23))
 else
  some (.inl s14.1)
def ze3 (a0:z00):Option ((List UInt8) × Int) :=
 z9d a0 >>= fun r2 =>
 if r2 != 0 then
  some ([],r2)
 else
  (if a0.Kind==1 then
   zf5 a0.Num >>= fun r8 =>
   app 1 [a0.Kind] r8 >>= fun x10 =>
   some x10
  else
   if a0.Kind==2 then
    iter (z93 a0) ([a0.Kind],56)
   else
    if a0.Kind==3 then
     chk (a0.Text.length≤281474976710656) >>= fun u25 =>
     zbx a0.Text >>= fun r27 =>
     app 1 [a0.Kind] r27.1 >>= fun x29 =>
     some x29
    else
     some [a0.Kind]) >>= fun s6 =>
  some (s6,0)
theorem zoa (a0:z00):z23 Tryz.prog 150 [.rd z18 a0] [] (ze3 a0) (fun r nv=>⟨[.val (nv 0),.rd z0f r.2],[(100,some (nv 0,.list u8R 5 r.1))]⟩):=by
 refine z2m 53 Tryz.func150 Z Z Z fun H w=>?_;refine gSR<|Eb Z (bx 1 Z) fun v1=>Za Z<|Zb Z<|z0x<|gSR<|Zq (ld 1 Z Z fH zot Z)<|Zc [] [] Tryz.func191 Z (zeh _) fun r2 n3=>Zb Z<|gSR<|Zm Z<|Zq (I.neq Z Z)<|Zj Z (fun h4=>?_) (fun h4=>?_)
 ·refine gSR<|Zm Z<|Za Z<|Zb Z<|z0n<|z0u<|zlp u8R 5 2<|Ze [(.slice none 0 0)] [2] Z
 ·refine Zt<|gSR<|Zq (faB 1 Z Z Tryz.underlying37 Z (by exact ti5))<|Zq (ld 1 Z Z (fP (z2f _)) ty5 Z)<|Ef Z (lit (R:=u8R) ([a0.Kind]:List UInt8) 3 (pP Z Z<|pN) Z tu52 ti5 Z Z) fun v5=>Zb Z<|z7x (fun (s6:(List UInt8)) aa ww=>∃ nv:Nat→Value,Sta (ctx 53 H [] w) [(5,.val (nv 0))] [(3,some ((nv 0),.list u8R 5 s6))] aa ww) ?_ (fun s6=>?_)
  ·refine gSR<|Zq (faB 1 Z Z Tryz.underlying37 Z (by exact ti5))<|Zq (ld 1 Z Z (fP (z2f _)) ty5 Z)<|Zn<|z4s<|gSR<|Zq (B.eql Z Z)<|Zb Z<|gIf Z Z (fun h7=>?_) (fun h7=>?_)
   ·refine gKn 20 Z h7<|z28<|Zm Z<|Zq (faB 1 Z Z Tryz.underlying37 Z (by exact ti2))<|Zq (ld 1 Z Z (fP (z5e _)) ty2 Z)<|Zc [] [(100,4)] Tryz.func193 Z (zp9 _) fun r8 n9=>z0q fun x10 h11=>Ef Z (apn 3 Z Z Z (.own 4 Z) h11 tu52 ti5 Z Z Z) fun v12=>Za Z<|z1p<|z3c<|z3k (fun aa ww h=>⟨nvl [v12],Zu h [3]⟩)
   ·refine gKn 20 Z h7<|gSR<|Zq (B.eql Z Z)<|Zb Z<|gIf Z Z (fun h13=>?_) (fun h13=>?_)
    ·refine gKn 27 Z h13<|gSR<|Zb Z<|z29 (fun (s14:(List UInt8) × Int) aa ww=>∃ nv:Nat→Value,Sta (ctx 53 H [] w) [(1,.val (z07 v1 0)),(5,.val (nv 0)),(6,.rd z0f s14.2)] [(1,some (v1,.box 37 [.rd z18 a0])),(3,some ((nv 0),.list u8R 5 s14.1))] aa ww) (fun aa ww h=>⟨nvl [v5],Zu h [1,3]⟩) (fun s14=>?_);refine gEx fun n15=>z0x<|gSR<|Zm Z<|Zq (I.geq Z Z)<|Zj Z (fun h16=>?_) (fun h16=>?_)
     ·refine Zt<|z0x<|z4s<|z28<|Zm Z<|Zq (faB 1 Z Z Tryz.underlying37 Z (by exact zrn))<|Zq (ld 1 Z Z (fP (z38 _)) zux Z)<|Zm Z<|z0q fun u17 h18=>Zq (U.shr Z Z (z4z h18))<|Zq (U.toB Z tu35 tu5)<|Ef Z (lit (R:=u8R) ([(z6l a0.Bits ((s14.2:Int).toNat)).toUInt8]:List UInt8) 5 (pP Z Z<|pN) Z tu52 ti5 Z Z) fun v19=>z0q fun x20 h21=>Ef Z (apn 3 Z Z Z (.own 5 Z) h21 tu52 ti5 Z Z Z) fun v22=>Za Z<|z1p<|z3c<|z0y<|z28<|Zm Z<|Zq (I.sub Z Z)<|Za Z<|z24 6 Z fun y23=>z1p<|z1s (fun aa ww h=>⟨nvl [v22],Zu h [1,3]⟩)
     ·refine z27<|z19<|z1b<|z3c<|z3k (fun aa ww h=>⟨nvl [(n15 0)],Zu h [3]⟩)
    ·refine gKn 27 Z h13<|gSR<|Zq (B.eql Z Z)<|Zb Z<|gIf Z Z (fun h24=>?_) (fun h24=>?_)
     ·refine gKn 41 Z h24<|gSR<|Zq (faB 1 Z Z Tryz.underlying37 Z (by exact ti9))<|Zq (ld 1 Z Z (fP (z3a _)) ty9 Z)<|z0q fun u25 h26=>z13j Z Z h26 tu9 tu52 tu5<|Zc [] [(100,6)] Tryz.func59 Z (zfb _) fun r27 n28=>Zm Z<|Zq (ext Z Z)<|Zq (ext Z Z)<|Za Z<|Zb Z<|z28<|Zm Z<|Zm Z<|z0q fun x29 h30=>Ef Z (apn 3 Z Z Z (.own 6 Z) h30 tu52 ti5 Z Z Z) fun v31=>Za Z<|z1p<|z3c<|z3k (fun aa ww h=>⟨nvl [v31],Zu h [3]⟩)
     ·refine gKn 41 Z h24<|z30<|z3c<|z3k (fun aa ww h=>⟨nvl [v5],Zu h [3]⟩)
  ·refine gEx fun n32=>gSR<|Zm Z<|Za Z<|Zb Z<|z0n<|Ze [(n32 0)] [3] Z
def zen (a0:z05):Option ((List UInt8) × Int) :=
 ze0 ({ a0 with Sig:=(⟨0,0⟩:z0a) }) >>= fun r2 =>
 if r2 != 0 then
  some ([],r2)
 else
  zmz (({ a0 with Sig:=(⟨0,0⟩:z0a) }).Preds) >>= fun r5 =>
  z4n ((({ a0 with Sig:=(⟨0,0⟩:z0a) }).Author).toUInt64) >>= fun r7 =>
  z4n (({ a0 with Sig:=(⟨0,0⟩:z0a) }).Stamp) >>= fun r10 =>
  z2h [[111],r7,r5.1,r10,[(({ a0 with Sig:=(⟨0,0⟩:z0a) }).Act).Kind]] >>= fun r13 =>
  if ((({ a0 with Sig:=(⟨0,0⟩:z0a) }).Act).Kind)==1 then
   some (r13,0)
  else
   chk (((({ a0 with Sig:=(⟨0,0⟩:z0a) }).Act).Key).length≤281474976710656) >>= fun u18 =>
   zbx ((({ a0 with Sig:=(⟨0,0⟩:z0a) }).Act).Key) >>= fun r20 =>
   app 1 r13 r20.1 >>= fun x22 =>
   if ((({ a0 with Sig:=(⟨0,0⟩:z0a) }).Act).Kind)==4 then
    ze3 ((({ a0 with Sig:=(⟨0,0⟩:z0a) }).Act).Value) >>= fun r26 =>
    app 1 x22 r26.1 >>= fun x28 =>
    some (x28,0)
   else
    some (x22,0)
set_option maxHeartbeats 4000000 in
theorem zkh (a0:z05):z23 Tryz.prog 107 [.rd z03 a0] [] (zen a0) (fun r nv=>⟨[.val (nv 0),.rd z0f r.2],[(100,some (nv 0,.list u8R 5 r.1))]⟩):=by
 refine z2m 71 Tryz.func107 Z Z Z fun H w=>?_;refine gSR<|Eb Z (bx 1 Z) fun v1=>Za Z<|Zb Z<|gSR<|Zq (bld (x':=(⟨0,0⟩:z0a)) [(0,1),(1,1)] Tryz.underlying41 zqy Z zlc Z (Bld.done Z))<|Zq (faB 1 Z Z Tryz.underlying43 Z (by exact zqy))<|Es (sto 1 Z Z (fP (z3l _)) Z zqy)<|Zn<|z0x<|gSR<|Zq (ld 1 Z Z fH za3 Z)<|Zc [] [] Tryz.func106 Z (zfm _) fun r2 n3=>Zb Z<|gSR<|Zm Z<|Zq (I.neq Z Z)<|Zj Z (fun h4=>?_) (fun h4=>?_)
 ·refine gSR<|Zm Z<|Za Z<|Zb Z<|z0n<|z0u<|zlp u8R 5 2<|Ze [(.slice none 0 0)] [2] Z
 ·refine Zt<|gSR<|Zq (faB 1 Z Z Tryz.underlying43 Z (by exact z8j))<|Zq (ld 1 Z Z (fP (z0z _)) zbn Z)<|Zc [] [(100,3)] Tryz.func149 Z (zum _) fun r5 n6=>Zm Z<|Zq (ext Z Z)<|Zq (ext Z Z)<|Za Z<|Zb Z<|z0x<|gFrz 3 [23,5] Z (fS Z<|fS Z<|fN)<|zxx [(1,.val (z07 v1 0)),(5,.rd (z02 u8R) r5.1)] [(1,some (v1,.box 43 [.rd z03 ({ a0 with Sig:=(⟨0,0⟩:z0a) })]))] [1] (sS Z<|sS Z<|sN) (y1 Z)<|z83 fun r7 h9=>z83 fun r10 h12=>z83 fun r13 h15=>gOr [] [⟨4,none,[(0,none)]⟩,⟨1,some ([], fun nv=>(v1,.box 43 [.rd z03 ({ a0 with Sig:=(⟨0,0⟩:z0a) })])),[]⟩,⟨5,none,[(4,none)]⟩,⟨6,none,[(8,none)]⟩,⟨7,none,[(12,none)]⟩,⟨8,none,[(13,none)]⟩,⟨9,none,[(14,some ([6], fun nv=>((nv 6),.list u8R 5 r13)))]⟩] [⟨some (25,[], fun nv=>.rd (z02 u8R) [111]),[(0,0,true)],[1],[]⟩,pk 26 (.val (z07 v1 (0+0))) [(1,0,false)],pk 27 (.rd z0s (({ a0 with Sig:=(⟨0,0⟩:z0a) }).Author)) [(1,0,false)],pd 28 (.rd z1z ((({ a0 with Sig:=(⟨0,0⟩:z0a) }).Author).toUInt64)),⟨some (29,[], fun nv=>.rd (z02 u8R) r7),[(2,0,true)],[2],[]⟩,pd 30 (.rd (z02 u8R) r5.1),pk 31 (.val (z07 v1 (0+2))) [(1,0,false)],pk 32 (.rd z1z (({ a0 with Sig:=(⟨0,0⟩:z0a) }).Stamp)) [(1,0,false)],⟨some (33,[], fun nv=>.rd (z02 u8R) r10),[(3,0,true)],[3],[]⟩,pk 34 (.val (z07 v1 (0+3))) [(1,0,false)],pk 35 (.val (z07 v1 (0+3+0))) [(1,0,false)],pk 36 (.rd u8R ((({ a0 with Sig:=(⟨0,0⟩:z0a) }).Act).Kind)) [(1,0,false)],⟨some (37,[], fun nv=>.rd (z02 u8R) [(({ a0 with Sig:=(⟨0,0⟩:z0a) }).Act).Kind]),[(4,0,true)],[4],[]⟩,⟨some (38,[], fun nv=>.rd (z02 (z02 u8R)) [[111],r7,r5.1,r10,[(({ a0 with Sig:=(⟨0,0⟩:z0a) }).Act).Kind]]),[(5,0,true)],[5],[]⟩,⟨some (39,[6], fun nv=>.val (nv 6)),[(6,0,true)],[6],[]⟩,⟨some (7,[6], fun nv=>.val (nv 6)),[],[],[]⟩] mixed (oC (oFz (A1:=fun nv=>[(4,some ((nv 1),.list u8R 5 [111]))]) 4 1 (oEf 4 1 (fun nv E=>lit (R:=u8R) ([111]:List UInt8) 4 (pP Z Z<|pN) Z tu52 ti5 Z Z)))<|oC (oRn (fun nv E=>faB 1 Z Z Tryz.underlying43 Z (by exact z5u)))<|oC (oRn (fun nv E=>ld 1 Z Z (fP (z4f _)) z9k Z))<|oC (oRn (fun nv E=>W.toU Z tu34 tu35))<|oC (oFz (A1:=fun nv=>[(5,some ((nv 2),.list u8R 5 r7))]) 5 2 (oCl [2] [] [(100,5)] h9 Tryz.func57 Z (fun nv=>(z47 _)) (fun nv=>(Y1 Z)) (fun nv E=>rN)))<|oC (oRn (fun nv E=>mv Z))<|oC (oRn (fun nv E=>faB 1 Z Z Tryz.underlying43 Z (by exact zrn)))<|oC (oRn (fun nv E=>ld 1 Z Z (fP (z7u _)) zux Z))<|oC (oFz (A1:=fun nv=>[(6,some ((nv 3),.list u8R 5 r10))]) 6 3 (oCl [3] [] [(100,6)] h12 Tryz.func57 Z (fun nv=>(z47 _)) (fun nv=>(Y1 Z)) (fun nv E=>rN)))<|oC (oRn (fun nv E=>faB 1 Z Z Tryz.underlying43 Z (by exact zn7)))<|oC (oRn (fun nv E=>faB 1 Z Z Tryz.underlying39 Z (by exact ti5)))<|oC (oRn (fun nv E=>ld 1 Z Z ((fP (z2p _)).part (z2r _)) ty5 Z))<|oC (oFz (A1:=fun nv=>[(7,some ((nv 4),.list u8R 5 [(({ a0 with Sig:=(⟨0,0⟩:z0a) }).Act).Kind]))]) 7 4 (oEf 7 4 (fun nv E=>lit (R:=u8R) ([(({ a0 with Sig:=(⟨0,0⟩:z0a) }).Act).Kind]:List UInt8) 7 (pP Z Z<|pN) Z tu52 ti5 Z Z)))<|oC (oFz (A1:=fun nv=>[(8,some ((nv 5),.list (z02 u8R) 52 [[111],r7,r5.1,r10,[(({ a0 with Sig:=(⟨0,0⟩:z0a) }).Act).Kind]]))]) 8 5 (oEf 8 5 (fun nv E=>lit (R:=(z02 u8R)) ([[111],r7,r5.1,r10,[(({ a0 with Sig:=(⟨0,0⟩:z0a) }).Act).Kind]]:List (List UInt8)) 8 (pP Z Z<|pP Z Z<|pP Z Z<|pP Z Z<|pP Z Z<|pN) Z tu193 zet Z Z)))<|oC (oCl [6] [] [(100,9)] h15 Tryz.func108 Z (fun nv=>(z6o _)) (fun nv=>(Y1 Z)) (fun nv E=>rN))<|oC (oRn (fun nv E=>asg Z))<|oN) fun n16=>z0y<|z0x<|gSR<|Zq (faB 1 Z Z Tryz.underlying43 Z (by exact zn7))<|Zq (faB 1 Z Z Tryz.underlying39 Z (by exact ti5))<|Zq (ld 1 Z Z ((fP (z2p _)).part (z2r _)) ty5 Z)<|Zq (B.eql Z Z)<|Zj Z (fun h17=>?_) (fun h17=>?_)
  ·refine gSR<|Zm Z<|Za Z<|Zb Z<|z0n<|z0u<|Ze [(n16 6)] [9] Z
  ·refine Zt<|gSR<|Zq (faB 1 Z Z Tryz.underlying43 Z (by exact zn7))<|Zq (faB 1 Z Z Tryz.underlying39 Z (by exact ti9))<|Zq (ld 1 Z Z ((fP (z2p _)).part (z43 _)) ty9 Z)<|z0q fun u18 h19=>z13j Z Z h19 tu9 tu52 tu5<|Zc [] [(100,10)] Tryz.func59 Z (zfb _) fun r20 n21=>Zm Z<|Zq (ext Z Z)<|Zq (ext Z Z)<|Za Z<|Zb Z<|gSR<|Zm Z<|Zm Z<|z0q fun x22 h23=>Ef Z (apn 9 Z Z Z (.own 10 Z) h23 tu52 ti5 Z Z Z) fun v24=>Zb Z<|z0x<|gSR<|Zq (faB 1 Z Z Tryz.underlying43 Z (by exact zn7))<|Zq (faB 1 Z Z Tryz.underlying39 Z (by exact ti5))<|Zq (ld 1 Z Z ((fP (z2p _)).part (z2r _)) ty5 Z)<|Zq (B.eql Z Z)<|Zj Z (fun h25=>?_) (fun h25=>?_)
   ·refine gSR<|Zq (faB 1 Z Z Tryz.underlying43 Z (by exact zn7))<|Zq (faB 1 Z Z Tryz.underlying39 Z (by exact zel))<|Zq (ld 1 Z Z ((fP (z2p _)).part (z4g _)) zot Z)<|Zc [] [(100,11)] Tryz.func150 Z (zoa _) fun r26 n27=>Zm Z<|Zq (ext Z Z)<|Zq (ext Z Z)<|Za Z<|Zb Z<|z28<|Zm Z<|Zm Z<|z0q fun x28 h29=>Ef Z (apn 9 Z Z Z (.own 11 Z) h29 tu52 ti5 Z Z Z) fun v30=>Zb Z<|gSR<|Zm Z<|Za Z<|Zb Z<|z0n<|Ze [v30] [9] Z
   ·refine Zt<|gSR<|Zm Z<|Za Z<|Zb Z<|z0n<|Ze [v24] [9] Z
def zdc (a0:z05):Option ((List UInt8) × Int) :=
 ze0 a0 >>= fun r2 =>
 if r2 != 0 then
  some ([],r2)
 else
  zen a0 >>= fun r5 =>
  z4n a0.Sig.E.toUInt64 >>= fun r7 =>
  z4n a0.Sig.S.toUInt64 >>= fun r9 =>
  z2h [r5.1,r7,r9] >>= fun r12 =>
  some (r12,0)
theorem zlz (a0:z05):z23 Tryz.prog 58 [.rd z03 a0] [] (zdc a0) (fun r nv=>⟨[.val (nv 0),.rd z0f r.2],[(100,some (nv 0,.list u8R 5 r.1))]⟩):=by
 refine z2m 30 Tryz.func58 Z Z Z fun H w=>?_;refine gSR<|Eb Z (bx 1 Z) fun v1=>Za Z<|Zb Z<|z0x<|gSR<|Zq (ld 1 Z Z fH za3 Z)<|Zc [] [] Tryz.func106 Z (zfm _) fun r2 n3=>Zb Z<|gSR<|Zm Z<|Zq (I.neq Z Z)<|Zj Z (fun h4=>?_) (fun h4=>?_)
 ·refine gSR<|Zm Z<|Za Z<|Zb Z<|z0n<|z0u<|zlp u8R 5 2<|Ze [(.slice none 0 0)] [2] Z
 ·refine Zt<|gSR<|Zq (ld 1 Z Z fH za3 Z)<|Zc [] [(100,3)] Tryz.func107 Z (zkh _) fun r5 n6=>Zm Z<|Zq (ext Z Z)<|Zq (ext Z Z)<|Za Z<|Zb Z<|z0x<|z9u [19,34,37,40] mixed Z Z<|hTk 0 Z Z (mv Z)<|hTk 1 Z Z (faB 1 Z Z Tryz.underlying43 Z (by exact zqy))<|hTk 2 Z Z (faB 1 Z Z Tryz.underlying41 Z (by exact z5u))<|hTk 3 Z Z (ld 1 Z Z ((fP (z3l _)).part (z4h _)) z9k Z)<|hTk 4 Z Z (W.toU Z tu34 tu35)<|hTk 6 Z Z (faB 1 Z Z Tryz.underlying43 Z (by exact zqy))<|hTk 7 Z Z (faB 1 Z Z Tryz.underlying41 Z (by exact z5u))<|hTk 8 Z Z (ld 1 Z Z ((fP (z3l _)).part (z5s _)) z9k Z)<|hTk 9 Z Z (W.toU Z tu34 tu35)<|z5t 5 [] [(100,19)] Z (by kernel_rfl) Z (gd0 Z) Z Tryz.func57 Z Z (z47 _) (Y1 Z) rN Z (fun _ _=>z3t) fun r7 n8=>z5t 10 [] [(100,34)] Z (by kernel_rfl) Z (gd0 Z) Z Tryz.func57 Z Z (z47 _) (Y1 Z) rN Z (fun _ _=>z3t) fun r9 n10=>hFrz 3 [15,5,17] Z (fS Z<|fS Z<|fS Z<|fN)<|hFrz 19 [22] Z (fS Z<|fN)<|hFrz 34 [27] Z (fS Z<|fN)<|Zo 11 Z Z Z (lit (R:=(z02 u8R)) ([r5.1,r7,r9]:List (List UInt8)) 37 (pP Z Z<|pP Z Z<|pP Z Z<|pN) Z tu193 zet Z Z) fun v11=>hFrz 37 [28] Z (fS Z<|fN)<|z5t 12 [] [(100,40)] Z (by kernel_rfl) Z (gd0 Z) Z Tryz.func108 Z Z (z6o _) (Y1 Z) rN Z (fun _ _=>z3t) fun r12 n13=>Zf 13 Z Z z3t (asg Z)<|hTk 14 Z Z (asg Z)<|z6e (by kernel_rfl)<|z0y<|z0n<|Ze [(n13 0)] [40] Z
def zdl (a0:List UInt8):Option (Bool) :=
 some (decide (10000<(a0.length:Int))) >>= fun y1 =>
 some y1
theorem zjr (a0:List UInt8):z23 Tryz.prog 196 [.rd (z02 u8R) a0] [] (zdl a0) (fun r nv=>⟨[.rd z0h r],[]⟩):=by
 refine z2m 6 Tryz.func196 Z Z Z fun H w=>?_;refine gSR<|Zb Z<|gSR<|Zm Z<|Zq (z3e Z .rd Z tu52)<|Zq (I.gtr Z Z)<|Za Z<|z24 2 Z fun y1=>Zn<|z0n<|Ze [] [] Z
def zdv  : Option (z2q) :=
 some (⟨(#v[1779033703,3144134277,1013904242,2773480762,1359893119,2600822924,528734635,1541459225]:Vector UInt32 8),[],0⟩:z2q)
theorem zop  : z23 Tryz.prog 197 [] [] (zdv) (fun r nv=>⟨[.rd z2y r],[]⟩):=by
 refine z2m 3 Tryz.func197 Z Z Z fun H w=>?_;refine gSR<|Eb Z (z6n 1 zpd (ZrE.rd (R:=(z3i 8 z0s)) (x:=(Vector.replicate 8 0)) zt4 (ZrE.nilS (ZrE.rd (R:=z0f) (x:=0) (Zr.num Z) ZrE.nil Z)) Z)) fun v1=>Zn<|gSR<|Zq (litA (R:=z0s) [1779033703,3144134277,1013904242,2773480762,1359893119,2600822924,528734635,1541459225] (#v[1779033703,3144134277,1013904242,2773480762,1359893119,2600822924,528734635,1541459225]:Vector UInt32 8) (pP Z Z<|pP Z Z<|pP Z Z<|pP Z Z<|pP Z Z<|pP Z Z<|pP Z Z<|pP Z Z<|pN) Z tu149 zi1 Z z5u)<|Zq (zuc [(0,8),(8,1),(9,1)] Tryz.underlying243 zpd (ZrE.rd (R:=(z3i 8 z0s)) (x:=(Vector.replicate 8 0)) zt4 (ZrE.nilS (ZrE.rd (R:=z0f) (x:=0) (Zr.num Z) ZrE.nil Z)) Z) Z (zi7.cons Z Z z09 (z7f.cast (z7f.here z09) Z)<|zi7.done Z))<|Es (zpl 1 Z Z (z06.cast (z06.cons z09 (z06.cons z08 (z06.cons z09 z06.nil))) Z) Z (z1e.cons z1n (z1e.cons z12 (z1e.cons z1n z1e.nil))) (z06.cast (z06.cons z09 (z06.cons z08 (z06.cons z09 z06.nil))) Z) zpd)<|Zn<|z0n<|zn8 u8R [.rd (z3i 8 z0s) (#v[1779033703,3144134277,1013904242,2773480762,1359893119,2600822924,528734635,1541459225]:Vector UInt32 8),.rd (z02 u8R) [],.rd z0f 0] 1 [.rd (z3i 8 z0s) (#v[1779033703,3144134277,1013904242,2773480762,1359893119,2600822924,528734635,1541459225]:Vector UInt32 8)] [.rd z0f 0] Z Z Z<|zxn (R:=z2y) (⟨(#v[1779033703,3144134277,1013904242,2773480762,1359893119,2600822924,528734635,1541459225]:Vector UInt32 8),[],0⟩:z2q) 1 Z (Sp.via (Sp.prod (Sp.prod (Sp.prod Sp.unit))))<|zbm [] [] Z (eC 1 Z Z zsu<|eN) (rN)
def z1y (a0:UInt32) (a1:Int):Option (UInt32) :=
 some ((UInt64.ofInt a1) &&& 31) >>= fun y1 =>
 some ((zr5 a0 y1.toNat) ||| (z4i a0 ((32 - y1).toNat))) >>= fun y2 =>
 some y2
theorem z2k (a0:UInt32) (a1:Int):z23 Tryz.prog 238 [.rd z0s a0,.rd z0f a1] [] (z1y a0 a1) (fun r nv=>⟨[.rd z0s r],[]⟩):=by
 refine z2m 17 Tryz.func238 Z Z Z fun H w=>?_;refine gSR<|Zb Z<|gSR<|Zm Z<|Zq (I.toU Z tu3 Tryz.underlying143)<|Zq (U.and Z Z)<|Za Z<|z24 5 Z fun y1=>Zn<|gSR<|Zm Z<|Zm Z<|Zq (W.shl Z Z (Int.natCast_nonneg _))<|Zm Z<|Zm Z<|Zq (U.sub Z Z)<|Zq (W.shr Z Z (Int.natCast_nonneg _))<|Zq (W.or Z Z)<|Za Z<|z24 4 Z fun y2=>Zn<|z0n<|Ze [] [] Z
def z6x (x3:List UInt8) (s5:(Vector UInt32 64) × Int):Option (Sum ((Vector UInt32 64)) ((Vector UInt32 64) × Int)) :=
 if decide (s5.2<(x3.length:Int)) then
  idx x3 s5.2 >>= fun x7 =>
  z84 s5.1 (w64 (Int.tdiv s5.2 4)) >>= fun x9 =>
  z84 s5.1 (w64 (Int.tdiv s5.2 4)) >>= fun x11 =>
  some (.inr (zjl s5.1 (w64 (Int.tdiv s5.2 4)) ((zr5 x9 8) ||| x7.toUInt32),w64 (s5.2+1)))
 else
  some (.inl s5.1)
def z51 (s14:(Vector UInt32 64) × Int):Option (Sum ((Vector UInt32 64)) ((Vector UInt32 64) × Int)) :=
 if decide (s14.2<64) then
  z84 s14.1 (w64 (s14.2 - 15)) >>= fun x16 =>
  z84 s14.1 (w64 (s14.2 - 2)) >>= fun x18 =>
  z1y x16 (-7) >>= fun r20 =>
  z1y x16 (-18) >>= fun r22 =>
  some ((r20 ^^^ r22) ^^^ (z4i x16 3)) >>= fun y24 =>
  z1y x18 (-17) >>= fun r25 =>
  z1y x18 (-19) >>= fun r27 =>
  some ((r25 ^^^ r27) ^^^ (z4i x18 10)) >>= fun y29 =>
  z84 s14.1 (w64 (s14.2 - 16)) >>= fun x30 =>
  z84 s14.1 (w64 (s14.2 - 7)) >>= fun x32 =>
  z84 s14.1 s14.2 >>= fun x34 =>
  some (w64 (s14.2+1)) >>= fun y37 =>
  some (.inr (zjl s14.1 s14.2 (((x30+x32)+y24)+y29),y37))
 else
  some (.inl s14.1)
def zdf (a0:List UInt8):Option ((Vector UInt32 64)) :=
 (cut a0 0 64 >>= fun x3 =>
 iter (z6x x3) ((Vector.replicate 64 0),0)) >>= fun s2 =>
 (iter (z51) (s2,16)) >>= fun s13 =>
 some s13
set_option maxHeartbeats 4000000 in
theorem zkb (a0:List UInt8):z23 Tryz.prog 235 [.rd (z02 u8R) a0] [] (zdf a0) (fun r nv=>⟨[.rd (z3i 64 z0s) r],[]⟩):=by
 refine z2m 74 Tryz.func235 Z Z Z fun H w=>?_;refine gSR<|Eb Z (z6n 1 z12b (.zr (R:=(z3i 64 z0s)) (x:=(Vector.replicate 64 0)) z19j)) fun v1=>Zn<|z7x (fun (s2:(Vector UInt32 64)) aa ww=>Sta (ctx 74 H [] w) [(2,.val (z07 v1 0))] [(1,some (v1,.box 279 [.rd (z3i 64 z0s) s2]))] aa ww) ?_ (fun s2=>?_)
 ·refine gSR<|Zm Z<|z0q fun x3 h4=>Zq (zud Z .no (.to Z) h4 tu52 ti5)<|Zq (z3e Z .rd Z tu52)<|Zm Z<|Zn<|z29 (fun (s5:(Vector UInt32 64) × Int) aa ww=>Sta (ctx 74 H [] w) [(2,.val (z07 v1 0)),(11,.rd (z02 u8R) x3),(12,.rd z0f (x3.length:Int)),(13,.rd z0f s5.2)] [(1,some (v1,.box 279 [.rd (z3i 64 z0s) s5.1]))] aa ww) (fun aa ww h=>Zu h [1]) (fun s5=>?_);refine gSR<|Zq (I.lss Z Z)<|Zn<|z0x<|gIf Z Z (fun h6=>?_) (fun h6=>?_)
  ·refine Zt<|z0x<|z4s<|gSR<|Zm Z<|z0q fun x7 h8=>Zq (ixR Z Z h8 tu52 ti5 Z)<|Zq (ldR Z ty5)<|Za Z<|Zb Z<|z28<|Zm Z<|Zq (I.quo Z Z (by decide))<|Zm Z<|Zq (I.quo Z Z (by decide))<|z0q fun x9 h10=>Zq (ixB 1 Z Z Z h10 Tryz.underlying279 z5u)<|Zq (ld 1 Z Z (fP (.el h10)) z9k Z)<|Zq (W.shl Z Z (Int.natCast_nonneg _))<|Zm Z<|Zq (B.toW Z tu5 tu34)<|Zq (W.or Z Z)<|z0q fun x11 h12=>Zq (ixB 1 Z Z Z h12 Tryz.underlying279 z5u)<|Es (sto 1 Z Z (fP (.el h12)) Z z5u)<|z1p<|z3c<|z0y<|z28<|Zq (I.add Z Z)<|Zm Z<|z1p<|z1s (fun aa ww h=>Zu h [1])
  ·refine z27<|z19<|z1b<|z3k (fun aa ww h=>Zu h [1])
 ·refine z7x (fun (s13:(Vector UInt32 64)) aa ww=>Sta (ctx 74 H [] w) [(2,.val (z07 v1 0))] [(1,some (v1,.box 279 [.rd (z3i 64 z0s) s13]))] aa ww) ?_ (fun s13=>?_)
  ·refine gSR<|Zb Z<|z29 (fun (s14:(Vector UInt32 64) × Int) aa ww=>Sta (ctx 74 H [] w) [(2,.val (z07 v1 0)),(5,.rd z0f s14.2)] [(1,some (v1,.box 279 [.rd (z3i 64 z0s) s14.1]))] aa ww) (fun aa ww h=>Zu h [1]) (fun s14=>?_);refine z0x<|gSR<|Zm Z<|Zq (I.lss Z Z)<|Zj Z (fun h15=>?_) (fun h15=>?_)
   ·refine Zt<|z0x<|z4s<|z0x<|zix mixed (by kernel_rfl)<|Rq Z (mv Z)<|Rq Z (I.sub Z Z)<|z8n fun x16 h17=>Rq Z (ixB 1 Z Z Z h17 Tryz.underlying279 z5u)<|Rq Z (ld 1 Z Z (fP (.el h17)) z9k Z)<|Rq Z (mv Z)<|Rq Z (I.sub Z Z)<|z8n fun x18 h19=>Rq Z (ixB 1 Z Z Z h19 Tryz.underlying279 z5u)<|Rq Z (ld 1 Z Z (fP (.el h19)) z9k Z)<|Rq Z (asg Z)<|Rq Z (asg Z)<|zvk<|z0y<|gSR<|Zm Z<|Zc [] [] Tryz.func238 Z (z2k _ _) fun r20 n21=>Zm Z<|Zc [] [] Tryz.func238 Z (z2k _ _) fun r22 n23=>Zq (W.xor Z Z)<|Zm Z<|Zq (W.shr Z Z (Int.natCast_nonneg _))<|Zq (W.xor Z Z)<|Za Z<|z24 8 Z fun y24=>Zn<|gSR<|Zm Z<|Zc [] [] Tryz.func238 Z (z2k _ _) fun r25 n26=>Zm Z<|Zc [] [] Tryz.func238 Z (z2k _ _) fun r27 n28=>Zq (W.xor Z Z)<|Zm Z<|Zq (W.shr Z Z (Int.natCast_nonneg _))<|Zq (W.xor Z Z)<|Za Z<|z24 9 Z fun y29=>Zn<|zxx [(2,.val (z07 v1 0)),(5,.rd z0f s14.2),(8,.rd z0s y24),(9,.rd z0s y29)] [(1,some (v1,.box 279 [.rd (z3i 64 z0s) s14.1]))] [1] (Zs Z Z Z Z<|sN) (y1 Z)<|z83 fun x30 h31=>z83 fun x32 h33=>z83 fun x34 h35=>gOr [] [⟨1,some ([], fun nv=>(v1,.box 279 [.rd (z3i 64 z0s) s14.1])),[(15,some ([], fun nv=>(v1,.box 279 [.rd (z3i 64 z0s) (zjl s14.1 s14.2 (((x30+x32)+y24)+y29))])))]⟩] [pd 58 (.rd z0f s14.2),pd 59 (.rd z0f s14.2),pd 60 (.rd z0f (w64 (s14.2 - 16))),pk 61 (.val (z07 v1 (0+(w64 (s14.2 - 16):Int).toNat * 1))) [(0,0,false)],pk 62 (.rd z0s x30) [(0,0,false)],pd 63 (.rd z0f s14.2),pd 64 (.rd z0f (w64 (s14.2 - 7))),pk 65 (.val (z07 v1 (0+(w64 (s14.2 - 7):Int).toNat * 1))) [(0,0,false)],pk 66 (.rd z0s x32) [(0,0,false)],pd 67 (.rd z0s (x30+x32)),pd 68 (.rd z0s y24),pd 69 (.rd z0s ((x30+x32)+y24)),pd 70 (.rd z0s y29),pd 71 (.rd z0s (((x30+x32)+y24)+y29)),pk 72 (.val (z07 v1 (0+(s14.2:Int).toNat * 1))) [(0,0,false)],⟨none,[(0,0,true)],[],[]⟩] mixed (oC (oRn (fun nv E=>mv Z))<|oC (oRn (fun nv E=>mv Z))<|oC (oRn (fun nv E=>I.sub Z Z))<|oC (oRn (fun nv E=>ixB 1 Z Z Z h31 Tryz.underlying279 z5u))<|oC (oRn (fun nv E=>ld 1 Z Z (fP (.el h31)) z9k Z))<|oC (oRn (fun nv E=>mv Z))<|oC (oRn (fun nv E=>I.sub Z Z))<|oC (oRn (fun nv E=>ixB 1 Z Z Z h33 Tryz.underlying279 z5u))<|oC (oRn (fun nv E=>ld 1 Z Z (fP (.el h33)) z9k Z))<|oC (oRn (fun nv E=>W.add Z Z))<|oC (oRn (fun nv E=>mv Z))<|oC (oRn (fun nv E=>W.add Z Z))<|oC (oRn (fun nv E=>mv Z))<|oC (oRn (fun nv E=>W.add Z Z))<|oC (oRn (fun nv E=>ixB 1 Z Z Z h35 Tryz.underlying279 z5u))<|oC (oEs 1 (fun nv E=>sto 1 Z Z (fP (.el h35)) Z z5u))<|oN) fun n36=>z3c<|z0y<|z28<|Zm Z<|Zq (I.add Z Z)<|Za Z<|z24 5 Z fun y37=>z1p<|z1s (fun aa ww h=>Zu h [1])
   ·refine z27<|z19<|z1b<|z3k (fun aa ww h=>Zu h [1])
  ·refine gSR<|Zq (ld 1 Z Z fH z1av Z)<|Es (sto 1 Z Z fH Z z12b)<|Zn<|z0n<|zbm [] [] Z (eC 1 Z Z z1av<|eN) (rN)
def zeq (a0:UInt32) (a1:Int) (a2:Int) (a3:Int):Option (UInt32) :=
 z1y a0 (w64 (0 - a1)) >>= fun r1 =>
 z1y a0 (w64 (0 - a2)) >>= fun r3 =>
 z1y a0 (w64 (0 - a3)) >>= fun r5 =>
 some ((r1 ^^^ r3) ^^^ r5) >>= fun y7 =>
 some y7
theorem zk7 (a0:UInt32) (a1:Int) (a2:Int) (a3:Int):z23 Tryz.prog 236 [.rd z0s a0,.rd z0f a1,.rd z0f a2,.rd z0f a3] [] (zeq a0 a1 a2 a3) (fun r nv=>⟨[.rd z0s r],[]⟩):=by
 refine z2m 23 Tryz.func236 Z Z Z fun H w=>?_;refine gSR<|Zb Z<|gSR<|Zm Z<|Zm Z<|Zq (I.neg Z)<|Zc [] [] Tryz.func238 Z (z2k _ _) fun r1 n2=>Zm Z<|Zm Z<|Zq (I.neg Z)<|Zc [] [] Tryz.func238 Z (z2k _ _) fun r3 n4=>Zq (W.xor Z Z)<|Zm Z<|Zm Z<|Zq (I.neg Z)<|Zc [] [] Tryz.func238 Z (z2k _ _) fun r5 n6=>Zq (W.xor Z Z)<|Za Z<|z24 8 Z fun y7=>Zn<|z0n<|Ze [] [] Z
def z8v (a0:List UInt8):Option ((List UInt8)) :=
 app 1 ([]:List UInt8) a0 >>= fun x3 =>
 some x3
theorem zac (a0:List UInt8):z23 Tryz.prog 225 [.rd (z02 u8R) a0] [] (z8v a0) (fun r nv=>⟨[.val (nv 0)],[(100,some (nv 0,.list u8R 5 r))]⟩):=by
 refine z2m 8 Tryz.func225 Z Z Z fun H w=>?_;refine gSR<|Zb Z<|z0x<|gSR<|Zm Z<|z17m Z Z .rd Z tu52 (fun h1=>?_) ?_
 ·subst h1;refine Zn<|zes Z<|gSR<|Zb Z<|z0n<|z0u<|zlp u8R 5 1<|Ze [(.slice none 0 0)] [1] Z
 ·refine Zn<|zgc Z<|Zt<|gSR<|Ef Z (lit (R:=u8R) (([]:List UInt8):List UInt8) 2 (pN) Z tu52 ti5 Z Z) fun v2=>Zm Z<|z0q fun x3 h4=>Ef Z (apn 2 Z Z Z .rd h4 tu52 ti5 Z Z Z) fun v5=>Zb Z<|z0n<|Ze [v5] [2] Z
def z63 (r1:(Vector UInt32 64)) (s21:UInt32 × UInt32 × UInt32 × UInt32 × UInt32 × UInt32 × UInt32 × UInt32 × Int):Option (Sum (UInt32 × UInt32 × UInt32 × UInt32 × UInt32 × UInt32 × UInt32 × UInt32) (UInt32 × UInt32 × UInt32 × UInt32 × UInt32 × UInt32 × UInt32 × UInt32 × Int)) :=
 if decide (s21.2.2.2.2.2.2.2.2<64) then
  z84 z6j s21.2.2.2.2.2.2.2.2 >>= fun x23 =>
  z84 r1 s21.2.2.2.2.2.2.2.2 >>= fun x25 =>
  zeq s21.2.2.2.2.1 6 11 25 >>= fun r27 =>
  some ((((s21.2.2.2.2.2.2.2.1+r27)+((s21.2.2.2.2.1 &&& s21.2.2.2.2.2.1) ^^^ ((~~~s21.2.2.2.2.1) &&& s21.2.2.2.2.2.2.1)))+x23)+x25) >>= fun y29 =>
  zeq s21.1 2 13 22 >>= fun r30 =>
  some (r30+(((s21.1 &&& s21.2.1) ^^^ (s21.1 &&& s21.2.2.1)) ^^^ (s21.2.1 &&& s21.2.2.1))) >>= fun y32 =>
  some (s21.2.2.2.1+y29) >>= fun y33 =>
  some (.inr (y29+y32,s21.1,s21.2.1,s21.2.2.1,y33,s21.2.2.2.2.1,s21.2.2.2.2.2.1,s21.2.2.2.2.2.2.1,w64 (s21.2.2.2.2.2.2.2.2+1)))
 else
  some (.inl (s21.1,s21.2.1,s21.2.2.1,s21.2.2.2.1,s21.2.2.2.2.1,s21.2.2.2.2.2.1,s21.2.2.2.2.2.2.1,s21.2.2.2.2.2.2.2.1))
def zdn (s20:UInt32 × UInt32 × UInt32 × UInt32 × UInt32 × UInt32 × UInt32 × UInt32) (s34:(Vector UInt32 8) × Int):Option (Sum ((Vector UInt32 8)) ((Vector UInt32 8) × Int)) :=
 if decide (s34.2<8) then
  z84 (#v[s20.1,s20.2.1,s20.2.2.1,s20.2.2.2.1,s20.2.2.2.2.1,s20.2.2.2.2.2.1,s20.2.2.2.2.2.2.1,s20.2.2.2.2.2.2.2]:Vector UInt32 8) s34.2 >>= fun x36 =>
  z84 s34.1 s34.2 >>= fun x38 =>
  z84 s34.1 s34.2 >>= fun x40 =>
  some (.inr (zjl s34.1 s34.2 (x38+x36),w64 (s34.2+1)))
 else
  some (.inl s34.1)
def zdy (c0:Vector UInt32 8) (a1:List UInt8):Option ((Vector UInt32 8)) :=
 zdf a1 >>= fun r1 =>
 z84 c0 0 >>= fun x4 =>
 z84 c0 1 >>= fun x6 =>
 z84 c0 2 >>= fun x8 =>
 z84 c0 3 >>= fun x10 =>
 z84 c0 4 >>= fun x12 =>
 z84 c0 5 >>= fun x14 =>
 z84 c0 6 >>= fun x16 =>
 z84 c0 7 >>= fun x18 =>
 (iter (z63 r1) (x4,x6,x8,x10,x12,x14,x16,x18,0)) >>= fun s20 =>
 iter (zdn s20) (c0,0)
theorem zng (ph0:Value) (kh0:Nat) (uh0:(Vector UInt32 8)→z42) (hh0:∀ y,Foc (uh0 y) kh0 (z3i 8 z0s) y uh0) (c0:Vector UInt32 8) (a1:List UInt8):z23 Tryz.prog 224 [.val (z07 ph0 kh0),.rd (z02 u8R) a1] [(1,some (ph0,uh0 c0)),zG1] (zdy c0 a1) (fun r nv=>⟨[],[(1,some (ph0,uh0 r)),(1001,some (.bool true,.glob 1 (z3i 64 z0s) z6j))]⟩):=by
 refine z2m 126 Tryz.func224 Z Z Z fun H w=>?_;refine gSR<|Zm Z<|Zc [] [] Tryz.func235 Z (zkb _) fun r1 n2=>Eb Z (z6n 2 z12b (.zr (R:=(z3i 64 z0s)) (x:=(Vector.replicate 64 0)) z19j)) fun v3=>Es (sto 2 Z Z fH Z z12b)<|Zn<|z0x<|zix mixed (by kernel_rfl)<|Rq Z (mv Z)<|Rq Z (zdu 1 Z Z (hh0 _))<|z8n fun x4 h5=>Rq Z (ixH 1 Z Z (hh0 _) Z h5 tu149 z5u)<|Rq Z (ld 1 Z Z ((hh0 _).part (.el h5)) z9k Z)<|Rq Z (mv Z)<|Rq Z (zdu 1 Z Z (hh0 _))<|z8n fun x6 h7=>Rq Z (ixH 1 Z Z (hh0 _) Z h7 tu149 z5u)<|Rq Z (ld 1 Z Z ((hh0 _).part (.el h7)) z9k Z)<|Rq Z (mv Z)<|Rq Z (zdu 1 Z Z (hh0 _))<|z8n fun x8 h9=>Rq Z (ixH 1 Z Z (hh0 _) Z h9 tu149 z5u)<|Rq Z (ld 1 Z Z ((hh0 _).part (.el h9)) z9k Z)<|Rq Z (mv Z)<|Rq Z (zdu 1 Z Z (hh0 _))<|z8n fun x10 h11=>Rq Z (ixH 1 Z Z (hh0 _) Z h11 tu149 z5u)<|Rq Z (ld 1 Z Z ((hh0 _).part (.el h11)) z9k Z)<|Rq Z (mv Z)<|Rq Z (zdu 1 Z Z (hh0 _))<|z8n fun x12 h13=>Rq Z (ixH 1 Z Z (hh0 _) Z h13 tu149 z5u)<|Rq Z (ld 1 Z Z ((hh0 _).part (.el h13)) z9k Z)<|Rq Z (mv Z)<|Rq Z (zdu 1 Z Z (hh0 _))<|z8n fun x14 h15=>Rq Z (ixH 1 Z Z (hh0 _) Z h15 tu149 z5u)<|Rq Z (ld 1 Z Z ((hh0 _).part (.el h15)) z9k Z)<|Rq Z (mv Z)<|Rq Z (zdu 1 Z Z (hh0 _))<|z8n fun x16 h17=>Rq Z (ixH 1 Z Z (hh0 _) Z h17 tu149 z5u)<|Rq Z (ld 1 Z Z ((hh0 _).part (.el h17)) z9k Z)<|Rq Z (mv Z)<|Rq Z (zdu 1 Z Z (hh0 _))<|z8n fun x18 h19=>Rq Z (ixH 1 Z Z (hh0 _) Z h19 tu149 z5u)<|Rq Z (ld 1 Z Z ((hh0 _).part (.el h19)) z9k Z)<|Rq Z (asg Z)<|Rq Z (asg Z)<|Rq Z (asg Z)<|Rq Z (asg Z)<|Rq Z (asg Z)<|Rq Z (asg Z)<|Rq Z (asg Z)<|Rq Z (asg Z)<|zvk<|z0y<|z7x (fun (s20:UInt32 × UInt32 × UInt32 × UInt32 × UInt32 × UInt32 × UInt32 × UInt32) aa ww=>Sta (ctx 126 H [(1,some (ph0,uh0 c0)),zG1] w) [(0,.val (z07 ph0 kh0)),(5,.rd z0s s20.1),(6,.rd z0s s20.2.1),(7,.rd z0s s20.2.2.1),(8,.rd z0s s20.2.2.2.1),(9,.rd z0s s20.2.2.2.2.1),(10,.rd z0s s20.2.2.2.2.2.1),(11,.rd z0s s20.2.2.2.2.2.2.1),(12,.rd z0s s20.2.2.2.2.2.2.2)] [(1,some (ph0,uh0 c0)),zG1] aa ww) ?_ (fun s20=>?_)
 ·refine gSR<|Zm Z<|Zn<|z29 (fun (s21:UInt32 × UInt32 × UInt32 × UInt32 × UInt32 × UInt32 × UInt32 × UInt32 × Int) aa ww=>Sta (ctx 126 H [(1,some (ph0,uh0 c0)),zG1] w) [(0,.val (z07 ph0 kh0)),(4,.val (z07 v3 0)),(5,.rd z0s s21.1),(6,.rd z0s s21.2.1),(7,.rd z0s s21.2.2.1),(8,.rd z0s s21.2.2.2.1),(9,.rd z0s s21.2.2.2.2.1),(10,.rd z0s s21.2.2.2.2.2.1),(11,.rd z0s s21.2.2.2.2.2.2.1),(12,.rd z0s s21.2.2.2.2.2.2.2.1),(52,.rd z0f s21.2.2.2.2.2.2.2.2)] [(1,some (ph0,uh0 c0)),(2,some (v3,.box 279 [.rd (z3i 64 z0s) r1])),zG1] aa ww) (fun aa ww h=>Zu h [1,2,1001]) (fun s21=>?_)
  refine gSR<|Zq (I.lss Z Z)<|Zn<|z0x<|gIf Z Z (fun h22=>?_) (fun h22=>?_)
  ·refine Zt<|z0x<|z4s<|gSR<|Zm Z<|Zb Z<|z0x<|z9u [] mixed Z Z<|hTk 0 Z Z (mv Z)<|hTk 1 Z Z (mv Z)<|hTk 4 Z Z (mv Z)<|hTk 5 Z Z (mv Z)<|hTk 6 Z Z (W.and Z Z)<|hTk 7 Z Z (mv Z)<|hTk 8 Z Z (W.cpl Z)<|hTk 9 Z Z (mv Z)<|hTk 10 Z Z (W.and Z Z)<|hTk 11 Z Z (W.xor Z Z)<|hTk 13 Z Z (mv Z)<|z5n fun x23 h24=>hTk 14 Z Z (ixG 1001 Z Z h24 Tryz.underlying279 z5u)<|hTk 15 Z Z (ldR Z z9k)<|hTk 17 Z Z (mv Z)<|z5n fun x25 h26=>hTk 18 Z Z (ixB 2 Z Z Z h26 Tryz.underlying279 z5u)<|hTk 19 Z Z (ld 2 Z Z (fP (.el h26)) z9k Z)<|z5t 2 [] [] Z (by kernel_rfl) Z (gd0 Z) Z Tryz.func236 Z Z (zk7 _ _ _ _) (aQ Z<|aQ Z<|aQ Z<|aQ Z<|aN) rN Z (fun _ _=>z41) fun r27 n28=>hTk 3 Z Z (W.add Z Z)<|hTk 12 Z Z (W.add Z Z)<|hTk 16 Z Z (W.add Z Z)<|hTk 20 Z Z (W.add Z Z)<|hTk 21 Z Z (asg Z)<|z14g 14 Z Z fun y29=>z6e (by kernel_rfl)<|z0y<|gSR<|Zm Z<|Zc [] [] Tryz.func236 Z (zk7 _ _ _ _) fun r30 n31=>Zm Z<|Zm Z<|Zq (W.and Z Z)<|Zm Z<|Zm Z<|Zq (W.and Z Z)<|Zq (W.xor Z Z)<|Zm Z<|Zm Z<|Zq (W.and Z Z)<|Zq (W.xor Z Z)<|Zq (W.add Z Z)<|Za Z<|z24 15 Z fun y32=>Zn<|z28<|Zm Z<|Zm Z<|Zq (W.add Z Z)<|Zm Z<|Zm Z<|Zm Z<|Zm Z<|Zm Z<|Zq (W.add Z Z)<|Zm Z<|Zm Z<|Zm Z<|Za Z<|Za Z<|Za Z<|Za Z<|Za Z<|z24 9 Z fun y33=>Za Z<|Za Z<|Za Z<|z1p<|z3c<|z0y<|z28<|Zq (I.add Z Z)<|Zm Z<|z1p<|z1s (fun aa ww h=>Zu h [1,2,1001])
  ·refine z27<|z19<|z1b<|z3k (fun aa ww h=>Zu h [1,1001])
 ·refine gSR<|Zm Z<|Zm Z<|Zm Z<|Zm Z<|Zm Z<|Zm Z<|Zm Z<|Zm Z<|Zq (litA (R:=z0s) [s20.1,s20.2.1,s20.2.2.1,s20.2.2.2.1,s20.2.2.2.2.1,s20.2.2.2.2.2.1,s20.2.2.2.2.2.2.1,s20.2.2.2.2.2.2.2] (#v[s20.1,s20.2.1,s20.2.2.1,s20.2.2.2.1,s20.2.2.2.2.1,s20.2.2.2.2.2.1,s20.2.2.2.2.2.2.1,s20.2.2.2.2.2.2.2]:Vector UInt32 8) (pP Z Z<|pP Z Z<|pP Z Z<|pP Z Z<|pP Z Z<|pP Z Z<|pP Z Z<|pP Z Z<|pN) Z tu149 zi1 Z z5u)<|Zm Z<|Zn<|z29 (fun (s34:(Vector UInt32 8) × Int) aa ww=>Sta (ctx 126 H [(1,some (ph0,uh0 c0)),zG1] w) [(0,.val (z07 ph0 kh0)),(111,.rd (z3i 8 z0s) (#v[s20.1,s20.2.1,s20.2.2.1,s20.2.2.2.1,s20.2.2.2.2.1,s20.2.2.2.2.2.1,s20.2.2.2.2.2.2.1,s20.2.2.2.2.2.2.2]:Vector UInt32 8)),(112,.rd z0f s34.2)] [(1,some (ph0,uh0 s34.1)),zG1] aa ww) (fun aa ww h=>Zu h [1,1001]) (fun s34=>?_)
  refine gSR<|Zq (I.lss Z Z)<|Zn<|z0x<|gIf Z Z (fun h35=>?_) (fun h35=>?_)
  ·refine Zt<|z0x<|z4s<|gSR<|Zm Z<|z0q fun x36 h37=>Zq (idxV Z Z h37 tu149 z5u z9k)<|Za Z<|Zb Z<|z9u [1] mixed Z Z<|hTk 0 Z Z (mv Z)<|hTk 1 Z Z (mv Z)<|hTk 2 Z Z (zdu 1 Z Z (hh0 _))<|z5n fun x38 h39=>hTk 3 Z Z (ixH 1 Z Z (hh0 _) Z h39 tu149 z5u)<|hTk 5 Z Z (mv Z)<|hTk 7 Z Z (zdu 1 Z Z (hh0 _))<|hRun 4 Z (by kernel_rfl) (gd0 Z) Z Z z41 (ld 1 Z Z ((hh0 _).part (.el h39)) z9k Z)<|hTk 6 Z Z (W.add Z Z)<|z5n fun x40 h41=>hTk 8 Z Z (ixH 1 Z Z (hh0 _) Z h41 tu149 z5u)<|Zp 9 Z Z Z Z Z (sto 1 Z Z ((hh0 _).part (.el h41)) Z z5u)<|z6e (by kernel_rfl)<|z3c<|z0y<|z28<|Zq (I.add Z Z)<|Zm Z<|z1p<|z1s (fun aa ww h=>Zu h [1,1001])
  ·refine z27<|z19<|z1b<|Ze [] [1,1001] Z
def za7 (s7:z2q × (List UInt8)):Option (Sum (z2q × (List UInt8)) (z2q × (List UInt8))) :=
 if decide (64≤(s7.2.length:Int)) then
  zdy s7.1.Words s7.2 >>= fun r10 =>
  cut s7.2 64 (s7.2.length:Int) >>= fun x12 =>
  some (.inr ({ s7.1 with Words:=r10 },x12))
 else
  some (.inl (s7.1,s7.2))
def zbu (a0:z2q) (a1:List UInt8):Option (z2q) :=
 z2h [a0.Rest,a1] >>= fun r4 =>
 (iter (za7) (a0,r4)) >>= fun s6 =>
 z8v s6.2 >>= fun r14 =>
 some (⟨({ s6.1 with N:=w64 (s6.1.N+(a1.length:Int)) }).Words,r14,({ s6.1 with N:=w64 (s6.1.N+(a1.length:Int)) }).N⟩:z2q)
theorem zif (a0:z2q) (a1:List UInt8):z23 Tryz.prog 198 [.rd z2y a0,.rd (z02 u8R) a1] [zG1] (zbu a0 a1) (fun r nv=>⟨[.rd z2y r],[(1001,some (.bool true,.glob 1 (z3i 64 z0s) z6j))]⟩):=by
 refine z2m 29 Tryz.func198 Z Z Z fun H w=>?_;refine gSR<|Eb Z (bx 1 Z) fun v1=>Eb Z (z6n 2 zpd (ZrE.rd (R:=(z3i 8 z0s)) (x:=(Vector.replicate 8 0)) zt4 (ZrE.nilS (ZrE.rd (R:=z0f) (x:=0) (Zr.num Z) ZrE.nil Z)) Z)) fun v2=>Zn<|gSR<|Zq (faB 1 Z Z Tryz.underlying243 Z (by exact zet))<|Zq (ld 1 Z Z (fP (zmm _)) znl Z)<|Zm Z<|Ef Z (lit (R:=(z02 u8R)) ([a0.Rest,a1]:List (List UInt8)) 3 (pP Z Z<|pP Z Z<|pN) Z tu193 zet Z Z) fun v3=>zg9 3 [9] Z (fS Z<|fN)<|Zc [] [(100,4)] Tryz.func108 Z (z6o _) fun r4 n5=>Zb Z<|z7x (fun (s6:z2q × (List UInt8)) aa ww=>Sta (ctx 29 H [zG1] w) [(1,.rd (z02 u8R) a1),(2,.val (z07 v1 0)),(4,.val (z07 v2 0)),(5,.rd (z02 u8R) s6.2)] [(1,some (v1,.box 243 [.rd z2y s6.1])),(2,some (v2,.box 243 [.rd (z3i 8 z0s) (Vector.replicate 8 0),.val (.slice none 0 0),.rd z0f 0])),zG1] aa ww) ?_ (fun s6=>?_)
 ·refine gFrz 4 [10,5] Z (fS Z<|fS Z<|fN)<|z29 (fun (s7:z2q × (List UInt8)) aa ww=>Sta (ctx 29 H [zG1] w) [(1,.rd (z02 u8R) a1),(2,.val (z07 v1 0)),(4,.val (z07 v2 0)),(5,.rd (z02 u8R) s7.2)] [(1,some (v1,.box 243 [.rd z2y s7.1])),(2,some (v2,.box 243 [.rd (z3i 8 z0s) (Vector.replicate 8 0),.val (.slice none 0 0),.rd z0f 0])),zG1] aa ww) (fun aa ww h=>Zu h [1,2,1001]) (fun s7=>?_);refine z0x<|gSR<|Zm Z<|Zq (z3e Z .rd Z tu52)<|Zq (I.geq Z Z)<|Zj Z (fun h8=>?_) (fun h8=>?_)
  ·refine Zt<|z4s<|gSR<|Zq (faB 1 Z Z Tryz.underlying243 Z (by exact zi1))<|Zm Z<|call [1,1001] [(1,1)] Z Tryz.func224 Z Z (zng _ _ (fun y9=>.box 243 [.rd z2y ({ s7.1 with Words:=y9 })]) (fun _=>(fP (zer _))) _ _) (Y2 Z Z) (Zi Z<|Zi Z<|rN) fun r10 n11=>Zn<|z28<|Zm Z<|z0q fun x12 h13=>Zq (zud Z (.to Z) .no h13 tu52 ti5)<|Za Z<|z1p<|z3c<|z1s (fun aa ww h=>Zu h [1,2,1001])
  ·refine z27<|z19<|z1b<|z3k (fun aa ww h=>Zu h [1,2,1001])
 ·refine z0x<|z9u [1,1020] mixed Z Z<|hTk 0 Z Z (faB 1 Z Z Tryz.underlying243 Z (by exact ti3))<|hTk 2 Z Z (mv Z)<|hTk 3 Z Z (z3e Z .rd Z tu52)<|hTk 5 Z Z (mv Z)<|hAlt [1,6] (by kernel_rfl) Z ⟨?_,?_,trivial⟩
  ·refine oRun 1 Z (gd0 Z) Z Z z41 (ld 1 Z Z (fP (z9n _)) ty3 Z)<|hTk 4 Z Z (I.add Z Z)<|z5t 6 [] [(100,1020)] Z (by kernel_rfl) Z (gd0 Z) Z Tryz.func225 Z Z (zac _) (Y1 Z) rN Z (fun _ _=>z3t) fun r14 n15=>hTk 7 Z Z (faB 1 Z Z Tryz.underlying243 Z (by exact ti3))<|Zp 8 Z Z Z Z Z (sto 1 Z Z (fP (z9n _)) Z ti3)<|Zf 9 Z Z z3t (faB 1 Z Z Tryz.underlying243 Z (by exact zet))<|hSpl (R:=z2y) 1 Z (Sp.via (Sp.prod (Sp.prod (Sp.prod Sp.unit))))<|Zp 10 Z Z Z Z Z (zo4 1 Z Z (z7f.cast (z7f.next z09 (z7f.here z09)) Z) Z z12 z08 zet)<|z6e (by kernel_rfl)<|z0y<|gSR<|lPow [.rd (z3i 8 z0s) (({ s6.1 with N:=w64 (s6.1.N+(a1.length:Int)) }).Words),.rd (z02 u8R) r14,.rd z0f (({ s6.1 with N:=w64 (s6.1.N+(a1.length:Int)) }).N)] 1 1020 [.rd (z3i 8 z0s) (({ s6.1 with N:=w64 (s6.1.N+(a1.length:Int)) }).Words)] [.rd z0f (({ s6.1 with N:=w64 (s6.1.N+(a1.length:Int)) }).N)] Z Z Z Z Z<|zgt (R:=z2y) (⟨({ s6.1 with N:=w64 (s6.1.N+(a1.length:Int)) }).Words,r14,({ s6.1 with N:=w64 (s6.1.N+(a1.length:Int)) }).N⟩:z2q) 1 Z (Sp.via (Sp.prod (Sp.prod (Sp.prod Sp.unit))))<|Zq (ld 1 Z Z fH zsu Z)<|zhd u8R [.rd (z3i 8 z0s) (Vector.replicate 8 0),.rd (z02 u8R) [],.rd z0f 0] 2 [.rd (z3i 8 z0s) (Vector.replicate 8 0)] [.rd z0f 0] Z Z Z<|zgt (R:=z2y) (⟨(Vector.replicate 8 0),[],0⟩:z2q) 2 Z (Sp.via (Sp.prod (Sp.prod (Sp.prod Sp.unit))))<|Es (sto 2 Z Z fH Z zpd)<|Zn<|z0n<|zbm [] [1001] Z (eC 2 Z Z zsu<|eN) (y1 Z)
  ·refine z1aj 6 [] [(100,1020)] Z Z (gd0 Z) Z Tryz.func225 Z Z (zac _) (Y1 Z) rN Z (fun _ _=>z3t) fun r16 n17=>hRun 1 Z (by kernel_rfl) (gd0 Z) Z Z z41 (ld 1 Z Z (fP (z9n _)) ty3 Z)<|hTk 4 Z Z (I.add Z Z)<|hTk 7 Z Z (faB 1 Z Z Tryz.underlying243 Z (by exact ti3))<|Zp 8 Z Z Z Z Z (sto 1 Z Z (fP (z9n _)) Z ti3)<|Zf 9 Z Z z3t (faB 1 Z Z Tryz.underlying243 Z (by exact zet))<|hSpl (R:=z2y) 1 Z (Sp.via (Sp.prod (Sp.prod (Sp.prod Sp.unit))))<|Zp 10 Z Z Z Z Z (zo4 1 Z Z (z7f.cast (z7f.next z09 (z7f.here z09)) Z) Z z12 z08 zet)<|z6e (by kernel_rfl)<|z0y<|gSR<|lPow [.rd (z3i 8 z0s) (({ s6.1 with N:=w64 (s6.1.N+(a1.length:Int)) }).Words),.rd (z02 u8R) r16,.rd z0f (({ s6.1 with N:=w64 (s6.1.N+(a1.length:Int)) }).N)] 1 1020 [.rd (z3i 8 z0s) (({ s6.1 with N:=w64 (s6.1.N+(a1.length:Int)) }).Words)] [.rd z0f (({ s6.1 with N:=w64 (s6.1.N+(a1.length:Int)) }).N)] Z Z Z Z Z<|zgt (R:=z2y) (⟨({ s6.1 with N:=w64 (s6.1.N+(a1.length:Int)) }).Words,r16,({ s6.1 with N:=w64 (s6.1.N+(a1.length:Int)) }).N⟩:z2q) 1 Z (Sp.via (Sp.prod (Sp.prod (Sp.prod Sp.unit))))<|Zq (ld 1 Z Z fH zsu Z)<|zhd u8R [.rd (z3i 8 z0s) (Vector.replicate 8 0),.rd (z02 u8R) [],.rd z0f 0] 2 [.rd (z3i 8 z0s) (Vector.replicate 8 0)] [.rd z0f 0] Z Z Z<|zgt (R:=z2y) (⟨(Vector.replicate 8 0),[],0⟩:z2q) 2 Z (Sp.via (Sp.prod (Sp.prod (Sp.prod Sp.unit))))<|Es (sto 2 Z Z fH Z zpd)<|Zn<|z0n<|zbm [] [1001] Z (eC 2 Z Z zsu<|eN) (y1 Z)
def zb4 (y3:UInt64) (s9:(List UInt8) × Int):Option (Sum ((List UInt8)) ((List UInt8) × Int)) :=
 if decide (0≤s9.2) then
  chk (0≤s9.2) >>= fun u12 =>
  app 1 s9.1 [(z6l y3 ((s9.2:Int).toNat)).toUInt8] >>= fun x15 =>
  some (w64 (s9.2 - 8)) >>= fun y18 =>
  some (.inr (x15,y18))
 else
  some (.inl s9.1)
def z9m (r21:z2q) (s23:V3 × Int):Option (Sum (V3) (V3 × Int)) :=
 if decide (s23.2<8) then
  z84 r21.Words s23.2 >>= fun x25 =>
  z84 s23.1 (w64 (4 * s23.2)) >>= fun x27 =>
  z84 (zjl s23.1 (w64 (4 * s23.2)) ((z4i x25 24).toUInt8)) (w64 ((w64 (4 * s23.2))+1)) >>= fun x29 =>
  z84 (zjl (zjl s23.1 (w64 (4 * s23.2)) ((z4i x25 24).toUInt8)) (w64 ((w64 (4 * s23.2))+1)) ((z4i x25 16).toUInt8)) (w64 ((w64 (4 * s23.2))+2)) >>= fun x31 =>
  z84 (zjl (zjl (zjl s23.1 (w64 (4 * s23.2)) ((z4i x25 24).toUInt8)) (w64 ((w64 (4 * s23.2))+1)) ((z4i x25 16).toUInt8)) (w64 ((w64 (4 * s23.2))+2)) ((z4i x25 8).toUInt8)) (w64 ((w64 (4 * s23.2))+3)) >>= fun x33 =>
  some (.inr (zjl (zjl (zjl (zjl s23.1 (w64 (4 * s23.2)) ((z4i x25 24).toUInt8)) (w64 ((w64 (4 * s23.2))+1)) ((z4i x25 16).toUInt8)) (w64 ((w64 (4 * s23.2))+2)) ((z4i x25 8).toUInt8)) (w64 ((w64 (4 * s23.2))+3)) x25.toUInt8,w64 (s23.2+1)))
 else
  some (.inl s23.1)
def zha (a0:z2q):Option (V3) :=
 some ((UInt64.ofInt a0.N) * 8) >>= fun y3 =>
 appz 1 [128] 0 (Int.tmod (w64 (119 - (Int.tmod a0.N 64))) 64) >>= fun x5 =>
 (iter (zb4 y3) (x5,56)) >>= fun s8 =>
 (zbu a0 s8 >>= fun r21 =>
 iter (z9m r21) ((Vector.replicate 32 0),0)) >>= fun s20 =>
 some s20
theorem zqu (a0:z2q):z23 Tryz.prog 199 [.rd z2y a0] [zG1] (zha a0) (fun r nv=>⟨[.rd aZ r],[(1001,some (.bool true,.glob 1 (z3i 64 z0s) z6j))]⟩):=by
 refine z2m 66 Tryz.func199 Z Z Z fun H w=>?_;refine gSR<|Eb Z (bx 1 Z) fun v1=>Eb Z (z6n 2 z31 (.zr (R:=aZ) (x:=(Vector.replicate 32 0)) zfo)) fun v2=>Zn<|gSR<|Zq (faB 1 Z Z Tryz.underlying243 Z (by exact ti3))<|Zq (ld 1 Z Z (fP (z9n _)) ty3 Z)<|Zq (I.toU Z tu3 tu35)<|Zq (U.mul Z Z)<|Za Z<|z24 3 Z fun y3=>Zn<|gSR<|Ef Z (lit (R:=u8R) ([128]:List UInt8) 3 (pP Z Z<|pN) Z tu52 ti5 Z Z) fun v4=>Zq (faB 1 Z Z Tryz.underlying243 Z (by exact ti3))<|Zq (ld 1 Z Z (fP (z9n _)) ty3 Z)<|Zq (I.rem Z Z (by decide))<|Zq (I.sub Z Z)<|Zq (I.rem Z Z (by decide))<|z0q fun x5 h6=>Ef Z (apZO 3 Z Z Z h6 tu52 tu3 ti5 (Zr.num Z) Z) fun v7=>Zb Z<|z7x (fun (s8:(List UInt8)) aa ww=>∃ nv:Nat→Value,Sta (ctx 66 H [zG1] w) [(1,.val (z07 v1 0)),(2,.val (z07 v2 0)),(4,.val (nv 0))] [(1,some (v1,.box 243 [.rd z2y a0])),(2,some (v2,.box 45 [.rd aZ (Vector.replicate 32 0)])),(3,some ((nv 0),.list u8R 5 s8)),zG1] aa ww) ?_ (fun s8=>?_)
 ·refine gSR<|Zb Z<|z29 (fun (s9:(List UInt8) × Int) aa ww=>∃ nv:Nat→Value,Sta (ctx 66 H [zG1] w) [(1,.val (z07 v1 0)),(2,.val (z07 v2 0)),(3,.rd z1z y3),(4,.val (nv 0)),(5,.rd z0f s9.2)] [(1,some (v1,.box 243 [.rd z2y a0])),(2,some (v2,.box 45 [.rd aZ (Vector.replicate 32 0)])),(3,some ((nv 0),.list u8R 5 s9.1)),zG1] aa ww) (fun aa ww h=>⟨nvl [v7],Zu h [1,2,3,1001]⟩) (fun s9=>?_);refine gEx fun n10=>z0x<|gSR<|Zm Z<|Zq (I.geq Z Z)<|Zj Z (fun h11=>?_) (fun h11=>?_)
  ·refine Zt<|z0x<|z4s<|z28<|Zm Z<|Zm Z<|Zm Z<|z0q fun u12 h13=>Zq (U.shr Z Z (z4z h13))<|Zq (U.toB Z tu35 tu5)<|Ef Z (lit (R:=u8R) ([(z6l y3 ((s9.2:Int).toNat)).toUInt8]:List UInt8) 1100 (pP Z Z<|pN) Z tu52 ti5 Z Z) fun v14=>z0q fun x15 h16=>Ef Z (apn 3 Z Z Z (.own 1100 Z) h16 tu52 ti5 Z Z Z) fun v17=>Za Z<|z1p<|z3c<|z0y<|z28<|Zm Z<|Zq (I.sub Z Z)<|Za Z<|z24 5 Z fun y18=>z1p<|z1s (fun aa ww h=>⟨nvl [v17],Zu h [1,2,3,1001]⟩)
  ·refine z27<|z19<|z1b<|z3k (fun aa ww h=>⟨nvl [(n10 0)],Zu h [1,2,3,1001]⟩)
 ·refine gEx fun n19=>z7x (fun (s20:V3) aa ww=>Sta (ctx 66 H [zG1] w) [(2,.val (z07 v2 0))] [(2,some (v2,.box 45 [.rd aZ s20])),zG1] aa ww) ?_ (fun s20=>?_)
  ·refine gSR<|Zq (ld 1 Z Z fH zsu Z)<|Zm Z<|zg9 3 [4,31] Z (fS Z<|fS Z<|fN)<|Zc [1001] [] Tryz.func198 Z (zif _ _) fun r21 n22=>Zq (fldV Z (zer _) Z Tryz.underlying243 Z ztj)<|Zm Z<|Zn<|z29 (fun (s23:V3 × Int) aa ww=>Sta (ctx 66 H [zG1] w) [(2,.val (z07 v2 0)),(33,.rd (z3i 8 z0s) r21.Words),(34,.rd z0f s23.2)] [(2,some (v2,.box 45 [.rd aZ s23.1])),zG1] aa ww) (fun aa ww h=>Zu h [2,1001]) (fun s23=>?_)
   refine gSR<|Zq (I.lss Z Z)<|Zn<|z0x<|gIf Z Z (fun h24=>?_) (fun h24=>?_)
   ·refine Zt<|z0x<|z4s<|gSR<|Zm Z<|z0q fun x25 h26=>Zq (idxV Z Z h26 tu149 z5u z9k)<|Za Z<|Zb Z<|z28<|Zm Z<|Zq (I.mul Z Z)<|Zm Z<|Zq (I.mul Z Z)<|Zq (I.add Z Z)<|Zm Z<|Zq (I.mul Z Z)<|Zq (I.add Z Z)<|Zm Z<|Zq (I.mul Z Z)<|Zq (I.add Z Z)<|Zm Z<|Zq (W.shr Z Z (Int.natCast_nonneg _))<|Zq (W.toB Z tu34 tu5)<|Zm Z<|Zq (W.shr Z Z (Int.natCast_nonneg _))<|Zq (W.toB Z tu34 tu5)<|Zm Z<|Zq (W.shr Z Z (Int.natCast_nonneg _))<|Zq (W.toB Z tu34 tu5)<|Zm Z<|Zq (W.toB Z tu34 tu5)<|z0q fun x27 h28=>Zq (ixB 2 Z Z Z h28 tu45 ti5)<|Es (sto 2 Z Z (fP (.el h28)) Z ti5)<|z0q fun x29 h30=>Zq (ixB 2 Z Z Z h30 tu45 ti5)<|Es (sto 2 Z Z (fP (.el h30)) Z ti5)<|z0q fun x31 h32=>Zq (ixB 2 Z Z Z h32 tu45 ti5)<|Es (sto 2 Z Z (fP (.el h32)) Z ti5)<|z0q fun x33 h34=>Zq (ixB 2 Z Z Z h34 tu45 ti5)<|Es (sto 2 Z Z (fP (.el h34)) Z ti5)<|z1p<|z3c<|z0y<|z28<|Zq (I.add Z Z)<|Zm Z<|z1p<|z1s (fun aa ww h=>Zu h [2,1001])
   ·refine z27<|z19<|z1b<|z3k (fun aa ww h=>Zu h [2,1001])
  ·refine gSR<|Zq (ld 2 Z Z fH z59 Z)<|Es (sto 2 Z Z fH Z z31)<|Zn<|z0n<|zbm [] [1001] Z (eC 2 Z Z z59<|eN) (y1 Z)
def z1f (a0:List (List UInt8)) (s2:Int):Option (Sum (Sum Int Unit) Int) :=
 if decide (s2<(a0.length:Int)) then
  idx a0 s2 >>= fun x4 =>
  zdl x4 >>= fun r6 =>
  if r6 then
   some (.inl (.inl s2))
  else
   some (.inr (w64 (s2+1)))
 else
  some (.inl (.inr ()))
def z36 (a0:List (List UInt8)):Option (Int) :=
 z4y (iter (z1f a0) 0) fun s1 =>
 some (-1)
theorem z7z (a0:List (List UInt8)):z23 Tryz.prog 223 [.rd (z02 (z02 u8R)) a0,.val (.func (.func 196) #[] #[])] [] (z36 a0) (fun r nv=>⟨[.rd z0f r],[]⟩):=by
 refine z2m 19 Tryz.func223 Z Z Z fun H w=>?_;refine gSR<|Zb Z<|z7c (fun (s1:Unit) aa ww=>Sta (ctx 19 H [] w) [] [] aa ww) ?_ (fun s1=>?_)
 ·refine gSR<|Zm Z<|Zq (z3e Z .rd Z tu193)<|Zm Z<|Zn<|z29 (fun (s2:Int) aa ww=>Sta (ctx 19 H [] w) [(0,.rd (z02 (z02 u8R)) a0),(1,.val (.func (.func 196) #[] #[])),(7,.rd z0f (a0.length:Int)),(8,.rd z0f s2)] [] aa ww) (fun aa ww h=>Zu h []) (fun s2=>?_);refine gSR<|Zq (I.lss Z Z)<|Zn<|z0x<|gIf Z Z (fun h3=>?_) (fun h3=>?_)
  ·refine Zt<|z0x<|z4s<|gSR<|Zm Z<|Zb Z<|gSR<|Zm Z<|Zm Z<|Zm Z<|z0q fun x4 h5=>Zq (ixR Z Z h5 tu193 zet Z)<|Zq (ldR Z znl)<|zi0 [] [] (gd0 Z) Z Z Tryz.func196 Z Z (zjr _) (Y1 Z) (cN) rN fun r6 n7=>Zj Z (fun h8=>?_) (fun h8=>?_)
   ·refine gSR<|Zm Z<|Zb Z<|z0n<|z3m<|z0u<|z6c<|z58<|Ze [] [] Z
   ·refine z30<|z3c<|z0y<|z28<|Zq (I.add Z Z)<|Zm Z<|z1p<|z1s (fun aa ww h=>Zu h [])
  ·refine z27<|z19<|z1b<|z5q (fun aa ww h=>Zu h [])
 ·refine gSR<|Zb Z<|z0n<|Ze [] [] Z
def z1w (a0:List (List UInt8)):Option (Bool) :=
 z36 a0 >>= fun r1 =>
 some (decide (0≤r1)) >>= fun y3 =>
 some y3
theorem z75 (a0:List (List UInt8)):z23 Tryz.prog 195 [.rd (z02 (z02 u8R)) a0,.val (.func (.func 196) #[] #[])] [] (z1w a0) (fun r nv=>⟨[.rd z0h r],[]⟩):=by
 refine z2m 9 Tryz.func195 Z Z Z fun H w=>?_;refine gSR<|Zb Z<|gSR<|Zm Z<|Zm Z<|Zc [] [] Tryz.func223 Z (z7z _) fun r1 n2=>Zq (I.geq Z Z)<|Za Z<|z24 4 Z fun y3=>Zn<|z0n<|Ze [] [] Z
def z8q (a0:List (List UInt8)) (s11:z2q × Int):Option (Sum z2q (z2q × Int)) :=
 if decide (s11.2<(a0.length:Int)) then
  idx a0 s11.2 >>= fun x13 =>
  zbu s11.1 x13 >>= fun r15 =>
  some (.inr (r15,w64 (s11.2+1)))
 else
  some (.inl s11.1)
def zb8 (a0:List (List UInt8)):Option (V3 × Int) :=
 (if decide (20<(a0.length:Int)) then
  some true
 else
  z1w a0 >>= fun r4 =>
  some r4) >>= fun s2 =>
 if s2 then
  some ((Vector.replicate 32 0),4)
 else
  zdv >>= fun r7 =>
  (iter (z8q a0) (r7,0)) >>= fun s10 =>
  zha s10 >>= fun r17 =>
  some (r17,0)
theorem zg8 (a0:List (List UInt8)):z23 Tryz.prog 160 [.rd (z02 (z02 u8R)) a0] [zG1] (zb8 a0) (fun r nv=>⟨[.rd aZ r.1,.rd z0f r.2],[(1001,some (.bool true,.glob 1 (z3i 64 z0s) z6j))]⟩):=by
 refine z2m 28 Tryz.func160 Z Z Z fun H w=>?_;refine gSR<|Eb Z (z6n 1 z31 (.zr (R:=aZ) (x:=(Vector.replicate 32 0)) zfo)) fun v1=>Zb Z<|z0x<|z7x (fun (s2:Bool) aa ww=>Sta (ctx 28 H [zG1] w) [(0,.rd (z02 (z02 u8R)) a0),(2,.val (z07 v1 0)),(13,.rd z0h s2)] [(1,some (v1,.box 45 [.rd aZ (Vector.replicate 32 0)])),zG1] aa ww) ?_ (fun s2=>?_)
 ·refine z28<|Zm Z<|Zq (z3e Z .rd Z tu193)<|Zq (I.gtr Z Z)<|Zm Z<|z1h 10 Z (fun h3=>?_) (fun h3=>?_)
  ·refine lKn 9 Z h3<|Zk Z<|Zk Z<|Zq (pkT Z Z)<|z1p<|z3k (fun aa ww h=>Zu h [1,1001])
  ·refine lKn 9 Z h3<|z13 Zx Z Z (mv Z)<|zd3 [] [] Zx Z Tryz.func195 Z Z (z75 _) (Y2 Z Z) rN fun r4 n5=>Zq (pkF Z Z)<|z1p<|z3k (fun aa ww h=>Zu h [1,1001])
 ·refine gIf Z Z (fun h6=>?_) (fun h6=>?_)
  ·refine gSR<|Zq (bldG (x':=((Vector.replicate 32 0):V3)) tu45 z31 zfo ti5 (Bld.done Z))<|Es (sto 1 Z Z fH Z z31)<|Zb Z<|z0n<|z0u<|zbm [] [1001] Z (eC 1 Z Z z59<|eE Z<|eN) (y1 Z)
  ·refine Zt<|gSR<|Zc [] [] Tryz.func197 Z (zop) fun r7 n8=>Eb Z (z6n 1100 zpd (ZrE.rd (R:=(z3i 8 z0s)) (x:=(Vector.replicate 8 0)) zt4 (ZrE.nilS (ZrE.rd (R:=z0f) (x:=0) (Zr.num Z) ZrE.nil Z)) Z)) fun v9=>zhd u8R [.rd (z3i 8 z0s) (Vector.replicate 8 0),.rd (z02 u8R) [],.rd z0f 0] 1100 [.rd (z3i 8 z0s) (Vector.replicate 8 0)] [.rd z0f 0] Z Z Z<|zgt (R:=z2y) (⟨(Vector.replicate 8 0),[],0⟩:z2q) 1100 Z (Sp.via (Sp.prod (Sp.prod (Sp.prod Sp.unit))))<|Es (sto 1100 Z Z fH Z zpd)<|Zn<|z7x (fun (s10:z2q) aa ww=>Sta (ctx 28 H [zG1] w) [(2,.val (z07 v1 0)),(4,.val (z07 v9 0))] [(1,some (v1,.box 45 [.rd aZ (Vector.replicate 32 0)])),(1100,some (v9,.box 243 [.rd z2y s10])),zG1] aa ww) ?_ (fun s10=>?_)
   ·refine gSR<|Zm Z<|Zq (z3e Z .rd Z tu193)<|Zm Z<|Zn<|z29 (fun (s11:z2q × Int) aa ww=>Sta (ctx 28 H [zG1] w) [(2,.val (z07 v1 0)),(4,.val (z07 v9 0)),(16,.rd (z02 (z02 u8R)) a0),(17,.rd z0f (a0.length:Int)),(18,.rd z0f s11.2)] [(1,some (v1,.box 45 [.rd aZ (Vector.replicate 32 0)])),(1100,some (v9,.box 243 [.rd z2y s11.1])),zG1] aa ww) (fun aa ww h=>Zu h [1,1100,1001]) (fun s11=>?_);refine gSR<|Zq (I.lss Z Z)<|Zn<|z0x<|gIf Z Z (fun h12=>?_) (fun h12=>?_)
    ·refine Zt<|z0x<|z4s<|gSR<|z0q fun x13 h14=>Zq (ixR Z Z h14 tu193 zet Z)<|Zq (ldR Z znl)<|Zb Z<|z28<|Zq (ld 1100 Z Z fH zsu Z)<|Zm Z<|Zc [1001] [] Tryz.func198 Z (zif _ _) fun r15 n16=>Es (sto 1100 Z Z fH Z zpd)<|z1p<|z3c<|z0y<|z28<|Zq (I.add Z Z)<|Zm Z<|z1p<|z1s (fun aa ww h=>Zu h [1,1100,1001])
    ·refine z27<|z19<|z1b<|z3k (fun aa ww h=>Zu h [1,1100,1001])
   ·refine gSR<|Zq (ld 1100 Z Z fH zsu Z)<|Zc [1001] [] Tryz.func199 Z (zqu _) fun r17 n18=>Es (sto 1 Z Z fH Z z31)<|Zb Z<|z0n<|zbm [] [1001] Z (eC 1 Z Z z59<|eE Z<|eN) (y1 Z)
def zhc (a0:List UInt8):Option (V3 × Int) :=
 zb8 [a0] >>= fun r3 =>
 some (r3.1,r3.2)
theorem zrc (a0:List UInt8):z23 Tryz.prog 115 [.rd (z02 u8R) a0] [zG1] (zhc a0) (fun r nv=>⟨[.rd aZ r.1,.rd z0f r.2],[(1001,some (.bool true,.glob 1 (z3i 64 z0s) z6j))]⟩):=by
 refine z2m 9 Tryz.func115 Z Z Z fun H w=>?_;refine gSR<|Eb Z (z6n 1 z31 (.zr (R:=aZ) (x:=(Vector.replicate 32 0)) zfo)) fun v1=>Zb Z<|gSR<|Zm Z<|Ef Z (lit (R:=(z02 u8R)) ([a0]:List (List UInt8)) 2 (pP Z Z<|pN) Z tu193 zet Z Z) fun v2=>zg9 2 [5] Z (fS Z<|fN)<|Zc [1001] [] Tryz.func160 Z (zg8 _) fun r3 n4=>Zq (ext Z Z)<|Zq (ext Z Z)<|Es (sto 1 Z Z fH Z z31)<|Zb Z<|z0n<|zbm [] [1001] Z (eC 1 Z Z z59<|eE Z<|eN) (y1 Z)
def zow (a0:z05):Option (V3 × Int) :=
 zdc a0 >>= fun r3 =>
 if r3.2 != 0 then
  some ((Vector.replicate 32 0),r3.2)
 else
  zhc r3.1 >>= fun r6 =>
  some (r6.1,r6.2)
theorem zhs (a0:z05):z23 Tryz.prog 65 [.rd z03 a0] [zG1] (zow a0) (fun r nv=>⟨[.rd aZ r.1,.rd z0f r.2],[(1001,some (.bool true,.glob 1 (z3i 64 z0s) z6j))]⟩):=by
 refine z2m 19 Tryz.func65 Z Z Z fun H w=>?_;refine gSR<|Eb Z (bx 1 Z) fun v1=>Eb Z (z6n 2 z31 (.zr (R:=aZ) (x:=(Vector.replicate 32 0)) zfo)) fun v2=>Zb Z<|gSR<|Zq (ld 1 Z Z fH za3 Z)<|Zc [] [(100,3)] Tryz.func58 Z (zlz _) fun r3 n4=>Zm Z<|Zq (ext Z Z)<|Zq (ext Z Z)<|Za Z<|Zb Z<|z0x<|gSR<|Zm Z<|Zq (I.neq Z Z)<|Zj Z (fun h5=>?_) (fun h5=>?_)
 ·refine gSR<|Zq (bldG (x':=((Vector.replicate 32 0):V3)) tu45 z31 zfo ti5 (Bld.done Z))<|Zm Z<|Es (sto 2 Z Z fH Z z31)<|Zb Z<|z0n<|z0u<|zbm [] [1001] Z (eC 2 Z Z z59<|eE Z<|eN) (y1 Z)
 ·refine Zt<|gSR<|Zm Z<|zg9 3 [9,4,15] Z (fS Z<|fS Z<|fS Z<|fN)<|Zc [1001] [] Tryz.func115 Z (zrc _) fun r6 n7=>Zq (ext Z Z)<|Zq (ext Z Z)<|Es (sto 2 Z Z fH Z z31)<|Zb Z<|z0n<|zbm [] [1001] Z (eC 2 Z Z z59<|eE Z<|eN) (y1 Z)
def z4x (a0:List UInt32) (s2:Int):Option (Sum (Sum Bool Unit) Int) :=
 if decide (s2<(a0.length:Int)) then
  idx a0 s2 >>= fun x4 =>
  zhe x4 >>= fun r6 =>
  if !r6 then
   some (.inl (.inl false))
  else
   some (.inr (w64 (s2+1)))
 else
  some (.inl (.inr ()))
def zdk (a0:List UInt32):Option (Bool) :=
 z4y (iter (z4x a0) 0) fun s1 =>
 some true
theorem zm5 (a0:List UInt32):z23 Tryz.prog 206 [.rd (z02 z0s) a0] [] (zdk a0) (fun r nv=>⟨[.rd z0h r],[]⟩):=by
 refine z2m 15 Tryz.func206 Z Z Z fun H w=>?_;refine gSR<|Zb Z<|z7c (fun (s1:Unit) aa ww=>Sta (ctx 15 H [] w) [] [] aa ww) ?_ (fun s1=>?_)
 ·refine gSR<|Zm Z<|Zq (z3e Z .rd Z tu232)<|Zm Z<|Zn<|z29 (fun (s2:Int) aa ww=>Sta (ctx 15 H [] w) [(5,.rd (z02 z0s) a0),(6,.rd z0f (a0.length:Int)),(7,.rd z0f s2)] [] aa ww) (fun aa ww h=>Zu h []) (fun s2=>?_);refine gSR<|Zq (I.lss Z Z)<|Zn<|z0x<|gIf Z Z (fun h3=>?_) (fun h3=>?_)
  ·refine Zt<|z0x<|z4s<|gSR<|z0q fun x4 h5=>Zq (ixR Z Z h5 tu232 z5u Z)<|Zq (ldR Z z9k)<|Zb Z<|gSR<|Zm Z<|Zc [] [] Tryz.func147 Z (zj3 _) fun r6 n7=>Zq (zds Z)<|Zj Z (fun h8=>?_) (fun h8=>?_)
   ·refine gSR<|Zb Z<|z0n<|z3m<|z0u<|z6c<|z58<|Ze [] [] Z
   ·refine z30<|z3c<|z0y<|z28<|Zq (I.add Z Z)<|Zm Z<|z1p<|z1s (fun aa ww h=>Zu h [])
  ·refine z27<|z19<|z1b<|z5q (fun aa ww h=>Zu h [])
 ·refine gSR<|Zb Z<|z0n<|Ze [] [] Z
def znr (a0:UInt32) (a1:UInt64):Option (UInt32 × Int) :=
 zdk [a0] >>= fun r2 =>
 if !r2 then
  some (0,2)
 else
  zex a0 a1 >>= fun r5 =>
  some (r5,0)
end
section
open Go Go.RowKit
set_option maxRecDepth 100000
theorem ztd (a0:UInt32) (a1:UInt64):z23 Tryz.prog 166 [.rd z0s a0,.rd z1z a1] [] (znr a0 a1) (fun r nv=>⟨[.rd z0s r.1,.rd z0f r.2],[]⟩):=by
 refine z2m 13 Tryz.func166 Z Z Z fun H w=>?_;refine gSR<|Za Z<|Zb Z<|z0x<|gSR<|Zm Z<|Ef Z (lit (R:=z0s) ([a0]:List UInt32) 1 (pP Z Z<|pN) Z tu232 z5u Z Z) fun v1=>zg9 1 [7] Z (fS Z<|fN)<|Zc [] [] Tryz.func206 Z (zm5 _) fun r2 n3=>Zq (zds Z)<|Zj Z (fun h4=>?_) (fun h4=>?_)
 ·refine gSR<|Za Z<|Zb Z<|z0n<|z0u<|Ze [] [] Z
 ·refine Zt<|gSR<|Zm Z<|Zm Z<|Zc [] [] Tryz.func189 Z (zgi _ _) fun r5 n6=>Za Z<|Zb Z<|z0n<|Ze [] [] Z
def zkw (a0:UInt64):Option (UInt32) :=
 zex 4 a0 >>= fun r1 =>
 some r1
theorem zql (a0:UInt64):z23 Tryz.prog 168 [.rd z1z a0] [] (zkw a0) (fun r nv=>⟨[.rd z0s r],[]⟩):=by
 refine z2m 5 Tryz.func168 Z Z Z fun H w=>?_;refine gSR<|Zb Z<|gSR<|Zm Z<|Zc [] [] Tryz.func189 Z (zgi _ _) fun r1 n2=>Zb Z<|z0n<|Ze [] [] Z
def znk (a0:UInt32) (a1:UInt32):Option (UInt32 × Int) :=
 zdk [a0,a1] >>= fun r2 =>
 if !r2 then
  some (0,2)
 else
  zeu 1000000007 [a0,a1] >>= fun r6 =>
  some (r6,0)
theorem zu7 (a0:UInt32) (a1:UInt32):z23 Tryz.prog 167 [.rd z0s a0,.rd z0s a1] [] (znk a0 a1) (fun r nv=>⟨[.rd z0s r.1,.rd z0f r.2],[]⟩):=by
 refine z2m 15 Tryz.func167 Z Z Z fun H w=>?_;refine gSR<|Za Z<|Zb Z<|z0x<|gSR<|Zm Z<|Zm Z<|Ef Z (lit (R:=z0s) ([a0,a1]:List UInt32) 1 (pP Z Z<|pP Z Z<|pN) Z tu232 z5u Z Z) fun v1=>zg9 1 [8] Z (fS Z<|fN)<|Zc [] [] Tryz.func206 Z (zm5 _) fun r2 n3=>Zq (zds Z)<|Zj Z (fun h4=>?_) (fun h4=>?_)
 ·refine gSR<|Za Z<|Zb Z<|z0n<|z0u<|Ze [] [] Z
 ·refine Zt<|gSR<|Zm Z<|Zm Z<|Ef Z (lit (R:=z0s) ([a0,a1]:List UInt32) 2 (pP Z Z<|pP Z Z<|pN) Z tu232 z5u Z Z) fun v5=>zg9 2 [13] Z (fS Z<|fN)<|Zc [] [] Tryz.func207 Z (zgy _ _) fun r6 n7=>Za Z<|Zb Z<|z0n<|Ze [] [] Z
def z88 (a2:List UInt32) (s4:(List UInt8) × Int):Option (Sum ((List UInt8)) ((List UInt8) × Int)) :=
 if decide (s4.2<(a2.length:Int)) then
  idx a2 s4.2 >>= fun x7 =>
  app 1 s4.1 [(z4i x7 24).toUInt8,(z4i x7 16).toUInt8,(z4i x7 8).toUInt8,x7.toUInt8] >>= fun x10 =>
  some (.inr (x10,w64 (s4.2+1)))
 else
  some (.inl s4.1)
def zcb (r15:V3 × Int) (s19:UInt64 × Int):Option (Sum UInt64 (UInt64 × Int)) :=
 if decide (s19.2<(((r15.1.toList.drop 0).take 8).length:Int)) then
  idx ((r15.1.toList.drop 0).take 8) s19.2 >>= fun x21 =>
  some ((zkj s19.1 8) ||| x21.toUInt64) >>= fun y23 =>
  some (.inr (y23,w64 (s19.2+1)))
 else
  some (.inl s19.1)
def zkn (a0:UInt8) (a1:List UInt8) (a2:List UInt32):Option (UInt64 × Int) :=
 if decide (9991<(a1.length:Int)) then
  some (0,4)
 else
  (iter (z88 a2) ([a0],0)) >>= fun s3 =>
  zb8 [s3,a1] >>= fun r15 =>
  (iter (zcb r15) (0,0)) >>= fun s18 =>
  some (s18,r15.2)
theorem zu0 (a0:UInt8) (a1:List UInt8) (a2:List UInt32):z23 Tryz.prog 208 [.rd u8R a0,.rd (z02 u8R) a1,.rd (z02 z0s) a2] [zG1] (zkn a0 a1 a2) (fun r nv=>⟨[.rd z1z r.1,.rd z0f r.2],[(1001,some (.bool true,.glob 1 (z3i 64 z0s) z6j))]⟩):=by
 refine z2m 63 Tryz.func208 Z Z Z fun H w=>?_;refine gSR<|Za Z<|Zb Z<|z0x<|gSR<|Zm Z<|Zq (z3e Z .rd Z tu52)<|Zq (I.gtr Z Z)<|Zj Z (fun h1=>?_) (fun h1=>?_)
 ·refine gSR<|Za Z<|Zb Z<|z0n<|z0u<|Ze [] [1001] Z
 ·refine Zt<|gSR<|Zm Z<|Ef Z (lit (R:=u8R) ([a0]:List UInt8) 1 (pP Z Z<|pN) Z tu52 ti5 Z Z) fun v2=>Zb Z<|z7x (fun (s3:(List UInt8)) aa ww=>∃ nv:Nat→Value,Sta (ctx 63 H [zG1] w) [(1,.rd (z02 u8R) a1),(8,.val (nv 0))] [(1,some ((nv 0),.list u8R 5 s3)),zG1] aa ww) ?_ (fun s3=>?_)
  ·refine gSR<|Zm Z<|Zq (z3e Z .rd Z tu232)<|Zm Z<|Zn<|z29 (fun (s4:(List UInt8) × Int) aa ww=>∃ nv:Nat→Value,Sta (ctx 63 H [zG1] w) [(1,.rd (z02 u8R) a1),(8,.val (nv 0)),(21,.rd (z02 z0s) a2),(22,.rd z0f (a2.length:Int)),(23,.rd z0f s4.2)] [(1,some ((nv 0),.list u8R 5 s4.1)),zG1] aa ww) (fun aa ww h=>⟨nvl [v2],Zu h [1,1001]⟩) (fun s4=>?_);refine gEx fun n5=>gSR<|Zq (I.lss Z Z)<|Zn<|z0x<|gIf Z Z (fun h6=>?_) (fun h6=>?_)
   ·refine Zt<|z0x<|z4s<|gSR<|z0q fun x7 h8=>Zq (ixR Z Z h8 tu232 z5u Z)<|Zq (ldR Z z9k)<|Zb Z<|z28<|Zm Z<|Zm Z<|Zq (W.shr Z Z (Int.natCast_nonneg _))<|Zq (W.toB Z tu34 tu5)<|Zm Z<|Zq (W.shr Z Z (Int.natCast_nonneg _))<|Zq (W.toB Z tu34 tu5)<|Zm Z<|Zq (W.shr Z Z (Int.natCast_nonneg _))<|Zq (W.toB Z tu34 tu5)<|Zm Z<|Zq (W.toB Z tu34 tu5)<|Ef Z (lit (R:=u8R) ([(z4i x7 24).toUInt8,(z4i x7 16).toUInt8,(z4i x7 8).toUInt8,x7.toUInt8]:List UInt8) 1100 (pP Z Z<|pP Z Z<|pP Z Z<|pP Z Z<|pN) Z tu52 ti5 Z Z) fun v9=>z0q fun x10 h11=>Ef Z (apn 1 Z Z Z (.own 1100 Z) h11 tu52 ti5 Z Z Z) fun v12=>Za Z<|z1p<|z3c<|z0y<|z28<|Zq (I.add Z Z)<|Zm Z<|z1p<|z1s (fun aa ww h=>⟨nvl [v12],Zu h [1,1001]⟩)
   ·refine z27<|z19<|z1b<|z3k (fun aa ww h=>⟨nvl [(n5 0)],Zu h [1,1001]⟩)
  ·refine gEx fun n13=>gSR<|Zm Z<|Zm Z<|zg9 1 [8,43] Z (fS Z<|fS Z<|fN)<|Ef Z (lit (R:=(z02 u8R)) ([s3,a1]:List (List UInt8)) 1101 (pP Z Z<|pP Z Z<|pN) Z tu193 zet Z Z) fun v14=>zg9 1101 [45] Z (fS Z<|fN)<|Zc [1001] [] Tryz.func160 Z (zg8 _) fun r15 n16=>Zm Z<|Zq (ext Z Z)<|Zq (ext Z Z)<|Eb Z (z6n 1102 z31 (.zr (R:=aZ) (x:=(Vector.replicate 32 0)) zfo)) fun v17=>Es (sto 1102 Z Z fH Z z31)<|Zb Z<|gSR<|Zb Z<|z7x (fun (s18:UInt64) aa ww=>Sta (ctx 63 H [zG1] w) [(12,.rd z0f r15.2),(13,.rd z1z s18)] [zG1] aa ww) ?_ (fun s18=>?_)
   ·refine gSR<|z1bf 1102 11 Z Z<|Zq (z1cc (i:=0) (j:=8) Z .no (.to Z) tu45 ti5 (by decide) Z Z Z)<|Zq (z3e Z .rd Z tu52)<|Zm Z<|Zn<|z29 (fun (s19:UInt64 × Int) aa ww=>Sta (ctx 63 H [zG1] w) [(12,.rd z0f r15.2),(13,.rd z1z s19.1),(49,.rd (z02 u8R) ((r15.1.toList.drop 0).take 8)),(50,.rd z0f (((r15.1.toList.drop 0).take 8).length:Int)),(51,.rd z0f s19.2)] [zG1] aa ww) (fun aa ww h=>Zu h [1001]) (fun s19=>?_)
    refine gSR<|Zq (I.lss Z Z)<|Zn<|z0x<|gIf Z Z (fun h20=>?_) (fun h20=>?_)
    ·refine Zt<|z0x<|z4s<|gSR<|z0q fun x21 h22=>Zq (ixR Z Z h22 tu52 ti5 Z)<|Zq (ldR Z ty5)<|Zb Z<|z28<|Zm Z<|Zq (U.shl Z Z (Int.natCast_nonneg _))<|Zm Z<|Zq (B.toU Z tu5 tu35)<|Zq (U.or Z Z)<|Za Z<|z24 13 Z fun y23=>z1p<|z3c<|z0y<|z28<|Zq (I.add Z Z)<|Zm Z<|z1p<|z1s (fun aa ww h=>Zu h [1001])
    ·refine z27<|z19<|z1b<|z3k (fun aa ww h=>Zu h [1001])
   ·refine gSR<|Zm Z<|Zm Z<|Za Z<|Zb Z<|z0n<|Ze [] [1001] Z
def zc5 (a0:UInt32) (a1:UInt32) (a2:List UInt8):Option (UInt32 × Int) :=
 zkn 99 a2 [a0,a1] >>= fun r2 =>
 if r2.2 != 0 then
  some (0,r2.2)
 else
  some ((r2.1 % 500000003).toUInt32) >>= fun y5 =>
  some (y5,0)
theorem zl8 (a0:UInt32) (a1:UInt32) (a2:List UInt8):z23 Tryz.prog 169 [.rd z0s a0,.rd z0s a1,.rd (z02 u8R) a2] [zG1] (zc5 a0 a1 a2) (fun r nv=>⟨[.rd z0s r.1,.rd z0f r.2],[(1001,some (.bool true,.glob 1 (z3i 64 z0s) z6j))]⟩):=by
 refine z2m 24 Tryz.func169 Z Z Z fun H w=>?_;refine gSR<|Za Z<|Zb Z<|gSR<|Zm Z<|Zm Z<|Zm Z<|Ef Z (lit (R:=z0s) ([a0,a1]:List UInt32) 1 (pP Z Z<|pP Z Z<|pN) Z tu232 z5u Z Z) fun v1=>zg9 1 [14] Z (fS Z<|fN)<|Zc [1001] [] Tryz.func208 Z (zu0 _ _ _) fun r2 n3=>Zm Z<|Zq (ext Z Z)<|Zq (ext Z Z)<|Za Z<|Zb Z<|z0x<|gSR<|Zm Z<|Zq (I.neq Z Z)<|Zj Z (fun h4=>?_) (fun h4=>?_)
 ·refine gSR<|Zm Z<|Za Z<|Zb Z<|z0n<|z0u<|Ze [] [1001] Z
 ·refine Zt<|gSR<|Zm Z<|Zq (U.rem Z Z (by decide))<|Zq (U.toW Z tu35 tu34)<|Za Z<|z24 6 Z fun y5=>Zb Z<|z0n<|Ze [] [1001] Z
def zfz (a0:UInt32) (a1:List UInt8) (a2:z0a):Option (Int) :=
 zhe a0 >>= fun r2 =>
 if !r2 then
  some 2
 else
  if decide (9991<(a1.length:Int)) then
   some 4
  else
   if decide (500000003≤(max a2.E a2.S)) then
    some 22
   else
    znr a0 (500000003 - a2.E.toUInt64) >>= fun r7 =>
    zkw a2.S.toUInt64 >>= fun r9 =>
    znk r9 r7.1 >>= fun r11 =>
    zc5 r11.1 a0 a1 >>= fun r13 =>
    if r13.2 != 0 then
     some 22
    else
     if r13.1 != a2.E then
      some 22
     else
      some 0
theorem zox (a0:UInt32) (a1:List UInt8) (a2:z0a):z23 Tryz.prog 122 [.rd z0s a0,.rd (z02 u8R) a1,.rd z0e a2] [zG1] (zfz a0 a1 a2) (fun r nv=>⟨[.rd z0f r],[(1001,some (.bool true,.glob 1 (z3i 64 z0s) z6j))]⟩):=by
 refine z2m 58 Tryz.func122 Z Z Z fun H w=>?_;refine gSR<|Eb Z (bx 1 Z) fun v1=>Zb Z<|z0x<|gSR<|Zm Z<|Zc [] [] Tryz.func147 Z (zj3 _) fun r2 n3=>Zq (zds Z)<|Zj Z (fun h4=>?_) (fun h4=>?_)
 ·refine gSR<|Zb Z<|z0n<|z0u<|Ze [] [1001] Z
 ·refine Zt<|z0x<|gSR<|Zm Z<|Zq (z3e Z .rd Z tu52)<|Zq (I.gtr Z Z)<|Zj Z (fun h5=>?_) (fun h5=>?_)
  ·refine gSR<|Zb Z<|z0n<|z0u<|Ze [] [1001] Z
  ·refine Zt<|z0x<|gSR<|Zq (faB 1 Z Z Tryz.underlying41 Z (by exact z5u))<|Zq (ld 1 Z Z (fP (z4h _)) z9k Z)<|Zq (faB 1 Z Z Tryz.underlying41 Z (by exact z5u))<|Zq (ld 1 Z Z (fP (z5s _)) z9k Z)<|Zq (W.max Z Z)<|Zq (W.geq Z Z)<|Zj Z (fun h6=>?_) (fun h6=>?_)
   ·refine gSR<|Zb Z<|z0n<|z0u<|Ze [] [1001] Z
   ·refine Zt<|gSR<|Zm Z<|Zq (faB 1 Z Z Tryz.underlying41 Z (by exact z5u))<|Zq (ld 1 Z Z (fP (z4h _)) z9k Z)<|Zq (W.toU Z tu34 tu35)<|Zq (U.sub Z Z)<|Zc [] [] Tryz.func166 Z (ztd _ _) fun r7 n8=>Zm Z<|Zq (ext Z Z)<|Zq (ext Z Z)<|Za Z<|Zb Z<|gSR<|Zq (faB 1 Z Z Tryz.underlying41 Z (by exact z5u))<|Zq (ld 1 Z Z (fP (z5s _)) z9k Z)<|Zq (W.toU Z tu34 tu35)<|Zc [] [] Tryz.func168 Z (zql _) fun r9 n10=>Zm Z<|Zc [] [] Tryz.func167 Z (zu7 _ _) fun r11 n12=>Zm Z<|Zq (ext Z Z)<|Zq (ext Z Z)<|Za Z<|Zb Z<|z0x<|gSR<|Zm Z<|Zm Z<|Zm Z<|Zc [1001] [] Tryz.func169 Z (zl8 _ _ _) fun r13 n14=>Zm Z<|Zq (ext Z Z)<|Zq (ext Z Z)<|Za Z<|Zb Z<|gSR<|Zm Z<|Zq (I.neq Z Z)<|Zm Z<|z1h 52 Z (fun h15=>?_) (fun h15=>?_)
    ·refine lKn 51 Z h15<|Zk Z<|Zk Z<|Zk Z<|Zk Z<|Zq (pkT Z Z)<|Zn<|zes Z<|gSR<|Zb Z<|z0n<|z0u<|Ze [] [1001] Z
    ·refine lKn 51 Z h15<|z13 Zx Z Z (mv Z)<|z13 Zx Z Z (faB 1 Z Z Tryz.underlying41 Z (by exact z5u))<|z13 Zx Z Z (ld 1 Z Z (fP (z4h _)) z9k Z)<|z13 Zx Z Z (W.neq Z Z)<|Zq (pkF Z Z)<|Zj Z (fun h16=>?_) (fun h16=>?_)
     ·refine gKn 56 Z h16<|gSR<|Zb Z<|z0n<|z0u<|Ze [] [1001] Z
     ·refine gKn 56 Z h16<|Zt<|gSR<|Zb Z<|z0n<|Ze [] [1001] Z
def zeo (a0:z05):Option (Int) :=
 ze0 a0 >>= fun r2 =>
 if r2 != 0 then
  some r2
 else
  zen a0 >>= fun r5 =>
  zfz a0.Author r5.1 a0.Sig >>= fun r7 =>
  some r7
theorem zh9 (a0:z05):z23 Tryz.prog 74 [.rd z03 a0] [zG1] (zeo a0) (fun r nv=>⟨[.rd z0f r],[(1001,some (.bool true,.glob 1 (z3i 64 z0s) z6j))]⟩):=by
 refine z2m 22 Tryz.func74 Z Z Z fun H w=>?_;refine gSR<|Eb Z (bx 1 Z) fun v1=>Zb Z<|z0x<|gSR<|Zq (ld 1 Z Z fH za3 Z)<|Zc [] [] Tryz.func106 Z (zfm _) fun r2 n3=>Zb Z<|gSR<|Zm Z<|Zq (I.neq Z Z)<|Zj Z (fun h4=>?_) (fun h4=>?_)
 ·refine gSR<|Zm Z<|Zb Z<|z0n<|z0u<|Ze [] [1001] Z
 ·refine Zt<|gSR<|Zq (ld 1 Z Z fH za3 Z)<|Zc [] [(100,2)] Tryz.func107 Z (zkh _) fun r5 n6=>Zm Z<|Zq (ext Z Z)<|Zq (ext Z Z)<|Za Z<|Zb Z<|gSR<|Zq (faB 1 Z Z Tryz.underlying43 Z (by exact z5u))<|Zq (ld 1 Z Z (fP (z4f _)) z9k Z)<|Zm Z<|Zq (faB 1 Z Z Tryz.underlying43 Z (by exact zqy))<|Zq (ld 1 Z Z (fP (z3l _)) ty41 Z)<|zg9 2 [14,4,18] Z (fS Z<|fS Z<|fS Z<|fN)<|Zc [1001] [] Tryz.func122 Z (zox _ _ _) fun r7 n8=>Zb Z<|z0n<|Ze [] [1001] Z
def z5k (s4:UInt64 × (List UInt8)):Option (Sum ((List UInt8)) (UInt64 × (List UInt8))) :=
 if decide (0<s4.1) then
  app 1 s4.2 [(s4.1 % 256).toUInt8] >>= fun x8 =>
  some (.inr (s4.1 / 256,x8))
 else
  some (.inl s4.2)
def z5m (s3:(List UInt8)) (s15:(List UInt8) × Int):Option (Sum ((List UInt8)) ((List UInt8) × Int)) :=
 if decide (0≤s15.2) then
  idx s3 s15.2 >>= fun x18 =>
  app 1 s15.1 [x18] >>= fun x21 =>
  some (w64 (s15.2 - 1)) >>= fun y24 =>
  some (.inr (x21,y24))
 else
  some (.inl s15.1)
def z2s (a0:UInt64):Option ((List UInt8)) :=
 if decide (a0≤247) then
  some [a0.toUInt8]
 else
  (iter (z5k) (a0,[])) >>= fun s3 =>
  (some (w64 ((s3.length:Int) - 1)) >>= fun y14 =>
  iter (z5m s3) ([UInt8.ofInt (w64 (247+(s3.length:Int)))],y14)) >>= fun s13 =>
  some s13
theorem z3b (a0:UInt64):z23 Tryz.prog 104 [.rd z1z a0] [] (z2s a0) (fun r nv=>⟨[.val (nv 0)],[(100,some (nv 0,.list u8R 5 r))]⟩):=by
 refine z2m 41 Tryz.func104 Z Z Z fun H w=>?_;refine gSR<|Zb Z<|z0x<|gSR<|Zm Z<|Zq (U.leq Z Z)<|Zj Z (fun h1=>?_) (fun h1=>?_)
 ·refine gSR<|Zm Z<|Zq (U.toB Z tu35 tu5)<|Ef Z (lit (R:=u8R) ([a0.toUInt8]:List UInt8) 1 (pP Z Z<|pN) Z tu52 ti5 Z Z) fun v2=>Zb Z<|z0n<|z0u<|Ze [v2] [1] Z
 ·refine Zt<|gSR<|Zb Z<|z7x (fun (s3:(List UInt8)) aa ww=>∃ nv:Nat→Value,Sta (ctx 41 H [] w) [(3,.val (nv 0))] [(3,some ((nv 0),.list u8R 5 s3))] aa ww) ?_ (fun s3=>?_)
  ·refine zub u8R 5 6<|z29 (fun (s4:UInt64 × (List UInt8)) aa ww=>∃ nv:Nat→Value,Sta (ctx 41 H [] w) [(0,.rd z1z s4.1),(3,.val (nv 0))] [(5,some ((nv 0),.list u8R 5 s4.2))] aa ww) (fun aa ww h=>⟨nvl [(.slice none 0 0)],Zu h [6]⟩) (fun s4=>?_);refine gEx fun n5=>z0x<|gSR<|Zm Z<|Zq (U.gtr Z Z)<|Zj Z (fun h6=>?_) (fun h6=>?_)
   ·refine Zt<|z4s<|gSR<|Zm Z<|Zm Z<|Zq (U.rem Z Z (by decide))<|Zq (U.toB Z tu35 tu5)<|Ef Z (lit (R:=u8R) ([(s4.1 % 256).toUInt8]:List UInt8) 7 (pP Z Z<|pN) Z tu52 ti5 Z Z) fun v7=>z0q fun x8 h9=>Ef Z (apn 5 Z Z Z (.own 7 Z) h9 tu52 ti5 Z Z Z) fun v10=>Zb Z<|z28<|Zm Z<|Zq (U.quo Z Z (by decide))<|Za Z<|z1p<|z3c<|z1s (fun aa ww h=>⟨nvl [v10],Zu h [5]⟩)
   ·refine z27<|z19<|z1b<|z3k (fun aa ww h=>⟨nvl [(n5 0)],Zu h [5]⟩)
  ·refine gEx fun n11=>gSR<|Zm Z<|Zq (z3e Z (.own 3 Z) Z tu52)<|Zq (I.add Z Z)<|Zq (I.toB Z tu3 tu5)<|Ef Z (lit (R:=u8R) ([UInt8.ofInt (w64 (247+(s3.length:Int)))]:List UInt8) 8 (pP Z Z<|pN) Z tu52 ti5 Z Z) fun v12=>Zb Z<|z7x (fun (s13:(List UInt8)) aa ww=>∃ nv:Nat→Value,Sta (ctx 41 H [] w) [(4,.val (nv 0))] [(8,some ((nv 0),.list u8R 5 s13))] aa ww) ?_ (fun s13=>?_)
   ·refine gSR<|Zm Z<|Zq (z3e Z (.own 3 Z) Z tu52)<|Zq (I.sub Z Z)<|Za Z<|z24 5 Z fun y14=>Zn<|z29 (fun (s15:(List UInt8) × Int) aa ww=>∃ nv:Nat→Value,Sta (ctx 41 H [] w) [(3,.val (n11 0)),(4,.val (nv 0)),(5,.rd z0f s15.2)] [(3,some ((n11 0),.list u8R 5 s3)),(8,some ((nv 0),.list u8R 5 s15.1))] aa ww) (fun aa ww h=>⟨nvl [v12],Zu h [3,8]⟩) (fun s15=>?_);refine gEx fun n16=>z0x<|gSR<|Zm Z<|Zq (I.geq Z Z)<|Zj Z (fun h17=>?_) (fun h17=>?_)
    ·refine Zt<|z0x<|z4s<|z28<|Zm Z<|Zm Z<|Zm Z<|z0q fun x18 h19=>Zq (ixO 3 Z Z Z h19 tu52 ti5)<|Zq (ld 3 Z Z (Foc.el h19) ty5 Z)<|Ef Z (lit (R:=u8R) ([x18]:List UInt8) 9 (pP Z Z<|pN) Z tu52 ti5 Z Z) fun v20=>z0q fun x21 h22=>Ef Z (apn 8 Z Z Z (.own 9 Z) h22 tu52 ti5 Z Z Z) fun v23=>Za Z<|z1p<|z3c<|z0y<|z28<|Zm Z<|Zq (I.sub Z Z)<|Za Z<|z24 5 Z fun y24=>z1p<|z1s (fun aa ww h=>⟨nvl [v23],Zu h [3,8]⟩)
    ·refine z27<|z19<|z1b<|z3k (fun aa ww h=>⟨nvl [(n16 0)],Zu h [8]⟩)
   ·refine gEx fun n25=>gSR<|Zm Z<|Zb Z<|z0n<|Ze [(n25 0)] [8] Z
def z6y (a0:List V3) (s4:(List UInt8) × Int):Option (Sum ((List UInt8)) ((List UInt8) × Int)) :=
 if decide (s4.2<(a0.length:Int)) then
  idx a0 s4.2 >>= fun x7 =>
  app 1 s4.1 x7.toList >>= fun x9 =>
  some (w64 (s4.2+1)) >>= fun y12 =>
  some (.inr (x9,y12))
 else
  some (.inl s4.1)
def zb6 (a0:List V3):Option ((List UInt8)) :=
 z2s (UInt64.ofInt (a0.length:Int)) >>= fun r1 =>
 (iter (z6y a0) (r1,0)) >>= fun s3 =>
 some s3
theorem zk8 (a0:List V3):z23 Tryz.prog 144 [.rd (z02 aZ) a0] [] (zb6 a0) (fun r nv=>⟨[.val (nv 0)],[(100,some (nv 0,.list u8R 5 r))]⟩):=by
 refine z2m 22 Tryz.func144 Z Z Z fun H w=>?_;refine gSR<|Zb Z<|gSR<|Zm Z<|Zq (z3e Z .rd Z tu29)<|Zq (I.toU Z tu3 tu35)<|Zc [] [(100,1)] Tryz.func104 Z (z3b _) fun r1 n2=>Zb Z<|z7x (fun (s3:(List UInt8)) aa ww=>∃ nv:Nat→Value,Sta (ctx 22 H [] w) [(3,.val (nv 0))] [(1,some ((nv 0),.list u8R 5 s3))] aa ww) ?_ (fun s3=>?_)
 ·refine gSR<|Zb Z<|z29 (fun (s4:(List UInt8) × Int) aa ww=>∃ nv:Nat→Value,Sta (ctx 22 H [] w) [(0,.rd (z02 aZ) a0),(3,.val (nv 0)),(4,.rd z0f s4.2)] [(1,some ((nv 0),.list u8R 5 s4.1))] aa ww) (fun aa ww h=>⟨nvl [(n2 0)],Zu h [1]⟩) (fun s4=>?_);refine gEx fun n5=>z0x<|gSR<|Zm Z<|Zm Z<|Zq (z3e Z .rd Z tu29)<|Zq (I.lss Z Z)<|Zj Z (fun h6=>?_) (fun h6=>?_)
  ·refine Zt<|z0x<|z4s<|z28<|Zm Z<|Zm Z<|Zm Z<|z0q fun x7 h8=>Zq (ixR Z Z h8 tu29 z31 Z)<|Zq (cutV Z tu45 ti5 Z Z Z)<|z0q fun x9 h10=>Ef Z (apn 1 Z Z Z .rd h10 tu52 ti5 Z Z Z) fun v11=>Za Z<|z1p<|z3c<|z0y<|z28<|Zm Z<|Zq (I.add Z Z)<|Za Z<|z24 4 Z fun y12=>z1p<|z1s (fun aa ww h=>⟨nvl [v11],Zu h [1]⟩)
  ·refine z27<|z19<|z1b<|z3k (fun aa ww h=>⟨nvl [(n5 0)],Zu h [1]⟩)
 ·refine gEx fun n13=>gSR<|Zm Z<|Zb Z<|z0n<|Ze [(n13 0)] [1] Z
def z7y (a0:List UInt8):Option ((List UInt8)) :=
 z2s (UInt64.ofInt (a0.length:Int)) >>= fun r1 =>
 app 1 r1 a0 >>= fun x3 =>
 some x3
theorem ze2 (a0:List UInt8):z23 Tryz.prog 109 [.rd (z02 u8R) a0] [] (z7y a0) (fun r nv=>⟨[.val (nv 0)],[(100,some (nv 0,.list u8R 5 r))]⟩):=by
 refine z2m 9 Tryz.func109 Z Z Z fun H w=>?_;refine gSR<|Zb Z<|gSR<|Zm Z<|Zq (z3e Z .rd Z tu52)<|Zq (I.toU Z tu3 tu35)<|Zc [] [(100,1)] Tryz.func104 Z (z3b _) fun r1 n2=>Zm Z<|z0q fun x3 h4=>Ef Z (apn 1 Z Z Z .rd h4 tu52 ti5 Z Z Z) fun v5=>Zb Z<|z0n<|Ze [v5] [1] Z
def z9p (a0:Int):Option ((List UInt8)) :=
 if decide (0≤a0) then
  z2s (2 * (UInt64.ofInt a0)) >>= fun r2 =>
  some r2
 else
  z2s ((2 * (UInt64.ofInt (w64 (0 - (w64 (a0+1))))))+1) >>= fun r4 =>
  some r4
theorem zi4 (a0:Int):z23 Tryz.prog 188 [.rd z0f a0] [] (z9p a0) (fun r nv=>⟨[.val (nv 0)],[(100,some (nv 0,.list u8R 5 r))]⟩):=by
 refine z2m 16 Tryz.func188 Z Z Z fun H w=>?_;refine gSR<|Zb Z<|z0x<|gSR<|Zm Z<|Zq (I.geq Z Z)<|Zj Z (fun h1=>?_) (fun h1=>?_)
 ·refine gSR<|Zm Z<|Zq (I.toU Z Tryz.underlying2 tu35)<|Zq (U.mul Z Z)<|Zc [] [(100,1)] Tryz.func104 Z (z3b _) fun r2 n3=>Zb Z<|z0n<|z0u<|Ze [(n3 0)] [1] Z
 ·refine Zt<|gSR<|Zm Z<|Zq (I.add Z Z)<|Zq (I.neg Z)<|Zq (I.toU Z Tryz.underlying2 tu35)<|Zq (U.mul Z Z)<|Zq (U.add Z Z)<|Zc [] [(100,2)] Tryz.func104 Z (z3b _) fun r4 n5=>Zb Z<|z0n<|Ze [(n5 0)] [2] Z
def z68 (a0:z00) (s11:(List UInt8) × Int):Option (Sum ((List UInt8)) ((List UInt8) × Int)) :=
 if decide (0≤s11.2) then
  chk (0≤w64 (8 * s11.2)) >>= fun u14 =>
  app 1 s11.1 [(z6l a0.Bits ((w64 (8 * s11.2):Int).toNat)).toUInt8] >>= fun x17 =>
  some (w64 (s11.2 - 1)) >>= fun y20 =>
  some (.inr (x17,y20))
 else
  some (.inl s11.1)
def zae (a0:z00):Option ((List UInt8)) :=
 if a0.Kind==1 then
  z9p a0.Num >>= fun r4 =>
  app 1 [a0.Kind] r4 >>= fun x6 =>
  some x6
 else
  if a0.Kind==2 then
   (iter (z68 a0) ([a0.Kind],7)) >>= fun s10 =>
   some s10
  else
   chk (a0.Text.length≤281474976710656) >>= fun u22 =>
   z7y a0.Text >>= fun r24 =>
   app 1 [a0.Kind] r24 >>= fun x26 =>
   some x26
theorem zj1 (a0:z00):z23 Tryz.prog 145 [.rd z18 a0] [] (zae a0) (fun r nv=>⟨[.val (nv 0)],[(100,some (nv 0,.list u8R 5 r))]⟩):=by
 refine z2m 39 Tryz.func145 Z Z Z fun H w=>?_;refine gSR<|Eb Z (bx 1 Z) fun v1=>Zb Z<|gSR<|Zq (faB 1 Z Z Tryz.underlying37 Z (by exact ti5))<|Zq (ld 1 Z Z (fP (z2f _)) ty5 Z)<|Ef Z (lit (R:=u8R) ([a0.Kind]:List UInt8) 2 (pP Z Z<|pN) Z tu52 ti5 Z Z) fun v2=>Zb Z<|z0x<|gSR<|Zq (faB 1 Z Z Tryz.underlying37 Z (by exact ti5))<|Zq (ld 1 Z Z (fP (z2f _)) ty5 Z)<|Zn<|z4s<|gSR<|Zq (B.eql Z Z)<|Zb Z<|gIf Z Z (fun h3=>?_) (fun h3=>?_)
 ·refine gKn 11 Z h3<|gSR<|Zm Z<|Zq (faB 1 Z Z Tryz.underlying37 Z (by exact ti2))<|Zq (ld 1 Z Z (fP (z5e _)) ty2 Z)<|Zc [] [(100,3)] Tryz.func188 Z (zi4 _) fun r4 n5=>z0q fun x6 h7=>Ef Z (apn 2 Z Z Z (.own 3 Z) h7 tu52 ti5 Z Z Z) fun v8=>Zb Z<|z0n<|z3m<|z0u<|Ze [v8] [2] Z
 ·refine gKn 11 Z h3<|gSR<|Zq (B.eql Z Z)<|Zb Z<|gIf Z Z (fun h9=>?_) (fun h9=>?_)
  ·refine gKn 18 Z h9<|z7x (fun (s10:(List UInt8)) aa ww=>∃ nv:Nat→Value,Sta (ctx 39 H [] w) [(3,.val (nv 0))] [(2,some ((nv 0),.list u8R 5 s10))] aa ww) ?_ (fun s10=>?_)
   ·refine gSR<|Zb Z<|z29 (fun (s11:(List UInt8) × Int) aa ww=>∃ nv:Nat→Value,Sta (ctx 39 H [] w) [(1,.val (z07 v1 0)),(3,.val (nv 0)),(4,.rd z0f s11.2)] [(1,some (v1,.box 37 [.rd z18 a0])),(2,some ((nv 0),.list u8R 5 s11.1))] aa ww) (fun aa ww h=>⟨nvl [v2],Zu h [1,2]⟩) (fun s11=>?_);refine gEx fun n12=>z0x<|gSR<|Zm Z<|Zq (I.geq Z Z)<|Zj Z (fun h13=>?_) (fun h13=>?_)
    ·refine Zt<|z0x<|z4s<|z28<|Zm Z<|Zq (faB 1 Z Z Tryz.underlying37 Z (by exact zrn))<|Zq (ld 1 Z Z (fP (z38 _)) zux Z)<|Zm Z<|Zq (I.mul Z Z)<|z0q fun u14 h15=>Zq (U.shr Z Z (z4z h15))<|Zq (U.toB Z tu35 tu5)<|Ef Z (lit (R:=u8R) ([(z6l a0.Bits ((w64 (8 * s11.2):Int).toNat)).toUInt8]:List UInt8) 4 (pP Z Z<|pN) Z tu52 ti5 Z Z) fun v16=>z0q fun x17 h18=>Ef Z (apn 2 Z Z Z (.own 4 Z) h18 tu52 ti5 Z Z Z) fun v19=>Za Z<|z1p<|z3c<|z0y<|z28<|Zm Z<|Zq (I.sub Z Z)<|Za Z<|z24 4 Z fun y20=>z1p<|z1s (fun aa ww h=>⟨nvl [v19],Zu h [1,2]⟩)
    ·refine z27<|z19<|z1b<|z3k (fun aa ww h=>⟨nvl [(n12 0)],Zu h [2]⟩)
   ·refine gEx fun n21=>gSR<|Zm Z<|Zb Z<|z0n<|z3m<|z0u<|Ze [(n21 0)] [2] Z
  ·refine gKn 18 Z h9<|z30<|z3c<|z0y<|gSR<|Zm Z<|Zq (faB 1 Z Z Tryz.underlying37 Z (by exact ti9))<|Zq (ld 1 Z Z (fP (z3a _)) ty9 Z)<|z0q fun u22 h23=>z13j Z Z h23 tu9 tu52 tu5<|Zc [] [(100,5)] Tryz.func109 Z (ze2 _) fun r24 n25=>z0q fun x26 h27=>Ef Z (apn 2 Z Z Z (.own 5 Z) h27 tu52 ti5 Z Z Z) fun v28=>Zb Z<|z0n<|Ze [v28] [2] Z
def z9e (a0:z05):Option ((List UInt8)) :=
 z2s a0.Author.toUInt64 >>= fun r3 =>
 app 1 [111] r3 >>= fun x5 =>
 zb6 a0.Preds >>= fun r8 =>
 app 1 x5 r8 >>= fun x10 =>
 z2s a0.Stamp >>= fun r13 =>
 app 1 x10 r13 >>= fun x15 =>
 app 1 x15 [a0.Act.Kind] >>= fun x19 =>
 (if a0.Act.Kind != 1 then
  chk (a0.Act.Key.length≤281474976710656) >>= fun u24 =>
  z7y a0.Act.Key >>= fun r26 =>
  app 1 x19 r26 >>= fun x28 =>
  some x28
 else
  some x19) >>= fun s22 =>
 if a0.Act.Kind==4 then
  zae a0.Act.Value >>= fun r33 =>
  app 1 s22 r33 >>= fun x35 =>
  some x35
 else
  some s22
theorem ze1 (a0:z05):z23 Tryz.prog 103 [.rd z03 a0] [] (z9e a0) (fun r nv=>⟨[.val (nv 0)],[(100,some (nv 0,.list u8R 5 r))]⟩):=by
 refine z2m 47 Tryz.func103 Z Z Z fun H w=>?_;refine gSR<|Eb Z (bx 1 Z) fun v1=>Zb Z<|gSR<|Ef Z (lit (R:=u8R) ([111]:List UInt8) 2 (pP Z Z<|pN) Z tu52 ti5 Z Z) fun v2=>Zq (faB 1 Z Z Tryz.underlying43 Z (by exact z5u))<|Zq (ld 1 Z Z (fP (z4f _)) z9k Z)<|Zq (W.toU Z tu34 tu35)<|Zc [] [(100,3)] Tryz.func104 Z (z3b _) fun r3 n4=>z0q fun x5 h6=>Ef Z (apn 2 Z Z Z (.own 3 Z) h6 tu52 ti5 Z Z Z) fun v7=>Zb Z<|z0x<|z9u [2,13,25] mixed Z Z<|hTk 0 Z Z (mv Z)<|hTk 1 Z Z (faB 1 Z Z Tryz.underlying43 Z (by exact z8j))<|hTk 2 Z Z (ld 1 Z Z (fP (z0z _)) zbn Z)<|hTk 5 Z Z (faB 1 Z Z Tryz.underlying43 Z (by exact zrn))<|hTk 6 Z Z (ld 1 Z Z (fP (z7u _)) zux Z)<|z5t 3 [] [(100,13)] Z (by kernel_rfl) Z (gd0 Z) Z Tryz.func144 Z Z (zk8 _) (Y1 Z) rN Z (fun _ _=>z3t) fun r8 n9=>z5n fun x10 h11=>Zo 4 Z Z Z (apn 2 Z Z Z (.own 13 Z) h11 tu52 ti5 Z Z Z) fun v12=>z5t 7 [] [(100,25)] Z (by kernel_rfl) Z (gd0 Z) Z Tryz.func104 Z Z (z3b _) (Y1 Z) rN Z (fun _ _=>z3t) fun r13 n14=>z5n fun x15 h16=>Zo 8 Z Z Z (apn 2 Z Z Z (.own 25 Z) h16 tu52 ti5 Z Z Z) fun v17=>Zf 9 Z Z z3t (asg Z)<|z6e (by kernel_rfl)<|z0y<|gSR<|Zm Z<|Zq (faB 1 Z Z Tryz.underlying43 Z (by exact zn7))<|Zq (faB 1 Z Z Tryz.underlying39 Z (by exact ti5))<|Zq (ld 1 Z Z ((fP (z2p _)).part (z2r _)) ty5 Z)<|Ef Z (lit (R:=u8R) ([a0.Act.Kind]:List UInt8) 37 (pP Z Z<|pN) Z tu52 ti5 Z Z) fun v18=>z0q fun x19 h20=>Ef Z (apn 2 Z Z Z (.own 37 Z) h20 tu52 ti5 Z Z Z) fun v21=>Zb Z<|z7x (fun (s22:(List UInt8)) aa ww=>∃ nv:Nat→Value,Sta (ctx 47 H [] w) [(1,.val (z07 v1 0)),(3,.val (nv 0))] [(1,some (v1,.box 43 [.rd z03 a0])),(2,some ((nv 0),.list u8R 5 s22))] aa ww) ?_ (fun s22=>?_)
 ·refine gSR<|Zq (faB 1 Z Z Tryz.underlying43 Z (by exact zn7))<|Zq (faB 1 Z Z Tryz.underlying39 Z (by exact ti5))<|Zq (ld 1 Z Z ((fP (z2p _)).part (z2r _)) ty5 Z)<|Zq (B.neq Z Z)<|Zj Z (fun h23=>?_) (fun h23=>?_)
  ·refine z28<|Zm Z<|Zq (faB 1 Z Z Tryz.underlying43 Z (by exact zn7))<|Zq (faB 1 Z Z Tryz.underlying39 Z (by exact ti9))<|Zq (ld 1 Z Z ((fP (z2p _)).part (z43 _)) ty9 Z)<|z0q fun u24 h25=>z13j Z Z h25 tu9 tu52 tu5<|Zc [] [(100,38)] Tryz.func109 Z (ze2 _) fun r26 n27=>z0q fun x28 h29=>Ef Z (apn 2 Z Z Z (.own 38 Z) h29 tu52 ti5 Z Z Z) fun v30=>Za Z<|z1p<|z3k (fun aa ww h=>⟨nvl [v30],Zu h [1,2]⟩)
  ·refine z30<|z3k (fun aa ww h=>⟨nvl [v21],Zu h [1,2]⟩)
 ·refine gEx fun n31=>z0x<|gSR<|Zq (faB 1 Z Z Tryz.underlying43 Z (by exact zn7))<|Zq (faB 1 Z Z Tryz.underlying39 Z (by exact ti5))<|Zq (ld 1 Z Z ((fP (z2p _)).part (z2r _)) ty5 Z)<|Zq (B.eql Z Z)<|Zj Z (fun h32=>?_) (fun h32=>?_)
  ·refine z28<|Zm Z<|Zq (faB 1 Z Z Tryz.underlying43 Z (by exact zn7))<|Zq (faB 1 Z Z Tryz.underlying39 Z (by exact zel))<|Zq (ld 1 Z Z ((fP (z2p _)).part (z4g _)) zot Z)<|Zc [] [(100,39)] Tryz.func145 Z (zj1 _) fun r33 n34=>z0q fun x35 h36=>Ef Z (apn 2 Z Z Z (.own 39 Z) h36 tu52 ti5 Z Z Z) fun v37=>Zb Z<|gSR<|Zm Z<|Zb Z<|z0n<|Ze [v37] [2] Z
  ·refine Zt<|gSR<|Zm Z<|Zb Z<|z0n<|Ze [(n31 0)] [2] Z
def zah (a0:z05):Option ((List UInt8)) :=
 z9e a0 >>= fun r2 =>
 z2s a0.Sig.E.toUInt64 >>= fun r4 =>
 app 1 r2 r4 >>= fun x6 =>
 z2s a0.Sig.S.toUInt64 >>= fun r9 =>
 app 1 x6 r9 >>= fun x11 =>
 some x11
theorem zj7 (a0:z05):z23 Tryz.prog 54 [.rd z03 a0] [] (zah a0) (fun r nv=>⟨[.val (nv 0)],[(100,some (nv 0,.list u8R 5 r))]⟩):=by
 refine z2m 17 Tryz.func54 Z Z Z fun H w=>?_;refine gSR<|Eb Z (bx 1 Z) fun v1=>Zb Z<|z0x<|z9u [5,20,38] mixed Z Z<|hTk 0 Z Z (ld 1 Z Z fH za3 Z)<|hTk 2 Z Z (faB 1 Z Z Tryz.underlying43 Z (by exact zqy))<|hTk 3 Z Z (faB 1 Z Z Tryz.underlying41 Z (by exact z5u))<|hTk 4 Z Z (ld 1 Z Z ((fP (z3l _)).part (z4h _)) z9k Z)<|hTk 5 Z Z (W.toU Z tu34 tu35)<|hTk 8 Z Z (faB 1 Z Z Tryz.underlying43 Z (by exact zqy))<|hTk 9 Z Z (faB 1 Z Z Tryz.underlying41 Z (by exact z5u))<|hTk 10 Z Z (ld 1 Z Z ((fP (z3l _)).part (z5s _)) z9k Z)<|hTk 11 Z Z (W.toU Z tu34 tu35)<|z5t 1 [] [(100,5)] Z (by kernel_rfl) Z (gd0 Z) Z Tryz.func103 Z Z (ze1 _) (Y1 Z) rN Z (fun _ _=>z3t) fun r2 n3=>z5t 6 [] [(100,20)] Z (by kernel_rfl) Z (gd0 Z) Z Tryz.func104 Z Z (z3b _) (Y1 Z) rN Z (fun _ _=>z3t) fun r4 n5=>z5n fun x6 h7=>Zo 7 Z Z Z (apn 5 Z Z Z (.own 20 Z) h7 tu52 ti5 Z Z Z) fun v8=>z5t 12 [] [(100,38)] Z (by kernel_rfl) Z (gd0 Z) Z Tryz.func104 Z Z (z3b _) (Y1 Z) rN Z (fun _ _=>z3t) fun r9 n10=>z5n fun x11 h12=>Zo 13 Z Z Z (apn 5 Z Z Z (.own 38 Z) h12 tu52 ti5 Z Z Z) fun v13=>Zf 14 Z Z z3t (asg Z)<|z6e (by kernel_rfl)<|z0y<|z0n<|Ze [v13] [5] Z
def zcp  : Option ((Vector UInt32 8)) :=
 some (#v[1779033703,3144134277,1013904242,2773480762,1359893119,2600822924,528734635,1541459225]:Vector UInt32 8)
theorem zim  : z23 Tryz.prog 101 [] [] (zcp) (fun r nv=>⟨[.rd (z3i 8 z0s) r],[]⟩):=by
 refine z2m 2 Tryz.func101 Z Z Z fun H w=>?_;refine gSR<|Eb Z (z6n 1 zi1 (.zr (R:=(z3i 8 z0s)) (x:=(Vector.replicate 8 0)) zt4)) fun v1=>Zn<|gSR<|Zq (litA (R:=z0s) [1779033703,3144134277,1013904242,2773480762,1359893119,2600822924,528734635,1541459225] (#v[1779033703,3144134277,1013904242,2773480762,1359893119,2600822924,528734635,1541459225]:Vector UInt32 8) (pP Z Z<|pP Z Z<|pP Z Z<|pP Z Z<|pP Z Z<|pP Z Z<|pP Z Z<|pP Z Z<|pN) Z tu149 zi1 Z z5u)<|Es (sto 1 Z Z fH Z zi1)<|Zn<|z0n<|zbm [] [] Z (eC 1 Z Z ztj<|eN) (rN)
def z6z (a0:Int) (s3:(List UInt8)):Option (Sum ((List UInt8)) ((List UInt8))) :=
 if (Int.tmod (w64 ((w64 (a0+(s3.length:Int)))+8)) 64) != 0 then
  app 1 s3 [0] >>= fun x7 =>
  some (.inr x7)
 else
  some (.inl s3)
def z6v (a0:Int) (s12:(List UInt8) × Int):Option (Sum ((List UInt8)) ((List UInt8) × Int)) :=
 if decide (0≤s12.2) then
  chk (0≤w64 (8 * s12.2)) >>= fun u15 =>
  app 1 s12.1 [(z6l (8 * (UInt64.ofInt a0)) ((w64 (8 * s12.2):Int).toNat)).toUInt8] >>= fun x18 =>
  some (w64 (s12.2 - 1)) >>= fun y21 =>
  some (.inr (x18,y21))
 else
  some (.inl s12.1)
def zbk (a0:Int):Option ((List UInt8)) :=
 (iter (z6z a0) [128]) >>= fun s2 =>
 (iter (z6v a0) (s2,7)) >>= fun s11 =>
 some s11
theorem zjp (a0:Int):z23 Tryz.prog 102 [.rd z0f a0] [] (zbk a0) (fun r nv=>⟨[.val (nv 0)],[(100,some (nv 0,.list u8R 5 r))]⟩):=by
 refine z2m 31 Tryz.func102 Z Z Z fun H w=>?_;refine gSR<|Zb Z<|gSR<|Ef Z (lit (R:=u8R) ([128]:List UInt8) 1 (pP Z Z<|pN) Z tu52 ti5 Z Z) fun v1=>Zb Z<|z7x (fun (s2:(List UInt8)) aa ww=>∃ nv:Nat→Value,Sta (ctx 31 H [] w) [(0,.rd z0f a0),(3,.val (nv 0))] [(1,some ((nv 0),.list u8R 5 s2))] aa ww) ?_ (fun s2=>?_)
 ·refine z29 (fun (s3:(List UInt8)) aa ww=>∃ nv:Nat→Value,Sta (ctx 31 H [] w) [(0,.rd z0f a0),(3,.val (nv 0))] [(1,some ((nv 0),.list u8R 5 s3))] aa ww) (fun aa ww h=>⟨nvl [v1],Zu h [1]⟩) (fun s3=>?_);refine gEx fun n4=>z0x<|gSR<|Zm Z<|Zm Z<|Zq (z3e Z (.own 1 Z) Z tu52)<|Zq (I.add Z Z)<|Zq (I.add Z Z)<|Zq (I.rem Z Z (by decide))<|Zq (I.neq Z Z)<|Zj Z (fun h5=>?_) (fun h5=>?_)
  ·refine Zt<|z4s<|z28<|Zm Z<|Ef Z (lit (R:=u8R) ([0]:List UInt8) 2 (pP Z Z<|pN) Z tu52 ti5 Z Z) fun v6=>z0q fun x7 h8=>Ef Z (apn 1 Z Z Z (.own 2 Z) h8 tu52 ti5 Z Z Z) fun v9=>Za Z<|z1p<|z3c<|z1s (fun aa ww h=>⟨nvl [v9],Zu h [1]⟩)
  ·refine z27<|z19<|z1b<|z3k (fun aa ww h=>⟨nvl [(n4 0)],Zu h [1]⟩)
 ·refine gEx fun n10=>z7x (fun (s11:(List UInt8)) aa ww=>∃ nv:Nat→Value,Sta (ctx 31 H [] w) [(3,.val (nv 0))] [(1,some ((nv 0),.list u8R 5 s11))] aa ww) ?_ (fun s11=>?_)
  ·refine gSR<|Zb Z<|z29 (fun (s12:(List UInt8) × Int) aa ww=>∃ nv:Nat→Value,Sta (ctx 31 H [] w) [(0,.rd z0f a0),(3,.val (nv 0)),(4,.rd z0f s12.2)] [(1,some ((nv 0),.list u8R 5 s12.1))] aa ww) (fun aa ww h=>⟨nvl [(n10 0)],Zu h [1]⟩) (fun s12=>?_);refine gEx fun n13=>z0x<|gSR<|Zm Z<|Zq (I.geq Z Z)<|Zj Z (fun h14=>?_) (fun h14=>?_)
   ·refine Zt<|z0x<|z4s<|z28<|Zm Z<|Zm Z<|Zq (I.toU Z tu3 tu35)<|Zq (U.mul Z Z)<|Zm Z<|Zq (I.mul Z Z)<|z0q fun u15 h16=>Zq (U.shr Z Z (z4z h16))<|Zq (U.toB Z tu35 tu5)<|Ef Z (lit (R:=u8R) ([(z6l (8 * (UInt64.ofInt a0)) ((w64 (8 * s12.2):Int).toNat)).toUInt8]:List UInt8) 3 (pP Z Z<|pN) Z tu52 ti5 Z Z) fun v17=>z0q fun x18 h19=>Ef Z (apn 1 Z Z Z (.own 3 Z) h19 tu52 ti5 Z Z Z) fun v20=>Za Z<|z1p<|z3c<|z0y<|z28<|Zm Z<|Zq (I.sub Z Z)<|Za Z<|z24 4 Z fun y21=>z1p<|z1s (fun aa ww h=>⟨nvl [v20],Zu h [1]⟩)
   ·refine z27<|z19<|z1b<|z3k (fun aa ww h=>⟨nvl [(n13 0)],Zu h [1]⟩)
  ·refine gEx fun n22=>gSR<|Zm Z<|Zb Z<|z0n<|Ze [(n22 0)] [1] Z
def z2v (a0:UInt32) (a1:Int):Option (UInt32) :=
 chk (0≤a1) >>= fun u1 =>
 chk (0≤w64 (32 - a1)) >>= fun u3 =>
 some ((z4i a0 ((a1:Int).toNat)) ||| (zr5 a0 ((w64 (32 - a1):Int).toNat))) >>= fun y5 =>
 some y5
theorem z2w (a0:UInt32) (a1:Int):z23 Tryz.prog 186 [.rd z0s a0,.rd z0f a1] [] (z2v a0 a1) (fun r nv=>⟨[.rd z0s r],[]⟩):=by
 refine z2m 13 Tryz.func186 Z Z Z fun H w=>?_;refine gSR<|Zb Z<|z0x<|zix mixed (by kernel_rfl)<|Rq Z (mv Z)<|Rq Z (mv Z)<|z8n fun u1 h2=>Rq Z (W.shr Z Z (z4z h2))<|Rq Z (mv Z)<|Rq Z (mv Z)<|Rq Z (I.sub Z Z)<|z8n fun u3 h4=>Rq Z (W.shl Z Z (z4z h4))<|Rq Z (W.or Z Z)<|Rq Z (asg Z)<|z1bm 4 Z fun y5=>zvk<|z0y<|z0n<|Ze [] [] Z
def za1  : Option ((List UInt32)) :=
 some [1116352408,1899447441,3049323471,3921009573,961987163,1508970993,2453635748,2870763221,3624381080,310598401,607225278,1426881987,1925078388,2162078206,2614888103,3248222580,3835390401,4022224774,264347078,604807628,770255983,1249150122,1555081692,1996064986,2554220882,2821834349,2952996808,3210313671,3336571891,3584528711,113926993,338241895,666307205,773529912,1294757372,1396182291,1695183700,1986661051,2177026350,2456956037,2730485921,2820302411,3259730800,3345764771,3516065817,3600352804,4094571909,275423344,430227734,506948616,659060556,883997877,958139571,1322822218,1537002063,1747873779,1955562222,2024104815,2227730452,2361852424,2428436474,2756734187,3204031479,3329325298]
theorem zfx  : z23 Tryz.prog 187 [] [] (za1) (fun r nv=>⟨[.val (nv 0)],[(100,some (nv 0,.list z0s 34 r))]⟩):=by
 refine z2m 2 Tryz.func187 Z Z Z fun H w=>?_;refine gSR<|Zb Z<|gSR<|Ef Z (lit (R:=z0s) ([1116352408,1899447441,3049323471,3921009573,961987163,1508970993,2453635748,2870763221,3624381080,310598401,607225278,1426881987,1925078388,2162078206,2614888103,3248222580,3835390401,4022224774,264347078,604807628,770255983,1249150122,1555081692,1996064986,2554220882,2821834349,2952996808,3210313671,3336571891,3584528711,113926993,338241895,666307205,773529912,1294757372,1396182291,1695183700,1986661051,2177026350,2456956037,2730485921,2820302411,3259730800,3345764771,3516065817,3600352804,4094571909,275423344,430227734,506948616,659060556,883997877,958139571,1322822218,1537002063,1747873779,1955562222,2024104815,2227730452,2361852424,2428436474,2756734187,3204031479,3329325298]:List UInt32) 1 (pP Z Z<|pP Z Z<|pP Z Z<|pP Z Z<|pP Z Z<|pP Z Z<|pP Z Z<|pP Z Z<|pP Z Z<|pP Z Z<|pP Z Z<|pP Z Z<|pP Z Z<|pP Z Z<|pP Z Z<|pP Z Z<|pP Z Z<|pP Z Z<|pP Z Z<|pP Z Z<|pP Z Z<|pP Z Z<|pP Z Z<|pP Z Z<|pP Z Z<|pP Z Z<|pP Z Z<|pP Z Z<|pP Z Z<|pP Z Z<|pP Z Z<|pP Z Z<|pP Z Z<|pP Z Z<|pP Z Z<|pP Z Z<|pP Z Z<|pP Z Z<|pP Z Z<|pP Z Z<|pP Z Z<|pP Z Z<|pP Z Z<|pP Z Z<|pP Z Z<|pP Z Z<|pP Z Z<|pP Z Z<|pP Z Z<|pP Z Z<|pP Z Z<|pP Z Z<|pP Z Z<|pP Z Z<|pP Z Z<|pP Z Z<|pP Z Z<|pP Z Z<|pP Z Z<|pP Z Z<|pP Z Z<|pP Z Z<|pP Z Z<|pP Z Z<|pN) Z tu232 z5u Z Z) fun v1=>Zb Z<|z0n<|Ze [v1] [1] Z
def z5g (a1:List UInt8) (s4:(List UInt32) × Int):Option (Sum ((List UInt32)) ((List UInt32) × Int)) :=
 if decide (s4.2<16) then
  idx a1 (w64 (4 * s4.2)) >>= fun x7 =>
  idx a1 (w64 ((w64 (4 * s4.2))+1)) >>= fun x9 =>
  idx a1 (w64 ((w64 (4 * s4.2))+2)) >>= fun x11 =>
  idx a1 (w64 ((w64 (4 * s4.2))+3)) >>= fun x13 =>
  app 4 s4.1 [(((((x7.toUInt32 * 256)+x9.toUInt32) * 256)+x11.toUInt32) * 256)+x13.toUInt32] >>= fun x16 =>
  some (w64 (s4.2+1)) >>= fun y19 =>
  some (.inr (x16,y19))
 else
  some (.inl s4.1)
def z5l (s22:(List UInt32) × Int):Option (Sum ((List UInt32)) ((List UInt32) × Int)) :=
 if decide (s22.2<64) then
  idx s22.1 (w64 (s22.2 - 15)) >>= fun x25 =>
  idx s22.1 (w64 (s22.2 - 2)) >>= fun x27 =>
  idx s22.1 (w64 (s22.2 - 16)) >>= fun x29 =>
  idx s22.1 (w64 (s22.2 - 7)) >>= fun x31 =>
  z2v x25 7 >>= fun r33 =>
  z2v x25 18 >>= fun r36 =>
  z2v x27 17 >>= fun r39 =>
  z2v x27 19 >>= fun r42 =>
  app 4 s22.1 [((x29+x31)+((r33 ^^^ r36) ^^^ (z4i x25 3)))+((r39 ^^^ r42) ^^^ (z4i x27 10))] >>= fun x45 =>
  some (w64 (s22.2+1)) >>= fun y48 =>
  some (.inr (x45,y48))
 else
  some (.inl s22.1)
def z3n (s21:(List UInt32)) (r50:(List UInt32)) (s54:(Vector UInt32 8) × Int):Option (Sum ((Vector UInt32 8)) ((Vector UInt32 8) × Int)) :=
 if decide (s54.2<64) then
  z84 s54.1 0 >>= fun x56 =>
  z84 s54.1 1 >>= fun x58 =>
  z84 s54.1 2 >>= fun x60 =>
  z84 s54.1 4 >>= fun x62 =>
  z84 s54.1 5 >>= fun x64 =>
  z84 s54.1 6 >>= fun x66 =>
  z84 s54.1 7 >>= fun x68 =>
  idx r50 s54.2 >>= fun x70 =>
  idx s21 s54.2 >>= fun x72 =>
  z2v x62 6 >>= fun r74 =>
  z2v x62 11 >>= fun r76 =>
  z2v x62 25 >>= fun r78 =>
  some ((((x68+((r74 ^^^ r76) ^^^ r78))+((x62 &&& x64) ^^^ ((~~~x62) &&& x66)))+x70)+x72) >>= fun y80 =>
  z2v x56 2 >>= fun r81 =>
  z2v x56 13 >>= fun r83 =>
  z2v x56 22 >>= fun r85 =>
  some (((r81 ^^^ r83) ^^^ r85)+(((x56 &&& x58) ^^^ (x56 &&& x60)) ^^^ (x58 &&& x60))) >>= fun y87 =>
  z84 s54.1 3 >>= fun x88 =>
  some (w64 (s54.2+1)) >>= fun y90 =>
  some (.inr ((#v[y80+y87,x56,x58,x60,x88+y80,x62,x64,x66]:Vector UInt32 8),y90))
 else
  some (.inl s54.1)
def z21 (s53:(Vector UInt32 8)) (s92:(Vector UInt32 8) × Int):Option (Sum ((Vector UInt32 8)) ((Vector UInt32 8) × Int)) :=
 if decide (s92.2<8) then
  z84 s92.1 s92.2 >>= fun x94 =>
  z84 s53 s92.2 >>= fun x96 =>
  z84 s92.1 s92.2 >>= fun x98 =>
  some (w64 (s92.2+1)) >>= fun y100 =>
  some (.inr (zjl s92.1 s92.2 (x94+x96),y100))
 else
  some (.inl s92.1)
def z9s (a0:Vector UInt32 8) (a1:List UInt8):Option ((Vector UInt32 8)) :=
 (iter (z5g a1) ([],0)) >>= fun s3 =>
 (iter (z5l) (s3,16)) >>= fun s21 =>
 za1 >>= fun r50 =>
 (iter (z3n s21 r50) (a0,0)) >>= fun s53 =>
 (iter (z21 s53) (a0,0)) >>= fun s91 =>
 some s91
set_option maxHeartbeats 4000000 in
theorem zhy (a0:Vector UInt32 8) (a1:List UInt8):z23 Tryz.prog 143 [.rd (z3i 8 z0s) a0,.rd (z02 u8R) a1] [] (z9s a0 a1) (fun r nv=>⟨[.rd (z3i 8 z0s) r],[]⟩):=by
 refine z2m 203 Tryz.func143 Z Z Z fun H w=>?_;refine gSR<|Eb Z (bx 1 Z) fun v1=>Eb Z (z6n 2 zi1 (.zr (R:=(z3i 8 z0s)) (x:=(Vector.replicate 8 0)) zt4)) fun v2=>Zn<|gSR<|Zb Z<|z7x (fun (s3:(List UInt32)) aa ww=>∃ nv:Nat→Value,Sta (ctx 203 H [] w) [(2,.val (z07 v1 0)),(4,.val (z07 v2 0)),(5,.val (nv 0))] [(1,some (v1,.box 149 [.rd (z3i 8 z0s) a0])),(2,some (v2,.box 149 [.rd (z3i 8 z0s) (Vector.replicate 8 0)])),(108,some ((nv 0),.list z0s 34 s3))] aa ww) ?_ (fun s3=>?_)
 ·refine gSR<|Zb Z<|zub z0s 34 215<|z29 (fun (s4:(List UInt32) × Int) aa ww=>∃ nv:Nat→Value,Sta (ctx 203 H [] w) [(1,.rd (z02 u8R) a1),(2,.val (z07 v1 0)),(4,.val (z07 v2 0)),(5,.val (nv 0)),(6,.rd z0f s4.2)] [(1,some (v1,.box 149 [.rd (z3i 8 z0s) a0])),(2,some (v2,.box 149 [.rd (z3i 8 z0s) (Vector.replicate 8 0)])),(214,some ((nv 0),.list z0s 34 s4.1))] aa ww) (fun aa ww h=>⟨nvl [(.slice none 0 0)],Zu h [1,2,215]⟩) (fun s4=>?_)
  refine gEx fun n5=>z0x<|gSR<|Zm Z<|Zq (I.lss Z Z)<|Zj Z (fun h6=>?_) (fun h6=>?_)
  ·refine Zt<|z0x<|z4s<|z9u [214,318] mixed Z Z<|hTk 0 Z Z (mv Z)<|hTk 1 Z Z (mv Z)<|hTk 2 Z Z (mv Z)<|hTk 3 Z Z (I.mul Z Z)<|z5n fun x7 h8=>hTk 4 Z Z (ixR Z Z h8 tu52 ti5 Z)<|hTk 5 Z Z (ldR Z ty5)<|hTk 6 Z Z (B.toW Z tu5 tu34)<|hTk 7 Z Z (W.mul Z Z)<|hTk 8 Z Z (mv Z)<|hTk 9 Z Z (mv Z)<|hTk 10 Z Z (I.mul Z Z)<|hTk 11 Z Z (I.add Z Z)<|z5n fun x9 h10=>hTk 12 Z Z (ixR Z Z h10 tu52 ti5 Z)<|hTk 13 Z Z (ldR Z ty5)<|hTk 14 Z Z (B.toW Z tu5 tu34)<|hTk 15 Z Z (W.add Z Z)<|hTk 16 Z Z (W.mul Z Z)<|hTk 17 Z Z (mv Z)<|hTk 18 Z Z (mv Z)<|hTk 19 Z Z (I.mul Z Z)<|hTk 20 Z Z (I.add Z Z)<|z5n fun x11 h12=>hTk 21 Z Z (ixR Z Z h12 tu52 ti5 Z)<|hTk 22 Z Z (ldR Z ty5)<|hTk 23 Z Z (B.toW Z tu5 tu34)<|hTk 24 Z Z (W.add Z Z)<|hTk 25 Z Z (W.mul Z Z)<|hTk 26 Z Z (mv Z)<|hTk 27 Z Z (mv Z)<|hTk 28 Z Z (I.mul Z Z)<|hTk 29 Z Z (I.add Z Z)<|z5n fun x13 h14=>hTk 30 Z Z (ixR Z Z h14 tu52 ti5 Z)<|hTk 31 Z Z (ldR Z ty5)<|hTk 32 Z Z (B.toW Z tu5 tu34)<|hTk 33 Z Z (W.add Z Z)<|Zo 34 Z Z Z (lit (R:=z0s) ([(((((x7.toUInt32 * 256)+x9.toUInt32) * 256)+x11.toUInt32) * 256)+x13.toUInt32]:List UInt32) 318 (pP Z Z<|pN) Z tu232 z5u Z Z) fun v15=>z5n fun x16 h17=>Zo 35 Z Z Z (apn 214 Z Z Z (.own 318 Z) h17 tu232 z5u Z Z Z) fun v18=>Zf 36 Z Z z3t (asg Z)<|z6e (by kernel_rfl)<|z3c<|z0y<|z28<|Zm Z<|Zq (I.add Z Z)<|Za Z<|z24 6 Z fun y19=>z1p<|z1s (fun aa ww h=>⟨nvl [v18],Zu h [1,2,214]⟩)
  ·refine z27<|z19<|z1b<|z3k (fun aa ww h=>⟨nvl [(n5 0)],Zu h [1,2,214]⟩)
 ·refine gEx fun n20=>z7x (fun (s21:(List UInt32)) aa ww=>∃ nv:Nat→Value,Sta (ctx 203 H [] w) [(2,.val (z07 v1 0)),(4,.val (z07 v2 0)),(5,.val (nv 0))] [(1,some (v1,.box 149 [.rd (z3i 8 z0s) a0])),(2,some (v2,.box 149 [.rd (z3i 8 z0s) (Vector.replicate 8 0)])),(108,some ((nv 0),.list z0s 34 s21))] aa ww) ?_ (fun s21=>?_)
  ·refine gSR<|Zb Z<|z29 (fun (s22:(List UInt32) × Int) aa ww=>∃ nv:Nat→Value,Sta (ctx 203 H [] w) [(2,.val (z07 v1 0)),(4,.val (z07 v2 0)),(5,.val (nv 0)),(7,.rd z0f s22.2)] [(1,some (v1,.box 149 [.rd (z3i 8 z0s) a0])),(2,some (v2,.box 149 [.rd (z3i 8 z0s) (Vector.replicate 8 0)])),(108,some ((nv 0),.list z0s 34 s22.1))] aa ww) (fun aa ww h=>⟨nvl [(n20 0)],Zu h [1,2,108]⟩) (fun s22=>?_);refine gEx fun n23=>z0x<|gSR<|Zm Z<|Zq (I.lss Z Z)<|Zj Z (fun h24=>?_) (fun h24=>?_)
   ·refine Zt<|z0x<|z4s<|z0x<|zix mixed (by kernel_rfl)<|Rq Z (mv Z)<|Rq Z (mv Z)<|Rq Z (I.sub Z Z)<|z8n fun x25 h26=>Rq Z (ixO 108 Z Z Z h26 tu232 z5u)<|Rq Z (ld 108 Z Z (Foc.el h26) z9k Z)<|Rq Z (mv Z)<|Rq Z (mv Z)<|Rq Z (I.sub Z Z)<|z8n fun x27 h28=>Rq Z (ixO 108 Z Z Z h28 tu232 z5u)<|Rq Z (ld 108 Z Z (Foc.el h28) z9k Z)<|Rq Z (asg Z)<|Rq Z (asg Z)<|zvk<|z0y<|zxx [(5,.val (n23 0)),(2,.val (z07 v1 0)),(4,.val (z07 v2 0)),(7,.rd z0f s22.2),(8,.rd z0s x25),(9,.rd z0s x27)] [(1,some (v1,.box 149 [.rd (z3i 8 z0s) a0])),(2,some (v2,.box 149 [.rd (z3i 8 z0s) (Vector.replicate 8 0)])),(108,some ((n23 0),.list z0s 34 s22.1))] [1,2,108] (Zs Z Z Z Z<|sS Z<|sS Z<|sN) (Zi Z<|Zi Z<|Zi Z<|rN)<|z83 fun x29 h30=>z83 fun x31 h32=>z83 fun r33 h35=>z83 fun r36 h38=>z83 fun r39 h41=>z83 fun r42 h44=>z83 fun x45 h46=>gOr [(5,.val (n23 0),32)] [⟨108,some ([], fun nv=>((n23 0),.list z0s 34 s22.1)),[(31,some ([2], fun nv=>((nv 2),.list z0s 34 x45)))]⟩,⟨330,none,[(30,some ([1], fun nv=>((nv 1),.list z0s 34 [((x29+x31)+((r33 ^^^ r36) ^^^ (z4i x25 3)))+((r39 ^^^ r42) ^^^ (z4i x27 10))])))]⟩] [⟨some (76,[], fun nv=>.val (n23 0)),[],[],[0]⟩,⟨some (77,[], fun nv=>.val (n23 0)),[],[],[0]⟩,pd 78 (.rd z0f s22.2),pd 79 (.rd z0f (w64 (s22.2 - 16))),pk 80 (.val (z07 (n23 0) ((w64 (s22.2 - 16):Int).toNat * 1))) [(0,0,false)],pk 81 (.rd z0s x29) [(0,0,false)],⟨some (82,[], fun nv=>.val (n23 0)),[],[],[0]⟩,pd 83 (.rd z0f s22.2),pd 84 (.rd z0f (w64 (s22.2 - 7))),pk 85 (.val (z07 (n23 0) ((w64 (s22.2 - 7):Int).toNat * 1))) [(0,0,false)],pk 86 (.rd z0s x31) [(0,0,false)],pd 87 (.rd z0s (x29+x31)),pd 88 (.rd z0s x25),pd 89 (.rd z0s r33),pd 90 (.rd z0s x25),pd 91 (.rd z0s r36),pd 92 (.rd z0s (r33 ^^^ r36)),pd 93 (.rd z0s x25),pd 94 (.rd z0s (z4i x25 3)),pd 95 (.rd z0s ((r33 ^^^ r36) ^^^ (z4i x25 3))),pd 96 (.rd z0s ((x29+x31)+((r33 ^^^ r36) ^^^ (z4i x25 3)))),pd 97 (.rd z0s x27),pd 98 (.rd z0s r39),pd 99 (.rd z0s x27),pd 100 (.rd z0s r42),pd 101 (.rd z0s (r39 ^^^ r42)),pd 102 (.rd z0s x27),pd 103 (.rd z0s (z4i x27 10)),pd 104 (.rd z0s ((r39 ^^^ r42) ^^^ (z4i x27 10))),pd 105 (.rd z0s (((x29+x31)+((r33 ^^^ r36) ^^^ (z4i x25 3)))+((r39 ^^^ r42) ^^^ (z4i x27 10)))),⟨some (106,[1], fun nv=>.val (nv 1)),[(1,0,true)],[1],[]⟩,⟨some (107,[2], fun nv=>.val (nv 2)),[(1,1,false),(0,0,true)],[2],[]⟩,⟨some (5,[2], fun nv=>.val (nv 2)),[],[],[]⟩] mixed (oC (oRn (fun nv E=>mv Z))<|oC (oRn (fun nv E=>mv Z))<|oC (oRn (fun nv E=>mv Z))<|oC (oRn (fun nv E=>I.sub Z Z))<|oC (oRn (fun nv E=>ixO 108 Z Z Z h30 tu232 z5u))<|oC (oRn (fun nv E=>ld 108 Z Z (Foc.el h30) z9k Z))<|oC (oRn (fun nv E=>mv Z))<|oC (oRn (fun nv E=>mv Z))<|oC (oRn (fun nv E=>I.sub Z Z))<|oC (oRn (fun nv E=>ixO 108 Z Z Z h32 tu232 z5u))<|oC (oRn (fun nv E=>ld 108 Z Z (Foc.el h32) z9k Z))<|oC (oRn (fun nv E=>W.add Z Z))<|oC (oRn (fun nv E=>mv Z))<|oC (oCl [] [] [] h35 Tryz.func186 Z (fun nv=>(z2w _ _)) (fun nv=>(Y2 Z Z)) (fun nv E=>rN))<|oC (oRn (fun nv E=>mv Z))<|oC (oCl [] [] [] h38 Tryz.func186 Z (fun nv=>(z2w _ _)) (fun nv=>(Y2 Z Z)) (fun nv E=>rN))<|oC (oRn (fun nv E=>W.xor Z Z))<|oC (oRn (fun nv E=>mv Z))<|oC (oRn (fun nv E=>W.shr Z Z (Int.natCast_nonneg _)))<|oC (oRn (fun nv E=>W.xor Z Z))<|oC (oRn (fun nv E=>W.add Z Z))<|oC (oRn (fun nv E=>mv Z))<|oC (oCl [] [] [] h41 Tryz.func186 Z (fun nv=>(z2w _ _)) (fun nv=>(Y2 Z Z)) (fun nv E=>rN))<|oC (oRn (fun nv E=>mv Z))<|oC (oCl [] [] [] h44 Tryz.func186 Z (fun nv=>(z2w _ _)) (fun nv=>(Y2 Z Z)) (fun nv E=>rN))<|oC (oRn (fun nv E=>W.xor Z Z))<|oC (oRn (fun nv E=>mv Z))<|oC (oRn (fun nv E=>W.shr Z Z (Int.natCast_nonneg _)))<|oC (oRn (fun nv E=>W.xor Z Z))<|oC (oRn (fun nv E=>W.add Z Z))<|oC (oEf 330 1 (fun nv E=>lit (R:=z0s) ([((x29+x31)+((r33 ^^^ r36) ^^^ (z4i x25 3)))+((r39 ^^^ r42) ^^^ (z4i x27 10))]:List UInt32) 330 (pP Z Z<|pN) Z tu232 z5u Z Z))<|oC (oEf 108 2 (fun nv E=>apn 108 Z Z Z (.own 330 Z) h46 tu232 z5u Z Z Z))<|oC (oRn (fun nv E=>asg Z))<|oN) fun n47=>z3c<|z0y<|z28<|Zm Z<|Zq (I.add Z Z)<|Za Z<|z24 7 Z fun y48=>z1p<|z1s (fun aa ww h=>⟨nvl [(n47 2)],Zu h [1,2,108]⟩)
   ·refine z27<|z19<|z1b<|z3k (fun aa ww h=>⟨nvl [(n23 0)],Zu h [1,2,108]⟩)
  ·refine gEx fun n49=>gSR<|Zc [] [(100,331)] Tryz.func187 Z (zfx) fun r50 n51=>Zb Z<|gSR<|Zq (ld 1 Z Z fH ztj Z)<|Eb Z (z6n 332 zi1 (.zr (R:=(z3i 8 z0s)) (x:=(Vector.replicate 8 0)) zt4)) fun v52=>Es (sto 332 Z Z fH Z zi1)<|Zn<|z7x (fun (s53:(Vector UInt32 8)) aa ww=>Sta (ctx 203 H [] w) [(2,.val (z07 v1 0)),(4,.val (z07 v2 0)),(11,.val (z07 v52 0))] [(1,some (v1,.box 149 [.rd (z3i 8 z0s) a0])),(2,some (v2,.box 149 [.rd (z3i 8 z0s) (Vector.replicate 8 0)])),(332,some (v52,.box 149 [.rd (z3i 8 z0s) s53]))] aa ww) ?_ (fun s53=>?_)
   ·refine gSR<|Zb Z<|z29 (fun (s54:(Vector UInt32 8) × Int) aa ww=>Sta (ctx 203 H [] w) [(2,.val (z07 v1 0)),(4,.val (z07 v2 0)),(5,.val (n49 0)),(10,.val (n51 0)),(11,.val (z07 v52 0)),(12,.rd z0f s54.2)] [(1,some (v1,.box 149 [.rd (z3i 8 z0s) a0])),(2,some (v2,.box 149 [.rd (z3i 8 z0s) (Vector.replicate 8 0)])),(108,some ((n49 0),.list z0s 34 s21)),(331,some ((n51 0),.list z0s 34 r50)),(332,some (v52,.box 149 [.rd (z3i 8 z0s) s54.1]))] aa ww) (fun aa ww h=>Zu h [1,2,108,331,332]) (fun s54=>?_)
    refine z0x<|gSR<|Zm Z<|Zq (I.lss Z Z)<|Zj Z (fun h55=>?_) (fun h55=>?_)
    ·refine Zt<|z0x<|z4s<|z0x<|zix mixed (by kernel_rfl)<|z8n fun x56 h57=>Rq Z (ixB 332 Z Z Z h57 tu149 z5u)<|Rq Z (ld 332 Z Z (fP (.el h57)) z9k Z)<|z8n fun x58 h59=>Rq Z (ixB 332 Z Z Z h59 tu149 z5u)<|Rq Z (ld 332 Z Z (fP (.el h59)) z9k Z)<|z8n fun x60 h61=>Rq Z (ixB 332 Z Z Z h61 tu149 z5u)<|Rq Z (ld 332 Z Z (fP (.el h61)) z9k Z)<|z8n fun x62 h63=>Rq Z (ixB 332 Z Z Z h63 tu149 z5u)<|Rq Z (ld 332 Z Z (fP (.el h63)) z9k Z)<|z8n fun x64 h65=>Rq Z (ixB 332 Z Z Z h65 tu149 z5u)<|Rq Z (ld 332 Z Z (fP (.el h65)) z9k Z)<|z8n fun x66 h67=>Rq Z (ixB 332 Z Z Z h67 tu149 z5u)<|Rq Z (ld 332 Z Z (fP (.el h67)) z9k Z)<|Rq Z (asg Z)<|Rq Z (asg Z)<|Rq Z (asg Z)<|Rq Z (asg Z)<|Rq Z (asg Z)<|Rq Z (asg Z)<|zvk<|z0y<|z0x<|z9u [] mixed Z Z<|z5n fun x68 h69=>hTk 0 Z Z (ixB 332 Z Z Z h69 tu149 z5u)<|hTk 1 Z Z (ld 332 Z Z (fP (.el h69)) z9k Z)<|hTk 2 Z Z (mv Z)<|hTk 4 Z Z (mv Z)<|hTk 7 Z Z (mv Z)<|hTk 11 Z Z (mv Z)<|hTk 12 Z Z (mv Z)<|hTk 13 Z Z (W.and Z Z)<|hTk 14 Z Z (mv Z)<|hTk 15 Z Z (W.cpl Z)<|hTk 16 Z Z (mv Z)<|hTk 17 Z Z (W.and Z Z)<|hTk 18 Z Z (W.xor Z Z)<|hTk 20 Z Z (mv Z)<|hTk 21 Z Z (mv Z)<|z5n fun x70 h71=>hTk 22 Z Z (ixO 331 Z Z Z h71 tu232 z5u)<|hTk 23 Z Z (ld 331 Z Z (Foc.el h71) z9k Z)<|hTk 25 Z Z (mv Z)<|hTk 26 Z Z (mv Z)<|z5n fun x72 h73=>hTk 27 Z Z (ixO 108 Z Z Z h73 tu232 z5u)<|hTk 28 Z Z (ld 108 Z Z (Foc.el h73) z9k Z)<|z5t 3 [] [] Z (by kernel_rfl) Z (gd0 Z) Z Tryz.func186 Z Z (z2w _ _) (Y2 Z Z) rN Z (fun _ _=>z41) fun r74 n75=>z5t 5 [] [] Z (by kernel_rfl) Z (gd0 Z) Z Tryz.func186 Z Z (z2w _ _) (Y2 Z Z) rN Z (fun _ _=>z41) fun r76 n77=>hTk 6 Z Z (W.xor Z Z)<|z5t 8 [] [] Z (by kernel_rfl) Z (gd0 Z) Z Tryz.func186 Z Z (z2w _ _) (Y2 Z Z) rN Z (fun _ _=>z41) fun r78 n79=>hTk 9 Z Z (W.xor Z Z)<|hTk 10 Z Z (W.add Z Z)<|hTk 19 Z Z (W.add Z Z)<|hTk 24 Z Z (W.add Z Z)<|hTk 29 Z Z (W.add Z Z)<|hTk 30 Z Z (asg Z)<|z14g 19 Z Z fun y80=>z6e (by kernel_rfl)<|z0y<|gSR<|Zm Z<|Zc [] [] Tryz.func186 Z (z2w _ _) fun r81 n82=>Zm Z<|Zc [] [] Tryz.func186 Z (z2w _ _) fun r83 n84=>Zq (W.xor Z Z)<|Zm Z<|Zc [] [] Tryz.func186 Z (z2w _ _) fun r85 n86=>Zq (W.xor Z Z)<|Zm Z<|Zm Z<|Zq (W.and Z Z)<|Zm Z<|Zm Z<|Zq (W.and Z Z)<|Zq (W.xor Z Z)<|Zm Z<|Zm Z<|Zq (W.and Z Z)<|Zq (W.xor Z Z)<|Zq (W.add Z Z)<|Za Z<|z24 20 Z fun y87=>Zn<|z28<|Zm Z<|Zm Z<|Zq (W.add Z Z)<|Zm Z<|Zm Z<|Zm Z<|z0q fun x88 h89=>Zq (ixB 332 Z Z Z h89 tu149 z5u)<|Zq (ld 332 Z Z (fP (.el h89)) z9k Z)<|Zm Z<|Zq (W.add Z Z)<|Zm Z<|Zm Z<|Zm Z<|Zq (litA (R:=z0s) [y80+y87,x56,x58,x60,x88+y80,x62,x64,x66] (#v[y80+y87,x56,x58,x60,x88+y80,x62,x64,x66]:Vector UInt32 8) (pP Z Z<|pP Z Z<|pP Z Z<|pP Z Z<|pP Z Z<|pP Z Z<|pP Z Z<|pP Z Z<|pN) Z tu149 zi1 Z z5u)<|Es (sto 332 Z Z fH Z zi1)<|z1p<|z3c<|z0y<|z28<|Zm Z<|Zq (I.add Z Z)<|Za Z<|z24 12 Z fun y90=>z1p<|z1s (fun aa ww h=>Zu h [1,2,108,331,332])
    ·refine z27<|z19<|z1b<|z3k (fun aa ww h=>Zu h [1,2,332])
   ·refine z7x (fun (s91:(Vector UInt32 8)) aa ww=>Sta (ctx 203 H [] w) [(2,.val (z07 v1 0)),(4,.val (z07 v2 0))] [(1,some (v1,.box 149 [.rd (z3i 8 z0s) s91])),(2,some (v2,.box 149 [.rd (z3i 8 z0s) (Vector.replicate 8 0)]))] aa ww) ?_ (fun s91=>?_)
    ·refine gSR<|Zb Z<|z29 (fun (s92:(Vector UInt32 8) × Int) aa ww=>Sta (ctx 203 H [] w) [(2,.val (z07 v1 0)),(4,.val (z07 v2 0)),(11,.val (z07 v52 0)),(21,.rd z0f s92.2)] [(1,some (v1,.box 149 [.rd (z3i 8 z0s) s92.1])),(2,some (v2,.box 149 [.rd (z3i 8 z0s) (Vector.replicate 8 0)])),(332,some (v52,.box 149 [.rd (z3i 8 z0s) s53]))] aa ww) (fun aa ww h=>Zu h [1,2,332]) (fun s92=>?_);refine z0x<|gSR<|Zm Z<|Zq (I.lss Z Z)<|Zj Z (fun h93=>?_) (fun h93=>?_)
     ·refine Zt<|z0x<|z4s<|z9u [1] mixed Z Z<|hTk 0 Z Z (mv Z)<|z5n fun x94 h95=>hTk 1 Z Z (ixB 1 Z Z Z h95 tu149 z5u)<|hTk 3 Z Z (mv Z)<|z5n fun x96 h97=>hTk 4 Z Z (ixB 332 Z Z Z h97 tu149 z5u)<|hTk 5 Z Z (ld 332 Z Z (fP (.el h97)) z9k Z)<|hRun 2 Z (by kernel_rfl) (gd0 Z) Z Z z41 (ld 1 Z Z (fP (.el h95)) z9k Z)<|hTk 6 Z Z (W.add Z Z)<|z5n fun x98 h99=>hTk 7 Z Z (ixB 1 Z Z Z h99 tu149 z5u)<|Zp 8 Z Z Z Z Z (sto 1 Z Z (fP (.el h99)) Z z5u)<|z6e (by kernel_rfl)<|z3c<|z0y<|z28<|Zm Z<|Zq (I.add Z Z)<|Za Z<|z24 21 Z fun y100=>z1p<|z1s (fun aa ww h=>Zu h [1,2,332])
     ·refine z27<|z19<|z1b<|z3k (fun aa ww h=>Zu h [1,2])
    ·refine gSR<|Zq (ld 1 Z Z fH ztj Z)<|Es (sto 2 Z Z fH Z zi1)<|Zn<|z0n<|zbm [] [] Z (eC 2 Z Z ztj<|eN) (rN)
def z5i (a1:List UInt8) (s4:(Vector UInt32 8) × Int):Option (Sum ((Vector UInt32 8)) ((Vector UInt32 8) × Int)) :=
 if decide ((w64 (s4.2+64))≤(a1.length:Int)) then
  cut a1 s4.2 (w64 (s4.2+64)) >>= fun x6 =>
  z9s s4.1 x6 >>= fun r8 =>
  some (w64 (s4.2+64)) >>= fun y10 =>
  some (.inr (r8,y10))
 else
  some (.inl s4.1)
def z9w (a0:Vector UInt32 8) (a1:List UInt8):Option ((Vector UInt32 8)) :=
 (iter (z5i a1) (a0,0)) >>= fun s3 =>
 some s3
theorem zhx (a0:Vector UInt32 8) (a1:List UInt8):z23 Tryz.prog 100 [.rd (z3i 8 z0s) a0,.rd (z02 u8R) a1] [] (z9w a0 a1) (fun r nv=>⟨[.rd (z3i 8 z0s) r],[]⟩):=by
 refine z2m 21 Tryz.func100 Z Z Z fun H w=>?_;refine gSR<|Eb Z (bx 1 Z) fun v1=>Eb Z (z6n 2 zi1 (.zr (R:=(z3i 8 z0s)) (x:=(Vector.replicate 8 0)) zt4)) fun v2=>Zn<|z7x (fun (s3:(Vector UInt32 8)) aa ww=>Sta (ctx 21 H [] w) [(2,.val (z07 v1 0)),(4,.val (z07 v2 0))] [(1,some (v1,.box 149 [.rd (z3i 8 z0s) s3])),(2,some (v2,.box 149 [.rd (z3i 8 z0s) (Vector.replicate 8 0)]))] aa ww) ?_ (fun s3=>?_)
 ·refine gSR<|Zb Z<|z29 (fun (s4:(Vector UInt32 8) × Int) aa ww=>Sta (ctx 21 H [] w) [(1,.rd (z02 u8R) a1),(2,.val (z07 v1 0)),(4,.val (z07 v2 0)),(5,.rd z0f s4.2)] [(1,some (v1,.box 149 [.rd (z3i 8 z0s) s4.1])),(2,some (v2,.box 149 [.rd (z3i 8 z0s) (Vector.replicate 8 0)]))] aa ww) (fun aa ww h=>Zu h [1,2]) (fun s4=>?_);refine z0x<|gSR<|Zm Z<|Zq (I.add Z Z)<|Zm Z<|Zq (z3e Z .rd Z tu52)<|Zq (I.leq Z Z)<|Zj Z (fun h5=>?_) (fun h5=>?_)
  ·refine Zt<|z0x<|z4s<|z9u [1] mixed Z Z<|hTk 1 Z Z (mv Z)<|hTk 2 Z Z (mv Z)<|hTk 3 Z Z (mv Z)<|hTk 4 Z Z (I.add Z Z)<|z5n fun x6 h7=>hTk 5 Z Z (zud Z (.to Z) (.to Z) h7 tu52 ti5)<|hRun 0 Z (by kernel_rfl) (gd0 Z) Z Z anyJ (ld 1 Z Z fH ztj Z)<|z10b 6 [] [] Z (by kernel_rfl) Z (gd0 Z) Z Tryz.func143 Z Z (zhy _ _) (Y2 Z Z) rN Z fun r8 n9=>Zp 7 Z Z Z Z Z (sto 1 Z Z fH Z zi1)<|z6e (by kernel_rfl)<|z3c<|z0y<|z28<|Zm Z<|Zq (I.add Z Z)<|Za Z<|z24 5 Z fun y10=>z1p<|z1s (fun aa ww h=>Zu h [1,2])
  ·refine z27<|z19<|z1b<|z3k (fun aa ww h=>Zu h [1,2])
 ·refine gSR<|Zq (ld 1 Z Z fH ztj Z)<|Es (sto 2 Z Z fH Z zi1)<|Zn<|z0n<|zbm [] [] Z (eC 2 Z Z ztj<|eN) (rN)
def z4t (a0:Vector UInt32 8) (s5:V3 × Int):Option (Sum (V3) (V3 × Int)) :=
 if decide (s5.2<32) then
  z84 a0 (w64 (Int.tdiv s5.2 4)) >>= fun x7 =>
  chk (0≤w64 (24 - (w64 (8 * (Int.tmod s5.2 4))))) >>= fun u9 =>
  z84 s5.1 s5.2 >>= fun x11 =>
  some (w64 (s5.2+1)) >>= fun y13 =>
  some (.inr (zjl s5.1 s5.2 ((z4i x7 ((w64 (24 - (w64 (8 * (Int.tmod s5.2 4)))):Int).toNat)).toUInt8),y13))
 else
  some (.inl s5.1)
def z8z (a0:Vector UInt32 8):Option (V3) :=
 (iter (z4t a0) ((Vector.replicate 32 0),0)) >>= fun s4 =>
 some s4
theorem zgx (a0:Vector UInt32 8):z23 Tryz.prog 99 [.rd (z3i 8 z0s) a0] [] (z8z a0) (fun r nv=>⟨[.rd aZ r],[]⟩):=by
 refine z2m 22 Tryz.func99 Z Z Z fun H w=>?_;refine gSR<|Eb Z (bx 1 Z) fun v1=>Eb Z (z6n 2 z31 (.zr (R:=aZ) (x:=(Vector.replicate 32 0)) zfo)) fun v2=>Zn<|gSR<|Eb Z (z6n 3 z31 (.zr (R:=aZ) (x:=(Vector.replicate 32 0)) zfo)) fun v3=>Zn<|z7x (fun (s4:V3) aa ww=>Sta (ctx 22 H [] w) [(2,.val (z07 v2 0)),(3,.val (z07 v3 0))] [(2,some (v2,.box 45 [.rd aZ (Vector.replicate 32 0)])),(3,some (v3,.box 45 [.rd aZ s4]))] aa ww) ?_ (fun s4=>?_)
 ·refine gSR<|Zb Z<|z29 (fun (s5:V3 × Int) aa ww=>Sta (ctx 22 H [] w) [(1,.val (z07 v1 0)),(2,.val (z07 v2 0)),(3,.val (z07 v3 0)),(4,.rd z0f s5.2)] [(1,some (v1,.box 149 [.rd (z3i 8 z0s) a0])),(2,some (v2,.box 45 [.rd aZ (Vector.replicate 32 0)])),(3,some (v3,.box 45 [.rd aZ s5.1]))] aa ww) (fun aa ww h=>Zu h [1,2,3]) (fun s5=>?_);refine z0x<|gSR<|Zm Z<|Zq (I.lss Z Z)<|Zj Z (fun h6=>?_) (fun h6=>?_)
  ·refine Zt<|z0x<|z4s<|z28<|Zm Z<|Zm Z<|Zq (I.quo Z Z (by decide))<|z0q fun x7 h8=>Zq (ixB 1 Z Z Z h8 tu149 z5u)<|Zq (ld 1 Z Z (fP (.el h8)) z9k Z)<|Zm Z<|Zq (I.rem Z Z (by decide))<|Zq (I.mul Z Z)<|Zq (I.sub Z Z)<|z0q fun u9 h10=>Zq (W.shr Z Z (z4z h10))<|Zq (W.toB Z tu34 tu5)<|z0q fun x11 h12=>Zq (ixB 3 Z Z Z h12 tu45 ti5)<|Es (sto 3 Z Z (fP (.el h12)) Z ti5)<|z1p<|z3c<|z0y<|z28<|Zm Z<|Zq (I.add Z Z)<|Za Z<|z24 4 Z fun y13=>z1p<|z1s (fun aa ww h=>Zu h [1,2,3])
  ·refine z27<|z19<|z1b<|z3k (fun aa ww h=>Zu h [2,3])
 ·refine gSR<|Zq (ld 3 Z Z fH z59 Z)<|Es (sto 2 Z Z fH Z z31)<|Zn<|z0n<|zbm [] [] Z (eC 2 Z Z z59<|eN) (rN)
def zb5 (a0:List UInt8):Option (V3) :=
 zcp >>= fun r2 =>
 app 1 ([]:List UInt8) a0 >>= fun x5 =>
 zbk (a0.length:Int) >>= fun r8 =>
 app 1 x5 r8 >>= fun x10 =>
 z9w r2 x10 >>= fun r13 =>
 z8z r13 >>= fun r15 =>
 some r15
end
section
open Go Go.RowKit
set_option maxRecDepth 100000
theorem zg1 (a0:List UInt8):z23 Tryz.prog 53 [.rd (z02 u8R) a0] [] (zb5 a0) (fun r nv=>⟨[.rd aZ r],[]⟩):=by
 refine z2m 13 Tryz.func53 Z Z Z fun H w=>?_;refine gSR<|Eb Z (z6n 1 z31 (.zr (R:=aZ) (x:=(Vector.replicate 32 0)) zfo)) fun v1=>Zn<|gSR<|Zc [] [] Tryz.func101 Z (zim) fun r2 n3=>Ef Z (lit (R:=u8R) (([]:List UInt8):List UInt8) 2 (pN) Z tu52 ti5 Z Z) fun v4=>Zm Z<|z0q fun x5 h6=>Ef Z (apn 2 Z Z Z .rd h6 tu52 ti5 Z Z Z) fun v7=>Zm Z<|Zq (z3e Z .rd Z tu52)<|Zc [] [(100,3)] Tryz.func102 Z (zjp _) fun r8 n9=>z0q fun x10 h11=>Ef Z (apn 2 Z Z Z (.own 3 Z) h11 tu52 ti5 Z Z Z) fun v12=>zg9 2 [10] Z (fS Z<|fN)<|Zc [] [] Tryz.func100 Z (zhx _ _) fun r13 n14=>Zc [] [] Tryz.func99 Z (zgx _) fun r15 n16=>Es (sto 1 Z Z fH Z z31)<|Zn<|z0n<|zbm [] [] Z (eC 1 Z Z z59<|eN) (rN)
def zbj (a0:z05):Option (V3) :=
 zah a0 >>= fun r3 =>
 zb5 r3 >>= fun r5 =>
 some r5
theorem zg7 (a0:z05):z23 Tryz.prog 16 [.rd z03 a0] [] (zbj a0) (fun r nv=>⟨[.rd aZ r],[]⟩):=by
 refine z2m 6 Tryz.func16 Z Z Z fun H w=>?_;refine gSR<|Eb Z (bx 1 Z) fun v1=>Eb Z (z6n 2 z31 (.zr (R:=aZ) (x:=(Vector.replicate 32 0)) zfo)) fun v2=>Zn<|gSR<|Zq (ld 1 Z Z fH za3 Z)<|Zc [] [(100,3)] Tryz.func54 Z (zj7 _) fun r3 n4=>zg9 3 [4] Z (fS Z<|fN)<|Zc [] [] Tryz.func53 Z (zg1 _) fun r5 n6=>Es (sto 2 Z Z fH Z z31)<|Zn<|z0n<|zbm [] [] Z (eC 2 Z Z z59<|eN) (rN)
def z7r (a0:V3) (a1:V3) (s4:Int):Option (Sum (Sum Int Unit) Int) :=
 if decide (s4<32) then
  z84 a0 s4 >>= fun x6 =>
  z84 a1 s4 >>= fun x8 =>
  if decide (x6<x8) then
   some (.inl (.inl (-1)))
  else
   z84 a0 s4 >>= fun x11 =>
   z84 a1 s4 >>= fun x13 =>
   if decide (x13<x11) then
    some (.inl (.inl 1))
   else
    some (.inr (w64 (s4+1)))
 else
  some (.inl (.inr ()))
def z8u (a0:V3) (a1:V3):Option (Int) :=
 z4y (iter (z7r a0 a1) 0) fun s3 =>
 some 0
theorem zlq (a0:V3) (a1:V3):z23 Tryz.prog 18 [.rd aZ a0,.rd aZ a1] [] (z8u a0 a1) (fun r nv=>⟨[.rd z0f r],[]⟩):=by
 refine z2m 24 Tryz.func18 Z Z Z fun H w=>?_;refine gSR<|Eb Z (bx 1 Z) fun v1=>Eb Z (bx 2 Z) fun v2=>Zb Z<|z7c (fun (s3:Unit) aa ww=>Sta (ctx 24 H [] w) [] [] aa ww) ?_ (fun s3=>?_)
 ·refine gSR<|Zb Z<|z29 (fun (s4:Int) aa ww=>Sta (ctx 24 H [] w) [(2,.val (z07 v1 0)),(3,.val (z07 v2 0)),(5,.rd z0f s4)] [(1,some (v1,.box 45 [.rd aZ a0])),(2,some (v2,.box 45 [.rd aZ a1]))] aa ww) (fun aa ww h=>Zu h [1,2]) (fun s4=>?_);refine z0x<|gSR<|Zm Z<|Zq (I.lss Z Z)<|Zj Z (fun h5=>?_) (fun h5=>?_)
  ·refine Zt<|z0x<|z4s<|z0x<|z0x<|zix mixed (by kernel_rfl)<|Rq Z (mv Z)<|z8n fun x6 h7=>Rq Z (ixB 1 Z Z Z h7 tu45 ti5)<|Rq Z (ld 1 Z Z (fP (.el h7)) ty5 Z)<|Rq Z (mv Z)<|z8n fun x8 h9=>Rq Z (ixB 2 Z Z Z h9 tu45 ti5)<|Rq Z (ld 2 Z Z (fP (.el h9)) ty5 Z)<|Rq Z (B.lss Z Z)<|zvk<|z0y<|gIf Z Z (fun h10=>?_) (fun h10=>?_)
   ·refine gSR<|Zb Z<|z0n<|z0u<|z3m<|z0u<|z6c<|z58<|Ze [] [] Z
   ·refine Zt<|z0x<|zix mixed (by kernel_rfl)<|Rq Z (mv Z)<|z8n fun x11 h12=>Rq Z (ixB 1 Z Z Z h12 tu45 ti5)<|Rq Z (ld 1 Z Z (fP (.el h12)) ty5 Z)<|Rq Z (mv Z)<|z8n fun x13 h14=>Rq Z (ixB 2 Z Z Z h14 tu45 ti5)<|Rq Z (ld 2 Z Z (fP (.el h14)) ty5 Z)<|Rq Z (B.gtr Z Z)<|zvk<|z0y<|gIf Z Z (fun h15=>?_) (fun h15=>?_)
    ·refine gSR<|Zb Z<|z0n<|z3m<|z0u<|z6c<|z58<|Ze [] [] Z
    ·refine z30<|z3c<|z0y<|z28<|Zm Z<|Zq (I.add Z Z)<|Za Z<|z1p<|z1s (fun aa ww h=>Zu h [1,2])
  ·refine z27<|z19<|z1b<|z5q (fun aa ww h=>Zu h [])
 ·refine gSR<|Zb Z<|z0n<|Ze [] [] Z
def z4d (a0:List V3) (s2:Int):Option (Sum (Sum Bool Unit) Int) :=
 if decide (s2<(a0.length:Int)) then
  idx a0 (w64 (s2 - 1)) >>= fun x4 =>
  idx a0 s2 >>= fun x6 =>
  z8u x4 x6 >>= fun r8 =>
  if decide (0≤r8) then
   some (.inl (.inl false))
  else
   some (.inr (w64 (s2+1)))
 else
  some (.inl (.inr ()))
def z7t (a0:List V3):Option (Bool) :=
 z4y (iter (z4d a0) 1) fun s1 =>
 some true
theorem zcy (a0:List V3):z23 Tryz.prog 14 [.rd (z02 aZ) a0] [] (z7t a0) (fun r nv=>⟨[.rd z0h r],[]⟩):=by
 refine z2m 21 Tryz.func14 Z Z Z fun H w=>?_;refine gSR<|Zb Z<|z7c (fun (s1:Unit) aa ww=>Sta (ctx 21 H [] w) [] [] aa ww) ?_ (fun s1=>?_)
 ·refine gSR<|Zb Z<|z29 (fun (s2:Int) aa ww=>Sta (ctx 21 H [] w) [(0,.rd (z02 aZ) a0),(3,.rd z0f s2)] [] aa ww) (fun aa ww h=>Zu h []) (fun s2=>?_);refine z0x<|gSR<|Zm Z<|Zm Z<|Zq (z3e Z .rd Z tu29)<|Zq (I.lss Z Z)<|Zj Z (fun h3=>?_) (fun h3=>?_)
  ·refine Zt<|z0x<|z4s<|z0x<|z9u [] mixed Z Z<|hTk 0 Z Z (mv Z)<|hTk 1 Z Z (mv Z)<|hTk 2 Z Z (I.sub Z Z)<|z5n fun x4 h5=>hTk 3 Z Z (ixR Z Z h5 tu29 z31 Z)<|hTk 4 Z Z (ldR Z z59)<|hTk 5 Z Z (mv Z)<|hTk 6 Z Z (mv Z)<|z5n fun x6 h7=>hTk 7 Z Z (ixR Z Z h7 tu29 z31 Z)<|hTk 8 Z Z (ldR Z z59)<|z5t 9 [] [] Z (by kernel_rfl) Z (gd0 Z) Z Tryz.func18 Z Z (zlq _ _) (Y2 Z Z) rN Z (fun _ _=>z41) fun r8 n9=>hTk 10 Z Z (I.geq Z Z)<|z6e (by kernel_rfl)<|z0y<|gIf Z Z (fun h10=>?_) (fun h10=>?_)
   ·refine gSR<|Zb Z<|z0n<|z3m<|z0u<|z6c<|z58<|Ze [] [] Z
   ·refine z30<|z3c<|z0y<|z28<|Zm Z<|Zq (I.add Z Z)<|Za Z<|z1p<|z1s (fun aa ww h=>Zu h [])
  ·refine z27<|z19<|z1b<|z5q (fun aa ww h=>Zu h [])
 ·refine gSR<|Zb Z<|z0n<|Ze [] [] Z
def z64 (a2:UInt64) (s2:UInt64 × UInt64 × UInt64):Option (Sum UInt64 (UInt64 × UInt64 × UInt64)) :=
 if decide (0<s2.2.1) then
  (if (s2.2.1 % 2)==1 then
   chk (a2≠0) >>= fun u6 =>
   some ((s2.2.2 * s2.1) % a2) >>= fun y8 =>
   some y8
  else
   some s2.2.2) >>= fun s4 =>
  chk (a2≠0) >>= fun u9 =>
  some ((s2.1 * s2.1) % a2) >>= fun y11 =>
  some (.inr (y11,s2.2.1 / 2,s4))
 else
  some (.inl s2.2.2)
def z8r (a0:UInt64) (a1:UInt64) (a2:UInt64):Option (UInt64) :=
 (iter (z64 a2) (a0,a1,1)) >>= fun s1 =>
 some s1
theorem zdj (a0:UInt64) (a1:UInt64) (a2:UInt64):z23 Tryz.prog 96 [.rd z1z a0,.rd z1z a1,.rd z1z a2] [] (z8r a0 a1 a2) (fun r nv=>⟨[.rd z1z r],[]⟩):=by
 refine z2m 26 Tryz.func96 Z Z Z fun H w=>?_;refine gSR<|Zb Z<|gSR<|Zb Z<|z7x (fun (s1:UInt64) aa ww=>Sta (ctx 26 H [] w) [(7,.rd z1z s1)] [] aa ww) ?_ (fun s1=>?_)
 ·refine z29 (fun (s2:UInt64 × UInt64 × UInt64) aa ww=>Sta (ctx 26 H [] w) [(0,.rd z1z s2.1),(1,.rd z1z s2.2.1),(2,.rd z1z a2),(7,.rd z1z s2.2.2)] [] aa ww) (fun aa ww h=>Zu h []) (fun s2=>?_);refine z0x<|gSR<|Zm Z<|Zq (U.gtr Z Z)<|Zj Z (fun h3=>?_) (fun h3=>?_)
  ·refine Zt<|z4s<|z7x (fun (s4:UInt64) aa ww=>Sta (ctx 26 H [] w) [(0,.rd z1z s2.1),(1,.rd z1z s2.2.1),(2,.rd z1z a2),(7,.rd z1z s4)] [] aa ww) ?_ (fun s4=>?_)
   ·refine gSR<|Zm Z<|Zq (U.rem Z Z (by decide))<|Zq (U.eql Z Z)<|Zj Z (fun h5=>?_) (fun h5=>?_)
    ·refine z28<|Zm Z<|Zm Z<|Zq (U.mul Z Z)<|Zm Z<|z0q fun u6 h7=>Zq (U.rem Z Z (z4z h7))<|Za Z<|z24 7 Z fun y8=>z1p<|z3k (fun aa ww h=>Zu h [])
    ·refine z30<|z3k (fun aa ww h=>Zu h [])
   ·refine gSR<|Zm Z<|Zm Z<|Zq (U.mul Z Z)<|Zm Z<|z0q fun u9 h10=>Zq (U.rem Z Z (z4z h10))<|Za Z<|z24 0 Z fun y11=>Zn<|z28<|Zm Z<|Zq (U.quo Z Z (by decide))<|Za Z<|z1p<|z3c<|z1s (fun aa ww h=>Zu h [])
  ·refine z27<|z19<|z1b<|z3k (fun aa ww h=>Zu h [])
 ·refine gSR<|Zm Z<|Zb Z<|z0n<|Ze [] [] Z
def zb1 (a0:UInt32):Option (Bool) :=
 if decide (1≤a0) then
  if decide (a0<1000000007) then
   z8r a0.toUInt64 500000003 1000000007 >>= fun r3 =>
   some (r3==1)
  else
   some false
 else
  some false
theorem zg6 (a0:UInt32):z23 Tryz.prog 50 [.rd z0s a0] [] (zb1 a0) (fun r nv=>⟨[.rd z0h r],[]⟩):=by
 refine z2m 15 Tryz.func50 Z Z Z fun H w=>?_;refine gSR<|Zb Z<|gSR<|Zm Z<|Zq (W.geq Z Z)<|Zm Z<|z1h 5 Z (fun h1=>?_) (fun h1=>?_)
 ·refine lKn 4 Z h1<|z13 Zx Z Z (mv Z)<|z13 Zx Z Z (W.lss Z Z)<|Zq (pkT Z Z)<|Zm Z<|z1h 9 Z (fun h2=>?_) (fun h2=>?_)
  ·refine lKn 7 Z h2<|lKn 8 Z h2<|z13 Zx Z Z (mv Z)<|z13 Zx Z Z (W.toU Z tu34 tu35)<|zd3 [] [] Zx Z Tryz.func96 Z Z (zdj _ _ _) (aQ Z<|aQ Z<|aQ Z<|aN) rN fun r3 n4=>z13 Zx Z Z (U.eql Z Z)<|Zq (pkT Z Z)<|Zb Z<|z0n<|Ze [] [] Z
  ·refine lKn 7 Z h2<|lKn 8 Z h2<|Zk Z<|Zk Z<|Zk Z<|Zk Z<|Zq (pkF Z Z)<|Zb Z<|z0n<|Ze [] [] Z
 ·refine lKn 4 Z h1<|Zk Z<|Zk Z<|Zq (pkF Z Z)<|Zm Z<|Zk Z<|Zk Z<|Zk Z<|Zk Z<|Zq (pkF Z Z)<|Zb Z<|z0n<|Ze [] [] Z
def z71 (a0:List UInt8) (s4:Int):Option (Sum (Sum Bool Unit) Int) :=
 if decide (s4<(a0.length:Int)) then
  idx a0 s4 >>= fun x6 =>
  if decide (x6<33) then
   some (.inl (.inl false))
  else
   idx a0 s4 >>= fun x9 =>
   if decide (126<x9) then
    some (.inl (.inl false))
   else
    some (.inr (w64 (s4+1)))
 else
  some (.inl (.inr ()))
def z97 (a0:List UInt8):Option (Bool) :=
 if decide ((a0.length:Int)<1) then
  some false
 else
  if decide (20<(a0.length:Int)) then
   some false
  else
   z4y (iter (z71 a0) 0) fun s3 =>
   some true
theorem zdx (a0:List UInt8):z23 Tryz.prog 97 [.rd zjx a0] [] (z97 a0) (fun r nv=>⟨[.rd z0h r],[]⟩):=by
 refine z2m 28 Tryz.func97 Z Z Z fun H w=>?_;refine gSR<|Zb Z<|z0x<|gSR<|Zm Z<|Zq (lenT Z Z tu9)<|Zq (I.lss Z Z)<|Zm Z<|z1h 7 Z (fun h1=>?_) (fun h1=>?_)
 ·refine lKn 6 Z h1<|Zk Z<|Zk Z<|Zk Z<|Zq (pkT Z Z)<|Zn<|zes Z<|gSR<|Zb Z<|z0n<|z0u<|Ze [] [] Z
 ·refine lKn 6 Z h1<|z13 Zx Z Z (mv Z)<|z13 Zx Z Z (lenT Z Z tu9)<|z13 Zx Z Z (I.gtr Z Z)<|Zq (pkF Z Z)<|Zj Z (fun h2=>?_) (fun h2=>?_)
  ·refine gKn 10 Z h2<|gSR<|Zb Z<|z0n<|z0u<|Ze [] [] Z
  ·refine gKn 10 Z h2<|Zt<|z7c (fun (s3:Unit) aa ww=>Sta (ctx 28 H [] w) [] [] aa ww) ?_ (fun s3=>?_)
   ·refine gSR<|Zb Z<|z29 (fun (s4:Int) aa ww=>Sta (ctx 28 H [] w) [(0,.rd zjx a0),(3,.rd z0f s4)] [] aa ww) (fun aa ww h=>Zu h []) (fun s4=>?_);refine z0x<|gSR<|Zm Z<|Zm Z<|Zq (lenT Z Z tu9)<|Zq (I.lss Z Z)<|Zj Z (fun h5=>?_) (fun h5=>?_)
    ·refine Zt<|z0x<|z4s<|gSR<|Zm Z<|Zm Z<|z0q fun x6 h7=>Zq (idxT Z Z tu9 (z6a h7).1 (z6a h7).2.1)<|Zq (B.lss Z Z)<|Zm Z<|z1h 22 Z (fun h8=>?_) (fun h8=>?_)
     ·refine lKn 21 Z h8<|Zk Z<|Zk Z<|Zk Z<|Zk Z<|Zq (pkT Z Z)<|Zn<|zes Z<|gSR<|Zb Z<|z0n<|z3m<|z0u<|z6c<|z58<|Ze [] [] Z
     ·refine lKn 21 Z h8<|z13 Zx Z Z (mv Z)<|z13 Zx Z Z (mv Z)<|z0q fun x9 h10=>z13 Zx Z Z (idxT Z Z tu9 (z6a h10).1 (z6a h10).2.1)<|z13 Zx Z Z (B.gtr Z Z)<|Zq (pkF Z Z)<|Zj Z (fun h11=>?_) (fun h11=>?_)
      ·refine gKn 26 Z h11<|gSR<|Zb Z<|z0n<|z3m<|z0u<|z6c<|z58<|Ze [] [] Z
      ·refine gKn 26 Z h11<|z30<|z3c<|z0y<|z28<|Zm Z<|Zq (I.add Z Z)<|Za Z<|z1p<|z1s (fun aa ww h=>Zu h [])
    ·refine z27<|z19<|z1b<|z5q (fun aa ww h=>Zu h [])
   ·refine gSR<|Zb Z<|z0n<|Ze [] [] Z
def z8d (a0:UInt64):Option (Int) :=
 some (w64 (((a0 % 9223372036854775808) / 4503599627370496).toNat:Int)) >>= fun y1 =>
 some y1
theorem zgf (a0:UInt64):z23 Tryz.prog 214 [.rd z1z a0] [] (z8d a0) (fun r nv=>⟨[.rd z0f r],[]⟩):=by
 refine z2m 7 Tryz.func214 Z Z Z fun H w=>?_;refine gSR<|Zb Z<|gSR<|Zm Z<|Zq (U.rem Z Z (by decide))<|Zq (U.quo Z Z (by decide))<|Zq (U.toI Z tu35 tu3)<|Za Z<|z24 2 Z fun y1=>Zn<|z0n<|Ze [] [] Z
def zar (a0:UInt64):Option (UInt64) :=
 some (a0 % 4503599627370496) >>= fun y1 =>
 some y1
theorem zgd (a0:UInt64):z23 Tryz.prog 215 [.rd z1z a0] [] (zar a0) (fun r nv=>⟨[.rd z1z r],[]⟩):=by
 refine z2m 5 Tryz.func215 Z Z Z fun H w=>?_;refine gSR<|Zb Z<|gSR<|Zm Z<|Zq (U.rem Z Z (by decide))<|Za Z<|z24 2 Z fun y1=>Zn<|z0n<|Ze [] [] Z
def zam (a0:UInt64):Option (UInt8) :=
 z8d a0 >>= fun r1 =>
 zar a0 >>= fun r3 =>
 z4y (if r1==0 then
  if r3==0 then
   some (.inl 1)
  else
   some (.inr ())
 else
  some (.inr ())) fun s5 =>
 if r1==0 then
  some 2
 else
  if decide (r1<2047) then
   some 3
  else
   if r3==0 then
    some 4
   else
    some 5
theorem zjd (a0:UInt64):z23 Tryz.prog 185 [.rd z1z a0] [] (zam a0) (fun r nv=>⟨[.rd u8R r],[]⟩):=by
 refine z2m 21 Tryz.func185 Z Z Z fun H w=>?_;refine gSR<|Zb Z<|gSR<|Zm Z<|Zc [] [] Tryz.func214 Z (zgf _) fun r1 n2=>Zm Z<|Zc [] [] Tryz.func215 Z (zgd _) fun r3 n4=>Za Z<|Zb Z<|z7c (fun (s5:Unit) aa ww=>Sta (ctx 21 H [] w) [(3,.rd z0f r1),(4,.rd z1z r3)] [] aa ww) ?_ (fun s5=>?_)
 ·refine gSR<|Zm Z<|Zq (I.eql Z Z)<|Zm Z<|z1h 11 Z (fun h6=>?_) (fun h6=>?_)
  ·refine lKn 10 Z h6<|z13 Zx Z Z (mv Z)<|z13 Zx Z Z (U.eql Z Z)<|Zq (pkT Z Z)<|Zj Z (fun h7=>?_) (fun h7=>?_)
   ·refine gKn 13 Z h7<|gSR<|Zb Z<|z0n<|z58<|Ze [] [] Z
   ·refine gKn 13 Z h7<|z30<|z5q (fun aa ww h=>Zu h [])
  ·refine lKn 10 Z h6<|Zk Z<|Zk Z<|Zq (pkF Z Z)<|Zn<|zgc Z<|z30<|z5q (fun aa ww h=>Zu h [])
 ·refine z0x<|gSR<|Zm Z<|Zq (I.eql Z Z)<|Zj Z (fun h8=>?_) (fun h8=>?_)
  ·refine gSR<|Zb Z<|z0n<|z0u<|Ze [] [] Z
  ·refine Zt<|z0x<|gSR<|Zm Z<|Zq (I.lss Z Z)<|Zj Z (fun h9=>?_) (fun h9=>?_)
   ·refine gSR<|Zb Z<|z0n<|z0u<|Ze [] [] Z
   ·refine Zt<|z0x<|gSR<|Zm Z<|Zq (U.eql Z Z)<|Zj Z (fun h10=>?_) (fun h10=>?_)
    ·refine gSR<|Zb Z<|z0n<|z0u<|Ze [] [] Z
    ·refine Zt<|gSR<|Zb Z<|z0n<|Ze [] [] Z
def zap (a0:UInt64):Option (UInt64) :=
 zam a0 >>= fun r1 =>
 if r1==5 then
  some 9221120237041090560
 else
  some a0
theorem ziq (a0:UInt64):z23 Tryz.prog 141 [.rd z1z a0] [] (zap a0) (fun r nv=>⟨[.rd z1z r],[]⟩):=by
 refine z2m 7 Tryz.func141 Z Z Z fun H w=>?_;refine gSR<|Zb Z<|z0x<|gSR<|Zm Z<|Zc [] [] Tryz.func185 Z (zjd _) fun r1 n2=>Zq (B.eql Z Z)<|Zj Z (fun h3=>?_) (fun h3=>?_)
 ·refine gSR<|Zb Z<|z0n<|z0u<|Ze [] [] Z
 ·refine Zt<|gSR<|Zm Z<|Zb Z<|z0n<|Ze [] [] Z
def z49 (a0:List UInt8) (s2:Int):Option (Sum (Sum Bool Unit) Int) :=
 if decide (s2<(a0.length:Int)) then
  idx a0 s2 >>= fun x4 =>
  if decide (x4<32) then
   some (.inl (.inl false))
  else
   idx a0 s2 >>= fun x7 =>
   if decide (126<x7) then
    some (.inl (.inl false))
   else
    some (.inr (w64 (s2+1)))
 else
  some (.inl (.inr ()))
def z7k (a0:List UInt8):Option (Bool) :=
 z4y (iter (z49 a0) 0) fun s1 =>
 some true
theorem zf9 (a0:List UInt8):z23 Tryz.prog 142 [.rd zjx a0] [] (z7k a0) (fun r nv=>⟨[.rd z0h r],[]⟩):=by
 refine z2m 20 Tryz.func142 Z Z Z fun H w=>?_;refine gSR<|Zb Z<|z7c (fun (s1:Unit) aa ww=>Sta (ctx 20 H [] w) [] [] aa ww) ?_ (fun s1=>?_)
 ·refine gSR<|Zb Z<|z29 (fun (s2:Int) aa ww=>Sta (ctx 20 H [] w) [(0,.rd zjx a0),(3,.rd z0f s2)] [] aa ww) (fun aa ww h=>Zu h []) (fun s2=>?_);refine z0x<|gSR<|Zm Z<|Zm Z<|Zq (lenT Z Z tu9)<|Zq (I.lss Z Z)<|Zj Z (fun h3=>?_) (fun h3=>?_)
  ·refine Zt<|z0x<|z4s<|gSR<|Zm Z<|Zm Z<|z0q fun x4 h5=>Zq (idxT Z Z tu9 (z6a h5).1 (z6a h5).2.1)<|Zq (B.lss Z Z)<|Zm Z<|z1h 14 Z (fun h6=>?_) (fun h6=>?_)
   ·refine lKn 13 Z h6<|Zk Z<|Zk Z<|Zk Z<|Zk Z<|Zq (pkT Z Z)<|Zn<|zes Z<|gSR<|Zb Z<|z0n<|z3m<|z0u<|z6c<|z58<|Ze [] [] Z
   ·refine lKn 13 Z h6<|z13 Zx Z Z (mv Z)<|z13 Zx Z Z (mv Z)<|z0q fun x7 h8=>z13 Zx Z Z (idxT Z Z tu9 (z6a h8).1 (z6a h8).2.1)<|z13 Zx Z Z (B.gtr Z Z)<|Zq (pkF Z Z)<|Zj Z (fun h9=>?_) (fun h9=>?_)
    ·refine gKn 18 Z h9<|gSR<|Zb Z<|z0n<|z3m<|z0u<|z6c<|z58<|Ze [] [] Z
    ·refine gKn 18 Z h9<|z30<|z3c<|z0y<|z28<|Zm Z<|Zq (I.add Z Z)<|Za Z<|z1p<|z1s (fun aa ww h=>Zu h [])
  ·refine z27<|z19<|z1b<|z5q (fun aa ww h=>Zu h [])
 ·refine gSR<|Zb Z<|z0n<|Ze [] [] Z
def zaj (a0:z00):Option (Int) :=
 if a0.Kind==1 then
  if a0.Bits==0 then
   if a0.Text==[] then
    some 0
   else
    some 8
  else
   some 8
 else
  if a0.Kind==2 then
   (if a0.Num==0 then
    if a0.Text==[] then
     zap a0.Bits >>= fun r9 =>
     some (r9==a0.Bits)
    else
     some false
   else
    some false) >>= fun s6 =>
   if s6 then
    some 0
   else
    some 8
  else
   if a0.Kind==3 then
    (if a0.Num==0 then
     if a0.Bits==0 then
      if decide ((a0.Text.length:Int)≤30) then
       z7k a0.Text >>= fun r17 =>
       some r17
      else
       some false
     else
      some false
    else
     some false) >>= fun s13 =>
    if s13 then
     some 0
    else
     some 8
   else
    some 8
theorem zis (a0:z00):z23 Tryz.prog 98 [.rd z18 a0] [] (zaj a0) (fun r nv=>⟨[.rd z0f r],[]⟩):=by
 refine z2m 54 Tryz.func98 Z Z Z fun H w=>?_;refine gSR<|Eb Z (bx 1 Z) fun v1=>Zb Z<|z0x<|gSR<|Zq (faB 1 Z Z Tryz.underlying37 Z (by exact ti5))<|Zq (ld 1 Z Z (fP (z2f _)) ty5 Z)<|Zn<|z4s<|gSR<|Zq (B.eql Z Z)<|Zb Z<|gIf Z Z (fun h2=>?_) (fun h2=>?_)
 ·refine gKn 6 Z h2<|gSR<|Zq (faB 1 Z Z Tryz.underlying37 Z (by exact zrn))<|Zq (ld 1 Z Z (fP (z38 _)) zux Z)<|Zq (U.eql Z Z)<|Zm Z<|z1h 10 Z (fun h3=>?_) (fun h3=>?_)
  ·refine lKn 9 Z h3<|z13 Zx Z Z (faB 1 Z Z Tryz.underlying37 Z (by exact ti9))<|z13 Zx Z Z (ld 1 Z Z (fP (z3a _)) ty9 Z)<|z13 Zx Z Z (eqS Z Z)<|Zq (pkT Z Z)<|Zj Z (fun h4=>?_) (fun h4=>?_)
   ·refine gKn 13 Z h4<|gSR<|Zb Z<|z0n<|z3m<|z0u<|Ze [] [] Z
   ·refine gKn 13 Z h4<|z30<|z3c<|z0y<|gSR<|Zb Z<|z0n<|Ze [] [] Z
  ·refine lKn 9 Z h3<|Zk Z<|Zk Z<|Zk Z<|Zq (pkF Z Z)<|Zn<|zgc Z<|z30<|z3c<|z0y<|gSR<|Zb Z<|z0n<|Ze [] [] Z
 ·refine gKn 6 Z h2<|gSR<|Zq (B.eql Z Z)<|Zb Z<|gIf Z Z (fun h5=>?_) (fun h5=>?_)
  ·refine gKn 16 Z h5<|z7x (fun (s6:Bool) aa ww=>Sta (ctx 54 H [] w) [(32,.rd z0h s6)] [] aa ww) ?_ (fun s6=>?_)
   ·refine z9u [] mixed Z Z<|hTk 0 Z Z (faB 1 Z Z Tryz.underlying37 Z (by exact ti2))<|hTk 1 Z Z (ld 1 Z Z (fP (z5e _)) ty2 Z)<|hTk 2 Z Z (I.eql Z Z)<|hTk 3 Z Z (mv Z)<|hIf 20 Z Z (fun h7=>?_) (fun h7=>?_)
    ·refine hKn 19 Z Z h7<|Zg 4 Z Z (faB 1 Z Z Tryz.underlying37 Z (by exact ti9))<|Zg 5 Z Z (ld 1 Z Z (fP (z3a _)) ty9 Z)<|Zg 6 Z Z (eqS Z Z)<|hTk 7 Z Z (pkT Z Z)<|hTk 8 Z Z (mv Z)<|hIf 25 Z Z (fun h8=>?_) (fun h8=>?_)
     ·refine hKn 23 Z Z h8<|hKn 24 Z Z h8<|Zg 9 Z Z (faB 1 Z Z Tryz.underlying37 Z (by exact zrn))<|Zg 10 Z Z (ld 1 Z Z (fP (z38 _)) zux Z)<|Zg 12 Z Z (faB 1 Z Z Tryz.underlying37 Z (by exact zrn))<|Zg 13 Z Z (ld 1 Z Z (fP (z38 _)) zux Z)<|z5t 11 [] [] Z (by kernel_rfl) Z Zx Z Tryz.func141 Z Z (ziq _) (Y1 Z) rN Z (fun _ _=>z41) fun r9 n10=>Zg 14 Z Z (U.eql Z Z)<|hTk 15 Z Z (pkT Z Z)<|z6e (by kernel_rfl)<|z3k (fun aa ww h=>Zu h [])
     ·refine hKn 23 Z Z h8<|hKn 24 Z Z h8<|hSk 9 Z Z<|hSk 10 Z Z<|hSk 11 Z Z<|hSk 12 Z Z<|hSk 13 Z Z<|hSk 14 Z Z<|hTk 15 Z Z (pkF Z Z)<|z6e (by kernel_rfl)<|z3k (fun aa ww h=>Zu h [])
    ·refine hKn 19 Z Z h7<|hSk 4 Z Z<|hSk 5 Z Z<|hSk 6 Z Z<|hTk 7 Z Z (pkF Z Z)<|hTk 8 Z Z (mv Z)<|hSk 9 Z Z<|hSk 10 Z Z<|hSk 11 Z Z<|hSk 12 Z Z<|hSk 13 Z Z<|hSk 14 Z Z<|hTk 15 Z Z (pkF Z Z)<|z6e (by kernel_rfl)<|z3k (fun aa ww h=>Zu h [])
   ·refine gIf Z Z (fun h11=>?_) (fun h11=>?_)
    ·refine gSR<|Zb Z<|z0n<|z3m<|z0u<|Ze [] [] Z
    ·refine z30<|z3c<|z0y<|gSR<|Zb Z<|z0n<|Ze [] [] Z
  ·refine gKn 16 Z h5<|gSR<|Zq (B.eql Z Z)<|Zb Z<|gIf Z Z (fun h12=>?_) (fun h12=>?_)
   ·refine gKn 34 Z h12<|z7x (fun (s13:Bool) aa ww=>Sta (ctx 54 H [] w) [(53,.rd z0h s13)] [] aa ww) ?_ (fun s13=>?_)
    ·refine z28<|Zq (faB 1 Z Z Tryz.underlying37 Z (by exact ti2))<|Zq (ld 1 Z Z (fP (z5e _)) ty2 Z)<|Zq (I.eql Z Z)<|Zm Z<|z1h 38 Z (fun h14=>?_) (fun h14=>?_)
     ·refine lKn 37 Z h14<|z13 Zx Z Z (faB 1 Z Z Tryz.underlying37 Z (by exact zrn))<|z13 Zx Z Z (ld 1 Z Z (fP (z38 _)) zux Z)<|z13 Zx Z Z (U.eql Z Z)<|Zq (pkT Z Z)<|Zm Z<|z1h 43 Z (fun h15=>?_) (fun h15=>?_)
      ·refine lKn 41 Z h15<|lKn 42 Z h15<|z13 Zx Z Z (faB 1 Z Z Tryz.underlying37 Z (by exact ti9))<|z13 Zx Z Z (ld 1 Z Z (fP (z3a _)) ty9 Z)<|z13 Zx Z Z (lenT Z Z tu9)<|z13 Zx Z Z (I.leq Z Z)<|Zq (pkT Z Z)<|Zm Z<|z1h 49 Z (fun h16=>?_) (fun h16=>?_)
       ·refine lKn 47 Z h16<|lKn 48 Z h16<|z13 Zx Z Z (faB 1 Z Z Tryz.underlying37 Z (by exact ti9))<|z13 Zx Z Z (ld 1 Z Z (fP (z3a _)) ty9 Z)<|zd3 [] [] Zx Z Tryz.func142 Z Z (zf9 _) (Y1 Z) rN fun r17 n18=>Zq (pkT Z Z)<|z1p<|z3k (fun aa ww h=>Zu h [])
       ·refine lKn 47 Z h16<|lKn 48 Z h16<|Zk Z<|Zk Z<|Zk Z<|Zq (pkF Z Z)<|z1p<|z3k (fun aa ww h=>Zu h [])
      ·refine lKn 41 Z h15<|lKn 42 Z h15<|Zk Z<|Zk Z<|Zk Z<|Zk Z<|Zq (pkF Z Z)<|Zm Z<|Zk Z<|Zk Z<|Zk Z<|Zq (pkF Z Z)<|z1p<|z3k (fun aa ww h=>Zu h [])
     ·refine lKn 37 Z h14<|Zk Z<|Zk Z<|Zk Z<|Zq (pkF Z Z)<|Zm Z<|Zk Z<|Zk Z<|Zk Z<|Zk Z<|Zq (pkF Z Z)<|Zm Z<|Zk Z<|Zk Z<|Zk Z<|Zq (pkF Z Z)<|z1p<|z3k (fun aa ww h=>Zu h [])
    ·refine gIf Z Z (fun h19=>?_) (fun h19=>?_)
     ·refine gSR<|Zb Z<|z0n<|z3m<|z0u<|Ze [] [] Z
     ·refine z30<|z3c<|z0y<|gSR<|Zb Z<|z0n<|Ze [] [] Z
   ·refine gKn 34 Z h12<|z30<|z3c<|z0y<|gSR<|Zb Z<|z0n<|Ze [] [] Z
def z8h (a0:z0b):Option (Int) :=
 some (decide (a0.Value=(⟨0,0,0,[]⟩:z00))) >>= fun y2 =>
 if a0.Kind==1 then
  if a0.Key==[] then
   if y2 then
    some 0
   else
    some 8
  else
   some 8
 else
  (if a0.Kind==2 then
   some true
  else
   some (a0.Kind==3)) >>= fun s6 =>
  if s6 then
   z97 a0.Key >>= fun r9 =>
   if r9 then
    if y2 then
     some 0
    else
     some 8
   else
    some 8
  else
   if a0.Kind==4 then
    z97 a0.Key >>= fun r14 =>
    if r14 then
     zaj a0.Value >>= fun r17 =>
     if r17==0 then
      some 0
     else
      some 8
    else
     some 8
   else
    some 8
theorem zgh (a0:z0b):z23 Tryz.prog 51 [.rd z0c a0] [] (z8h a0) (fun r nv=>⟨[.rd z0f r],[]⟩):=by
 refine z2m 38 Tryz.func51 Z Z Z fun H w=>?_;refine gSR<|Eb Z (bx 1 Z) fun v1=>Zb Z<|gSR<|Zq (faB 1 Z Z Tryz.underlying39 Z (by exact zel))<|Zq (ld 1 Z Z (fP (z4g _)) zot Z)<|Zq (bld (x':=(⟨0,0,0,[]⟩:z00)) [(0,1),(1,1),(2,1),(3,1)] Tryz.underlying37 zel Z zr1 Z (Bld.done Z))<|Zq (eqA Z Z eq37 Z Z gq37)<|Za Z<|z24 3 Z fun y2=>Zn<|z0x<|gSR<|Zq (faB 1 Z Z Tryz.underlying39 Z (by exact ti5))<|Zq (ld 1 Z Z (fP (z2r _)) ty5 Z)<|Zn<|z4s<|gSR<|Zq (B.eql Z Z)<|Zb Z<|gIf Z Z (fun h3=>?_) (fun h3=>?_)
 ·refine gKn 11 Z h3<|gSR<|Zq (faB 1 Z Z Tryz.underlying39 Z (by exact ti9))<|Zq (ld 1 Z Z (fP (z43 _)) ty9 Z)<|Zq (eqS Z Z)<|Zm Z<|z1h 15 Z (fun h4=>?_) (fun h4=>?_)
  ·refine lKn 14 Z h4<|z13 Zx Z Z (mv Z)<|Zq (pkT Z Z)<|Zj Z (fun h5=>?_) (fun h5=>?_)
   ·refine gKn 3 Z h5<|gKn 16 Z h5<|gSR<|Zb Z<|z0n<|z3m<|z0u<|Ze [] [] Z
   ·refine gKn 3 Z h5<|gKn 16 Z h5<|z30<|z3c<|z0y<|gSR<|Zb Z<|z0n<|Ze [] [] Z
  ·refine lKn 14 Z h4<|Zk Z<|Zq (pkF Z Z)<|Zn<|zgc Z<|z30<|z3c<|z0y<|gSR<|Zb Z<|z0n<|Ze [] [] Z
 ·refine gKn 11 Z h3<|z7x (fun (s6:Bool) aa ww=>Sta (ctx 38 H [] w) [(1,.val (z07 v1 0)),(3,.rd z0h y2),(9,.rd u8R a0.Kind),(18,.rd z0h s6)] [(1,some (v1,.box 39 [.rd z0c a0]))] aa ww) ?_ (fun s6=>?_)
  ·refine gSR<|Zq (B.eql Z Z)<|Zb Z<|gIf Z Z (fun h7=>?_) (fun h7=>?_)
   ·refine gKn 19 Z h7<|z30<|z3k (fun aa ww h=>Zu h [1])
   ·refine gKn 19 Z h7<|z28<|Zq (B.eql Z Z)<|Za Z<|z1p<|z3k (fun aa ww h=>Zu h [1])
  ·refine gIf Z Z (fun h8=>?_) (fun h8=>?_)
   ·refine gSR<|Zq (faB 1 Z Z Tryz.underlying39 Z (by exact ti9))<|Zq (ld 1 Z Z (fP (z43 _)) ty9 Z)<|Zc [] [] Tryz.func97 Z (zdx _) fun r9 n10=>Zm Z<|z1h 24 Z (fun h11=>?_) (fun h11=>?_)
    ·refine lKn 23 Z h11<|z13 Zx Z Z (mv Z)<|Zq (pkT Z Z)<|Zj Z (fun h12=>?_) (fun h12=>?_)
     ·refine gKn 3 Z h12<|gKn 25 Z h12<|gSR<|Zb Z<|z0n<|z3m<|z0u<|Ze [] [] Z
     ·refine gKn 3 Z h12<|gKn 25 Z h12<|z30<|z3c<|z0y<|gSR<|Zb Z<|z0n<|Ze [] [] Z
    ·refine lKn 23 Z h11<|Zk Z<|Zq (pkF Z Z)<|Zn<|zgc Z<|z30<|z3c<|z0y<|gSR<|Zb Z<|z0n<|Ze [] [] Z
   ·refine gSR<|Zq (B.eql Z Z)<|Zb Z<|gIf Z Z (fun h13=>?_) (fun h13=>?_)
    ·refine gKn 28 Z h13<|gSR<|Zq (faB 1 Z Z Tryz.underlying39 Z (by exact ti9))<|Zq (ld 1 Z Z (fP (z43 _)) ty9 Z)<|Zc [] [] Tryz.func97 Z (zdx _) fun r14 n15=>Zm Z<|z1h 32 Z (fun h16=>?_) (fun h16=>?_)
     ·refine lKn 31 Z h16<|z13 Zx Z Z (faB 1 Z Z Tryz.underlying39 Z (by exact zel))<|z13 Zx Z Z (ld 1 Z Z (fP (z4g _)) zot Z)<|zd3 [] [] Zx Z Tryz.func98 Z Z (zis _) (Y1 Z) rN fun r17 n18=>z13 Zx Z Z (I.eql Z Z)<|Zq (pkT Z Z)<|Zj Z (fun h19=>?_) (fun h19=>?_)
      ·refine gKn 36 Z h19<|gSR<|Zb Z<|z0n<|z3m<|z0u<|Ze [] [] Z
      ·refine gKn 36 Z h19<|z30<|z3c<|z0y<|gSR<|Zb Z<|z0n<|Ze [] [] Z
     ·refine lKn 31 Z h16<|Zk Z<|Zk Z<|Zk Z<|Zk Z<|Zq (pkF Z Z)<|Zn<|zgc Z<|z30<|z3c<|z0y<|gSR<|Zb Z<|z0n<|Ze [] [] Z
    ·refine gKn 28 Z h13<|z30<|z3c<|z0y<|gSR<|Zb Z<|z0n<|Ze [] [] Z
def z3v (a0:UInt32):Option (Bool) :=
 some (decide (a0.toUInt64<500000003)) >>= fun y1 =>
 some y1
theorem z6b (a0:UInt32):z23 Tryz.prog 52 [.rd z0s a0] [] (z3v a0) (fun r nv=>⟨[.rd z0h r],[]⟩):=by
 refine z2m 6 Tryz.func52 Z Z Z fun H w=>?_;refine gSR<|Zb Z<|gSR<|Zm Z<|Zq (W.toU Z tu34 tu35)<|Zq (U.lss Z Z)<|Za Z<|z24 2 Z fun y1=>Zn<|z0n<|Ze [] [] Z
def z8s (a0:z05):Option (Int) :=
 if decide (4<(a0.Preds.length:Int)) then
  some 4
 else
  z7t a0.Preds >>= fun r3 =>
  if !r3 then
   some 32
  else
   (zb1 a0.Author >>= fun r7 =>
   if !r7 then
    some true
   else
    if decide (1000000000000<a0.Stamp) then
     some true
    else
     z8h a0.Act >>= fun r11 =>
     if r11 != 0 then
      some true
     else
      z3v a0.Sig.E >>= fun r14 =>
      if !r14 then
       some true
      else
       z3v a0.Sig.S >>= fun r17 =>
       some (!r17)) >>= fun s6 =>
   if s6 then
    some 8
   else
    some 0
theorem zdp (a0:z05):z23 Tryz.prog 15 [.rd z03 a0] [] (z8s a0) (fun r nv=>⟨[.rd z0f r],[]⟩):=by
 refine z2m 40 Tryz.func15 Z Z Z fun H w=>?_;refine gSR<|Eb Z (bx 1 Z) fun v1=>Zb Z<|z0x<|gSR<|Zq (faB 1 Z Z Tryz.underlying43 Z (by exact z8j))<|Zq (ld 1 Z Z (fP (z0z _)) zbn Z)<|Zq (z3e Z .rd Z tu29)<|Zq (I.gtr Z Z)<|Zj Z (fun h2=>?_) (fun h2=>?_)
 ·refine gSR<|Zb Z<|z0n<|z0u<|Ze [] [] Z
 ·refine Zt<|z0x<|gSR<|Zq (faB 1 Z Z Tryz.underlying43 Z (by exact z8j))<|Zq (ld 1 Z Z (fP (z0z _)) zbn Z)<|Zc [] [] Tryz.func14 Z (zcy _) fun r3 n4=>Zq (zds Z)<|Zj Z (fun h5=>?_) (fun h5=>?_)
  ·refine gSR<|Zb Z<|z0n<|z0u<|Ze [] [] Z
  ·refine Zt<|z0x<|z7x (fun (s6:Bool) aa ww=>Sta (ctx 40 H [] w) [(39,.rd z0h s6)] [] aa ww) ?_ (fun s6=>?_)
   ·refine z28<|Zq (faB 1 Z Z Tryz.underlying43 Z (by exact z5u))<|Zq (ld 1 Z Z (fP (z4f _)) z9k Z)<|Zc [] [] Tryz.func50 Z (zg6 _) fun r7 n8=>Zq (zds Z)<|Zm Z<|z1h 15 Z (fun h9=>?_) (fun h9=>?_)
    ·refine lKn 14 Z h9<|Zk Z<|Zk Z<|Zk Z<|Zq (pkT Z Z)<|Zm Z<|Zk Z<|Zk Z<|Zk Z<|Zk Z<|Zq (pkT Z Z)<|Zm Z<|Zk Z<|Zk Z<|Zk Z<|Zk Z<|Zk Z<|Zq (pkT Z Z)<|Zm Z<|Zk Z<|Zk Z<|Zk Z<|Zk Z<|Zk Z<|Zq (pkT Z Z)<|z1p<|z3k (fun aa ww h=>Zu h [])
    ·refine lKn 14 Z h9<|z13 Zx Z Z (faB 1 Z Z Tryz.underlying43 Z (by exact zrn))<|z13 Zx Z Z (ld 1 Z Z (fP (z7u _)) zux Z)<|z13 Zx Z Z (U.gtr Z Z)<|Zq (pkF Z Z)<|Zm Z<|z1h 20 Z (fun h10=>?_) (fun h10=>?_)
     ·refine lKn 18 Z h10<|lKn 19 Z h10<|Zk Z<|Zk Z<|Zk Z<|Zk Z<|Zq (pkT Z Z)<|Zm Z<|Zk Z<|Zk Z<|Zk Z<|Zk Z<|Zk Z<|Zq (pkT Z Z)<|Zm Z<|Zk Z<|Zk Z<|Zk Z<|Zk Z<|Zk Z<|Zq (pkT Z Z)<|z1p<|z3k (fun aa ww h=>Zu h [])
     ·refine lKn 18 Z h10<|lKn 19 Z h10<|z13 Zx Z Z (faB 1 Z Z Tryz.underlying43 Z (by exact zn7))<|z13 Zx Z Z (ld 1 Z Z (fP (z2p _)) ty39 Z)<|zd3 [] [] Zx Z Tryz.func51 Z Z (zgh _) (Y1 Z) rN fun r11 n12=>z13 Zx Z Z (I.neq Z Z)<|Zq (pkF Z Z)<|Zm Z<|z1h 26 Z (fun h13=>?_) (fun h13=>?_)
      ·refine lKn 24 Z h13<|lKn 25 Z h13<|Zk Z<|Zk Z<|Zk Z<|Zk Z<|Zk Z<|Zq (pkT Z Z)<|Zm Z<|Zk Z<|Zk Z<|Zk Z<|Zk Z<|Zk Z<|Zq (pkT Z Z)<|z1p<|z3k (fun aa ww h=>Zu h [])
      ·refine lKn 24 Z h13<|lKn 25 Z h13<|z13 Zx Z Z (faB 1 Z Z Tryz.underlying43 Z (by exact zqy))<|z13 Zx Z Z (faB 1 Z Z Tryz.underlying41 Z (by exact z5u))<|z13 Zx Z Z (ld 1 Z Z ((fP (z3l _)).part (z4h _)) z9k Z)<|zd3 [] [] Zx Z Tryz.func52 Z Z (z6b _) (Y1 Z) rN fun r14 n15=>z13 Zx Z Z (zds Z)<|Zq (pkF Z Z)<|Zm Z<|z1h 33 Z (fun h16=>?_) (fun h16=>?_)
       ·refine lKn 31 Z h16<|lKn 32 Z h16<|Zk Z<|Zk Z<|Zk Z<|Zk Z<|Zk Z<|Zq (pkT Z Z)<|z1p<|z3k (fun aa ww h=>Zu h [])
       ·refine lKn 31 Z h16<|lKn 32 Z h16<|z13 Zx Z Z (faB 1 Z Z Tryz.underlying43 Z (by exact zqy))<|z13 Zx Z Z (faB 1 Z Z Tryz.underlying41 Z (by exact z5u))<|z13 Zx Z Z (ld 1 Z Z ((fP (z3l _)).part (z5s _)) z9k Z)<|zd3 [] [] Zx Z Tryz.func52 Z Z (z6b _) (Y1 Z) rN fun r17 n18=>z13 Zx Z Z (zds Z)<|Zq (pkF Z Z)<|z1p<|z3k (fun aa ww h=>Zu h [])
   ·refine gIf Z Z (fun h19=>?_) (fun h19=>?_)
    ·refine gSR<|Zb Z<|z0n<|z0u<|Ze [] [] Z
    ·refine Zt<|gSR<|Zb Z<|z0n<|Ze [] [] Z
def z5v (a0:UInt32) (a1:UInt64):Option (UInt32) :=
 z8r a0.toUInt64 a1 1000000007 >>= fun r1 =>
 some r1.toUInt32
theorem za5 (a0:UInt32) (a1:UInt64):z23 Tryz.prog 202 [.rd z0s a0,.rd z1z a1] [] (z5v a0 a1) (fun r nv=>⟨[.rd z0s r],[]⟩):=by
 refine z2m 10 Tryz.func202 Z Z Z fun H w=>?_;refine gSR<|Zb Z<|gSR<|Zm Z<|Zq (W.toU Z tu34 tu35)<|Zm Z<|Zc [] [] Tryz.func96 Z (zdj _ _ _) fun r1 n2=>Zq (U.toW Z tu35 tu34)<|Zb Z<|z0n<|Ze [] [] Z
def zeg (a0:UInt32):Option (UInt32 × Int) :=
 zb1 a0 >>= fun r1 =>
 if !r1 then
  some (0,2)
 else
  z5v a0 500000002 >>= fun r4 =>
  some (r4,0)
theorem zlo (a0:UInt32):z23 Tryz.prog 201 [.rd z0s a0] [] (zeg a0) (fun r nv=>⟨[.rd z0s r.1,.rd z0f r.2],[]⟩):=by
 refine z2m 9 Tryz.func201 Z Z Z fun H w=>?_;refine gSR<|Za Z<|Zb Z<|z0x<|gSR<|Zm Z<|Zc [] [] Tryz.func50 Z (zg6 _) fun r1 n2=>Zq (zds Z)<|Zj Z (fun h3=>?_) (fun h3=>?_)
 ·refine gSR<|Za Z<|Zb Z<|z0n<|z0u<|Ze [] [] Z
 ·refine Zt<|gSR<|Zm Z<|Zc [] [] Tryz.func202 Z (za5 _ _) fun r4 n5=>Za Z<|Zb Z<|z0n<|Ze [] [] Z
def zdm (a0:UInt64):Option (UInt32) :=
 z5v 4 a0 >>= fun r1 =>
 some r1
theorem zkl (a0:UInt64):z23 Tryz.prog 229 [.rd z1z a0] [] (zdm a0) (fun r nv=>⟨[.rd z0s r],[]⟩):=by
 refine z2m 5 Tryz.func229 Z Z Z fun H w=>?_;refine gSR<|Zb Z<|gSR<|Zm Z<|Zc [] [] Tryz.func202 Z (za5 _ _) fun r1 n2=>Zb Z<|z0n<|Ze [] [] Z
def zej (a0:UInt32):Option (UInt32) :=
 zdm a0.toUInt64 >>= fun r1 =>
 some r1
theorem zlt (a0:UInt32):z23 Tryz.prog 205 [.rd z0s a0] [] (zej a0) (fun r nv=>⟨[.rd z0s r],[]⟩):=by
 refine z2m 6 Tryz.func205 Z Z Z fun H w=>?_;refine gSR<|Zb Z<|gSR<|Zm Z<|Zq (W.toU Z tu34 tu35)<|Zc [] [] Tryz.func229 Z (zkl _) fun r1 n2=>Zb Z<|z0n<|Ze [] [] Z
def zaz (a0:UInt32) (a1:UInt32):Option (UInt32) :=
 some (((a0.toUInt64 * a1.toUInt64) % 1000000007).toUInt32) >>= fun y1 =>
 some y1
theorem zgp (a0:UInt32) (a1:UInt32):z23 Tryz.prog 204 [.rd z0s a0,.rd z0s a1] [] (zaz a0 a1) (fun r nv=>⟨[.rd z0s r],[]⟩):=by
 refine z2m 12 Tryz.func204 Z Z Z fun H w=>?_;refine gSR<|Zb Z<|gSR<|Zm Z<|Zq (W.toU Z tu34 tu35)<|Zm Z<|Zq (W.toU Z tu34 tu35)<|Zq (U.mul Z Z)<|Zq (U.rem Z Z (by decide))<|Zq (U.toW Z tu35 tu34)<|Za Z<|z24 4 Z fun y1=>Zn<|z0n<|Ze [] [] Z
def z96 (a0:UInt32):Option ((List UInt8)) :=
 some [(a0 / 16777216).toUInt8,((a0 / 65536) % 256).toUInt8,((a0 / 256) % 256).toUInt8,(a0 % 256).toUInt8]
theorem zeb (a0:UInt32):z23 Tryz.prog 227 [.rd z0s a0] [] (z96 a0) (fun r nv=>⟨[.val (nv 0)],[(100,some (nv 0,.list u8R 5 r))]⟩):=by
 refine z2m 18 Tryz.func227 Z Z Z fun H w=>?_;refine gSR<|Zb Z<|gSR<|Zm Z<|Zq (W.quo Z Z (by decide))<|Zq (W.toB Z tu34 tu5)<|Zm Z<|Zq (W.quo Z Z (by decide))<|Zq (W.rem Z Z (by decide))<|Zq (W.toB Z tu34 tu5)<|Zm Z<|Zq (W.quo Z Z (by decide))<|Zq (W.rem Z Z (by decide))<|Zq (W.toB Z tu34 tu5)<|Zm Z<|Zq (W.rem Z Z (by decide))<|Zq (W.toB Z tu34 tu5)<|Ef Z (lit (R:=u8R) ([(a0 / 16777216).toUInt8,((a0 / 65536) % 256).toUInt8,((a0 / 256) % 256).toUInt8,(a0 % 256).toUInt8]:List UInt8) 1 (pP Z Z<|pP Z Z<|pP Z Z<|pP Z Z<|pN) Z tu52 ti5 Z Z) fun v1=>Zb Z<|z0n<|Ze [v1] [1] Z
def z5f (r1:V3) (s5:UInt64 × Int):Option (Sum UInt64 (UInt64 × Int)) :=
 if decide (s5.2<8) then
  z84 r1 s5.2 >>= fun x7 =>
  some ((256 * s5.1)+x7.toUInt64) >>= fun y9 =>
  some (w64 (s5.2+1)) >>= fun y10 =>
  some (.inr (y9,y10))
 else
  some (.inl s5.1)
def z9v (a0:List UInt8):Option (UInt64) :=
 zb5 a0 >>= fun r1 =>
 (iter (z5f r1) (0,0)) >>= fun s4 =>
 some s4
theorem zhw (a0:List UInt8):z23 Tryz.prog 228 [.rd (z02 u8R) a0] [] (z9v a0) (fun r nv=>⟨[.rd z1z r],[]⟩):=by
 refine z2m 20 Tryz.func228 Z Z Z fun H w=>?_;refine gSR<|Zb Z<|gSR<|Zm Z<|Zc [] [] Tryz.func53 Z (zg1 _) fun r1 n2=>Eb Z (z6n 1 z31 (.zr (R:=aZ) (x:=(Vector.replicate 32 0)) zfo)) fun v3=>Es (sto 1 Z Z fH Z z31)<|Zn<|gSR<|Zb Z<|z7x (fun (s4:UInt64) aa ww=>Sta (ctx 20 H [] w) [(4,.rd z1z s4)] [] aa ww) ?_ (fun s4=>?_)
 ·refine gSR<|Zb Z<|z29 (fun (s5:UInt64 × Int) aa ww=>Sta (ctx 20 H [] w) [(3,.val (z07 v3 0)),(4,.rd z1z s5.1),(5,.rd z0f s5.2)] [(1,some (v3,.box 45 [.rd aZ r1]))] aa ww) (fun aa ww h=>Zu h [1]) (fun s5=>?_);refine z0x<|gSR<|Zm Z<|Zq (I.lss Z Z)<|Zj Z (fun h6=>?_) (fun h6=>?_)
  ·refine Zt<|z0x<|z4s<|z28<|Zm Z<|Zq (U.mul Z Z)<|Zm Z<|z0q fun x7 h8=>Zq (ixB 1 Z Z Z h8 tu45 ti5)<|Zq (ld 1 Z Z (fP (.el h8)) ty5 Z)<|Zq (B.toU Z tu5 tu35)<|Zq (U.add Z Z)<|Za Z<|z24 4 Z fun y9=>z1p<|z3c<|z0y<|z28<|Zm Z<|Zq (I.add Z Z)<|Za Z<|z24 5 Z fun y10=>z1p<|z1s (fun aa ww h=>Zu h [1])
  ·refine z27<|z19<|z1b<|z3k (fun aa ww h=>Zu h [])
 ·refine gSR<|Zm Z<|Zb Z<|z0n<|Ze [] [] Z
def z7j (a0:UInt32) (a1:UInt32) (a2:List UInt8):Option (UInt32) :=
 z96 a0 >>= fun r2 =>
 app 1 [99] r2 >>= fun x4 =>
 z96 a1 >>= fun r7 =>
 app 1 x4 r7 >>= fun x9 =>
 app 1 x9 a2 >>= fun x12 =>
 z9v x12 >>= fun r15 =>
 some ((r15 % 500000003).toUInt32) >>= fun y17 =>
 some y17
theorem zf8 (a0:UInt32) (a1:UInt32) (a2:List UInt8):z23 Tryz.prog 203 [.rd z0s a0,.rd z0s a1,.rd (z02 u8R) a2] [] (z7j a0 a1 a2) (fun r nv=>⟨[.rd z0s r],[]⟩):=by
 refine z2m 21 Tryz.func203 Z Z Z fun H w=>?_;refine gSR<|Zb Z<|gSR<|Ef Z (lit (R:=u8R) ([99]:List UInt8) 1 (pP Z Z<|pN) Z tu52 ti5 Z Z) fun v1=>Zm Z<|Zc [] [(100,2)] Tryz.func227 Z (zeb _) fun r2 n3=>z0q fun x4 h5=>Ef Z (apn 1 Z Z Z (.own 2 Z) h5 tu52 ti5 Z Z Z) fun v6=>Zm Z<|Zc [] [(100,3)] Tryz.func227 Z (zeb _) fun r7 n8=>z0q fun x9 h10=>Ef Z (apn 1 Z Z Z (.own 3 Z) h10 tu52 ti5 Z Z Z) fun v11=>Zb Z<|gSR<|Zm Z<|Zm Z<|z0q fun x12 h13=>Ef Z (apn 1 Z Z Z .rd h13 tu52 ti5 Z Z Z) fun v14=>zg9 1 [17] Z (fS Z<|fN)<|Zc [] [] Tryz.func228 Z (zhw _) fun r15 n16=>Zq (U.rem Z Z (by decide))<|Zq (U.toW Z tu35 tu34)<|Za Z<|z24 6 Z fun y17=>Zn<|z0n<|Ze [] [] Z
def zao (a0:UInt32) (a1:List UInt8) (a2:z0a):Option (Bool) :=
 z3v a2.E >>= fun r2 =>
 if !r2 then
  some false
 else
  z3v a2.S >>= fun r5 =>
  if !r5 then
   some false
  else
   z5v a0 a2.E.toUInt64 >>= fun r8 =>
   zeg r8 >>= fun r10 =>
   zej a2.S >>= fun r12 =>
   zaz r12 r10.1 >>= fun r14 =>
   z7j r14 a0 a1 >>= fun r16 =>
   some (r16==a2.E)
theorem zjg (a0:UInt32) (a1:List UInt8) (a2:z0a):z23 Tryz.prog 165 [.rd z0s a0,.rd (z02 u8R) a1,.rd z0e a2] [] (zao a0 a1 a2) (fun r nv=>⟨[.rd z0h r],[]⟩):=by
 refine z2m 39 Tryz.func165 Z Z Z fun H w=>?_;refine gSR<|Eb Z (bx 1 Z) fun v1=>Zb Z<|z0x<|gSR<|Zq (faB 1 Z Z Tryz.underlying41 Z (by exact z5u))<|Zq (ld 1 Z Z (fP (z4h _)) z9k Z)<|Zc [] [] Tryz.func52 Z (z6b _) fun r2 n3=>Zq (zds Z)<|Zm Z<|z1h 13 Z (fun h4=>?_) (fun h4=>?_)
 ·refine lKn 12 Z h4<|Zk Z<|Zk Z<|Zk Z<|Zk Z<|Zq (pkT Z Z)<|Zn<|zes Z<|gSR<|Zb Z<|z0n<|z0u<|Ze [] [] Z
 ·refine lKn 12 Z h4<|z13 Zx Z Z (faB 1 Z Z Tryz.underlying41 Z (by exact z5u))<|z13 Zx Z Z (ld 1 Z Z (fP (z5s _)) z9k Z)<|zd3 [] [] Zx Z Tryz.func52 Z Z (z6b _) (Y1 Z) rN fun r5 n6=>z13 Zx Z Z (zds Z)<|Zq (pkF Z Z)<|Zj Z (fun h7=>?_) (fun h7=>?_)
  ·refine gKn 17 Z h7<|gSR<|Zb Z<|z0n<|z0u<|Ze [] [] Z
  ·refine gKn 17 Z h7<|Zt<|gSR<|Zm Z<|Zq (faB 1 Z Z Tryz.underlying41 Z (by exact z5u))<|Zq (ld 1 Z Z (fP (z4h _)) z9k Z)<|Zq (W.toU Z tu34 tu35)<|Zc [] [] Tryz.func202 Z (za5 _ _) fun r8 n9=>Zc [] [] Tryz.func201 Z (zlo _) fun r10 n11=>Zm Z<|Zq (ext Z Z)<|Zq (ext Z Z)<|Za Z<|Zb Z<|z0x<|z9u [] mixed Z Z<|hTk 0 Z Z (faB 1 Z Z Tryz.underlying41 Z (by exact z5u))<|hTk 1 Z Z (ld 1 Z Z (fP (z5s _)) z9k Z)<|hTk 3 Z Z (mv Z)<|hTk 5 Z Z (mv Z)<|hTk 6 Z Z (mv Z)<|hTk 8 Z Z (faB 1 Z Z Tryz.underlying41 Z (by exact z5u))<|hTk 9 Z Z (ld 1 Z Z (fP (z4h _)) z9k Z)<|z5t 2 [] [] Z (by kernel_rfl) Z (gd0 Z) Z Tryz.func205 Z Z (zlt _) (Y1 Z) rN Z (fun _ _=>z41) fun r12 n13=>z5t 4 [] [] Z (by kernel_rfl) Z (gd0 Z) Z Tryz.func204 Z Z (zgp _ _) (Y2 Z Z) rN Z (fun _ _=>z41) fun r14 n15=>z5t 7 [] [] Z (by kernel_rfl) Z (gd0 Z) Z Tryz.func203 Z Z (zf8 _ _ _) (aQ Z<|aQ Z<|aQ Z<|aN) rN Z (fun _ _=>z41) fun r16 n17=>hTk 10 Z Z (W.eql Z Z)<|hTk 11 Z Z (asg Z)<|z6e (by kernel_rfl)<|z0y<|z0n<|Ze [] [] Z
def zbw (a0:z05):Option (Bool) :=
 z9e a0 >>= fun r2 =>
 zao a0.Author r2 a0.Sig >>= fun r4 =>
 some r4
theorem zi6 (a0:z05):z23 Tryz.prog 120 [.rd z03 a0] [] (zbw a0) (fun r nv=>⟨[.rd z0h r],[]⟩):=by
 refine z2m 10 Tryz.func120 Z Z Z fun H w=>?_;refine gSR<|Eb Z (bx 1 Z) fun v1=>Zb Z<|z0x<|z9u [11] mixed Z Z<|hTk 0 Z Z (faB 1 Z Z Tryz.underlying43 Z (by exact z5u))<|hTk 1 Z Z (ld 1 Z Z (fP (z4f _)) z9k Z)<|hTk 2 Z Z (ld 1 Z Z fH za3 Z)<|hTk 4 Z Z (faB 1 Z Z Tryz.underlying43 Z (by exact zqy))<|hTk 5 Z Z (ld 1 Z Z (fP (z3l _)) ty41 Z)<|z5t 3 [] [(100,11)] Z (by kernel_rfl) Z (gd0 Z) Z Tryz.func103 Z Z (ze1 _) (Y1 Z) rN Z (fun _ _=>z3t) fun r2 n3=>hFrz 11 [6] Z (fS Z<|fN)<|z5t 6 [] [] Z (by kernel_rfl) Z (gd0 Z) Z Tryz.func165 Z Z (zjg _ _ _) (aQ Z<|aQ Z<|aQ Z<|aN) rN Z (fun _ _=>zdo) fun r4 n5=>hTk 7 Z Z (asg Z)<|z6e (by kernel_rfl)<|z0y<|z0n<|Ze [] [] Z
def z9y (a0:z05):Option (Int) :=
 z8s a0 >>= fun r2 =>
 if r2 != 0 then
  z8s a0 >>= fun r5 =>
  some r5
 else
  zbw a0 >>= fun r7 =>
  if !r7 then
   some 22
  else
   some 0
theorem zi2 (a0:z05):z23 Tryz.prog 72 [.rd z03 a0] [] (z9y a0) (fun r nv=>⟨[.rd z0f r],[]⟩):=by
 refine z2m 11 Tryz.func72 Z Z Z fun H w=>?_;refine gSR<|Eb Z (bx 1 Z) fun v1=>Zb Z<|z0x<|gSR<|Zq (ld 1 Z Z fH za3 Z)<|Zc [] [] Tryz.func15 Z (zdp _) fun r2 n3=>Zq (I.neq Z Z)<|Zj Z (fun h4=>?_) (fun h4=>?_)
 ·refine gSR<|Zq (ld 1 Z Z fH za3 Z)<|Zc [] [] Tryz.func15 Z (zdp _) fun r5 n6=>Zb Z<|z0n<|z0u<|Ze [] [] Z
 ·refine Zt<|z0x<|gSR<|Zq (ld 1 Z Z fH za3 Z)<|Zc [] [] Tryz.func120 Z (zi6 _) fun r7 n8=>Zq (zds Z)<|Zj Z (fun h9=>?_) (fun h9=>?_)
  ·refine gSR<|Zb Z<|z0n<|z0u<|Ze [] [] Z
  ·refine Zt<|gSR<|Zb Z<|z0n<|Ze [] [] Z
end
section
open Go Go.RowKit
set_option maxRecDepth 100000
def z0p (a0:List V3) (a1:V3) (s4:Int × Int):Option (Sum Int (Int × Int)) :=
 if decide (s4.1<s4.2) then
  some (w64 ((z6l (UInt64.ofInt (w64 (s4.1+s4.2))) 1).toNat:Int)) >>= fun y6 =>
  idx a0 y6 >>= fun x7 =>
  z9l x7 a1 >>= fun r9 =>
  if decide (r9<0) then
   some (.inr (w64 (y6+1),s4.2))
  else
   some (.inr (s4.1,y6))
 else
  some (.inl s4.1)
def z0t (a0:List V3) (a1:V3):Option (Int × Bool) :=
 some (a0.length:Int) >>= fun y2 =>
 (iter (z0p a0 a1) (0,y2)) >>= fun s3 =>
 if decide (s3<y2) then
  idx a0 s3 >>= fun x13 =>
  z9l x13 a1 >>= fun r15 =>
  some (s3,r15==0)
 else
  some (s3,false)
theorem z4q (a0:List V3) (a1:V3):z23 Tryz.prog 129 [.rd (z02 aZ) a0,.rd aZ a1,.val (.func (.func 48) #[] #[])] [] (z0t a0 a1) (fun r nv=>⟨[.rd z0f r.1,.rd z0h r.2],[]⟩):=by
 refine z2m 49 Tryz.func129 Z Z Z fun H w=>?_;refine gSR<|Eb Z (bx 1 Z) fun v1=>Za Z<|Zb Z<|gSR<|Zm Z<|Zq (z3e Z .rd Z tu29)<|Za Z<|z24 8 Z fun y2=>Zn<|gSR<|Zm Z<|Za Z<|Zb Z<|z7x (fun (s3:Int) aa ww=>Sta (ctx 49 H [] w) [(0,.rd (z02 aZ) a0),(2,.val (.func (.func 48) #[] #[])),(4,.val (z07 v1 0)),(8,.rd z0f y2),(9,.rd z0f s3)] [(1,some (v1,.box 45 [.rd aZ a1]))] aa ww) ?_ (fun s3=>?_)
 ·refine z29 (fun (s4:Int × Int) aa ww=>Sta (ctx 49 H [] w) [(0,.rd (z02 aZ) a0),(2,.val (.func (.func 48) #[] #[])),(4,.val (z07 v1 0)),(8,.rd z0f y2),(9,.rd z0f s4.1),(10,.rd z0f s4.2)] [(1,some (v1,.box 45 [.rd aZ a1]))] aa ww) (fun aa ww h=>Zu h [1]) (fun s4=>?_);refine z0x<|gSR<|Zm Z<|Zm Z<|Zq (I.lss Z Z)<|Zj Z (fun h5=>?_) (fun h5=>?_)
  ·refine Zt<|z4s<|gSR<|Zm Z<|Zm Z<|Zq (I.add Z Z)<|Zq (I.toU Z tu3 Tryz.underlying143)<|Zq (U.shr Z Z (Int.natCast_nonneg _))<|Zq (U.toI Z Tryz.underlying143 tu3)<|Za Z<|z24 11 Z fun y6=>Zn<|z0x<|z9u [] mixed Z Z<|hTk 0 Z Z (mv Z)<|hTk 1 Z Z (mv Z)<|hTk 2 Z Z (mv Z)<|z5n fun x7 h8=>hTk 3 Z Z (ixR Z Z h8 tu29 z31 Z)<|hTk 4 Z Z (ldR Z z59)<|hTk 5 Z Z (ld 1 Z Z fH z59 Z)<|zvs 6 [] [] Z (by kernel_rfl) Z (gd0 Z) Z Tryz.func48 Z Z Z (zb9 _ _) (Y2 Z Z) (cN) Z rN Z (fun _ _=>z41) fun r9 n10=>hTk 7 Z Z (I.lss Z Z)<|z6e (by kernel_rfl)<|z0y<|gIf Z Z (fun h11=>?_) (fun h11=>?_)
   ·refine z28<|Zm Z<|Zq (I.add Z Z)<|Za Z<|z1p<|z3c<|z1s (fun aa ww h=>Zu h [1])
   ·refine z28<|Zm Z<|Za Z<|z1p<|z3c<|z1s (fun aa ww h=>Zu h [1])
  ·refine z27<|z19<|z1b<|z3k (fun aa ww h=>Zu h [1])
 ·refine z0x<|z9u [] mixed Z Z<|hTk 0 Z Z (mv Z)<|hTk 1 Z Z (mv Z)<|hTk 2 Z Z (mv Z)<|hTk 3 Z Z (I.lss Z Z)<|hTk 4 Z Z (mv Z)<|hIf 39 Z Z (fun h12=>?_) (fun h12=>?_)
  ·refine hKn 38 Z Z h12<|Zg 5 Z Z (mv Z)<|Zg 6 Z Z (mv Z)<|Zg 7 Z Z (mv Z)<|z5n fun x13 h14=>Zg 8 Z Z (ixR Z Z h14 tu29 z31 Z)<|Zg 9 Z Z (ldR Z z59)<|Zg 10 Z Z (ld 1 Z Z fH z59 Z)<|zvs 11 [] [] Z (by kernel_rfl) Z Zx Z Tryz.func48 Z Z Z (zb9 _ _) (Y2 Z Z) (cN) Z rN Z (fun _ _=>z41) fun r15 n16=>Zg 12 Z Z (I.eql Z Z)<|hTk 13 Z Z (pkT Z Z)<|hTk 14 Z Z (asg Z)<|hTk 15 Z Z (asg Z)<|z6e (by kernel_rfl)<|z0y<|z0n<|Ze [] [] Z
  ·refine hKn 38 Z Z h12<|hSk 5 Z Z<|hSk 6 Z Z<|hSk 7 Z Z<|hSk 8 Z Z<|hSk 9 Z Z<|hSk 10 Z Z<|hSk 11 Z Z<|hSk 12 Z Z<|hTk 13 Z Z (pkF Z Z)<|hTk 14 Z Z (asg Z)<|hTk 15 Z Z (asg Z)<|z6e (by kernel_rfl)<|z0y<|z0n<|Ze [] [] Z
def zea (a0:z01) (a1:V3):Option (Int × Bool) :=
 z0t a0.IDs a1 >>= fun r3 =>
 some (r3.1,r3.2)
theorem zji (a0:z01) (a1:V3):z23 Tryz.prog 85 [.rd z04 a0,.rd aZ a1] [] (zea a0 a1) (fun r nv=>⟨[.rd z0f r.1,.rd z0h r.2],[]⟩):=by
 refine z2m 12 Tryz.func85 Z Z Z fun H w=>?_;refine gSR<|Eb Z (bx 1 Z) fun v1=>Eb Z (bx 2 Z) fun v2=>Za Z<|Zb Z<|gSR<|Zq (faB 1 Z Z Tryz.underlying66 Z (by exact z8j))<|Zq (ld 1 Z Z (fP (z0r _)) zbn Z)<|Zq (ld 2 Z Z fH z59 Z)<|Zc [] [] Tryz.func129 Z (z4q _ _) fun r3 n4=>Zq (ext Z Z)<|Zq (ext Z Z)<|Za Z<|Zb Z<|z0n<|Ze [] [] Z
def z9c (a0:z01) (s3:Int):Option (Sum (Sum Int Unit) Int) :=
 if decide (s3<(a0.IDs.length:Int)) then
  idx a0.IDs (w64 (s3 - 1)) >>= fun x5 =>
  idx a0.IDs s3 >>= fun x7 =>
  z9l x5 x7 >>= fun r9 =>
  if decide (0≤r9) then
   some (.inl (.inl 32))
  else
   some (.inr (w64 (s3+1)))
 else
  some (.inl (.inr ()))
def zax (a0:z01) (s19:(List Int) × (List (List Int)) × (List Int) × Int) (x22:z05) (s26:(List (List Int)) × Int):Option (Sum (Sum (Sum (Sum Int ((List Int) × (List (List Int)) × (List Int))) ((List Int) × (List (List Int)) × (List Int) × Int)) ((List (List Int)))) ((List (List Int)) × Int)) :=
 if decide (s26.2<(x22.Preds.length:Int)) then
  idx x22.Preds s26.2 >>= fun x29 =>
  zea a0 x29 >>= fun r32 =>
  if !r32.2 then
   some (.inl (.inl (.inl (.inl 40))))
  else
   idx s26.1 r32.1 >>= fun x35 =>
   app 8 x35 [s19.2.2.2] >>= fun x38 =>
   some (.inr (s26.1.set (r32.1:Int).toNat x38,w64 (s26.2+1)))
 else
  some (.inl (.inr s26.1))
def zaw (a0:z01) (s19:(List Int) × (List (List Int)) × (List Int) × Int):Option (Sum (Sum Int ((List Int) × (List (List Int)) × (List Int))) ((List Int) × (List (List Int)) × (List Int) × Int)) :=
 if decide (s19.2.2.2<(a0.Ops.length:Int)) then
  idx a0.Ops s19.2.2.2 >>= fun x22 =>
  z4y (iter (zax a0 s19 x22) (s19.2.1,0)) fun s25 =>
  idx s19.1 s19.2.2.2 >>= fun x42 =>
  idx (s19.1.set (s19.2.2.2:Int).toNat (x22.Preds.length:Int)) s19.2.2.2 >>= fun x44 =>
  if x44==0 then
   app 8 s19.2.2.1 [s19.2.2.2] >>= fun x48 =>
   some (.inr (s19.1.set (s19.2.2.2:Int).toNat (x22.Preds.length:Int),s25,x48,w64 (s19.2.2.2+1)))
  else
   some (.inr (s19.1.set (s19.2.2.2:Int).toNat (x22.Preds.length:Int),s25,s19.2.2.1,w64 (s19.2.2.2+1)))
 else
  some (.inl (.inr (s19.1,s19.2.1,s19.2.2.1)))
def zau (x59:List Int) (s61:(List Int) × (List Int) × Int):Option (Sum ((List Int) × (List Int)) ((List Int) × (List Int) × Int)) :=
 if decide (s61.2.2<(x59.length:Int)) then
  idx x59 s61.2.2 >>= fun x64 =>
  idx s61.1 x64 >>= fun x66 =>
  idx s61.1 x64 >>= fun x68 =>
  idx (s61.1.set (x64:Int).toNat (w64 (x66 - 1))) x64 >>= fun x70 =>
  if x70==0 then
   app 8 s61.2.1 [x64] >>= fun x74 =>
   some (.inr (s61.1.set (x64:Int).toNat (w64 (x66 - 1)),x74,w64 (s61.2.2+1)))
  else
   some (.inr (s61.1.set (x64:Int).toNat (w64 (x66 - 1)),s61.2.1,w64 (s61.2.2+1)))
 else
  some (.inl (s61.1,s61.2.1))
def zcc (s18:(List Int) × (List (List Int)) × (List Int)) (s53:(List Int) × (List Int) × Int):Option (Sum Int ((List Int) × (List Int) × Int)) :=
 if decide (s53.2.2<(s53.2.1.length:Int)) then
  (idx s53.2.1 s53.2.2 >>= fun x57 =>
  idx s18.2.1 x57 >>= fun x59 =>
  iter (zau x59) (s53.1,s53.2.1,0)) >>= fun s56 =>
  some (w64 (s53.2.2+1)) >>= fun y78 =>
  some (.inr (s56.1,s56.2,y78))
 else
  some (.inl s53.2.2)
def zgo (a0:z01):Option (Int) :=
 z4y (iter (z9c a0) 1) fun s2 =>
 mkn 8 0 (a0.Ops.length:Int) >>= fun x12 =>
 mkn 24 ([]:List Int) (a0.Ops.length:Int) >>= fun x15 =>
 z4y (iter (zaw a0) (x12,x15,[],0)) fun s18 =>
 (iter (zcc s18) (s18.1,s18.2.2,0)) >>= fun s52 =>
 if decide (s52<(a0.Ops.length:Int)) then
  some 36
 else
  some 0
theorem zmf (a0:z01):z23 Tryz.prog 76 [.rd z04 a0] [] (zgo a0) (fun r nv=>⟨[.rd z0f r],[]⟩):=by
 refine z2m 133 Tryz.func76 Z Z Z fun H w=>?_;refine gSR<|Eb Z (bx 1 Z) fun v1=>Zb Z<|z7c (fun (s2:Unit) aa ww=>Sta (ctx 133 H [] w) [(1,.val (z07 v1 0))] [(1,some (v1,.box 66 [.rd z04 a0]))] aa ww) ?_ (fun s2=>?_)
 ·refine gSR<|Zb Z<|z29 (fun (s3:Int) aa ww=>Sta (ctx 133 H [] w) [(1,.val (z07 v1 0)),(3,.rd z0f s3)] [(1,some (v1,.box 66 [.rd z04 a0]))] aa ww) (fun aa ww h=>h.sub [1] (sS Z<|sS Z<|sN) (y1 Z)) (fun s3=>?_);refine z0x<|gSR<|Zm Z<|Zq (faB 1 Z Z Tryz.underlying66 Z (by exact z8j))<|Zq (ld 1 Z Z (fP (z0r _)) zbn Z)<|Zq (z3e Z .rd Z tu29)<|Zq (I.lss Z Z)<|Zj Z (fun h4=>?_) (fun h4=>?_)
  ·refine Zt<|z0x<|z4s<|z0x<|z9u [] mixed Z Z<|hTk 0 Z Z (faB 1 Z Z Tryz.underlying66 Z (by exact z8j))<|hTk 1 Z Z (ld 1 Z Z (fP (z0r _)) zbn Z)<|hTk 2 Z Z (mv Z)<|hTk 3 Z Z (I.sub Z Z)<|z5n fun x5 h6=>hTk 4 Z Z (ixR Z Z h6 tu29 z31 Z)<|hTk 5 Z Z (ldR Z z59)<|hTk 6 Z Z (faB 1 Z Z Tryz.underlying66 Z (by exact z8j))<|hTk 7 Z Z (ld 1 Z Z (fP (z0r _)) zbn Z)<|hTk 8 Z Z (mv Z)<|z5n fun x7 h8=>hTk 9 Z Z (ixR Z Z h8 tu29 z31 Z)<|hTk 10 Z Z (ldR Z z59)<|z5t 11 [] [] Z (by kernel_rfl) Z (gd0 Z) Z Tryz.func48 Z Z (zb9 _ _) (Y2 Z Z) rN Z (fun _ _=>z41) fun r9 n10=>hTk 12 Z Z (I.geq Z Z)<|z6e (by kernel_rfl)<|z0y<|gIf Z Z (fun h11=>?_) (fun h11=>?_)
   ·refine gSR<|Zb Z<|z0n<|z3m<|z0u<|z6c<|z58<|zbm [] [] Z (eE Z<|eN) (rN)
   ·refine z30<|z3c<|z0y<|z28<|Zm Z<|Zq (I.add Z Z)<|Za Z<|z1p<|z1s (fun aa ww h=>h.sub [1] (sS Z<|sS Z<|sN) (y1 Z))
  ·refine z27<|z19<|z1b<|z5q (fun aa ww h=>h.sub [1] (sS Z<|sN) (y1 Z))
 ·refine gSR<|Zq (faB 1 Z Z Tryz.underlying66 Z (by exact zcx))<|Zq (ld 1 Z Z (fP (z0g _)) zgb Z)<|Zq (z3e Z .rd Z tu22)<|z0q fun x12 h13=>Ef Z (mks (R:=z0f) 44 Z Z h13 tu86 ti3 (Zr.num Z) Z) fun v14=>Zb Z<|gSR<|Zq (faB 1 Z Z Tryz.underlying66 Z (by exact zcx))<|Zq (ld 1 Z Z (fP (z0g _)) zgb Z)<|Zq (z3e Z .rd Z tu22)<|z0q fun x15 h16=>Ef Z (mksF 45 Z Z h16 Tryz.underlying173 ti86 Z) fun v17=>z1c9 (base:=100000) (lits:=[(1,some (v1,.box 66 [.rd z04 a0])),(44,some (v14,.list z0f 3 x12)),(45,some (v17,.list zic 86 (zbc (fun _=>Value.slice none 0 0) x15)))]) z0f 3 [1,44,45] (z17k h16) (Zi Z<|Zi Z<|Zi Z<|rN)<|Zb Z<|gSR<|Zb Z<|z7c (fun (s18:(List Int) × (List (List Int)) × (List Int)) aa ww=>∃ nv:Nat→Value,Sta (ctx 133 H [] w) [(1,.val (z07 v1 0)),(4,.val v14),(5,.val v17),(6,.val (nv 0))] ([(1,some (v1,.box 66 [.rd z04 a0])),(44,some (v14,.list z0f 3 s18.1)),(45,some (v17,.list zic 86 (zbc (fun j=>nv (j+1)) s18.2.1))),(50,some ((nv 0),.list z0f 3 s18.2.2))]++zrl 100000 z0f 3 (fun j=>nv (j+1)) s18.2.1 0) aa ww) ?_ (fun s18=>?_)
  ·refine gSR<|Zq (faB 1 Z Z Tryz.underlying66 Z (by exact zcx))<|Zq (ld 1 Z Z (fP (z0g _)) zgb Z)<|Zq (z3e Z .rd Z tu22)<|Zm Z<|Zn<|zub z0f 3 56<|z29 (fun (s19:(List Int) × (List (List Int)) × (List Int) × Int) aa ww=>∃ nv:Nat→Value,Sta (ctx 133 H [] w) [(1,.val (z07 v1 0)),(4,.val v14),(5,.val v17),(6,.val (nv 0)),(45,.rd (z02 z03) a0.Ops),(46,.rd z0f (a0.Ops.length:Int)),(47,.rd z0f s19.2.2.2)] ([(1,some (v1,.box 66 [.rd z04 a0])),(44,some (v14,.list z0f 3 s19.1)),(45,some (v17,.list zic 86 (zbc (fun j=>nv (j+1)) s19.2.1))),(55,some ((nv 0),.list z0f 3 s19.2.2.1))]++zrl 100000 z0f 3 (fun j=>nv (j+1)) s19.2.1 0) aa ww) (fun aa ww h=>⟨nvlF [(.slice none 0 0)] (fun _=>Value.slice none 0 0),h.subF (by repeat (first | refine z7g.cons Z ?_ | exact z7g.tail)) [1,44,45,56] (Zs Z Z Z Z<|sS Z<|sS Z<|sS Z<|sN) (Zi Z<|Zi Z<|Zi Z<|Zi Z<|rN) rfl⟩) (fun s19=>?_)
   refine gEx fun n20=>gSR<|Zq (I.lss Z Z)<|Zn<|z0x<|gIf Z Z (fun h21=>?_) (fun h21=>?_)
   ·refine Zt<|z0x<|z4s<|gSR<|Zm Z<|z0q fun x22 h23=>Zq (ixR Z Z h23 tu22 z6h Z)<|Zq (ldR Z za3)<|Eb Z (z6n 57 z6h (ZrE.rd (R:=z0s) (x:=0) (Zr.num Z) (ZrE.nilS (ZrE.rd (R:=z1z) (x:=0) (Zr.num Z) (ZrE.rd (R:=z0c) (x:=(⟨0,[],(⟨0,0,0,[]⟩:z00)⟩:z0b)) zlm (ZrE.rd (R:=z0e) (x:=(⟨0,0⟩:z0a)) zlc ZrE.nil Z) Z) Z)) Z)) fun v24=>Za Z<|zhd aZ [.rd z0s 0,.rd (z02 aZ) [],.rd z1z 0,.rd z0c (⟨0,[],(⟨0,0,0,[]⟩:z00)⟩:z0b),.rd z0e (⟨0,0⟩:z0a)] 57 [.rd z0s 0] [.rd z1z 0,.rd z0c (⟨0,[],(⟨0,0,0,[]⟩:z00)⟩:z0b),.rd z0e (⟨0,0⟩:z0a)] Z Z Z<|zgt (R:=z03) (⟨0,[],0,(⟨0,[],(⟨0,0,0,[]⟩:z00)⟩:z0b),(⟨0,0⟩:z0a)⟩:z05) 57 Z (Sp.via (Sp.prod (Sp.prod (Sp.prod (Sp.prod (Sp.prod Sp.unit))))))<|Es (sto 57 Z Z fH Z z6h)<|Zn<|z7c (fun (s25:(List (List Int))) aa ww=>∃ nv:Nat→Value,Sta (ctx 133 H [] w) [(1,.val (z07 v1 0)),(4,.val v14),(5,.val v17),(6,.val (n20 0)),(7,.rd z0f s19.2.2.2),(8,.val (z07 v24 0)),(45,.rd (z02 z03) a0.Ops),(46,.rd z0f (a0.Ops.length:Int)),(47,.rd z0f s19.2.2.2)] ([(1,some (v1,.box 66 [.rd z04 a0])),(44,some (v14,.list z0f 3 s19.1)),(45,some (v17,.list zic 86 (zbc (fun j=>nv (j+0)) s25))),(55,some ((n20 0),.list z0f 3 s19.2.2.1)),(57,some (v24,.box 43 [.rd z03 x22]))]++zrl 100000 z0f 3 (fun j=>nv (j+0)) s25 0) aa ww) ?_ (fun s25=>?_)
    ·refine gSR<|Zq (faB 57 Z Z Tryz.underlying43 Z (by exact z8j))<|Zq (ld 57 Z Z (fP (z0z _)) zbn Z)<|Zq (z3e Z .rd Z tu29)<|Zm Z<|Zn<|z29 (fun (s26:(List (List Int)) × Int) aa ww=>∃ nv:Nat→Value,Sta (ctx 133 H [] w) [(1,.val (z07 v1 0)),(4,.val v14),(5,.val v17),(6,.val (n20 0)),(7,.rd z0f s19.2.2.2),(8,.val (z07 v24 0)),(45,.rd (z02 z03) a0.Ops),(46,.rd z0f (a0.Ops.length:Int)),(47,.rd z0f s19.2.2.2),(53,.rd (z02 aZ) x22.Preds),(54,.rd z0f (x22.Preds.length:Int)),(55,.rd z0f s26.2)] ([(1,some (v1,.box 66 [.rd z04 a0])),(44,some (v14,.list z0f 3 s19.1)),(45,some (v17,.list zic 86 (zbc (fun j=>nv (j+0)) s26.1))),(55,some ((n20 0),.list z0f 3 s19.2.2.1)),(57,some (v24,.box 43 [.rd z03 x22]))]++zrl 100000 z0f 3 (fun j=>nv (j+0)) s26.1 0) aa ww) (fun aa ww h=>⟨nvlF [] (fun j=>n20 (j+1)),h.subF (by repeat (first | refine z7g.cons Z ?_ | exact z7g.tail)) [1,44,45,55,57] (Zs Z Z Z Z<|Zs Z Z Z Z<|Zs Z Z Z Z<|sN) (Zi Z<|Zi Z<|Zi Z<|Zi Z<|Zi Z<|rN) rfl⟩) (fun s26=>?_)
     refine gEx fun n27=>gSR<|Zq (I.lss Z Z)<|Zn<|z0x<|gIf Z Z (fun h28=>?_) (fun h28=>?_)
     ·refine Zt<|z0x<|z4s<|gSR<|z0q fun x29 h30=>Zq (ixR Z Z h30 tu29 z31 Z)<|Zq (ldR Z z59)<|Eb Z (z6n 58 z31 (.zr (R:=aZ) (x:=(Vector.replicate 32 0)) zfo)) fun v31=>Es (sto 58 Z Z fH Z z31)<|Zn<|gSR<|Zq (ld 1 Z Z fH zcv Z)<|Zq (ld 58 Z Z fH z59 Z)<|call [] [] Z Tryz.func85 Z Z (zji _ _) (Y2 Z Z) rN fun r32 n33=>Zm Z<|Zq (ext Z Z)<|Zq (ext Z Z)<|Za Z<|Zb Z<|z0x<|gSR<|Zm Z<|Zq (zds Z)<|Zj Z (fun h34=>?_) (fun h34=>?_)
      ·refine gSR<|Zb Z<|z0n<|z0u<|z3m<|z0u<|z6c<|z58<|z3m<|z0u<|z6c<|z58<|zbm [] [] Z (eE Z<|eN) (rN)
      ·refine Zt<|z28<|Zm Z<|Zm Z<|Zm Z<|Zm Z<|z0q fun x35 h36=>Zq (ixO 45 Z Z Z (zrj h36) Tryz.underlying173 ti86)<|Zq (ldF 45 Z Z h36 ty86 Z)<|Zm Z<|Ef Z (lit (R:=z0f) ([s19.2.2.2]:List Int) 59 (pP Z Z<|pN) Z tu86 ti3 Z Z) fun v37=>z0q fun x38 h39=>lApF (base:=100000) (lits:=[(1,some (v1,.box 66 [.rd z04 a0])),(44,some (v14,.list z0f 3 s19.1)),(55,some ((n20 0),.list z0f 3 s19.2.2.1)),(57,some (v24,.box 43 [.rd z03 x22])),(58,some (v31,.box 45 [.rd aZ x29])),(59,some (v37,.list z0f 3 [s19.2.2.2]))]) 45 [1,44,55,57,58,59] (by repeat (first | refine z7g.cons Z ?_ | exact z7g.tail)) Z Z Z h36 Z Z Z Z (.own 59 Z) h39 Z (fun _ h=>by cases h; rfl) (fun _ h=>by cases h; rfl) Z Z tu86 ti3 Z Z Z Tryz.underlying173 ti86 ty86 (Zi Z<|Zi Z<|Zi Z<|Zi Z<|Zi Z<|Zi Z<|rN) Z fun v40=>z1p<|z3c<|z0y<|z28<|Zq (I.add Z Z)<|Zm Z<|z1p<|z1s (fun aa ww h=>⟨nvlF [] (updF (fun j=>n27 (j+0)) (r32.1:Int).toNat v40),h.subF (by repeat (first | refine z7g.cons Z ?_ | exact z7g.tail)) [1,44,45,55,57] (Zs Z Z Z Z<|Zs Z Z Z Z<|Zs Z Z Z Z<|sN) (Zi Z<|Zi Z<|Zi Z<|Zi Z<|Zi Z<|rN) rfl⟩)
     ·refine z27<|z19<|z1b<|z5q (fun aa ww h=>⟨nvlF [] (fun j=>n27 (j+0)),h.subF (by repeat (first | refine z7g.cons Z ?_ | exact z7g.tail)) [1,44,45,55,57] (Zs Z Z Z Z<|Zs Z Z Z Z<|sS Z<|sN) (Zi Z<|Zi Z<|Zi Z<|Zi Z<|Zi Z<|rN) rfl⟩)
    ·refine gEx fun n41=>gSR<|Zm Z<|Zm Z<|Zq (faB 57 Z Z Tryz.underlying43 Z (by exact z8j))<|Zq (ld 57 Z Z (fP (z0z _)) zbn Z)<|Zq (z3e Z .rd Z tu29)<|z0q fun x42 h43=>Zq (ixO 44 Z Z Z h43 tu86 ti3)<|Es (sto 44 Z Z (Foc.el h43) Z ti3)<|Zn<|gSR<|Zm Z<|Zm Z<|z0q fun x44 h45=>Zq (ixO 44 Z Z Z h45 tu86 ti3)<|Zq (ld 44 Z Z (Foc.el h45) ty3 Z)<|Zq (I.eql Z Z)<|Zj Z (fun h46=>?_) (fun h46=>?_)
     ·refine z28<|Zm Z<|Zm Z<|Ef Z (lit (R:=z0f) ([s19.2.2.2]:List Int) 60 (pP Z Z<|pN) Z tu86 ti3 Z Z) fun v47=>z0q fun x48 h49=>Ef Z (apn 55 Z Z Z (.own 60 Z) h49 tu86 ti3 Z Z Z) fun v50=>Za Z<|z1p<|z3c<|z0y<|z28<|Zq (I.add Z Z)<|Zm Z<|z1p<|z1s (fun aa ww h=>⟨nvlF [v50] (fun j=>n41 (j+0)),h.subF (by repeat (first | refine z7g.cons Z ?_ | exact z7g.tail)) [1,44,45,55] (Zs Z Z Z Z<|sS Z<|sS Z<|sS Z<|sN) (Zi Z<|Zi Z<|Zi Z<|Zi Z<|rN) rfl⟩)
     ·refine z30<|z3c<|z0y<|z28<|Zq (I.add Z Z)<|Zm Z<|z1p<|z1s (fun aa ww h=>⟨nvlF [(n20 0)] (fun j=>n41 (j+0)),h.subF (by repeat (first | refine z7g.cons Z ?_ | exact z7g.tail)) [1,44,45,55] (Zs Z Z Z Z<|sS Z<|sS Z<|sS Z<|sN) (Zi Z<|Zi Z<|Zi Z<|Zi Z<|rN) rfl⟩)
   ·refine z27<|z19<|z1b<|z5q (fun aa ww h=>⟨nvlF [(n20 0)] (fun j=>n20 (j+1)),h.subF (by repeat (first | refine z7g.cons Z ?_ | exact z7g.tail)) [1,44,45,55] (Zs Z Z Z Z<|sN) (Zi Z<|Zi Z<|Zi Z<|Zi Z<|rN) rfl⟩)
  ·refine gEx fun n51=>gSR<|Zb Z<|z7x (fun (s52:Int) aa ww=>Sta (ctx 133 H [] w) [(1,.val (z07 v1 0)),(13,.rd z0f s52)] [(1,some (v1,.box 66 [.rd z04 a0]))] aa ww) ?_ (fun s52=>?_)
   ·refine z1bj (base:=100000) (T:=3) (lits:=[(1,some (v1,.box 66 [.rd z04 a0])),(44,some (v14,.list z0f 3 s18.1)),(50,some ((n51 0),.list z0f 3 s18.2.2))]) (by repeat (first | refine z7g.cons Z ?_ | exact z7g.tail)) 45 Z [1,44,50] (Zi Z<|Zi Z<|Zi Z<|rN) Z Z<|z29 (fun (s53:(List Int) × (List Int) × Int) aa ww=>∃ nv:Nat→Value,Sta (ctx 133 H [] w) [(1,.val (z07 v1 0)),(4,.val v14),(5,.val v17),(6,.val (nv 0)),(13,.rd z0f s53.2.2)] [(1,some (v1,.box 66 [.rd z04 a0])),(44,some (v14,.list z0f 3 s53.1)),(45,some (v17,.list (z02 z0f) 86 s18.2.1)),(50,some ((nv 0),.list z0f 3 s53.2.1))] aa ww) (fun aa ww h=>⟨nvl [(n51 0)],h.sub [1,44,45,50] (Zs Z Z Z Z<|sS Z<|sN) (Zi Z<|Zi Z<|Zi Z<|Zi Z<|rN)⟩) (fun s53=>?_)
    refine gEx fun n54=>z0x<|gSR<|Zm Z<|Zm Z<|Zq (z3e Z (.own 50 Z) Z tu86)<|Zq (I.lss Z Z)<|Zj Z (fun h55=>?_) (fun h55=>?_)
    ·refine Zt<|z7x (fun (s56:(List Int) × (List Int)) aa ww=>∃ nv:Nat→Value,Sta (ctx 133 H [] w) [(1,.val (z07 v1 0)),(4,.val v14),(5,.val v17),(6,.val (nv 0)),(13,.rd z0f s53.2.2)] [(1,some (v1,.box 66 [.rd z04 a0])),(44,some (v14,.list z0f 3 s56.1)),(45,some (v17,.list (z02 z0f) 86 s18.2.1)),(50,some ((nv 0),.list z0f 3 s56.2))] aa ww) ?_ (fun s56=>?_)
     ·refine z4s<|gSR<|Zm Z<|Zm Z<|Zm Z<|z0q fun x57 h58=>Zq (ixO 50 Z Z Z h58 tu86 ti3)<|Zq (ld 50 Z Z (Foc.el h58) ty3 Z)<|z0q fun x59 h60=>Zq (ixO 45 Z Z Z h60 Tryz.underlying173 ti86)<|Zq (ld 45 Z Z (Foc.el h60) ty86 Z)<|Zq (z3e Z .rd Z tu86)<|Zm Z<|Zn<|z29 (fun (s61:(List Int) × (List Int) × Int) aa ww=>∃ nv:Nat→Value,Sta (ctx 133 H [] w) [(1,.val (z07 v1 0)),(4,.val v14),(5,.val v17),(6,.val (nv 0)),(13,.rd z0f s53.2.2),(106,.rd (z02 z0f) x59),(107,.rd z0f (x59.length:Int)),(108,.rd z0f s61.2.2)] [(1,some (v1,.box 66 [.rd z04 a0])),(44,some (v14,.list z0f 3 s61.1)),(45,some (v17,.list (z02 z0f) 86 s18.2.1)),(50,some ((nv 0),.list z0f 3 s61.2.1))] aa ww) (fun aa ww h=>⟨nvl [(n54 0)],h.sub [1,44,45,50] (Zs Z Z Z Z<|Zs Z Z Z Z<|sN) (Zi Z<|Zi Z<|Zi Z<|Zi Z<|rN)⟩) (fun s61=>?_)
      refine gEx fun n62=>gSR<|Zq (I.lss Z Z)<|Zn<|z0x<|gIf Z Z (fun h63=>?_) (fun h63=>?_)
      ·refine Zt<|z0x<|z4s<|gSR<|z0q fun x64 h65=>Zq (ixR Z Z h65 tu86 ti3 Z)<|Zq (ldR Z ty3)<|Zb Z<|gSR<|Zm Z<|Zm Z<|z0q fun x66 h67=>Zq (ixO 44 Z Z Z h67 tu86 ti3)<|Zq (ld 44 Z Z (Foc.el h67) ty3 Z)<|Zq (I.sub Z Z)<|z0q fun x68 h69=>Zq (ixO 44 Z Z Z h69 tu86 ti3)<|Es (sto 44 Z Z (Foc.el h69) Z ti3)<|Zn<|gSR<|Zm Z<|Zm Z<|z0q fun x70 h71=>Zq (ixO 44 Z Z Z h71 tu86 ti3)<|Zq (ld 44 Z Z (Foc.el h71) ty3 Z)<|Zq (I.eql Z Z)<|Zj Z (fun h72=>?_) (fun h72=>?_)
       ·refine z28<|Zm Z<|Zm Z<|Ef Z (lit (R:=z0f) ([x64]:List Int) 61 (pP Z Z<|pN) Z tu86 ti3 Z Z) fun v73=>z0q fun x74 h75=>Ef Z (apn 50 Z Z Z (.own 61 Z) h75 tu86 ti3 Z Z Z) fun v76=>Za Z<|z1p<|z3c<|z0y<|z28<|Zq (I.add Z Z)<|Zm Z<|z1p<|z1s (fun aa ww h=>⟨nvl [v76],h.sub [1,44,45,50] (Zs Z Z Z Z<|Zs Z Z Z Z<|sN) (Zi Z<|Zi Z<|Zi Z<|Zi Z<|rN)⟩)
       ·refine z30<|z3c<|z0y<|z28<|Zq (I.add Z Z)<|Zm Z<|z1p<|z1s (fun aa ww h=>⟨nvl [(n62 0)],h.sub [1,44,45,50] (Zs Z Z Z Z<|Zs Z Z Z Z<|sN) (Zi Z<|Zi Z<|Zi Z<|Zi Z<|rN)⟩)
      ·refine z27<|z19<|z1b<|z3c<|z3k (fun aa ww h=>⟨nvl [(n62 0)],h.sub [1,44,45,50] (Zs Z Z Z Z<|sS Z<|sN) (Zi Z<|Zi Z<|Zi Z<|Zi Z<|rN)⟩)
     ·refine gEx fun n77=>z28<|Zm Z<|Zq (I.add Z Z)<|Za Z<|z24 13 Z fun y78=>z1p<|z1s (fun aa ww h=>⟨nvl [(n77 0)],h.sub [1,44,45,50] (Zs Z Z Z Z<|sS Z<|sN) (Zi Z<|Zi Z<|Zi Z<|Zi Z<|rN)⟩)
    ·refine z27<|z19<|z1b<|z3k (fun aa ww h=>h.sub [1] (sS Z<|sS Z<|sN) (y1 Z))
   ·refine z0x<|gSR<|Zm Z<|Zq (faB 1 Z Z Tryz.underlying66 Z (by exact zcx))<|Zq (ld 1 Z Z (fP (z0g _)) zgb Z)<|Zq (z3e Z .rd Z tu22)<|Zq (I.lss Z Z)<|Zj Z (fun h79=>?_) (fun h79=>?_)
    ·refine gSR<|Zb Z<|z0n<|z0u<|zbm [] [] Z (eE Z<|eN) (rN)
    ·refine Zt<|gSR<|Zb Z<|z0n<|zbm [] [] Z (eE Z<|eN) (rN)
def zc9 (a0:z01) (s5:Int):Option (Sum (Sum Int Unit) Int) :=
 if decide (s5<(a0.Ops.length:Int)) then
  idx a0.Ops s5 >>= fun x7 =>
  zow x7 >>= fun r10 =>
  (if r10.2 != 0 then
   some true
  else
   idx a0.IDs s5 >>= fun x15 =>
   if !decide (r10.1=x15) then
    some true
   else
    zeo x7 >>= fun r18 =>
    some (r18 != 0)) >>= fun s13 =>
  if s13 then
   some (.inl (.inl 8))
  else
   some (.inr (w64 (s5+1)))
 else
  some (.inl (.inr ()))
def z7v (a0:z01):Option (Int) :=
 if decide (60<(a0.Ops.length:Int)) then
  some 4
 else
  if (a0.IDs.length:Int) != (a0.Ops.length:Int) then
   some 8
  else
   z4y (iter (zc9 a0) 0) fun s4 =>
   zgo a0 >>= fun r21 =>
   some r21
theorem ze7 (a0:z01):z23 Tryz.prog 70 [.rd z04 a0] [zG1] (z7v a0) (fun r nv=>⟨[.rd z0f r],[(1001,some (.bool true,.glob 1 (z3i 64 z0s) z6j))]⟩):=by
 refine z2m 50 Tryz.func70 Z Z Z fun H w=>?_;refine gSR<|Eb Z (bx 1 Z) fun v1=>Zb Z<|z0x<|gSR<|Zq (faB 1 Z Z Tryz.underlying66 Z (by exact zcx))<|Zq (ld 1 Z Z (fP (z0g _)) zgb Z)<|Zq (z3e Z .rd Z tu22)<|Zq (I.gtr Z Z)<|Zj Z (fun h2=>?_) (fun h2=>?_)
 ·refine gSR<|Zb Z<|z0n<|z0u<|Ze [] [1001] Z
 ·refine Zt<|z0x<|gSR<|Zq (faB 1 Z Z Tryz.underlying66 Z (by exact z8j))<|Zq (ld 1 Z Z (fP (z0r _)) zbn Z)<|Zq (z3e Z .rd Z tu29)<|Zq (faB 1 Z Z Tryz.underlying66 Z (by exact zcx))<|Zq (ld 1 Z Z (fP (z0g _)) zgb Z)<|Zq (z3e Z .rd Z tu22)<|Zq (I.neq Z Z)<|Zj Z (fun h3=>?_) (fun h3=>?_)
  ·refine gSR<|Zb Z<|z0n<|z0u<|Ze [] [1001] Z
  ·refine Zt<|z7c (fun (s4:Unit) aa ww=>Sta (ctx 50 H [zG1] w) [(1,.val (z07 v1 0))] [(1,some (v1,.box 66 [.rd z04 a0])),zG1] aa ww) ?_ (fun s4=>?_)
   ·refine gSR<|Zq (faB 1 Z Z Tryz.underlying66 Z (by exact zcx))<|Zq (ld 1 Z Z (fP (z0g _)) zgb Z)<|Zq (z3e Z .rd Z tu22)<|Zm Z<|Zn<|z29 (fun (s5:Int) aa ww=>Sta (ctx 50 H [zG1] w) [(1,.val (z07 v1 0)),(19,.rd (z02 z03) a0.Ops),(20,.rd z0f (a0.Ops.length:Int)),(21,.rd z0f s5)] [(1,some (v1,.box 66 [.rd z04 a0])),zG1] aa ww) (fun aa ww h=>Zu h [1,1001]) (fun s5=>?_);refine gSR<|Zq (I.lss Z Z)<|Zn<|z0x<|gIf Z Z (fun h6=>?_) (fun h6=>?_)
    ·refine Zt<|z0x<|z4s<|gSR<|Zm Z<|z0q fun x7 h8=>Zq (ixR Z Z h8 tu22 z6h Z)<|Zq (ldR Z za3)<|Eb Z (z6n 1100 z6h (ZrE.rd (R:=z0s) (x:=0) (Zr.num Z) (ZrE.nilS (ZrE.rd (R:=z1z) (x:=0) (Zr.num Z) (ZrE.rd (R:=z0c) (x:=(⟨0,[],(⟨0,0,0,[]⟩:z00)⟩:z0b)) zlm (ZrE.rd (R:=z0e) (x:=(⟨0,0⟩:z0a)) zlc ZrE.nil Z) Z) Z)) Z)) fun v9=>Za Z<|zhd aZ [.rd z0s 0,.rd (z02 aZ) [],.rd z1z 0,.rd z0c (⟨0,[],(⟨0,0,0,[]⟩:z00)⟩:z0b),.rd z0e (⟨0,0⟩:z0a)] 1100 [.rd z0s 0] [.rd z1z 0,.rd z0c (⟨0,[],(⟨0,0,0,[]⟩:z00)⟩:z0b),.rd z0e (⟨0,0⟩:z0a)] Z Z Z<|zgt (R:=z03) (⟨0,[],0,(⟨0,[],(⟨0,0,0,[]⟩:z00)⟩:z0b),(⟨0,0⟩:z0a)⟩:z05) 1100 Z (Sp.via (Sp.prod (Sp.prod (Sp.prod (Sp.prod (Sp.prod Sp.unit))))))<|Es (sto 1100 Z Z fH Z z6h)<|Zn<|gSR<|Zq (ld 1100 Z Z fH za3 Z)<|Zc [1001] [] Tryz.func65 Z (zhs _) fun r10 n11=>Zm Z<|Zq (ext Z Z)<|Zq (ext Z Z)<|Eb Z (z6n 1101 z31 (.zr (R:=aZ) (x:=(Vector.replicate 32 0)) zfo)) fun v12=>Es (sto 1101 Z Z fH Z z31)<|Zb Z<|z7x (fun (s13:Bool) aa ww=>Sta (ctx 50 H [zG1] w) [(1,.val (z07 v1 0)),(19,.rd (z02 z03) a0.Ops),(20,.rd z0f (a0.Ops.length:Int)),(21,.rd z0f s5),(46,.rd z0h s13)] [(1,some (v1,.box 66 [.rd z04 a0])),zG1] aa ww) ?_ (fun s13=>?_)
     ·refine z9u [1001] mixed Z Z<|hTk 0 Z Z (mv Z)<|hTk 1 Z Z (I.neq Z Z)<|hTk 2 Z Z (mv Z)<|hIf 33 Z Z (fun h14=>?_) (fun h14=>?_)
      ·refine hKn 32 Z Z h14<|hSk 3 Z Z<|hSk 4 Z Z<|hSk 5 Z Z<|hSk 6 Z Z<|hSk 7 Z Z<|hSk 8 Z Z<|hSk 9 Z Z<|hTk 10 Z Z (pkT Z Z)<|hTk 11 Z Z (mv Z)<|hSk 12 Z Z<|hSk 13 Z Z<|hSk 14 Z Z<|hTk 15 Z Z (pkT Z Z)<|z6e (by kernel_rfl)<|z3k (fun aa ww h=>Zu h [1,1001])
      ·refine hKn 32 Z Z h14<|Zg 3 Z Z (ld 1101 Z Z fH z59 Z)<|Zg 4 Z Z (faB 1 Z Z Tryz.underlying66 Z (by exact z8j))<|Zg 5 Z Z (ld 1 Z Z (fP (z0r _)) zbn Z)<|Zg 6 Z Z (mv Z)<|z5n fun x15 h16=>Zg 7 Z Z (ixR Z Z h16 tu29 z31 Z)<|Zg 8 Z Z (ldR Z z59)<|Zg 9 Z Z (neA Z Z eq45 Z Z gq45)<|hTk 10 Z Z (pkF Z Z)<|hTk 11 Z Z (mv Z)<|hIf 42 Z Z (fun h17=>?_) (fun h17=>?_)
       ·refine hKn 40 Z Z h17<|hKn 41 Z Z h17<|hSk 12 Z Z<|hSk 13 Z Z<|hSk 14 Z Z<|hTk 15 Z Z (pkT Z Z)<|z6e (by kernel_rfl)<|z3k (fun aa ww h=>Zu h [1,1001])
       ·refine hKn 40 Z Z h17<|hKn 41 Z Z h17<|Zg 12 Z Z (ld 1100 Z Z fH za3 Z)<|z5t 13 [1001] [] Z (by kernel_rfl) Z Zx Z Tryz.func74 Z Z (zh9 _) (Y1 Z) (y1 Z) Z (fun _ _=>z41) fun r18 n19=>Zg 14 Z Z (I.neq Z Z)<|hTk 15 Z Z (pkF Z Z)<|z6e (by kernel_rfl)<|z3k (fun aa ww h=>Zu h [1,1001])
     ·refine gIf Z Z (fun h20=>?_) (fun h20=>?_)
      ·refine gSR<|Zb Z<|z0n<|z3m<|z0u<|z6c<|z58<|Ze [] [1001] Z
      ·refine z30<|z3c<|z0y<|z28<|Zq (I.add Z Z)<|Zm Z<|z1p<|z1s (fun aa ww h=>Zu h [1,1001])
    ·refine z27<|z19<|z1b<|z5q (fun aa ww h=>Zu h [1,1001])
   ·refine gSR<|Zq (ld 1 Z Z fH zcv Z)<|Zc [] [] Tryz.func76 Z (zmf _) fun r21 n22=>Zb Z<|z0n<|Ze [] [1001] Z
def z3s (a0:List V3) (a1:V3) (s3:Int):Option (Sum (Sum Int Unit) Int) :=
 if decide (s3<(a0.length:Int)) then
  idx a0 s3 >>= fun x5 =>
  if decide (x5=a1) then
   some (.inl (.inl s3))
  else
   some (.inr (w64 (s3+1)))
 else
  some (.inl (.inr ()))
def z5p (a0:List V3) (a1:V3):Option (Int) :=
 z4y (iter (z3s a0 a1) 0) fun s2 =>
 some (-1)
theorem zml (a0:List V3) (a1:V3):z23 Tryz.prog 17 [.rd (z02 aZ) a0,.rd aZ a1] [] (z5p a0 a1) (fun r nv=>⟨[.rd z0f r],[]⟩):=by
 refine z2m 19 Tryz.func17 Z Z Z fun H w=>?_;refine gSR<|Eb Z (bx 1 Z) fun v1=>Zb Z<|z7c (fun (s2:Unit) aa ww=>Sta (ctx 19 H [] w) [] [] aa ww) ?_ (fun s2=>?_)
 ·refine gSR<|Zb Z<|z29 (fun (s3:Int) aa ww=>Sta (ctx 19 H [] w) [(0,.rd (z02 aZ) a0),(3,.val (z07 v1 0)),(5,.rd z0f s3)] [(1,some (v1,.box 45 [.rd aZ a1]))] aa ww) (fun aa ww h=>Zu h [1]) (fun s3=>?_);refine z0x<|gSR<|Zm Z<|Zm Z<|Zq (z3e Z .rd Z tu29)<|Zq (I.lss Z Z)<|Zj Z (fun h4=>?_) (fun h4=>?_)
  ·refine Zt<|z0x<|z4s<|z0x<|zix mixed (by kernel_rfl)<|Rq Z (mv Z)<|Rq Z (mv Z)<|z8n fun x5 h6=>Rq Z (ixR Z Z h6 tu29 z31 Z)<|Rq Z (ldR Z z59)<|Rq Z (ld 1 Z Z fH z59 Z)<|Rq Z (eqA Z Z eq45 Z Z gq45)<|zvk<|z0y<|gIf Z Z (fun h7=>?_) (fun h7=>?_)
   ·refine gSR<|Zm Z<|Zb Z<|z0n<|z3m<|z0u<|z6c<|z58<|Ze [] [] Z
   ·refine z30<|z3c<|z0y<|z28<|Zm Z<|Zq (I.add Z Z)<|Za Z<|z1p<|z1s (fun aa ww h=>Zu h [1])
  ·refine z27<|z19<|z1b<|z5q (fun aa ww h=>Zu h [])
 ·refine gSR<|Zb Z<|z0n<|Ze [] [] Z
def z81 (a0:List V3) (a1:List V3) (s2:Int):Option (Sum (Sum Bool Unit) Int) :=
 if decide (s2<(a1.length:Int)) then
  idx a1 s2 >>= fun x4 =>
  z5p a0 x4 >>= fun r6 =>
  if decide (r6<0) then
   some (.inl (.inl false))
  else
   some (.inr (w64 (s2+1)))
 else
  some (.inl (.inr ()))
def z3p (a0:List V3) (a1:List V3):Option (Bool) :=
 z4y (iter (z81 a0 a1) 0) fun s1 =>
 some true
theorem zf3 (a0:List V3) (a1:List V3):z23 Tryz.prog 36 [.rd (z02 aZ) a0,.rd (z02 aZ) a1] [] (z3p a0 a1) (fun r nv=>⟨[.rd z0h r],[]⟩):=by
 refine z2m 19 Tryz.func36 Z Z Z fun H w=>?_;refine gSR<|Zb Z<|z7c (fun (s1:Unit) aa ww=>Sta (ctx 19 H [] w) [] [] aa ww) ?_ (fun s1=>?_)
 ·refine gSR<|Zb Z<|z29 (fun (s2:Int) aa ww=>Sta (ctx 19 H [] w) [(0,.rd (z02 aZ) a0),(1,.rd (z02 aZ) a1),(5,.rd z0f s2)] [] aa ww) (fun aa ww h=>Zu h []) (fun s2=>?_);refine z0x<|gSR<|Zm Z<|Zm Z<|Zq (z3e Z .rd Z tu29)<|Zq (I.lss Z Z)<|Zj Z (fun h3=>?_) (fun h3=>?_)
  ·refine Zt<|z0x<|z4s<|gSR<|Zm Z<|Zm Z<|Zm Z<|z0q fun x4 h5=>Zq (ixR Z Z h5 tu29 z31 Z)<|Zq (ldR Z z59)<|Zc [] [] Tryz.func17 Z (zml _ _) fun r6 n7=>Zq (I.lss Z Z)<|Zj Z (fun h8=>?_) (fun h8=>?_)
   ·refine gSR<|Zb Z<|z0n<|z3m<|z0u<|z6c<|z58<|Ze [] [] Z
   ·refine z30<|z3c<|z0y<|z28<|Zm Z<|Zq (I.add Z Z)<|Za Z<|z1p<|z1s (fun aa ww h=>Zu h [])
  ·refine z27<|z19<|z1b<|z5q (fun aa ww h=>Zu h [])
 ·refine gSR<|Zb Z<|z0n<|Ze [] [] Z
theorem zj9 (a0:List V3) (q0:Value) (l0:List V3) (a1:V3):z23 Tryz.prog 17 [.vw aZ q0 l0 a0,.rd aZ a1] [(1,some (q0,.list aZ 45 l0))] (z5p a0 a1) (fun r nv=>⟨[.rd z0f r],[(1,some (q0,.list aZ 45 l0))]⟩):=by
 refine z2m 19 Tryz.func17 Z Z Z fun H w=>?_;refine gSR<|Eb Z (bx 2 Z) fun v1=>Zb Z<|z7c (fun (s2:Unit) aa ww=>Sta (ctx 19 H [(1,some (q0,.list aZ 45 l0))] w) [] [(1,some (q0,.list aZ 45 l0))] aa ww) ?_ (fun s2=>?_)
 ·refine gSR<|Zb Z<|z29 (fun (s3:Int) aa ww=>Sta (ctx 19 H [(1,some (q0,.list aZ 45 l0))] w) [(0,.vw aZ q0 l0 a0),(3,.val (z07 v1 0)),(5,.rd z0f s3)] [(1,some (q0,.list aZ 45 l0)),(2,some (v1,.box 45 [.rd aZ a1]))] aa ww) (fun aa ww h=>Zu h [1,2]) (fun s3=>?_);refine z0x<|gSR<|Zm Z<|Zm Z<|Zq (z3e Z (.vw 1 Z) Z tu29)<|Zq (I.lss Z Z)<|Zj Z (fun h4=>?_) (fun h4=>?_)
  ·refine Zt<|z0x<|z4s<|z0x<|zix mixed (by kernel_rfl)<|Rq Z (mv Z)<|Rq Z (mv Z)<|z8n fun x5 h6=>Rq Z (ixQ 1 Z Z Z h6 tu29 z31)<|Rq Z (ldQ 1 Z Z z59 Z)<|Rq Z (ld 2 Z Z fH z59 Z)<|Rq Z (eqA Z Z eq45 Z Z gq45)<|zvk<|z0y<|gIf Z Z (fun h7=>?_) (fun h7=>?_)
   ·refine gSR<|Zm Z<|Zb Z<|z0n<|z3m<|z0u<|z6c<|z58<|Ze [] [1] Z
   ·refine z30<|z3c<|z0y<|z28<|Zm Z<|Zq (I.add Z Z)<|Za Z<|z1p<|z1s (fun aa ww h=>Zu h [1,2])
  ·refine z27<|z19<|z1b<|z5q (fun aa ww h=>Zu h [1])
 ·refine gSR<|Zb Z<|z0n<|Ze [] [1] Z
theorem zi5 (a0:List V3) (q0:Value) (l0:List V3) (a1:List V3):z23 Tryz.prog 36 [.vw aZ q0 l0 a0,.rd (z02 aZ) a1] [(1,some (q0,.list aZ 45 l0))] (z3p a0 a1) (fun r nv=>⟨[.rd z0h r],[(1,some (q0,.list aZ 45 l0))]⟩):=by
 refine z2m 19 Tryz.func36 Z Z Z fun H w=>?_;refine gSR<|Zb Z<|z7c (fun (s1:Unit) aa ww=>Sta (ctx 19 H [(1,some (q0,.list aZ 45 l0))] w) [] [(1,some (q0,.list aZ 45 l0))] aa ww) ?_ (fun s1=>?_)
 ·refine gSR<|Zb Z<|z29 (fun (s2:Int) aa ww=>Sta (ctx 19 H [(1,some (q0,.list aZ 45 l0))] w) [(0,.vw aZ q0 l0 a0),(1,.rd (z02 aZ) a1),(5,.rd z0f s2)] [(1,some (q0,.list aZ 45 l0))] aa ww) (fun aa ww h=>Zu h [1]) (fun s2=>?_);refine z0x<|gSR<|Zm Z<|Zm Z<|Zq (z3e Z .rd Z tu29)<|Zq (I.lss Z Z)<|Zj Z (fun h3=>?_) (fun h3=>?_)
  ·refine Zt<|z0x<|z4s<|gSR<|Zm Z<|Zm Z<|Zm Z<|z0q fun x4 h5=>Zq (ixR Z Z h5 tu29 z31 Z)<|Zq (ldR Z z59)<|Zc [1] [(1,1)] Tryz.func17 Z (zj9 _ _ _ _) fun r6 n7=>Zq (I.lss Z Z)<|Zj Z (fun h8=>?_) (fun h8=>?_)
   ·refine gSR<|Zb Z<|z0n<|z3m<|z0u<|z6c<|z58<|Ze [] [1] Z
   ·refine z30<|z3c<|z0y<|z28<|Zm Z<|Zq (I.add Z Z)<|Za Z<|z1p<|z1s (fun aa ww h=>Zu h [1])
  ·refine z27<|z19<|z1b<|z5q (fun aa ww h=>Zu h [1])
 ·refine gSR<|Zb Z<|z0n<|Ze [] [1] Z
def z3w (a0:z01) (s6:(List Int) × (List V3) × (List Bool) × Bool) (s9:Int):Option (Sum (Sum ((List Int)) ((List Int) × (List V3) × (List Bool) × Bool)) Int) :=
 if decide (s9<(a0.Ops.length:Int)) then
  (idx s6.2.2.1 s9 >>= fun x12 =>
  if !x12 then
   idx a0.Ops s9 >>= fun x15 =>
   z3p s6.2.1 x15.Preds >>= fun r17 =>
   some r17
  else
   some false) >>= fun s11 =>
  if s11 then
   app 8 s6.1 [s9] >>= fun x20 =>
   idx a0.IDs s9 >>= fun x22 =>
   app 32 s6.2.1 [x22] >>= fun x24 =>
   idx s6.2.2.1 s9 >>= fun x26 =>
   some (.inl (.inr (x20,x24,s6.2.2.1.set (s9:Int).toNat true,true)))
  else
   some (.inr (w64 (s9+1)))
 else
  some (.inl (.inr (s6.1,s6.2.1,s6.2.2.1,false)))
def z89 (a0:z01) (s6:(List Int) × (List V3) × (List Bool) × Bool):Option (Sum ((List Int)) ((List Int) × (List V3) × (List Bool) × Bool)) :=
 if s6.2.2.2 then
  iter (z3w a0 s6) 0
 else
  some (.inl s6.1)
def zag (a0:z01):Option ((List Int)) :=
 mkn 1 false (a0.Ops.length:Int) >>= fun x2 =>
 (iter (z89 a0) ([],[],x2,true)) >>= fun s5 =>
 some s5
set_option maxHeartbeats 4000000 in
theorem ziv (a0:z01):z23 Tryz.prog 121 [.rd z04 a0] [] (zag a0) (fun r nv=>⟨[.val (nv 0)],[(100,some (nv 0,.list z0f 3 r))]⟩):=by
 refine z2m 51 Tryz.func121 Z Z Z fun H w=>?_;refine gSR<|Eb Z (bx 1 Z) fun v1=>Zb Z<|gSR<|Zb Z<|gSR<|Zb Z<|gSR<|Zq (faB 1 Z Z Tryz.underlying66 Z (by exact zcx))<|Zq (ld 1 Z Z (fP (z0g _)) zgb Z)<|Zq (z3e Z .rd Z tu22)<|z0q fun x2 h3=>Ef Z (mks (R:=z0h) 2 Z Z h3 tu128 ti4 Zr.bool Z) fun v4=>Zb Z<|z7x (fun (s5:(List Int)) aa ww=>∃ nv:Nat→Value,Sta (ctx 51 H [] w) [(3,.val (nv 0))] [(3,some ((nv 0),.list z0f 3 s5))] aa ww) ?_ (fun s5=>?_)
 ·refine gSR<|Zb Z<|zub z0f 3 6<|zub aZ 45 7<|z29 (fun (s6:(List Int) × (List V3) × (List Bool) × Bool) aa ww=>∃ nv:Nat→Value,Sta (ctx 51 H [] w) [(1,.val (z07 v1 0)),(3,.val (nv 0)),(4,.val (nv 1)),(5,.val v4),(6,.rd z0h s6.2.2.2)] [(1,some (v1,.box 66 [.rd z04 a0])),(4,some ((nv 0),.list z0f 3 s6.1)),(5,some ((nv 1),.list aZ 45 s6.2.1)),(2,some (v4,.list z0h 4 s6.2.2.1))] aa ww) (fun aa ww h=>⟨nvl [(.slice none 0 0),(.slice none 0 0)],Zu h [1,6,7,2]⟩) (fun s6=>?_)
  refine gEx fun n7=>z0x<|gSR<|Zm Z<|Zj Z (fun h8=>?_) (fun h8=>?_)
  ·refine gKn 6 Z h8<|Zt<|z4s<|gSR<|Zb Z<|gSR<|Zb Z<|z29 (fun (s9:Int) aa ww=>Sta (ctx 51 H [] w) [(1,.val (z07 v1 0)),(3,.val (n7 0)),(4,.val (n7 1)),(5,.val v4),(6,.rd z0h false),(7,.rd z0f s9)] [(1,some (v1,.box 66 [.rd z04 a0])),(4,some ((n7 0),.list z0f 3 s6.1)),(5,some ((n7 1),.list aZ 45 s6.2.1)),(2,some (v4,.list z0h 4 s6.2.2.1))] aa ww) (fun aa ww h=>Zu h [1,4,5,2]) (fun s9=>?_);refine z0x<|gSR<|Zm Z<|Zq (faB 1 Z Z Tryz.underlying66 Z (by exact zcx))<|Zq (ld 1 Z Z (fP (z0g _)) zgb Z)<|Zq (z3e Z .rd Z tu22)<|Zq (I.lss Z Z)<|Zj Z (fun h10=>?_) (fun h10=>?_)
   ·refine Zt<|z0x<|z4s<|z7x (fun (s11:Bool) aa ww=>Sta (ctx 51 H [] w) [(1,.val (z07 v1 0)),(3,.val (n7 0)),(4,.val (n7 1)),(5,.val v4),(6,.rd z0h false),(7,.rd z0f s9),(34,.rd z0h s11)] [(1,some (v1,.box 66 [.rd z04 a0])),(4,some ((n7 0),.list z0f 3 s6.1)),(5,some ((n7 1),.list aZ 45 s6.2.1)),(2,some (v4,.list z0h 4 s6.2.2.1))] aa ww) ?_ (fun s11=>?_)
    ·refine z28<|Zm Z<|Zm Z<|z0q fun x12 h13=>Zq (ixO 2 Z Z Z h13 tu128 ti4)<|Zq (ld 2 Z Z (Foc.el h13) ty4 Z)<|Zq (zds Z)<|Zm Z<|z1h 25 Z (fun h14=>?_) (fun h14=>?_)
     ·refine lKn 24 Z h14<|z13 Zx Z Z (mv Z)<|z13 Zx Z Z (faB 1 Z Z Tryz.underlying66 Z (by exact zcx))<|z13 Zx Z Z (ld 1 Z Z (fP (z0g _)) zgb Z)<|z13 Zx Z Z (mv Z)<|z0q fun x15 h16=>z13 Zx Z Z (ixR Z Z h16 tu22 z6h Z)<|z13 Zx Z Z (faR Z (z0z _) Tryz.underlying43 Z Z (by exact z8j))<|z13 Zx Z Z (ldR Z zbn)<|zd3 [5] [(1,5)] Zx Z Tryz.func36 Z Z (zi5 _ _ _ _) (aW Z<|aQ Z<|aN) (y1 Z) fun r17 n18=>Zq (pkT Z Z)<|z1p<|z3k (fun aa ww h=>Zu h [1,4,5,2])
     ·refine lKn 24 Z h14<|Zk Z<|Zk Z<|Zk Z<|Zk Z<|Zk Z<|Zk Z<|Zk Z<|Zk Z<|Zq (pkF Z Z)<|z1p<|z3k (fun aa ww h=>Zu h [1,4,5,2])
    ·refine gIf Z Z (fun h19=>?_) (fun h19=>?_)
     ·refine z0x<|zxx [(3,.val (n7 0)),(4,.val (n7 1)),(1,.val (z07 v1 0)),(5,.val v4),(7,.rd z0f s9)] [(1,some (v1,.box 66 [.rd z04 a0])),(4,some ((n7 0),.list z0f 3 s6.1)),(5,some ((n7 1),.list aZ 45 s6.2.1)),(2,some (v4,.list z0h 4 s6.2.2.1))] [1,4,5,2] (Zs Z Z Z Z<|sS Z<|sN) (Zi Z<|Zi Z<|Zi Z<|Zi Z<|rN)<|z83 fun x20 h21=>z83 fun x22 h23=>z83 fun x24 h25=>z83 fun x26 h27=>gOr [(3,.val (n7 0),14),(4,.val (n7 1),15)] [⟨8,none,[(4,some ([1], fun nv=>((nv 1),.list z0f 3 [s9])))]⟩,⟨4,some ([], fun nv=>((n7 0),.list z0f 3 s6.1)),[(5,some ([2], fun nv=>((nv 2),.list z0f 3 x20)))]⟩,⟨1,some ([], fun nv=>(v1,.box 66 [.rd z04 a0])),[]⟩,⟨9,none,[(12,none)]⟩,⟨5,some ([], fun nv=>((n7 1),.list aZ 45 s6.2.1)),[(13,some ([4], fun nv=>((nv 4),.list aZ 45 x24)))]⟩,⟨2,some ([], fun nv=>(v4,.list z0h 4 s6.2.2.1)),[(17,some ([], fun nv=>(v4,.list z0h 4 (s6.2.2.1.set (s9:Int).toNat true))))]⟩] [pd 35 (.val v4),pd 36 (.rd z0f s9),⟨some (37,[], fun nv=>.val (n7 0)),[],[],[0]⟩,pd 38 (.rd z0f s9),⟨some (39,[1], fun nv=>.val (nv 1)),[(0,0,true)],[1],[]⟩,⟨some (40,[2], fun nv=>.val (nv 2)),[(1,0,true),(0,1,false)],[2],[]⟩,⟨some (41,[], fun nv=>.val (n7 1)),[],[],[1]⟩,pk 42 (.val (z07 v1 (0+0))) [(2,0,false)],pk 43 (.rd (z02 aZ) a0.IDs) [(2,0,false)],pd 44 (.rd z0f s9),pd 45 (.rp aZ x22),pd 46 (.rd aZ x22),⟨some (47,[], fun nv=>.rd (z02 aZ) [x22]),[(3,0,true)],[3],[]⟩,⟨some (48,[4], fun nv=>.val (nv 4)),[(4,0,true)],[4],[]⟩,⟨some (3,[2], fun nv=>.val (nv 2)),[],[],[]⟩,⟨some (4,[4], fun nv=>.val (nv 4)),[],[],[]⟩,pk 49 (.val (z07 v4 ((s9:Int).toNat * 1))) [(5,0,false)],⟨none,[(5,0,true)],[],[]⟩,pd 6 (.rd z0h true)] mixed (oC (oRn (fun nv E=>mv Z))<|oC (oRn (fun nv E=>mv Z))<|oC (oRn (fun nv E=>mv Z))<|oC (oRn (fun nv E=>mv Z))<|oC (oEf 8 1 (fun nv E=>lit (R:=z0f) ([s9]:List Int) 8 (pP Z Z<|pN) Z tu86 ti3 Z Z))<|oC (oEf 4 2 (fun nv E=>apn 4 Z Z Z (.own 8 Z) h21 tu86 ti3 Z Z Z))<|oC (oRn (fun nv E=>mv Z))<|oC (oRn (fun nv E=>faB 1 Z Z Tryz.underlying66 Z (by exact z8j)))<|oC (oRn (fun nv E=>ld 1 Z Z (fP (z0r _)) zbn Z))<|oC (oRn (fun nv E=>mv Z))<|oC (oRn (fun nv E=>ixR Z Z h23 tu29 z31 Z))<|oC (oRn (fun nv E=>ldR Z z59))<|oC (oFz (A1:=fun nv=>[(9,some ((nv 3),.list aZ 45 [x22]))]) 9 3 (oEf 9 3 (fun nv E=>lit (R:=aZ) ([x22]:List V3) 9 (pP Z Z<|pN) Z tu29 z31 Z Z)))<|oC (oEf 5 4 (fun nv E=>apn 5 Z Z Z .rd h25 tu29 z31 Z Z Z))<|oC (oRn (fun nv E=>asg Z))<|oC (oRn (fun nv E=>asg Z))<|oC (oRn (fun nv E=>ixO 2 Z Z Z h27 tu128 ti4))<|oC (oEs 2 (fun nv E=>sto 2 Z Z (Foc.el h27) Z ti4))<|oC (oRn (fun nv E=>asg Z))<|oN) fun n28=>z0y<|z27<|z17w Z<|z19<|z1b<|z3c<|z1s (fun aa ww h=>⟨nvl [(n28 2),(n28 4)],Zu h [1,4,5,2]⟩)
     ·refine z30<|z3c<|z0y<|z28<|Zm Z<|Zq (I.add Z Z)<|Za Z<|z1p<|z1s (fun aa ww h=>Zu h [1,4,5,2])
   ·refine z27<|z19<|z1b<|z3c<|z1s (fun aa ww h=>⟨nvl [(n7 0),(n7 1)],Zu h [1,4,5,2]⟩)
  ·refine gKn 6 Z h8<|z27<|z19<|z1b<|z3k (fun aa ww h=>⟨nvl [(n7 0)],Zu h [4]⟩)
 ·refine gEx fun n29=>gSR<|Zm Z<|Zb Z<|z0n<|Ze [(n29 0)] [3] Z
def z5z (a0:z01) (s6:Int):Option (Sum (Sum Int Unit) Int) :=
 if decide (s6<(a0.Ops.length:Int)) then
  idx a0.Ops s6 >>= fun x8 =>
  z3p a0.IDs x8.Preds >>= fun r10 =>
  if !r10 then
   some (.inl (.inl 40))
  else
   some (.inr (w64 (s6+1)))
 else
  some (.inl (.inr ()))
def zak (a0:z01):Option (Int) :=
 z7t a0.IDs >>= fun r2 =>
 if !r2 then
  some 32
 else
  z4y (iter (z5z a0) 0) fun s5 =>
  zag a0 >>= fun r13 =>
  if decide ((r13.length:Int)<(a0.Ops.length:Int)) then
   some 36
  else
   some 0
theorem zj0 (a0:z01):z23 Tryz.prog 73 [.rd z04 a0] [] (zak a0) (fun r nv=>⟨[.rd z0f r],[]⟩):=by
 refine z2m 32 Tryz.func73 Z Z Z fun H w=>?_;refine gSR<|Eb Z (bx 1 Z) fun v1=>Zb Z<|z0x<|gSR<|Zq (faB 1 Z Z Tryz.underlying66 Z (by exact z8j))<|Zq (ld 1 Z Z (fP (z0r _)) zbn Z)<|Zc [] [] Tryz.func14 Z (zcy _) fun r2 n3=>Zq (zds Z)<|Zj Z (fun h4=>?_) (fun h4=>?_)
 ·refine gSR<|Zb Z<|z0n<|z0u<|Ze [] [] Z
 ·refine Zt<|z7c (fun (s5:Unit) aa ww=>Sta (ctx 32 H [] w) [(1,.val (z07 v1 0))] [(1,some (v1,.box 66 [.rd z04 a0]))] aa ww) ?_ (fun s5=>?_)
  ·refine gSR<|Zb Z<|z29 (fun (s6:Int) aa ww=>Sta (ctx 32 H [] w) [(1,.val (z07 v1 0)),(3,.rd z0f s6)] [(1,some (v1,.box 66 [.rd z04 a0]))] aa ww) (fun aa ww h=>Zu h [1]) (fun s6=>?_);refine z0x<|gSR<|Zm Z<|Zq (faB 1 Z Z Tryz.underlying66 Z (by exact zcx))<|Zq (ld 1 Z Z (fP (z0g _)) zgb Z)<|Zq (z3e Z .rd Z tu22)<|Zq (I.lss Z Z)<|Zj Z (fun h7=>?_) (fun h7=>?_)
   ·refine Zt<|z0x<|z4s<|z0x<|z9u [] mixed Z Z<|hTk 0 Z Z (faB 1 Z Z Tryz.underlying66 Z (by exact z8j))<|hTk 1 Z Z (ld 1 Z Z (fP (z0r _)) zbn Z)<|hTk 2 Z Z (faB 1 Z Z Tryz.underlying66 Z (by exact zcx))<|hTk 3 Z Z (ld 1 Z Z (fP (z0g _)) zgb Z)<|hTk 4 Z Z (mv Z)<|z5n fun x8 h9=>hTk 5 Z Z (ixR Z Z h9 tu22 z6h Z)<|hTk 6 Z Z (faR Z (z0z _) Tryz.underlying43 Z Z (by exact z8j))<|hTk 7 Z Z (ldR Z zbn)<|z5t 8 [] [] Z (by kernel_rfl) Z (gd0 Z) Z Tryz.func36 Z Z (zf3 _ _) (Y2 Z Z) rN Z (fun _ _=>zdo) fun r10 n11=>hTk 9 Z Z (zds Z)<|z6e (by kernel_rfl)<|z0y<|gIf Z Z (fun h12=>?_) (fun h12=>?_)
    ·refine gSR<|Zb Z<|z0n<|z3m<|z0u<|z6c<|z58<|Ze [] [] Z
    ·refine z30<|z3c<|z0y<|z28<|Zm Z<|Zq (I.add Z Z)<|Za Z<|z1p<|z1s (fun aa ww h=>Zu h [1])
   ·refine z27<|z19<|z1b<|z5q (fun aa ww h=>Zu h [1])
  ·refine z0x<|z0x<|z9u [38] mixed Z Z<|hTk 0 Z Z (ld 1 Z Z fH zcv Z)<|hTk 3 Z Z (faB 1 Z Z Tryz.underlying66 Z (by exact zcx))<|hTk 4 Z Z (ld 1 Z Z (fP (z0g _)) zgb Z)<|hTk 5 Z Z (z3e Z .rd Z tu22)<|z5t 1 [] [(100,38)] Z (by kernel_rfl) Z (gd0 Z) Z Tryz.func121 Z Z (ziv _) (Y1 Z) rN Z (fun _ _=>z3t) fun r13 n14=>Zf 2 Z Z z41 (z3e Z (.own 38 Z) Z tu86)<|hTk 6 Z Z (I.lss Z Z)<|z6e (by kernel_rfl)<|z0y<|gIf Z Z (fun h15=>?_) (fun h15=>?_)
   ·refine gSR<|Zb Z<|z0n<|z0u<|Ze [] [] Z
   ·refine Zt<|gSR<|Zb Z<|z0n<|Ze [] [] Z
def z67 (a0:z01) (s5:Int):Option (Sum (Sum Int Unit) Int) :=
 if decide (s5<(a0.Ops.length:Int)) then
  idx a0.Ops s5 >>= fun x7 =>
  z9y x7 >>= fun r9 =>
  if r9 != 0 then
   some (.inl (.inl 8))
  else
   idx a0.Ops s5 >>= fun x12 =>
   idx a0.IDs s5 >>= fun x14 =>
   zbj x12 >>= fun r16 =>
   if !decide (r16=x14) then
    some (.inl (.inl 8))
   else
    some (.inr (w64 (s5+1)))
 else
  some (.inl (.inr ()))
def zal (a0:z01):Option (Int) :=
 if decide (60<(a0.Ops.length:Int)) then
  some 4
 else
  if (a0.IDs.length:Int) != (a0.Ops.length:Int) then
   some 8
  else
   z4y (iter (z67 a0) 0) fun s4 =>
   zak a0 >>= fun r19 =>
   some r19
theorem zin (a0:z01):z23 Tryz.prog 35 [.rd z04 a0] [] (zal a0) (fun r nv=>⟨[.rd z0f r],[]⟩):=by
 refine z2m 45 Tryz.func35 Z Z Z fun H w=>?_;refine gSR<|Eb Z (bx 1 Z) fun v1=>Zb Z<|z0x<|gSR<|Zq (faB 1 Z Z Tryz.underlying66 Z (by exact zcx))<|Zq (ld 1 Z Z (fP (z0g _)) zgb Z)<|Zq (z3e Z .rd Z tu22)<|Zq (I.gtr Z Z)<|Zj Z (fun h2=>?_) (fun h2=>?_)
 ·refine gSR<|Zb Z<|z0n<|z0u<|Ze [] [] Z
 ·refine Zt<|z0x<|gSR<|Zq (faB 1 Z Z Tryz.underlying66 Z (by exact z8j))<|Zq (ld 1 Z Z (fP (z0r _)) zbn Z)<|Zq (z3e Z .rd Z tu29)<|Zq (faB 1 Z Z Tryz.underlying66 Z (by exact zcx))<|Zq (ld 1 Z Z (fP (z0g _)) zgb Z)<|Zq (z3e Z .rd Z tu22)<|Zq (I.neq Z Z)<|Zj Z (fun h3=>?_) (fun h3=>?_)
  ·refine gSR<|Zb Z<|z0n<|z0u<|Ze [] [] Z
  ·refine Zt<|z7c (fun (s4:Unit) aa ww=>Sta (ctx 45 H [] w) [(1,.val (z07 v1 0))] [(1,some (v1,.box 66 [.rd z04 a0]))] aa ww) ?_ (fun s4=>?_)
   ·refine gSR<|Zb Z<|z29 (fun (s5:Int) aa ww=>Sta (ctx 45 H [] w) [(1,.val (z07 v1 0)),(3,.rd z0f s5)] [(1,some (v1,.box 66 [.rd z04 a0]))] aa ww) (fun aa ww h=>Zu h [1]) (fun s5=>?_);refine z0x<|gSR<|Zm Z<|Zq (faB 1 Z Z Tryz.underlying66 Z (by exact zcx))<|Zq (ld 1 Z Z (fP (z0g _)) zgb Z)<|Zq (z3e Z .rd Z tu22)<|Zq (I.lss Z Z)<|Zj Z (fun h6=>?_) (fun h6=>?_)
    ·refine Zt<|z0x<|z4s<|z0x<|z9u [] mixed Z Z<|hTk 0 Z Z (faB 1 Z Z Tryz.underlying66 Z (by exact zcx))<|hTk 1 Z Z (ld 1 Z Z (fP (z0g _)) zgb Z)<|hTk 2 Z Z (mv Z)<|z5n fun x7 h8=>hTk 3 Z Z (ixR Z Z h8 tu22 z6h Z)<|hTk 4 Z Z (ldR Z za3)<|z5t 5 [] [] Z (by kernel_rfl) Z (gd0 Z) Z Tryz.func72 Z Z (zi2 _) (Y1 Z) rN Z (fun _ _=>z41) fun r9 n10=>hTk 6 Z Z (I.neq Z Z)<|hTk 7 Z Z (mv Z)<|hIf 29 Z Z (fun h11=>?_) (fun h11=>?_)
     ·refine hKn 28 Z Z h11<|hSk 8 Z Z<|hSk 9 Z Z<|hSk 10 Z Z<|hSk 11 Z Z<|hSk 12 Z Z<|hSk 13 Z Z<|hSk 14 Z Z<|hSk 15 Z Z<|hSk 16 Z Z<|hSk 17 Z Z<|hSk 18 Z Z<|hSk 19 Z Z<|hTk 20 Z Z (pkT Z Z)<|z6e (by kernel_rfl)<|z0y<|zes Z<|gSR<|Zb Z<|z0n<|z3m<|z0u<|z6c<|z58<|Ze [] [] Z
     ·refine hKn 28 Z Z h11<|Zg 8 Z Z (faB 1 Z Z Tryz.underlying66 Z (by exact zcx))<|Zg 9 Z Z (ld 1 Z Z (fP (z0g _)) zgb Z)<|Zg 10 Z Z (mv Z)<|z5n fun x12 h13=>Zg 11 Z Z (ixR Z Z h13 tu22 z6h Z)<|Zg 12 Z Z (ldR Z za3)<|Zg 14 Z Z (faB 1 Z Z Tryz.underlying66 Z (by exact z8j))<|Zg 15 Z Z (ld 1 Z Z (fP (z0r _)) zbn Z)<|Zg 16 Z Z (mv Z)<|z5n fun x14 h15=>Zg 17 Z Z (ixR Z Z h15 tu29 z31 Z)<|Zg 18 Z Z (ldR Z z59)<|z10b 13 [] [] Z (by kernel_rfl) Z Zx Z Tryz.func16 Z Z (zg7 _) (Y1 Z) rN Z fun r16 n17=>z12a 19 Z (by kernel_rfl) (by kernel_rfl) (by kernel_rfl) Zx Z Z zdo (neA Z Z eq45 Z Z gq45)<|hTk 20 Z Z (pkF Z Z)<|z6e (by kernel_rfl)<|z0y<|gIf Z Z (fun h18=>?_) (fun h18=>?_)
      ·refine gKn 41 Z h18<|gSR<|Zb Z<|z0n<|z3m<|z0u<|z6c<|z58<|Ze [] [] Z
      ·refine gKn 41 Z h18<|z30<|z3c<|z0y<|z28<|Zm Z<|Zq (I.add Z Z)<|Za Z<|z1p<|z1s (fun aa ww h=>Zu h [1])
    ·refine z27<|z19<|z1b<|z5q (fun aa ww h=>Zu h [1])
   ·refine gSR<|Zq (ld 1 Z Z fH zcv Z)<|Zc [] [] Tryz.func73 Z (zj0 _) fun r19 n20=>Zb Z<|z0n<|Ze [] [] Z
end
section
open Go Go.Shelf
def z11d:Go.Shelf.Ren:=⟨fun | 6=>47 | 15=>94 | 14=>93 | 28=>139 | 29=>105 | 20=>131 | 21=>132 | 22=>133 | 23=>134 | 24=>135 | 25=>136 | 26=>137 | 27=>138 | 46=>180 | 47=>181 | 48=>182 | 49=>183 | 50=>184 | 57=>213 | n=>n, fun | 22=>29 | 24=>45 | 25=>48 | 3=>3 | 39=>143 | 0=>0 | 53=>34 | 55=>35 | 4=>4 | 46=>181 | 45=>180 | 50=>106 | 5=>5 | 9=>9 | 66=>225 | 70=>229 | 76=>260 | 77=>261 | n=>n, fun | n=>n⟩
theorem z199:Go.Proofs.SlLaysF0.n6 Tryz.prog z11d:={
 mixed:=by kernel_rfl
 f6:=⟨Tryz.f47.name, by decide,Tryz.func47.trans (congrArg some (by kernel_rfl))⟩
 f14:=⟨Tryz.f93.name, by decide,Tryz.func93.trans (congrArg some (by kernel_rfl))⟩
 f15:=Tryz.func94.trans (congrArg some (by kernel_rfl))
 f20:=⟨Tryz.f131.name, by decide,Tryz.func131.trans (congrArg some (by kernel_rfl))⟩
 f21:=⟨Tryz.f132.name, by decide,Tryz.func132.trans (congrArg some (by kernel_rfl))⟩
 f22:=⟨Tryz.f133.name, by decide,Tryz.func133.trans (congrArg some (by kernel_rfl))⟩
 f23:=⟨Tryz.f134.name, by decide,Tryz.func134.trans (congrArg some (by kernel_rfl))⟩
 f24:=⟨Tryz.f135.name, by decide,Tryz.func135.trans (congrArg some (by kernel_rfl))⟩
 f25:=⟨Tryz.f136.name, by decide,Tryz.func136.trans (congrArg some (by kernel_rfl))⟩
 f26:=⟨Tryz.f137.name, by decide,Tryz.func137.trans (congrArg some (by kernel_rfl))⟩
 f27:=⟨Tryz.f138.name, by decide,Tryz.func138.trans (congrArg some (by kernel_rfl))⟩
 f28:=Tryz.func139.trans (congrArg some (by kernel_rfl))
 f29:=Tryz.func105.trans (congrArg some (by kernel_rfl))
 f46:=⟨Tryz.f180.name, by decide,Tryz.func180.trans (congrArg some (by kernel_rfl))⟩
 f47:=Tryz.func181.trans (congrArg some (by kernel_rfl))
 f48:=Tryz.func182.trans (congrArg some (by kernel_rfl))
 f49:=⟨Tryz.f183.name, by decide,Tryz.func183.trans (congrArg some (by kernel_rfl))⟩
 f50:=⟨Tryz.f184.name, by decide,Tryz.func184.trans (congrArg some (by kernel_rfl))⟩
 f57:=⟨Tryz.f213.name, by decide,Tryz.func213.trans (congrArg some (by kernel_rfl))⟩
 t0:=Tryz.underlying0
 a0:=Tryz.isAgg0
 z0:=Tryz.sizeOf0
 v0:=Tryz.zeroValue0
 t3:=Tryz.underlying3
 a3:=Tryz.isAgg3
 z3:=Tryz.sizeOf3
 v3:=Tryz.zeroValue3
 t4:=Tryz.underlying4
 a4:=Tryz.isAgg4
 z4:=Tryz.sizeOf4
 v4:=Tryz.zeroValue4
 t5:=Tryz.underlying5
 a5:=Tryz.isAgg5
 z5:=Tryz.sizeOf5
 v5:=Tryz.zeroValue5
 t9:=Tryz.underlying9
 a9:=Tryz.isAgg9
 z9:=Tryz.sizeOf9
 v9:=Tryz.zeroValue9
 t22:=Tryz.underlying29
 a22:=Tryz.isAgg29
 z22:=Tryz.sizeOf29
 v22:=Tryz.zeroValue29
 t25:=Tryz.underlying48
 a25:=Tryz.isAgg48
 z25:=Tryz.sizeOf48
 v25:=Tryz.zeroValue48
 t39:=Tryz.underlying143
 a39:=Tryz.isAgg143
 z39:=Tryz.sizeOf143
 v39:=Tryz.zeroValue143
 t45:=Tryz.underlying180
 a45:=Tryz.isAgg180
 z45:=Tryz.sizeOf180
 v45:=Tryz.zeroValue180
 t46:=Tryz.underlying181
 a46:=Tryz.isAgg181
 z46:=Tryz.sizeOf181
 v46:=Tryz.zeroValue181
 t50:=Tryz.underlying106
 a50:=Tryz.isAgg106
 z50:=Tryz.sizeOf106
 v50:=Tryz.zeroValue106
 t53:=Tryz.underlying34
 a53:=Tryz.isAgg34
 z53:=Tryz.sizeOf34
 v53:=Tryz.zeroValue34
 t55:=Tryz.underlying35
 a55:=Tryz.isAgg35
 z55:=Tryz.sizeOf35
 v55:=Tryz.zeroValue35
 t66:=Tryz.underlying225
 a66:=Tryz.isAgg225
 z66:=Tryz.sizeOf225
 v66:=Tryz.zeroValue225
 t70:=Tryz.underlying229
 a70:=Tryz.isAgg229
 z70:=Tryz.sizeOf229
 v70:=Tryz.zeroValue229
 t76:=Tryz.underlying260
 a76:=Tryz.isAgg260
 z76:=Tryz.sizeOf260
 v76:=Tryz.zeroValue260
 t77:=Tryz.underlying261
 a77:=Tryz.isAgg261
 z77:=Tryz.sizeOf261
 v77:=Tryz.zeroValue261 }
end
section
open Go Go.Shelf Go.RowKit Go.Lib Go.Sort
def z6d (x:V3):List Value:=x.toList.map fun c=>Value.int .u8 (c.toNat:Int)
theorem zf1 (x:V3):(z6d x).length=32:=by simp [z6d]
theorem z15a (x y:V3) (b c:Nat) (W:World) (hx:∀ j u,(z6d x)[j]? = some u→W.cell? ⟨b,0+j,none⟩=some u) (hy:∀ j u,(z6d y)[j]? = some u→W.cell? ⟨c,0+j,none⟩=some u) :
  (callFunc 140 #[.slice (some ⟨b,0,none⟩) 32 32,.slice (some ⟨c,0,none⟩) 32 32]).run Tryz.prog W=.ok (.value (.int .i64 (Lib.compareBytes x.toList y.toList))) W:=by
 have lx:x.toList.length=32:=by simp
 have ly:y.toList.length=32:=by simp
 have e:=zmc (P:=Tryz.prog) (w:=W) (p:=some ⟨b,0,none⟩) (q:=some ⟨c,0,none⟩) (c:=32) (d:=32) (x:=x.toList) (y:=y.toList) (xs:=z6d x) (ys:=z6d y)
  ⟨by rw [zf1,lx],.inr ⟨b,0,none,32, by rfl, by omega, by decide,.inr rfl,hx⟩⟩ rfl ⟨by rw [zf1,ly],.inr ⟨c,0,none,32, by rfl, by omega, by decide,.inr rfl,hy⟩⟩ rfl
 rw [lx,ly] at e;rw [run_callFunc_extern Tryz.func140 rfl rfl (by kernel_rfl) (by kernel_rfl),e];rfl
set_option maxHeartbeats 1000000 in
set_option maxRecDepth 100000 in
theorem zra (x y:V3) (b c:Nat) (W:World) (hx:∀ j u,(z6d x)[j]? = some u→W.cell? ⟨b,0+j,none⟩=some u) (hy:∀ j u,(z6d y)[j]? = some u→W.cell? ⟨c,0+j,none⟩=some u) :
  Calls Tryz.prog 95 #[.slice (some ⟨b,0,none⟩) 32 32,.slice (some ⟨c,0,none⟩) 32 32] W fun e w'=>e=.returned (.int .i64 (Lib.compareBytes x.toList y.toList))∧w'=W:=by
 have e:=z15a x y b c W hx hy
 go_enter Tryz.func95,Tryz.ntmps95
 go_wp2
 go_ret
 exact ⟨rfl,rfl⟩
theorem zuh {w:World} {b j:Nat} {c:Array Value} {T:TypeId} {fr:Nat × Nat} {u:Value} (h:w.heap[b]? = some (.cells c T fr)) (hj:c[j]? = some u):w.cell? ⟨b,0+j,none⟩=some u:=by
 unfold World.cell?;rw [h]
 simpa using hj
theorem z16t (W:World) (xs ys:List Value) (n j:Nat) (u:Value) (h:xs[j]? = some u):(((W.alloc (.cells xs.toArray 45)).alloc (.cells ys.toArray 45)).drewN n).cell? ⟨W.heap.size,0+j,none⟩=some u :=
 zuh (c:=xs.toArray) (T:=45) (fr:=(0,0)) (by
  show ((W.heap.push _).push _)[W.heap.size]? = _
  rw [Array.getElem?_push_lt (by simp)]; simp) (by simpa using h)
theorem z188 (W:World) (xs ys:List Value) (n j:Nat) (u:Value) (h:ys[j]? = some u):(((W.alloc (.cells xs.toArray 45)).alloc (.cells ys.toArray 45)).drewN n).cell? ⟨W.heap.size+1,0+j,none⟩=some u :=
 zuh (c:=ys.toArray) (T:=45) (fr:=(0,0)) (by
  show ((W.heap.push _).push _)[W.heap.size+1]? = _
  have:W.heap.size+1=(W.heap.push (Obj.cells xs.toArray 45)).size:=by simp
  rw [this,Array.getElem?_push_size]) (by simpa using h)
set_option maxHeartbeats 1000000 in
set_option maxRecDepth 100000 in
theorem zpu (x y:V3) (W:World):Calls Tryz.prog 48 #[.agg (z6d x).toArray,.agg (z6d y).toArray] W fun e w'=>e=.returned (.int .i64 (Lib.compareBytes x.toList y.toList))∧∃ q os',w'=grow (W.drewN q) os':=by
 have c0:=z16t W (z6d x) (z6d y);have c1:=z188 W (z6d x) (z6d y)
 go_enter Tryz.func48,Tryz.ntmps48
 go_wp2
 go_quiet (first | (go_at_call 95; refine Calls.quiet_of_same (zra x y _ _ _ (c0 _) (c1 _))))
 go_wp2
 go_ret
 exact ⟨rfl,nq,#[.cells (z6d x).toArray 45,.cells (z6d y).toArray 45],rfl⟩
end
section
open Go Go.RowKit Go.Sort
theorem z15m {α:Type} [Inhabited α] (enc:α→List Value) (k:Nat) (hk:∀ x,(enc x).length=k):∀ (l:List α) (t:Nat),t<l.length * k→(l.flatMap enc)[t]! = (enc l[t / k]!)[t % k]!
 | [],t,h=>by simp at h
 | x::l,t,h=>by
  have hx:=hk x;have k0:0<k:=by
   rcases Nat.eq_zero_or_pos k with e | e
   ·subst e; simp at h
   ·exact e
  rw [List.flatMap_cons];by_cases ht:t<k
  ·rw [List.getElem!_eq_getElem?_getD,List.getElem?_append_left (by omega),Nat.div_eq_of_lt ht,Nat.mod_eq_of_lt ht]
   simp
  ·have hl:t - k<l.length * k:=by
    simp only [List.length_cons,Nat.add_mul,Nat.one_mul] at h; omega
   have ih:=z15m enc k hk l (t - k) hl;have e1:t / k=(t - k) / k+1:=by
    have h2:=Nat.add_div_right (t - k) k0;rw [Nat.sub_add_cancel (by omega)] at h2; exact h2
   have e2:t % k=(t - k) % k:=by rw [Nat.mod_eq_sub_mod (by omega)]
   rw [List.getElem!_eq_getElem?_getD,List.getElem?_append_right (by omega),hx,e1,e2,← List.getElem!_eq_getElem?_getD,ih]
   simp
theorem zsk {α:Type} (enc:α→List Value) (k:Nat) (hk:∀ x,(enc x).length=k):∀ l:List α,(l.flatMap enc).length=l.length * k
 | []=>by simp
 | x::l=>by rw [List.flatMap_cons,List.length_append,hk,zsk enc k hk l,List.length_cons,Nat.add_mul,Nat.one_mul,Nat.add_comm]
theorem z130 {α:Type} [Inhabited α] (enc:α→List Value) (k:Nat) (hk:∀ x,(enc x).length=k) (l:List α):flatK enc k l.toArray=(l.flatMap enc).toArray:=by
 refine ext_get! (by rw [size_flatK]; simp only [List.size_toArray,zsk enc k hk]) fun t ht=>?_;rw [size_flatK,List.size_toArray] at ht;rw [get_flatK _ _ _ _ (by simpa using ht)]
 have:=z15m enc k hk l t ht
 simp at this ⊢;rw [this]
theorem zmb {α:Type} [Inhabited α] (enc:α→List Value) (k:Nat) (hk:∀ x,(enc x).length=k) {w:World} {b:Nat} {C:Array Value} {T:TypeId} (l:List α) (hb:w.heap[b]? = some (.cells C T (0,0))) (hc:C.toList.take (l.length * k)=l.flatMap enc):HoldsK enc k w b 0 l.toArray:=by
 intro j hj;rw [z130 enc k hk] at hj ⊢;have hj':j<(l.flatMap enc).length:=by simpa using hj
 constructor
 ·refine zuh hb ?_;have e:(C.toList.take (l.length * k))[j]? = (l.flatMap enc)[j]? := by rw [hc]
  rw [List.getElem?_take_of_lt (by rw [zsk enc k hk] at hj'; exact hj'),List.getElem?_eq_getElem hj'] at e;rw [← Array.getElem?_toList,e]
  have:((l.flatMap enc).toArray)[j]! = (l.flatMap enc)[j]:=by rw [getElem!_pos _ j (by simpa using hj')]; simp
  rw [this]; rfl
 ·simp [World.frozen?,hb]
theorem zld {α:Type} [Inhabited α] (enc:α→List Value) (k:Nat) (w:World) (b n:Nat) (d:Array α) (os:Array Obj) {i:Nat} (hi:i<w.heap.size) (hne:i≠b):(sortWorldK enc k w b 0 n d os).heap[i]? = w.heap[i]? := by
 show (w.heap.modify b _++os)[i]? = _;rw [Array.getElem?_append_left (by simpa using hi),Array.getElem?_modify,if_neg (fun e=>hne e.symm)]
theorem z12x {α:Type} [Inhabited α] (enc:α→List Value) (k:Nat) (w:World) {b:Nat} (n:Nat) (d:Array α) (os:Array Obj) {C:Array Value} {T:TypeId} {fr:Nat × Nat} (hb:w.heap[b]? = some (.cells C T fr)):(sortWorldK enc k w b 0 n d os).heap[b]? = some (.cells (putCells id 0 (flatK enc k d) C) T fr):=by
 have hlt:b<w.heap.size:=(Array.getElem?_eq_some_iff.1 hb).1;show (w.heap.modify b _++os)[b]? = _;rw [Array.getElem?_append_left (by simpa using hlt),Array.getElem?_modify,if_pos rfl,hb];rfl
theorem zx8 {α:Type} [Inhabited α] (enc:α→List Value) (k:Nat) (hk:∀ x,(enc x).length=k) (l:List α) (C:Array Value) (hC:l.length * k≤C.size):(putCells id 0 (flatK enc k l.toArray) C).toList.take (l.length * k)=l.flatMap enc:=by
 rw [z130 enc k hk]
 apply List.ext_getElem?
 intro t;by_cases ht:t<l.length * k
 ·rw [List.getElem?_take_of_lt ht,Array.getElem?_toList];have hl:t<(l.flatMap enc).length:=by rw [zsk enc k hk]; exact ht
  simp only [putCells,Array.getElem?_mapIdx,Nat.sub_zero,Nat.zero_add,List.size_toArray,Nat.zero_le,true_and];rw [Array.getElem?_eq_getElem (by omega),Option.map_some,if_pos hl,List.getElem?_eq_getElem hl]
  have:((l.flatMap enc).toArray)[t]! = (l.flatMap enc)[t]:=by rw [getElem!_pos _ t (by simpa using hl)]; simp
  rw [this]; rfl
 ·rw [List.getElem?_eq_none (by simp; omega),List.getElem?_eq_none (by rw [zsk enc k hk]; omega)]
theorem zt2 {S:Blk} {w:World}:∀ {l:List V3} {cs:List Value},z65 (z3i 32 u8R) S w cs l→cs=l.flatMap z6d
 | [],cs,h=>h
 | x::l,cs,h=>by
  obtain ⟨c,d,rfl,h1,h2⟩:=h;rw [List.flatMap_cons,zt2 h2,zje h1]; rfl
theorem zti {S:Blk} {w:World}:∀ (l:List V3),z65 (z3i 32 u8R) S w (l.flatMap z6d) l
 | []=>rfl
 | x::l=>⟨z6d x,l.flatMap z6d,List.flatMap_cons,zoc x.toList,zti l⟩
theorem z14h {P:Program} {f g T:Nat} (srt:List V3→List V3) (hlen:∀ l,(srt l).length=l.length)
  (hnone:∀ (cap:Nat) (w:World),Calls P f #[.slice none 0 cap,.func (.func g) #[] #[]] w fun e w'=>e=.returned (.tuple #[])∧w'=w)
  (hsome:∀ (blk cap:Nat) (d:Array V3) (w:World),HoldsK z6d 32 w blk 0 d→blk<w.heap.size→d.size<4611686018427387904 →
   Calls P f #[.slice (some ⟨blk,0,none⟩) d.size cap,.func (.func g) #[] #[]] w fun e w'=>e=.returned (.tuple #[])∧∃ n os,w'=sortWorldK z6d 32 w blk 0 n (srt d.toList).toArray os)
  (p0:Value) (c0:List V3):z23 P f [.val p0,.val (.func (.func g) #[] #[])] [(1,some (p0,.list (z3i 32 u8R) T c0))] (chk (c0.length≤1000000) >>= fun _=>some (srt c0))
   (fun r nv=>⟨[],[(1,some (p0,.list (z3i 32 u8R) T r))]⟩):=by
 intro r hr H vs w hvs hres;have hb:c0.length≤1000000∧r=srt c0:=by
  unfold chk at hr
  split at hr
  ·rename_i h; simp at hr; exact ⟨h,hr.symm⟩
  ·simp at hr
 obtain ⟨hlen0,rfl⟩:=hb
 match vs,hvs with
 | [v0,v1],hvs =>
 obtain ⟨h0,h1,_⟩:=hvs;have e0:v0=p0:=h0.1;have e1:v1=.func (.func g) #[] #[]:=h1.1;subst e0; subst e1;have hc:=hres.conts 1 v0 _ rfl;have only:∀ r v c (q:z42),lr [(1,some (v0,q))] r=some (v,c)→r=1∧v=v0∧c=q:=fun r v c q h=>by
  rw [z1q] at h
  split at h
  ·rename_i e; cases h; exact ⟨e.symm,rfl,rfl⟩
  ·simp [lr,lk] at h
 rcases hc with ⟨rfl,rfl⟩ | ⟨b,o,k1,k2,b',cap,C,k3,rfl,k4,k5,k6,k7⟩
 ·refine (hnone 0 w).mono fun e w' ⟨he,hw⟩=>?_;subst hw;refine ⟨fun _=>undef,[],he,trivial, fun r v c h=>?_, fun r v c r' v' c' h h' hne=>?_, fun r v c h b hb=>?_,zm4.rfl'⟩
  ·obtain ⟨rfl,rfl,rfl⟩:=only _ _ _ _ h
   have:srt []=[]:=List.eq_nil_of_length_eq_zero (by rw [hlen]; rfl);exact .inl ⟨rfl,this⟩
  ·exact absurd ((only _ _ _ _ h).1.trans (only _ _ _ _ h').1.symm) hne
  ·obtain ⟨rfl,rfl,rfl⟩:=only _ _ _ _ h; cases hb
 ·subst k3;simp only [z4k,Option.some.injEq] at k1;subst k1;have hlt:b'<w.heap.size:=(Array.getElem?_eq_some_iff.1 k2).1;have hrow:=zt2 k7;have hsz:(z3i 32 u8R).sz=32:=rfl;rw [hsz] at k6 hrow;have hC:c0.length * 32≤C.size:=by rw [k6]; exact Nat.mul_le_mul_right _ k4
  refine (hsome b' cap c0.toArray w (zmb z6d 32 zf1 c0 k2 hrow) hlt (by simp; omega)).mono fun e w' ⟨he,n,os,hw⟩=>?_;subst hw;refine ⟨fun _=>undef,[],he,trivial, fun r v c h=>?_, fun r v c r' v' c' h h' hne=>?_, fun r v c h b hb=>?_,rfl,rfl,rfl,?_, fun i hi=>?_⟩
  ·obtain ⟨rfl,rfl,rfl⟩:=only _ _ _ _ h;refine .inr ⟨b',_,rfl,z12x z6d 32 w n _ os k2,b',cap,_, by rw [hlen],rfl, by rw [hlen]; exact k4,k5,?_,?_⟩
   ·rw [hsz,← k6]; simp [putCells]
   ·rw [hsz,zx8 z6d 32 zf1 (srt c0) C (by rw [hlen]; exact hC)];exact zti _
  ·exact absurd ((only _ _ _ _ h).1.trans (only _ _ _ _ h').1.symm) hne
  ·obtain ⟨rfl,rfl,rfl⟩:=only _ _ _ _ h;exact .inr ⟨1,_,_,rfl,hb⟩
  ·show w.heap.size≤(w.heap.modify b' _++os).size
   simp
  ·exact zld z6d 32 w b' n _ os hi.1 fun e=>hi.2 ⟨1,_,_,rfl, by rw [e]; rfl⟩
end
section
open Go
section
variable {σ β α ρ τ:Type}
theorem bs (x:α) (f:α→Option β):(some x >>= f)=f x:=rfl
theorem bS (x:α) (f:α→Option β):(some x >>= f)=f x:=Eq.trans (rfl:(some x >>= f)=f x) rfl
theorem zz3 (r:ρ) (k:τ→Option ρ):z4y (some (.inl r)) k=some r:=rfl
theorem zq5 (t:τ) (k:τ→Option ρ):z4y (some (.inr t)) k=k t:=rfl
theorem z1r {F:σ→Option (Sum β σ)} {s:σ} {b:β} (h:F s=some (.inl b)):iter F s=some b:=by rw [iter,h]; rfl
theorem z2c {F:σ→Option (Sum β σ)} {s s':σ} (h:F s=some (.inr s')):iter F s=iter F s':=by rw [iter,h]; rfl
theorem zfi {F:σ→Option (Sum β σ)} (I:σ→Prop) (μ:σ→Nat) (Q:β→Prop) (h:∀ s,I s→(∃ b,F s=some (.inl b)∧Q b)∨∃ s',F s=some (.inr s')∧I s'∧μ s'<μ s) (s:σ) (hs:I s):∃ b,iter F s=some b∧Q b:=by
 have key:∀ n s,μ s=n→I s→∃ b,iter F s=some b∧Q b:=by
  intro n
  induction n using Nat.strongRecOn with
  | _ n ih =>
   intro s hn hs;rcases h s hs with ⟨b,h1,h2⟩ | ⟨s',h1,h2,h3⟩
   ·exact ⟨b,z1r h1,h2⟩
   ·rw [z2c h1]; exact ih (μ s') (hn ▸ h3) s' rfl h2
 exact key _ s rfl hs
theorem z7b {F:σ→Option (Sum β σ)} (n:Nat) (I:Nat→σ→Prop) (Q:β→Prop) (h1:∀ i s,i<n→I i s→∃ s',F s=some (.inr s')∧I (i+1) s') (h2:∀ s,I n s→∃ b,F s=some (.inl b)∧Q b) (s:σ) (i:Nat) (hi:i≤n) (hs:I i s):∃ b,iter F s=some b∧Q b:=by
 have key:∀ k i s,n - i=k→i≤n→I i s→∃ b,iter F s=some b∧Q b:=by
  intro k
  induction k with
  | zero =>
   intro i s hk hi hs
   have:i=n:=by omega
   subst this;obtain ⟨b,h3,h4⟩:=h2 s hs;exact ⟨b,z1r h3,h4⟩
  | succ k ih =>
   intro i s hk hi hs;obtain ⟨s',h3,h4⟩:=h1 i s (by omega) hs;rw [z2c h3]; exact ih (i+1) s' (by omega) (by omega) h4
 exact key _ i s rfl hi hs
theorem z3d {F:σ→Option (Sum β σ)} (n:Nat) (g:Nat→σ) {b:β} (h1:∀ i,i<n→F (g i)=some (.inr (g (i+1)))) (h2:F (g n)=some (.inl b)):iter F (g 0)=some b:=by
 obtain ⟨b',h3,rfl⟩:=z7b n (fun i s=>s=g i) (fun x=>x=b) (fun i s hi hs=>⟨_, by rw [hs]; exact h1 i hi,rfl⟩) (fun s hs=>⟨_, by rw [hs]; exact h2,rfl⟩) (g 0) 0 (Nat.zero_le _) rfl;exact h3
theorem z0k {l:List α} {i:Nat} (h:i<l.length):idx l (i:Int)=some l[i]:=by simp [idx,h]
theorem z18p {l:List α} {i:Int} (h0:0≤i) (h:i.toNat<l.length):idx l i=some l[i.toNat]:=by simp [idx,h0,h]
theorem z8y {n:Nat} {v:Vector α n} {i:Nat} (h:i<n):z84 v (i:Int)=some v[i]:=by unfold z84; rw [z0k (by simpa using h)]; simp
theorem zhl {n:Nat} {v:Vector α n} {i:Int} {x:α} {j:Nat} (hj:j<n):(zjl v i x)[j]=if i.toNat=j then x else v[j]:=by
 unfold zjl; rw [Vector.getElem_setIfInBounds hj]
theorem z2z {p:Prop} [Decidable p] (h:p):chk p=some ():=by simp [chk,h]
theorem z1l {by_:Nat} {b c:List α} (h:(b.length+c.length) * by_≤140737488355328):app by_ b c=some (b++c):=by simp [app,h]
theorem zks {by_:Nat} {x:α} {n:Nat} (h:by_ * n≤281474976710656) (h2:n≤9223372036854775807):mkn by_ x (n:Int)=some (List.replicate n x):=by
 unfold mkn; rw [if_pos ⟨by omega, by simpa using h, by omega⟩]; simp
theorem zav {b:List α} {i j:Nat} (h:i≤j) (hj:j≤b.length):cut b (i:Int) (j:Int)=some ((b.drop i).take (j - i)):=by
 unfold cut; rw [if_pos ⟨by omega, by omega, by omega⟩]; simp
end
theorem z17 {x:Int} (h1:-9223372036854775808≤x) (h2:x≤9223372036854775807):w64 x=x:=zgk h1 h2
theorem z0l {n:Nat} (h:n<9223372036854775807):w64 ((n:Int)+1)=((n+1:Nat):Int):=by rw [z17 (by omega) (by omega)]; omega
theorem zat (a:UInt64) (n:Nat):(z6l a n).toNat=a.toNat / 2 ^ (min n 64):=by
 unfold z6l;have h1:=UInt64.toNat_lt a;have h2:a.toNat / 2 ^ (min n 64)≤a.toNat:=Nat.div_le_self _ _
 simp; omega
theorem zja (a:UInt64) (n:Nat):(zkj a n).toNat=a.toNat * 2 ^ (min n 64) % 18446744073709551616:=by
 unfold zkj; simp
theorem z1bv (a:UInt64) (k:Nat) (hk:k<64):((z6l a k &&& 1)==1)=a.toNat.testBit k:=by
 rw [Bool.eq_iff_iff,beq_iff_eq,← UInt64.toNat_inj,UInt64.toNat_and,zat,Nat.min_eq_left (by omega)]
 have:(1:UInt64).toNat=1:=rfl
 rw [this,Nat.and_one_is_mod,Nat.testBit_eq_decide_div_mod_eq]
 simp
end
section
open Go
def bitLen (n:Nat):Nat:=if n=0 then 0 else n.log2+1
theorem ze8 (n k:Nat) (h:2 ^ k≤n):bitLen n=k+bitLen (n / 2 ^ k):=by
 have hp:0<2 ^ k:=Nat.pow_pos (by decide);have h1:n / 2 ^ k≠0:=by
  have:1≤n / 2 ^ k:=(Nat.le_div_iff_mul_le hp).2 (by rw [Nat.one_mul]; exact h);omega
 have h2:n≠0:=by omega
 unfold bitLen;rw [if_neg h1,if_neg h2];have h3:n.log2=k+(n / 2 ^ k).log2:=by
  rw [Nat.log2_eq_iff h2];have h4:=(Nat.log2_eq_iff h1).1 rfl;refine ⟨?_,?_⟩
  ·rw [Nat.pow_add,Nat.mul_comm]; exact (Nat.le_div_iff_mul_le hp).1 h4.1
  ·rw [Nat.add_assoc,Nat.pow_add,Nat.mul_comm]; exact (Nat.div_lt_iff_lt_mul hp).1 h4.2
 omega
theorem zh8 (n k:Nat) (h:n<2 ^ k):bitLen n≤k:=by
 unfold bitLen; split
 ·omega
 ·rename_i h0; have:=(Nat.log2_lt h0).2 h; omega
def z11p:ByteArray:=⟨#[0,1,2,2,3,3,3,3,4,4,4,4,4,4,4,4,5,5,5,5,5,5,5,5,5,5,5,5,5,5,5,5,6,6,6,6,6,6,6,6,6,6,6,6,6,6,6,6,6,6,6,6,6,6,6,6,6,6,6,6,6,6,6,6,7,7,7,7,7,7,7,7,7,7,7,7,7,7,7,7,7,7,7,7,7,7,7,7,7,7,7,7,7,7,7,7,7,7,7,7,7,7,7,7,7,7,7,7,7,7,7,7,7,7,7,7,7,7,7,7,7,7,7,7,7,7,7,7,8,8,8,8,8,8,8,8,8,8,8,8,8,8,8,8,8,8,8,8,8,8,8,8,8,8,8,8,8,8,8,8,8,8,8,8,8,8,8,8,8,8,8,8,8,8,8,8,8,8,8,8,8,8,8,8,8,8,8,8,8,8,8,8,8,8,8,8,8,8,8,8,8,8,8,8,8,8,8,8,8,8,8,8,8,8,8,8,8,8,8,8,8,8,8,8,8,8,8,8,8,8,8,8,8,8,8,8,8,8,8,8,8,8,8,8,8,8,8,8,8,8,8,8,8,8,8,8]⟩
set_option maxRecDepth 100000 in
theorem z13m:∀ x:Fin 256,z11p.data[x.val]? = some (UInt8.ofNat (bitLen x.val)):=by decide +kernel
def z2b (n:Nat):List UInt8:=if h:n=0 then [] else UInt8.ofNat n::z2b (n / 256)
termination_by n
theorem z9i:z2b 0=[]:=by rw [z2b]; simp
theorem z6t (n:Nat) (h:n≠0):z2b n=UInt8.ofNat n::z2b (n / 256):=by rw [z2b]; simp [h]
def z0i (n:Nat):List UInt8:=if n≤247 then [UInt8.ofNat n] else UInt8.ofNat (247+(z2b n).length)::(z2b n).reverse
theorem zls (n:Nat):(z2b n).length=(bitLen n+7) / 8:=by
 induction n using Nat.strongRecOn with
 | _ n ih =>
  by_cases h:n=0
  ·subst h; rw [z9i]; simp [bitLen]
  ·rw [z6t n h,List.length_cons,ih (n / 256) (by omega)];by_cases h2:n<256
   ·have:n / 256=0:=by omega
    rw [this];have h3:bitLen n≤8:=zh8 n 8 h2;have h4:1≤bitLen n:=by unfold bitLen; rw [if_neg h]; omega
    simp [bitLen] at h3 h4 ⊢;rw [if_neg h] at h3 h4 ⊢; omega
   ·have:=ze8 n 8 (by omega)
    rw [show (2:Nat) ^ 8=256 from rfl] at this;omega
theorem zy1 (n:Nat):∀ (i:Nat),i<(z2b n).length→(z2b n)[i]? = some (UInt8.ofNat (n / 256 ^ i)):=by
 induction n using Nat.strongRecOn with
 | _ n ih =>
  intro i hi;by_cases h:n=0
  ·subst h; rw [z9i] at hi; simp at hi
  ·rw [z6t n h] at hi ⊢
   cases i with
   | zero=>simp
   | succ i =>
    simp only [List.length_cons] at hi;rw [List.getElem?_cons_succ,ih (n / 256) (by omega) i (by omega),Nat.div_div_eq_div_mul]
    congr 3
    rw [Nat.pow_succ,Nat.mul_comm]
theorem zkt (n:Nat) (h:n<18446744073709551616):(z2b n).length≤8:=by
 rw [zls]; have:=zh8 n 64 (by simpa using h); omega
theorem z0o (n:Nat) (h:n<18446744073709551616):1≤(z0i n).length∧(z0i n).length≤9:=by
 unfold z0i; have:=zkt n h; split <;> simp <;> omega
def zct (n i:Nat):List UInt8:=UInt8.ofNat (247+(z2b n).length)::(List.replicate ((z2b n).length - i) 0++((z2b n).take i).reverse)
theorem zuy (n i:Nat) (h:i≤(z2b n).length):(zct n i).length=(z2b n).length+1:=by simp [zct]; omega
theorem ztc (n:Nat):(List.replicate ((z2b n).length+1) (0:UInt8)).set 0 (UInt8.ofNat (247+(z2b n).length))=zct n 0:=by
 simp [zct,List.replicate_succ]
theorem zsw (n i:Nat) (h:i<(z2b n).length):(zct n i).set ((z2b n).length - i) (UInt8.ofNat (n / 2 ^ (8 * i)))=zct n (i+1):=by
 have hg:=zy1 n i h;have he:n / 2 ^ (8 * i)=n / 256 ^ i:=by rw [Nat.pow_mul]
 rw [he];unfold zct;obtain ⟨m,hm⟩:∃ m,(z2b n).length - i=m+1:=⟨(z2b n).length - i - 1, by omega⟩
 have hm2:(z2b n).length - (i+1)=m:=by omega
 rw [hm,hm2,List.set_cons_succ,List.take_succ_eq_append_getElem h,List.reverse_append,List.reverse_singleton,List.replicate_succ'];rw [List.getElem?_eq_getElem h,Option.some.injEq] at hg;rw [hg,List.append_assoc,List.set_append_right _ _ (by simp)]
 simp
theorem zsi (n:Nat) (h:247<n):zct n (z2b n).length=z0i n:=by
 unfold zct z0i; rw [if_neg (by omega)]; simp
theorem zsv (n m:Nat) (ds:List UInt8) (hm:m≠0) (h:z2b n=ds++z2b m):z2b n=(ds++[UInt8.ofNat (m % 256)])++z2b (m / 256):=by
 rw [h,z6t m hm,List.append_assoc]
 have:UInt8.ofNat (m % 256)=UInt8.ofNat m:=by
  apply UInt8.toNat_inj.1; simp
 rw [this]; rfl
theorem zoz {α} {l a b:List α} (h:l=a++b):a.length≤l.length:=by rw [h]; simp
def z8f (l:List UInt8):Nat:=l.foldl (fun n x=>256 * n+x.toNat) 0
theorem zhr (l:List UInt8) (x:UInt8):z8f (l++[x])=256 * z8f l+x.toNat:=by simp [z8f]
theorem zx2 (l:List UInt8):z8f l<256 ^ l.length:=by
 have:∀ (m:List UInt8),z8f m.reverse<256 ^ m.length:=by
  intro m
  induction m with
  | nil=>simp [z8f]
  | cons x m ih =>
   rw [List.reverse_cons,zhr,List.length_cons,Nat.pow_succ]
   have:=x.toNat_lt
   omega
 have h:=this l.reverse
 simpa using h
theorem zlx:∀ (l:List UInt8),(∀ x,l.getLast? = some x→x≠0)→z2b (z8f l.reverse)=l
 | [],_=>by simp [z8f,z9i]
 | x::l,h=>by
  rw [List.reverse_cons,zhr];have hx:=x.toNat_lt;have h1:(256 * z8f l.reverse+x.toNat) / 256=z8f l.reverse:=by omega
  have h2:UInt8.ofNat (256 * z8f l.reverse+x.toNat)=x:=by
   apply UInt8.toNat_inj.1; simp <;> omega
  have hl:z2b (z8f l.reverse)=l:=by
   apply zlx
   intro y hy
   cases l with
   | nil=>simp at hy
   | cons z l=>exact h y (by rw [List.getLast?_cons_cons]; exact hy)
  by_cases h0:256 * z8f l.reverse+x.toNat=0
  ·exfalso
   cases l with
   | nil =>
    have:=h x (by simp)
    apply this
    apply UInt8.toNat_inj.1
    simp <;> omega
   | cons z l =>
    have:z8f (z::l).reverse=0:=by omega
    rw [this,z9i] at hl
    cases hl
  ·rw [z6t _ h0,h1,h2,hl]
theorem zsh (n:Nat):z8f (z2b n).reverse=n:=by
 induction n using Nat.strongRecOn with
 | _ n ih =>
  by_cases h:n=0
  ·subst h; rw [z9i]; rfl
  ·rw [z6t n h,List.reverse_cons,zhr,ih (n / 256) (by omega)]
   simp; omega
theorem zvj (n:Nat):∀ x,(z2b n).getLast? = some x→x≠0:=by
 induction n using Nat.strongRecOn with
 | _ n ih =>
  intro x hx;by_cases h:n=0
  ·subst h; rw [z9i] at hx; simp at hx
  ·rw [z6t n h] at hx;by_cases h2:n / 256=0
   ·rw [h2,z9i] at hx;simp at hx;subst hx;intro e
    have:=congrArg UInt8.toNat e
    simp at this; omega
   ·rw [z6t _ h2,List.getLast?_cons_cons,← z6t _ h2] at hx;exact ih _ (by omega) x hx
def z8w (b:List UInt8):Option (Nat × Nat) :=
 if b.length=0 then none
 else if (b.getD 0 0).toNat≤247 then some ((b.getD 0 0).toNat,1)
 else if b.length≤(b.getD 0 0).toNat - 247∨(b.getD 1 0).toNat=0∨((b.getD 0 0).toNat - 247=1∧(b.getD 1 0).toNat≤247) then none
 else some (z8f ((b.drop 1).take ((b.getD 0 0).toNat - 247)),(b.getD 0 0).toNat - 247+1)
def z11 (b:List UInt8):Nat × Nat × Nat :=
 match z8w b with
 | some (n,u)=>(n,u,0)
 | none=>(0,0,12)
theorem zwo {b:List UInt8} (h:b.length≠0):b.take 1=[b.getD 0 0]:=by cases b <;> simp_all
theorem zii {b:List UInt8} (k:Nat) (h:b.length≠0):b.take (k+1)=b.getD 0 0::(b.drop 1).take k:=by cases b <;> simp_all
theorem zi9 {b:List UInt8} {k:Nat} (h1:1≤k) (h:2≤b.length):(b.drop 1).take k=b.getD 1 0::((b.drop 1).take k).tail:=by
 obtain ⟨m,rfl⟩:∃ m,k=m+1:=⟨k - 1, by omega⟩
 match b,h with
 | x::y::t,_=>simp
theorem ofNat_toNat (x:UInt8):UInt8.ofNat x.toNat=x:=by simp
theorem zsp {k:Nat} (h:k≤8):256 ^ k≤18446744073709551616:=by
 have:256 ^ k≤256 ^ 8:=Nat.pow_le_pow_right (by decide) h
 simpa using this
theorem z3r (b:List UInt8) (n u:Nat):z8w b=some (n,u)↔n<18446744073709551616∧u=(z0i n).length∧b.take u=z0i n:=by
 constructor
 ·intro h;unfold z8w at h;by_cases h0:b.length=0
  ·rw [if_pos h0] at h; cases h
  ·rw [if_neg h0] at h;have hx:=(b.getD 0 0).toNat_lt;by_cases h1:(b.getD 0 0).toNat≤247
   ·rw [if_pos h1] at h;simp only [Option.some.injEq,Prod.mk.injEq] at h;obtain ⟨rfl,rfl⟩:=h;refine ⟨by omega,?_,?_⟩
    ·unfold z0i; rw [if_pos h1]; rfl
    ·unfold z0i; rw [if_pos h1,zwo h0,ofNat_toNat]
   ·rw [if_neg h1] at h;by_cases h2:b.length≤(b.getD 0 0).toNat - 247∨(b.getD 1 0).toNat=0∨((b.getD 0 0).toNat - 247=1∧(b.getD 1 0).toNat≤247)
    ·rw [if_pos h2] at h; cases h
    ·rw [if_neg h2] at h;simp only [Option.some.injEq,Prod.mk.injEq] at h;obtain ⟨k,hk⟩:∃ k,(b.getD 0 0).toNat - 247=k:=⟨_,rfl⟩
     rw [hk] at h h2;obtain ⟨hn,rfl⟩:=h;have hk1:1≤k:=by omega
     have hk8:k≤8:=by omega
     have hlen:k<b.length:=by omega
     obtain ⟨d,hd⟩:∃ d,(b.drop 1).take k=d:=⟨_,rfl⟩
     rw [hd] at hn;have hdl:d.length=k:=by rw [← hd]; simp; omega
     have hd0:d=b.getD 1 0::d.tail:=by
      rw [← hd];exact zi9 hk1 (by omega)
     have hdig:z2b n=d.reverse:=by
      rw [← hn]
      have:=zlx d.reverse (by
       intro x hx;rw [List.getLast?_reverse,hd0] at hx;simp at hx;subst hx;intro e
       apply h2
       right; left
       have:=congrArg UInt8.toNat e
       simpa using this)
      rw [List.reverse_reverse] at this;exact this
     have hlt:n<18446744073709551616:=by
      have h3:=zx2 d;rw [hn,hdl] at h3;exact Nat.lt_of_lt_of_le h3 (zsp hk8)
     have hgt:¬ n≤247:=by
      intro hle;by_cases hk2:k=1
      ·apply h2
       right; right
       refine ⟨hk2,?_⟩
       have:d.tail=[]:=List.eq_nil_of_length_eq_zero (by simp [hdl,hk2])
       rw [hd0,this] at hn;simp [z8f] at hn;simp at hle ⊢;omega
      ·have h3:(z2b n).length≤1:=by
        rw [zls]
        have:=zh8 n 8 (by omega)
        omega
       rw [hdig,List.length_reverse,hdl] at h3;omega
     refine ⟨hlt,?_,?_⟩
     ·unfold z0i; rw [if_neg hgt,hdig]; simp [hdl]
     ·unfold z0i;rw [if_neg hgt,hdig,List.reverse_reverse,List.length_reverse,hdl,zii k h0,hd];have h247:b.getD 0 0=UInt8.ofNat (247+k):=by
       apply UInt8.toNat_inj.1
       rw [UInt8.toNat_ofNat'];omega
      rw [h247]
 ·rintro ⟨hn,rfl,hb⟩
  have hl:=congrArg List.length hb;have h9:=z0o n hn;rw [List.length_take] at hl;have h0:b.length≠0:=by omega
  unfold z8w;rw [if_neg h0];by_cases h1:n≤247
  ·have hnb:z0i n=[UInt8.ofNat n]:=by unfold z0i; rw [if_pos h1]
   rw [hnb] at hb ⊢;rw [show ([UInt8.ofNat n]:List UInt8).length=1 from rfl,zwo h0] at hb
   injection hb with hb _
   have:(b.getD 0 0).toNat=n:=by rw [hb]; simp; omega
   rw [if_pos (by omega),this];rfl
  ·have hnb:z0i n=UInt8.ofNat (247+(z2b n).length)::(z2b n).reverse:=by unfold z0i; rw [if_neg h1]
   have hd8:=zkt n hn;have hd1:1≤(z2b n).length:=by rw [z6t n (by omega)]; simp
   rw [hnb] at hb hl ⊢;simp only [List.length_cons,List.length_reverse] at hb hl ⊢;rw [zii _ h0] at hb
   injection hb with hb1 hb2
   have hx:(b.getD 0 0).toNat=247+(z2b n).length:=by rw [hb1]; simp; omega
   rw [if_neg (by omega),hx,Nat.add_sub_cancel_left];have hy:∃ y,(z2b n).getLast? = some y∧b.getD 1 0=y:=by
    have h3:(z2b n).reverse.head? = some (b.getD 1 0):=by
     rw [← hb2,zi9 hd1 (by omega)];rfl
    rw [List.head?_reverse] at h3;exact ⟨_,h3,rfl⟩
   obtain ⟨y,hy1,hy2⟩:=hy;have hy0:=zvj n y hy1;have h2:¬ (b.length≤(z2b n).length∨(b.getD 1 0).toNat=0∨((z2b n).length=1∧(b.getD 1 0).toNat≤247)):=by
    rintro (h | h | ⟨h,h'⟩)
    ·omega
    ·rw [hy2] at h
     apply hy0
     apply UInt8.toNat_inj.1
     simpa using h
    ·rw [z6t n (by omega),List.length_cons] at h;have h4:z2b (n / 256)=[]:=List.eq_nil_of_length_eq_zero (by omega);have h5:n / 256=0:=by
      by_cases h6:n / 256=0
      ·exact h6
      ·rw [z6t _ h6] at h4; cases h4
     rw [z6t n (by omega),h4] at hy1;simp at hy1;rw [hy2,← hy1] at h';simp at h';omega
   rw [if_neg h2,hb2,zsh]
theorem zda {b:List UInt8} {n u:Nat} (h:z8w b=some (n,u)):n<18446744073709551616∧1≤u∧u≤9∧u≤b.length:=by
 obtain ⟨h1,h2,h3⟩:=(z3r b n u).1 h;have h4:=z0o n h1;have h5:=congrArg List.length h3;rw [List.length_take] at h5;omega
theorem zkz {b:List UInt8} (h:z8w b=none):z11 b=(0,0,12):=by unfold z11; rw [h]
theorem zc0 {b:List UInt8} {n u:Nat} (h:z8w b=some (n,u)):z11 b=(n,u,0):=by unfold z11; rw [h]
theorem zbs (b:List UInt8):(z8w b=none∧z11 b=(0,0,12))∨∃ n u,z8w b=some (n,u)∧z11 b=(n,u,0):=by
 cases h:z8w b with
 | none=>exact .inl ⟨rfl,zkz h⟩
 | some x=>exact .inr ⟨x.1,x.2,rfl,zc0 h⟩
theorem zhj (b:List UInt8):(z11 b).1<18446744073709551616∧(z11 b).2.1≤9∧((z11 b).2.2=0∨(z11 b).2.2=12):=by
 rcases zbs b with ⟨_,h⟩ | ⟨n,u,h1,h⟩
 ·rw [h]; simp
 ·rw [h]; have:=zda h1; simp; omega
theorem zva {b:List UInt8} (h:b.length=0):z8w b=none:=by unfold z8w; rw [if_pos h]
theorem zre {b:List UInt8} (h:b.length≠0) (h1:(b.getD 0 0).toNat≤247):z8w b=some ((b.getD 0 0).toNat,1):=by unfold z8w; rw [if_neg h,if_pos h1]
theorem zut {b:List UInt8} (h:b.length≠0) (h1:¬ (b.getD 0 0).toNat≤247) (h2:b.length≤(b.getD 0 0).toNat - 247∨(b.getD 1 0).toNat=0∨((b.getD 0 0).toNat - 247=1∧(b.getD 1 0).toNat≤247)):z8w b=none:=by
 unfold z8w; rw [if_neg h,if_neg h1,if_pos h2]
theorem zse {b:List UInt8} (h:b.length≠0) (h1:¬ (b.getD 0 0).toNat≤247) (h2:¬ (b.length≤(b.getD 0 0).toNat - 247∨(b.getD 1 0).toNat=0∨((b.getD 0 0).toNat - 247=1∧(b.getD 1 0).toNat≤247))) :
  z8w b=some (z8f ((b.drop 1).take ((b.getD 0 0).toNat - 247)),(b.getD 0 0).toNat - 247+1):=by
 unfold z8w; rw [if_neg h,if_neg h1,if_neg h2]
theorem z124 {l:List UInt8} {i:Nat} (h:i<l.length):l.take (i+1)=l.take i++[l.getD i 0]:=by
 rw [List.take_succ_eq_append_getElem h]; simp [List.getD,h]
theorem zl0 {l:List UInt8} {i:Nat} (h:i<l.length):z8f (l.take (i+1))=256 * z8f (l.take i)+(l.getD i 0).toNat:=by rw [z124 h,zhr]
theorem zk3 {l:List UInt8} {i:Nat} (h:i<l.length) (h8:l.length≤8):z8f (l.take (i+1))<18446744073709551616∧256 * z8f (l.take i)+(l.getD i 0).toNat<18446744073709551616∧z8f (l.take i)<72057594037927936:=by
 have h1:=zx2 (l.take (i+1));rw [List.length_take,Nat.min_eq_left (by omega)] at h1;have h2:=zsp (k:=i+1) (by omega);have h3:=zl0 h;omega
theorem zq7 (a b:Int):za8 .and .u64 a b=IntKind.u64.wrap ((BitVec.ofInt 64 a &&& BitVec.ofInt 64 b).toNat:Int):=rfl
theorem zul (a b:Int):za8 .xor .i64 a b=IntKind.i64.wrap ((BitVec.ofInt 64 a ^^^ BitVec.ofInt 64 b).toNat:Int):=rfl
def zig (n:Int):Nat:=if 0≤n then (2 * n).toNat else (-2 * n - 1).toNat
def zl5 (u:Nat):Int:=if u % 2=0 then ((u / 2:Nat):Int) else -((u / 2:Nat):Int) - 1
theorem z1aa {n:Int} (h1:-9223372036854775808≤n) (h2:n≤9223372036854775807):zig n<18446744073709551616:=by unfold zig; split <;> omega
theorem zzi (n:Int):zl5 (zig n)=n:=by unfold zig zl5; split <;> split <;> omega
theorem z10i (u:Nat):zig (zl5 u)=u:=by unfold zl5; split <;> (unfold zig; split <;> omega)
theorem zok {u:Nat} (h:u<18446744073709551616):-9223372036854775808≤zl5 u∧zl5 u≤9223372036854775807:=by unfold zl5; split <;> omega
theorem zxz {u:Nat} (h:u<18446744073709551616) :
  za8 .xor .i64 (IntKind.i64.wrap (Int.fdiv ((u:Nat):Int) (2 ^ (min (1:Int).toNat IntKind.u64.bits)))) (IntKind.i64.wrap (0 - IntKind.i64.wrap (za8 .and .u64 ((u:Nat):Int) 1)))=zl5 u:=by
 have hb:IntKind.u64.bits=64:=rfl;have hb2:IntKind.i64.bits=64:=rfl;have e2:(2:Int) ^ (min (1:Int).toNat 64)=2:=by decide
 have ha:za8 .and .u64 ((u:Nat):Int) 1=((u % 2:Nat):Int):=by
  rw [zq7]
  have:(BitVec.ofInt 64 ((u:Nat):Int) &&& BitVec.ofInt 64 1).toNat=u % 2:=by
   rw [BitVec.toNat_and,BitVec.ofInt_natCast,BitVec.toNat_ofNat, show (BitVec.ofInt 64 1).toNat=1 by decide,Nat.and_one_is_mod]; omega
  rw [this]; exact zwe (by omega) rfl
 rw [hb,e2,ha,Int.fdiv_eq_ediv_of_nonneg _ (by decide)];rw [wrap_i64 (z:=((u:Nat):Int) / 2) (r:=((u / 2:Nat):Int)) (by omega) (by omega),wrap_i64 (z:=((u % 2:Nat):Int)) (by omega) rfl];rw [zul];by_cases h0:u % 2=0
 ·rw [h0, show IntKind.i64.wrap (0 - ((0:Nat):Int))=0 by decide];have e6:(BitVec.ofInt 64 ((u / 2:Nat):Int) ^^^ BitVec.ofInt 64 0).toNat=u / 2:=by
   have:BitVec.ofInt 64 0=0#64:=rfl
   rw [this,BitVec.xor_zero,BitVec.toNat_ofInt]; omega
  rw [e6]; unfold zl5; rw [if_pos h0]; exact wrap_i64 (by omega) rfl
 ·rw [show u % 2=1 by omega, show IntKind.i64.wrap (0 - ((1:Nat):Int)) = -1 by decide];have e6:(BitVec.ofInt 64 ((u / 2:Nat):Int) ^^^ BitVec.ofInt 64 (-1)).toNat=18446744073709551615 - u / 2:=by
   have:BitVec.ofInt 64 (-1)=BitVec.allOnes 64:=by decide
   rw [this,BitVec.xor_allOnes,BitVec.toNat_not,BitVec.toNat_ofInt]; omega
  rw [e6]; unfold zl5; rw [if_neg h0];simp only [IntKind.wrap,IntKind.signed,IntKind.bits,Bool.true_and,decide_eq_true_eq,ge_iff_le]
  split <;> omega
def zh5 (b:List UInt8):Int × Nat × Nat:=if (z11 b).2.2=0 then (zl5 (z11 b).1,(z11 b).2.1,0) else (0,0,(z11 b).2.2)
theorem zmp {b:List UInt8} (h:(z11 b).2.2=0):zh5 b=(zl5 (z11 b).1,(z11 b).2.1,0):=by unfold zh5; rw [if_pos h]
theorem zqn {b:List UInt8} (h:¬ (z11 b).2.2=0):zh5 b=(0,0,(z11 b).2.2):=by unfold zh5; rw [if_neg h]
theorem zez (b:List UInt8):(z11 b).2.1≤b.length:=by
 rcases zbs b with ⟨_,h⟩ | ⟨n,u,h1,h⟩
 ·rw [h]; simp
 ·rw [h]; exact (zda h1).2.2.2
def z3q (b:List UInt8) (most:Int) (k:Nat):List UInt8 × Nat × Nat :=
 if most<0 then ([],0,2)
 else if (z11 b).2.2≠0∨most<((z11 b).1:Int)∨(b.length - (z11 b).2.1) / k<(z11 b).1 then ([],0,12)
 else ((b.drop (z11 b).2.1).take (k * (z11 b).1),(z11 b).2.1+k * (z11 b).1,0)
theorem znz {b:List UInt8} {most:Int} {k:Nat} (h:most<0):z3q b most k=([],0,2):=by unfold z3q; rw [if_pos h]
theorem zku {b:List UInt8} {most:Int} {k:Nat} (h:¬ most<0) (h2:(z11 b).2.2≠0∨most<((z11 b).1:Int)∨(b.length - (z11 b).2.1) / k<(z11 b).1):z3q b most k=([],0,12):=by
 unfold z3q; rw [if_neg h,if_pos h2]
theorem zbv {b:List UInt8} {most:Int} {k:Nat} (h:¬ most<0) (h2:¬ ((z11 b).2.2≠0∨most<((z11 b).1:Int)∨(b.length - (z11 b).2.1) / k<(z11 b).1)) :
  z3q b most k=((b.drop (z11 b).2.1).take (k * (z11 b).1),(z11 b).2.1+k * (z11 b).1,0):=by
 unfold z3q; rw [if_neg h,if_neg h2]
theorem zkg {b:List UInt8} {k:Nat} (h2:¬ (b.length - (z11 b).2.1) / k<(z11 b).1):k * (z11 b).1≤b.length - (z11 b).2.1:=by
 have h3:(z11 b).1≤(b.length - (z11 b).2.1) / k:=by omega
 exact Nat.le_trans (Nat.mul_le_mul_left _ h3) (Nat.mul_div_le _ _)
theorem ztx (b:List UInt8) (most:Int) (k:Nat):(z3q b most k).1.length≤b.length:=by
 unfold z3q; split
 ·simp
 ·split
  ·simp
  ·simp only [List.length_take,List.length_drop]; omega
end
section
open Go Go.RowKit
def zma (x:z00):Prop:=(fun _=>True) x.Kind∧inI x.Num∧(fun _=>True) x.Bits∧(fun s:List UInt8=>s.length≤9223372036854775807) x.Text∧True
def zph (x:z0b):Prop:=(fun _=>True) x.Kind∧(fun s:List UInt8=>s.length≤9223372036854775807) x.Key∧zma x.Value∧True
def zqb (x:z0a):Prop:=(fun _=>True) x.E∧(fun _=>True) x.S∧True
def zgs (x:z05):Prop:=(fun _=>True) x.Author∧(fun l:List V3=>(∀ x∈l,(fun v:V3=>∀ x∈v.toList,(fun _=>True) x) x)∧l.length≤9223372036854775807) x.Preds∧(fun _=>True) x.Stamp∧zph x.Act∧zqb x.Sig∧True
def z3o (x:z01):Prop:=(fun l:List V3=>(∀ x∈l,(fun v:V3=>∀ x∈v.toList,(fun _=>True) x) x)∧l.length≤9223372036854775807) x.IDs∧(fun l:List z05=>(∀ x∈l,zgs x)∧l.length≤9223372036854775807) x.Ops∧True
end
section
open Go
theorem z13k {n k:Nat} (hn:n<9223372036854775808) (hk:k<9223372036854775808):andI (n:Int) (k:Int)=((n &&& k:Nat):Int):=by
 show IntKind.i64.wrap (BitVec.toNat (BitVec.ofInt 64 (n:Int) &&& BitVec.ofInt 64 (k:Int)):Int)=_;rw [BitVec.ofInt_natCast,BitVec.ofInt_natCast,BitVec.toNat_and,BitVec.toNat_ofNat,BitVec.toNat_ofNat,Nat.mod_eq_of_lt (by omega),Nat.mod_eq_of_lt (by omega)]
 have:=Nat.and_le_left (n:=n) (m:=k)
 exact zgk (by omega) (by omega)
def okb (c:UInt8):Bool:=decide (32≤c.toNat)&&decide (c.toNat≤126)
theorem zqt {b:List UInt8} {q:Nat} (h:q<b.length) (ha:(b[q]).toNat<128):z9z b q=((b[q]).toNat,1):=by
 unfold z9z;exact decode_ascii ⟨b.toArray⟩ q (by show q<b.toArray.size; simpa using h) ha
theorem z10d {b:List UInt8} {q:Nat} (h:q<b.length) (ha:128≤(b[q]).toNat):128≤(z9z b q).1:=by
 unfold z9z;have e:((ByteArray.mk b.toArray).get! (q+0)).toNat=(b[q]).toNat:=by
  show ((ByteArray.mk b.toArray).get! q).toNat=_;simp [ByteArray.get!,h]
 simp only [Utf8.decode,e];rw [if_neg (by omega)]
 repeat' split
 all_goals (first | (simp only [Utf8.runeError]; omega) | (rename_i h1; simp at h1; omega) | omega)
theorem z13f (x:Int):ze4 x=some (decide (x<32) || decide (126<x)):=by
 unfold ze4
 cases decide (x<32) <;> rfl
theorem zxa (b:List UInt8):∀ (rest pre:List UInt8),b=pre++rest →
  (rest.all okb=true→iter (z1x b true) pre.length=some (.inr ()))∧(rest.all okb=false→∃ i:Nat,iter (z1x b true) pre.length=some (.inl (i:Int)))
 | [],pre,e=>by
  refine ⟨fun _=>z1r ?_, fun h=>by simp at h⟩;subst e;unfold z1x
  simp
 | c::rest,pre,e=>by
  have hlen:pre.length<b.length:=by rw [e]; simp
  have hget:b[pre.length]'hlen=c:=by subst e; simp
  have hF:z1x b true pre.length=if ((decide (((z9z b pre.length).1:Int)<32) || decide (126<((z9z b pre.length).1:Int)))==true) then some (.inl (.inl (pre.length:Int))) else some (.inr (pre.length+(z9z b pre.length).2)):=by
   unfold z1x;rw [if_pos hlen];simp only [bs,z13f]
  cases hc:okb c with
  | false =>
   refine ⟨fun h=>by simp [hc] at h, fun _=>⟨pre.length,z1r ?_⟩⟩;rw [hF,if_pos];by_cases h8:c.toNat<128
   ·rw [zqt hlen (by rw [hget]; exact h8),hget];simp only [okb,Bool.and_eq_false_iff,decide_eq_false_iff_not] at hc
    simp; omega
   ·have:=z10d hlen (by rw [hget]; omega)
    simp; omega
  | true =>
   simp only [okb,Bool.and_eq_true,decide_eq_true_eq] at hc;rw [zqt hlen (by rw [hget]; omega),hget,if_neg (by simp; omega)] at hF;have ih:=zxa b rest (pre++[c]) (by simp [e]);simp only [List.length_append,List.length_cons,List.length_nil,Nat.zero_add] at ih;rw [z2c hF];have hc':okb c=true:=by simp [okb,hc]
   simpa [hc'] using ih
theorem zm6 (b:List UInt8) (hb:b.length≤9223372036854775807):∀ (rest pre:List UInt8),b=pre++rest→iter (z49 b) (pre.length:Int)=some (if rest.all okb then .inr () else .inl false)
 | [],pre,e=>by
  refine z1r ?_;subst e;unfold z49
  simp
 | c::rest,pre,e=>by
  have hlen:pre.length<b.length:=by rw [e]; simp
  have hget:b[pre.length]'hlen=c:=by subst e; simp
  have hF:z49 b (pre.length:Int)=if okb c then some (.inr ((pre.length+1:Nat):Int)) else some (.inl (.inl false)):=by
   unfold z49;rw [if_pos (by simp <;> omega)]
   simp only [z0k hlen,hget,bs,z0l (show pre.length<9223372036854775807 by omega)];simp only [okb,UInt8.lt_iff_toNat_lt,UInt8.reduceToNat];by_cases h1:c.toNat<32
   ·have:¬ 32≤c.toNat:=by omega
    simp [h1,this]
   ·by_cases h2:126<c.toNat
    ·have:¬ c.toNat≤126:=by omega
     simp [h1,h2,this]
    ·have h3:32≤c.toNat:=by omega
     have h4:c.toNat≤126:=by omega
     simp [h1,h2,h3,h4]
  cases hc:okb c with
  | false=>rw [hc] at hF; rw [z1r hF]; simp [hc]
  | true =>
   rw [hc] at hF;rw [z2c hF];have ih:=zm6 b hb rest (pre++[c]) (by simp [e]);simp only [List.length_append,List.length_cons,List.length_nil,Nat.zero_add] at ih;rw [ih]; simp [hc]
theorem zsm (b:List UInt8) (hb:b.length≤9223372036854775807):z7k b=some (b.all okb):=by
 have h:=zm6 b hb b [] rfl;unfold z7k;rw [show (0:Int)=(([]:List UInt8).length:Int) from rfl,h]
 cases b.all okb <;> rfl
theorem z13p (b:List UInt8) (hb:b.length≤9223372036854775807):zhh b=some (if decide (30<(b.length:Int)) then (⟨0,0,0,[]⟩,4) else if b.all okb then (⟨3,0,0,b⟩,0) else (⟨0,0,0,[]⟩,8)):=by
 unfold zhh z4v z4u
 cases decide (30<(b.length:Int))
 ·simp only [Bool.false_eq_true,if_false];obtain ⟨h1,h2⟩:=zxa b b [] rfl;simp only [List.length_nil] at h1 h2
  cases h:b.all okb
  ·obtain ⟨i,hi⟩:=h2 h;rw [hi];simp only [zz3,bs];rw [if_pos (by simp)]; rfl
  ·rw [h1 h]; rfl
 ·rfl
theorem z14s (a:UInt64):zfq a=some (((a.toNat / 4503599627370496 % 2048:Nat):Int),a % 4503599627370496):=by
 unfold zfq;simp only [bs];have h0:=UInt64.toNat_lt a;rw [zat];have e1:(2:Nat) ^ (min 52 64)=4503599627370496:=by decide
 rw [e1,z17 (by omega) (by omega), show (2047:Int)=((2047:Nat):Int) from rfl,z13k (by omega) (by omega)]
 congr 2
 ·congr 1
  exact Nat.and_two_pow_sub_one_eq_mod _ 11
 ·apply UInt64.toNat_inj.1
  rw [UInt64.toNat_and,UInt64.toNat_mod];exact Nat.and_two_pow_sub_one_eq_mod _ 52
theorem z1ar (a:UInt64):z8d a=some ((a.toNat / 4503599627370496 % 2048:Nat):Int):=by
 unfold z8d;have h0:=UInt64.toNat_lt a;simp only [bs,UInt64.toNat_div,UInt64.toNat_mod,UInt64.reduceToNat];rw [z17 (by omega) (by omega)]
 congr 2
 omega
def zvl (a:UInt64):Nat:=a.toNat / 4503599627370496 % 2048
def mant (a:UInt64):Nat:=a.toNat % 4503599627370496
theorem z18b (a:UInt64):zvl a<2048:=Nat.mod_lt _ (by omega)
def clsF (a:UInt64):UInt8:=if zvl a=2047 then (if mant a=0 then 4 else 5) else if zvl a=0 then (if mant a=0 then 1 else 2) else 3
theorem z16c (a:UInt64):(a % 4503599627370496==0)=decide (mant a=0):=by
 rw [Bool.eq_iff_iff];simp only [beq_iff_eq,decide_eq_true_eq,← UInt64.toNat_inj,UInt64.toNat_mod];rfl
theorem z12p (a:UInt64):zft a=some (clsF a):=by
 unfold zft clsF;rw [z14s];simp only [bs];have hm:=z16c a;have hne:(a % 4503599627370496 != 0)=!decide (mant a=0):=by rw [← hm]; rfl
 have he:((a.toNat / 4503599627370496 % 2048:Nat):Int)=(zvl a:Int):=rfl;rw [hne,he];by_cases h1:zvl a=2047
 ·rw [h1];by_cases h2:mant a=0
  ·rw [decide_eq_true h2,if_pos h2]; rfl
  ·rw [decide_eq_false h2,if_neg h2]; rfl
 ·have e1:((zvl a:Int)==2047)=false:=by simp; omega
  rw [if_neg h1,e1];simp only [Bool.false_eq_true,if_false,bs];by_cases h0:zvl a=0
  ·rw [h0];by_cases h2:mant a=0
   ·rw [decide_eq_true h2,if_pos h2]; rfl
   ·rw [decide_eq_false h2,if_neg h2]; rfl
  ·have e0:((zvl a:Int) != 0)=true:=by simp; omega
   rw [e0,if_neg h0]; rfl
theorem z12t (a:UInt64):zam a=some (clsF a):=by
 unfold zam zar clsF;rw [z1ar];simp only [bs];rw [z16c a];have hx:=z18b a;show z4y (if ((zvl a:Int)==0)=true then if decide (mant a=0)=true then some (.inl 1) else some (.inr ()) else some (.inr ())) (fun s5=>if ((zvl a:Int)==0)=true then some 2 else if decide ((zvl a:Int)<2047)=true then some 3 else if decide (mant a=0)=true then some 4 else some 5)=_;by_cases h1:zvl a=2047
 ·rw [h1];by_cases h2:mant a=0 <;> simp [h2,zq5,zz3]
 ·by_cases h0:zvl a=0
  ·rw [h0];by_cases h2:mant a=0 <;> simp [h2,zq5,zz3]
  ·have e0:((zvl a:Int)==0)=false:=by simp; omega
   have e2:decide ((zvl a:Int)<2047)=true:=by simp; omega
   rw [e0,e2,if_neg h1,if_neg h0]; rfl
def zib (a:UInt64):UInt64:=if clsF a=5 then 9221120237041090560 else a
theorem z11j (a:UInt64):zf6 a=some (zib a):=by
 unfold zf6 zib;rw [z12p];simp only [bs];by_cases h:clsF a=5 <;> simp [h]
theorem zz7 (a:UInt64):zap a=some (zib a):=by
 unfold zap zib;rw [z12t];simp only [bs];by_cases h:clsF a=5 <;> simp [h]
theorem z112 (a:UInt64):zfv a=some ⟨2,0,zib a,[]⟩:=by
 unfold zfv; rw [z11j]; rfl
def okV (v:z00):Bool :=
 if v.Kind=1 then decide (v.Bits=0)&&decide (v.Text=[])
 else if v.Kind=2 then decide (v.Num=0)&&decide (v.Text=[])&&decide (zib v.Bits=v.Bits)
 else if v.Kind=3 then decide (v.Num=0)&&decide (v.Bits=0)&&decide (v.Text.length≤30)&&v.Text.all okb
 else false
theorem zzv (v:z00) (hb:v.Text.length≤9223372036854775807):zaj v=some (if okV v then 0 else 8):=by
 obtain ⟨K,n,f,t⟩:=v;unfold zaj okV;simp only at hb ⊢;rw [zz7,zsm t hb];by_cases h1:K=1
 ·subst h1;by_cases hf:f=0 <;> by_cases ht:t=[] <;> simp [hf,ht]
 by_cases h2:K=2
 ·subst h2;by_cases hn:n=0 <;> by_cases ht:t=[] <;> by_cases hc:zib f=f <;> simp [hn,ht,hc,bs]
 by_cases h3:K=3
 ·subst h3;by_cases hl:t.length≤30
  ·have hl':(t.length:Int)≤30:=by omega
   by_cases hn:n=0 <;> by_cases hf:f=0 <;> cases t.all okb <;> simp [hn,hf,hl,hl',bs]
  ·have hl':¬ (t.length:Int)≤30:=by omega
   by_cases hn:n=0 <;> by_cases hf:f=0 <;> simp [hn,hf,hl,hl',bs]
 ·simp [h1,h2,h3]
theorem zon (v:z00) (hb:v.Text.length≤9223372036854775807):z9d v=some (if okV v then 0 else 8):=by
 obtain ⟨K,n,f,t⟩:=v;unfold z9d zgl okV;simp only at hb ⊢;rw [z112,z13p t hb];by_cases h1:K=1
 ·subst h1;by_cases hf:f=0 <;> by_cases ht:t=[] <;> simp [hf,ht,bs]
 by_cases h2:K=2
 ·subst h2;by_cases hc:zib f=f
  ·by_cases hn:n=0 <;> by_cases ht:t=[] <;> simp [hn,ht,hc,bs]
  ·have hc':¬ f=zib f:=fun e=>hc e.symm;by_cases hn:n=0 <;> by_cases ht:t=[] <;> simp [hn,ht,hc,hc',bs]
 by_cases h3:K=3
 ·subst h3;by_cases hl:30<(t.length:Int)
  ·have h4:¬ t.length≤30:=by omega
   rw [decide_eq_true hl,decide_eq_false h4];simp [bs]
  ·have h4:t.length≤30:=by omega
   rw [decide_eq_false hl,decide_eq_true h4]
   cases t.all okb <;> by_cases hn:n=0 <;> by_cases hf:f=0 <;> simp [hn,hf,bs]
 ·have e1:(K==1)=false:=by simpa using h1
  have e2:(K==2)=false:=by simpa using h2
  have e3:(K==3)=false:=by simpa using h3
  simp only [e1,e2,e3,Bool.false_eq_true,if_false,bs,h1,h2,h3];by_cases h0:K=0
  ·subst h0
   split <;> rfl
  ·simp [h0]
end
section
open Go
theorem zzt:∀ (n:Nat) (a:UInt64) (ds:List UInt8) (N:Nat),a.toNat=n→z2b N=ds++z2b n→(z2b N).length≤8→iter z5k (a,ds)=some (z2b N):=by
 intro n
 induction n using Nat.strongRecOn with
 | _ n ih =>
  intro a ds N ha hd hl;by_cases h0:n=0
  ·subst h0;refine z1r ?_;unfold z5k;rw [if_neg (by simp [UInt64.lt_iff_toNat_lt,ha])];rw [z9i,List.append_nil] at hd;rw [hd]
  ·have hF:z5k (a,ds)=some (.inr (a / 256,ds++[(a % 256).toUInt8])):=by
    unfold z5k;rw [if_pos (by simp [UInt64.lt_iff_toNat_lt,ha]; omega)]
    have:ds.length≤8:=Nat.le_trans (zoz hd) hl
    simp only [z1l (show (ds.length+[(a % 256).toUInt8].length) * 1≤140737488355328 by simp; omega),bs]
   rw [z2c hF];have hd2:=zsv N n ds h0 hd;refine ih (n / 256) (Nat.div_lt_self (by omega) (by omega)) _ _ N ?_ ?_ hl
   ·simp [ha]
   ·rw [hd2]
    congr 2
    congr 1
    apply UInt8.toNat_inj.1
    simp [ha]
theorem zsa (s:List UInt8) (hl:s.length≤8):∀ (i:Nat) (acc:List UInt8),i≤s.length→acc.length+i≤100→iter (z5m s) (acc,(i:Int) - 1)=some (acc++(s.take i).reverse)
 | 0,acc,_,_=>by
  refine z1r ?_;unfold z5m;rw [if_neg (by simp)]; simp
 | i+1,acc,hi,ha=>by
  have hlt:i<s.length:=by omega
  have e:((i+1:Nat):Int) - 1=(i:Int):=by omega
  have hF:z5m s (acc,((i+1:Nat):Int) - 1)=some (.inr (acc++[s[i]],(i:Int) - 1)):=by
   unfold z5m;rw [e,if_pos (by simp)];simp only [z0k hlt,bs];rw [z1l (by simp; omega)];simp only [bs,z17 (show -9223372036854775808≤(i:Int) - 1 by omega) (by omega)]
  rw [z2c hF,zsa s hl i _ (by omega) (by simp; omega)]
  have:List.take (i+1) s=List.take i s++[s[i]]:=by rw [List.take_add_one,List.getElem?_eq_getElem hlt]; rfl
  rw [this]; simp only [List.reverse_append,List.reverse_cons,List.reverse_nil,List.nil_append,List.append_assoc]
theorem z87 (a:UInt64):z2s a=some (z0i a.toNat):=by
 unfold z2s z0i;have h0:=UInt64.toNat_lt a;by_cases h:a.toNat≤247
 ·have h':decide (a≤247)=true:=by simpa [UInt64.le_iff_toNat_le] using h
  rw [if_pos h',if_pos h]
  congr 2
 ·have h':¬ decide (a≤247)=true:=by simpa [UInt64.le_iff_toNat_le] using h
  rw [if_neg h',if_neg h];have hd:=zkt a.toNat h0;rw [zzt a.toNat a [] a.toNat rfl rfl hd];simp only [bs];rw [z17 (show -9223372036854775808≤((z2b a.toNat).length:Int) - 1 by omega) (by omega),z17 (show -9223372036854775808≤247+((z2b a.toNat).length:Int) by omega) (by omega)];rw [zsa _ hd _ _ (Nat.le_refl _) (by simp; omega)];simp only [bs,List.take_length];rw [show (247+((z2b a.toNat).length:Int))=((247+(z2b a.toNat).length:Nat):Int) by omega]
  congr 1
  show _::_=_
  congr 1
  apply UInt8.toNat_inj.1
  simp [UInt8.ofInt];omega
theorem zye (a:UInt64) (k:Nat) (hk:k=(z2b a.toNat).length) (hk8:k≤8):iter (zc8 a (k:Int)) (zct a.toNat 0,0)=some (zct a.toNat k):=by
 refine z3d k (fun i=>(zct a.toNat i,(i:Int))) (fun i hi=>?_) ?_
 ·have hf:=zuy a.toNat i (by omega);unfold zc8;rw [if_pos (by simp; omega)];simp only [z17 (show -9223372036854775808≤8 * (i:Int) by omega) (by omega),z2z (show (0:Int)≤8 * (i:Int) by omega),bs,z17 (show -9223372036854775808≤(k:Int) - (i:Int) by omega) (by omega),z0l (show i<9223372036854775807 by omega)];rw [z18p (by omega) (by omega)];simp only [bs]
  have:=zsw a.toNat i (by omega)
  rw [← this];have e1:((k:Int) - (i:Int)).toNat=(z2b a.toNat).length - i:=by omega
  have e2:(z6l a (8 * (i:Int)).toNat).toUInt8=UInt8.ofNat (a.toNat / 2 ^ (8 * i)):=by
   apply UInt8.toNat_inj.1
   have e3:(8 * (i:Int)).toNat=8 * i:=by omega
   rw [e3];simp only [UInt64.toNat_toUInt8,zat,Nat.min_eq_left (show 8 * i≤64 by omega)]
   simp
  rw [e1,e2]
 ·unfold zc8;rw [if_neg (by simp)]
theorem zhm (a:UInt64) (k:Nat) (hk:k<64):(z6l a k).toNat=a.toNat / 2 ^ k:=by rw [zat,Nat.min_eq_left (by omega)]
set_option maxRecDepth 100000 in
theorem z147 (a:UInt64):zbl a=some (bitLen a.toNat:Int):=by
 unfold zbl;have h0:=UInt64.toNat_lt a;have s1:∃ (y:UInt64) (n:Nat),(if decide (4294967296≤a) then some (z6l a 32,(32:Int)) else some (a,0))=some (y,(n:Int))∧y.toNat<2 ^ 32∧n≤32∧bitLen a.toNat=n+bitLen y.toNat:=by
  by_cases h:4294967296≤a.toNat
  ·refine ⟨z6l a 32,32, by rw [if_pos (by simpa [UInt64.le_iff_toNat_le] using h)]; rfl,?_, by omega,?_⟩
   ·rw [zhm a 32 (by omega)]; omega
   ·rw [zhm a 32 (by omega)]; exact ze8 _ 32 (by omega)
  ·exact ⟨a,0, by rw [if_neg (by simpa [UInt64.le_iff_toNat_le] using h)]; rfl, by omega, by omega, by omega⟩
 obtain ⟨y,n,e1,hy,hn,hb⟩:=s1;rw [e1]; simp only [bs];have s2:∃ (z:UInt64) (k:Nat),(if decide (65536≤y) then some (z6l y 16) >>= fun y5=>some (w64 ((n:Int)+16)) >>= fun y6=>some (y5,y6) else some (y,(n:Int)))=some (z,(k:Int))∧z.toNat<2 ^ 16∧k≤48∧bitLen a.toNat=k+bitLen z.toNat:=by
  by_cases h:65536≤y.toNat
  ·refine ⟨z6l y 16,n+16, by rw [if_pos (by simpa [UInt64.le_iff_toNat_le] using h)]; simp only [bs,z17 (show -9223372036854775808≤(n:Int)+16 by omega) (by omega)]; rfl,?_, by omega,?_⟩
   ·rw [zhm y 16 (by omega)]; omega
   ·rw [zhm y 16 (by omega),hb,ze8 y.toNat 16 (by omega)]; omega
  ·exact ⟨y,n, by rw [if_neg (by simpa [UInt64.le_iff_toNat_le] using h)], by omega, by omega,hb⟩
 obtain ⟨z,k,e2,hz,hk,hb2⟩:=s2;simp only [bs] at e2;rw [e2]; simp only [bs];have s3:∃ (x:UInt64) (j:Nat),(if decide (256≤z) then some (w64 ((k:Int)+8)) >>= fun y9=>some (z6l z 8,y9) else some (z,(k:Int)))=some (x,(j:Int))∧x.toNat<256∧j≤56∧bitLen a.toNat=j+bitLen x.toNat:=by
  by_cases h:256≤z.toNat
  ·refine ⟨z6l z 8,k+8, by rw [if_pos (by simpa [UInt64.le_iff_toNat_le] using h)]; simp only [bs,z17 (show -9223372036854775808≤(k:Int)+8 by omega) (by omega)]; rfl,?_, by omega,?_⟩
   ·rw [zhm z 8 (by omega)]; omega
   ·rw [zhm z 8 (by omega),hb2,ze8 z.toNat 8 (by omega)]; omega
  ·exact ⟨z,k, by rw [if_neg (by simpa [UInt64.le_iff_toNat_le] using h)], by omega, by omega,hb2⟩
 obtain ⟨x,j,e3,hx,hj,hb3⟩:=s3;simp only [bs] at e3;rw [e3]; simp only [bs];have ht:=z13m ⟨x.toNat,hx⟩;have hx8:(x.toUInt8.toNat:Int)=((x.toNat:Nat):Int):=by simp; omega
 have hle:bitLen x.toNat≤8:=zh8 _ 8 (by omega);rw [hx8];have hlist:∀ (l:List UInt8),l=z11p.data.toList→idx l ((x.toNat:Nat):Int)=some (UInt8.ofNat (bitLen x.toNat)):=fun l hl=>by
  subst hl;unfold idx;rw [if_pos (by omega)]
  simpa using ht
 refine Eq.trans (congrArg (fun o:Option UInt8=>o >>= fun x10=>some (w64 ((j:Int)+(x10.toNat:Int)))) (hlist _ ?hh)) ?_
 case hh=>rfl
 simp only [bs];have e4:((UInt8.ofNat (bitLen x.toNat)).toNat:Int)=(bitLen x.toNat:Int):=by simp; omega
 rw [e4,z17 (by omega) (by omega),hb3]
 simp
theorem z4r (a:UInt64):z4n a=some (z0i a.toNat):=by
 unfold z4n;have h0:=UInt64.toNat_lt a;by_cases h:a.toNat≤247
 ·have h':decide (a≤247)=true:=by simpa [UInt64.le_iff_toNat_le] using h
  unfold z0i;rw [if_pos h',if_pos h]
  congr 2
 ·have h':¬ decide (a≤247)=true:=by simpa [UInt64.le_iff_toNat_le] using h
  rw [if_neg h',z147];have hd:=zkt a.toNat h0;have hl:=zls a.toNat;have hb:bitLen a.toNat≤64:=zh8 _ 64 h0;simp only [bs];rw [z17 (show -9223372036854775808≤(bitLen a.toNat:Int)+7 by omega) (by omega)];have e1:Int.tdiv ((bitLen a.toNat:Int)+7) 8=((z2b a.toNat).length:Int):=by
   rw [hl, show ((bitLen a.toNat:Int)+7)=((bitLen a.toNat+7:Nat):Int) by omega];rfl
  rw [e1,z17 (show -9223372036854775808≤((z2b a.toNat).length:Int) by omega) (by omega),z0l (by omega),zks (by omega) (by omega)];simp only [bs];rw [show (0:Int)=((0:Nat):Int) from rfl,z0k (by simp)];simp only [bs,Int.toNat_natCast];rw [z17 (show -9223372036854775808≤247+((z2b a.toNat).length:Int) by omega) (by omega)];have e2:UInt8.ofInt (247+((z2b a.toNat).length:Int))=UInt8.ofNat (247+(z2b a.toNat).length):=by
   apply UInt8.toNat_inj.1
   rw [show (247+((z2b a.toNat).length:Int))=((247+(z2b a.toNat).length:Nat):Int) by omega];simp [UInt8.ofInt];omega
  have:=ztc a.toNat
  rw [e2,this]
  have:=zye a (z2b a.toNat).length rfl hd
  rw [show (0:Int)=((0:Nat):Int) from rfl] at this;rw [this];simp only [bs];rw [zsi a.toNat (by omega)]
end
section
open Go
theorem okV1 {v:z00} (h:okV v=true) (k:v.Kind=1):v.Bits=0∧v.Text=[]:=by
 unfold okV at h; rw [if_pos k] at h; simpa using h
theorem okV2 {v:z00} (h:okV v=true) (k:v.Kind=2):v.Num=0∧v.Text=[]∧zib v.Bits=v.Bits:=by
 unfold okV at h; rw [if_neg (by rw [k]; decide),if_pos k] at h; simp at h; exact ⟨h.1.1,h.1.2,h.2⟩
theorem okV3 {v:z00} (h:okV v=true) (k:v.Kind=3):v.Num=0∧v.Bits=0∧v.Text.length≤30∧v.Text.all okb=true:=by
 unfold okV at h; rw [if_neg (by rw [k]; decide),if_neg (by rw [k]; decide),if_pos k] at h
 simp only [Bool.and_eq_true,decide_eq_true_eq] at h;exact ⟨h.1.1.1,h.1.1.2,h.1.2,h.2⟩
theorem zhk {v:z00} (h:okV v=true):v.Kind=1∨v.Kind=2∨v.Kind=3:=by
 by_cases h1:v.Kind=1
 ·exact .inl h1
 by_cases h2:v.Kind=2
 ·exact .inr (.inl h2)
 by_cases h3:v.Kind=3
 ·exact .inr (.inr h3)
 ·unfold okV at h; simp [h1,h2,h3] at h
theorem z14t (x:UInt64):(x ^^^ 18446744073709551615).toNat=18446744073709551615 - x.toNat:=by
 have e:x ^^^ 18446744073709551615 = ~~~x:=by
  apply UInt64.eq_of_toBitVec_eq
  rw [UInt64.toBitVec_xor,UInt64.toBitVec_not];exact BitVec.xor_allOnes
 rw [e,UInt64.toNat_not]; rfl
theorem zas (n:Int):(UInt64.ofInt n).toNat=(n % 18446744073709551616).toNat:=by
 simp [UInt64.ofInt]; omega
theorem z1bu (n:Int) (h:inI n):((zkj (UInt64.ofInt n) 1) ^^^ (UInt64.ofInt (shrI n 63))).toNat=zig n:=by
 obtain ⟨h1,h2⟩:=h;have es:(zkj (UInt64.ofInt n) 1).toNat=(n % 18446744073709551616).toNat * 2 % 18446744073709551616:=by
  rw [zja,zas]; rfl
 by_cases h0:0≤n
 ·have e:shrI n 63=0:=by
   unfold shrI;rw [show (2:Int) ^ (min 63 64)=9223372036854775808 from rfl,Int.fdiv_eq_ediv_of_nonneg _ (by omega)]; omega
  rw [e, show UInt64.ofInt 0=0 from rfl,UInt64.xor_zero,es];unfold zig; rw [if_pos h0]; omega
 ·have e:shrI n 63 = -1:=by
   unfold shrI;rw [show (2:Int) ^ (min 63 64)=9223372036854775808 from rfl,Int.fdiv_eq_ediv_of_nonneg _ (by omega)]; omega
  rw [e, show UInt64.ofInt (-1)=18446744073709551615 from rfl,z14t,es];unfold zig; rw [if_neg h0]; omega
theorem z12n (n:Int) (h:inI n):zf5 n=some (z0i (zig n)):=by
 unfold zf5;rw [z4r,z1bu n h]; rfl
theorem znq (s:List UInt8) (h:s.length≤10000):zbx s=some (z0i s.length++s,0):=by
 unfold zbx;rw [if_neg (by simp; omega),z4r];have e:(UInt64.ofInt (s.length:Int)).toNat=s.length:=by rw [zas]; omega
 have:=z0o s.length (by omega)
 simp only [bs,e];rw [z1l (by omega)]; rfl
def be8 (b:UInt64):List UInt8:=[(z6l b 56).toUInt8,(z6l b 48).toUInt8,(z6l b 40).toUInt8,(z6l b 32).toUInt8,(z6l b 24).toUInt8,(z6l b 16).toUInt8,(z6l b 8).toUInt8,(z6l b 0).toUInt8]
theorem z102 (v:z00) (l:List UInt8) (k:Nat) (hl:l.length≤100) (hk:k≤56):z93 v (l,(k:Int))=some (.inr (l++[(z6l v.Bits k).toUInt8],(k:Int) - 8)):=by
 unfold z93;rw [if_pos (by simp)];simp only;rw [z2z (by omega)];simp only [bs,Int.toNat_natCast];rw [z1l (by simp; omega)];simp only [bs];rw [z17 (by omega) (by omega)]
theorem z13q (v:z00):iter (z93 v) ([v.Kind],56)=some (v.Kind::be8 v.Bits):=by
 have hs:=fun l k h1 h2=>z102 v l k h1 h2;rw [show (56:Int)=((56:Nat):Int) from rfl,z2c (hs [v.Kind] 56 (by simp) (by omega))];simp only [List.cons_append,List.nil_append, show ((56:Nat):Int) - 8=((48:Nat):Int) from rfl];rw [z2c (hs _ 48 (by simp) (by omega))];simp only [List.cons_append,List.nil_append, show ((48:Nat):Int) - 8=((40:Nat):Int) from rfl];rw [z2c (hs _ 40 (by simp) (by omega))];simp only [List.cons_append,List.nil_append, show ((40:Nat):Int) - 8=((32:Nat):Int) from rfl]
 rw [z2c (hs _ 32 (by simp) (by omega))];simp only [List.cons_append,List.nil_append, show ((32:Nat):Int) - 8=((24:Nat):Int) from rfl];rw [z2c (hs _ 24 (by simp) (by omega))];simp only [List.cons_append,List.nil_append, show ((24:Nat):Int) - 8=((16:Nat):Int) from rfl];rw [z2c (hs _ 16 (by simp) (by omega))];simp only [List.cons_append,List.nil_append, show ((16:Nat):Int) - 8=((8:Nat):Int) from rfl]
 rw [z2c (hs _ 8 (by simp) (by omega))];simp only [List.cons_append,List.nil_append, show ((8:Nat):Int) - 8=((0:Nat):Int) from rfl];rw [z2c (hs _ 0 (by simp) (by omega))];simp only [List.cons_append,List.nil_append];refine z1r ?_;unfold z93;rw [if_neg (by simp)]; rfl
def zue (v:z00):List UInt8:=v.Kind::(if v.Kind=1 then z0i (zig v.Num) else if v.Kind=2 then be8 v.Bits else z0i v.Text.length++v.Text)
theorem zwc {n:Int} (h:inI n):zig n<18446744073709551616:=z1aa h.1 h.2
theorem z19d (v:z00) (hI:inI v.Num) (hl:v.Text.length≤9223372036854775807):ze3 v=some (if okV v then (zue v,0) else ([],8)):=by
 unfold ze3;rw [zon v hl]
 cases hv:okV v
 ·rfl
 simp only [bs,if_true];rw [if_neg (by simp)];unfold zue;rcases zhk hv with k | k | k
 ·have h1:=z0o (zig v.Num) (zwc hI);rw [k,z12n v.Num hI];simp only [bs];rw [if_pos (by decide),z1l (by simp; omega)]; simp [bs]
 ·rw [k,if_neg (by decide),if_pos (by decide),if_neg (by decide),if_pos rfl,← k,z13q]; rfl
 ·have h3:=(okV3 hv k).2.2.1;have h1:=z0o v.Text.length (by omega);rw [k,znq v.Text (by omega)];rw [if_neg (by decide),if_neg (by decide),if_pos (by decide),if_neg (by decide),if_neg (by decide),z2z (by omega)];simp only [bs];rw [z1l (by simp; omega)]; rfl
theorem zt1 (n:Int) (h:inI n):z9p n=some (z0i (zig n)):=by
 obtain ⟨h1,h2⟩:=h;unfold z9p;by_cases h0:0≤n
 ·rw [if_pos (by simpa using h0),z87];have e:(2 * UInt64.ofInt n).toNat=zig n:=by
   rw [UInt64.toNat_mul,zas, show (2:UInt64).toNat=2 from rfl];unfold zig; rw [if_pos h0]; omega
  rw [e]; rfl
 ·rw [if_neg (by simpa using h0),z87];have e:((2 * UInt64.ofInt (w64 (0 - (w64 (n+1)))))+1).toNat=zig n:=by
   rw [z17 (x:=n+1) (by omega) (by omega),z17 (by omega) (by omega),UInt64.toNat_add,UInt64.toNat_mul,zas, show (2:UInt64).toNat=2 from rfl, show (1:UInt64).toNat=1 from rfl];unfold zig; rw [if_neg h0]; omega
  rw [e]; rfl
theorem zpj (s:List UInt8) (h:s.length≤100000):z7y s=some (z0i s.length++s):=by
 unfold z7y;rw [z87];have e:(UInt64.ofInt (s.length:Int)).toNat=s.length:=by rw [zas]; omega
 have:=z0o s.length (by omega)
 rw [e];simp only [bs];rw [z1l (by omega)]; rfl
theorem z12z (v:z00) (l:List UInt8) (k:Nat) (hl:l.length≤100) (hk:k≤7):z68 v (l,(k:Int))=some (.inr (l++[(z6l v.Bits (8 * k)).toUInt8],(k:Int) - 1)):=by
 unfold z68;rw [if_pos (by simp)];simp only;have e:w64 (8 * (k:Int))=((8 * k:Nat):Int):=by rw [z17 (by omega) (by omega)]; omega
 rw [e,z2z (by omega)];simp only [bs,Int.toNat_natCast];rw [z1l (by simp; omega)];simp only [bs];rw [z17 (by omega) (by omega)]
theorem z139 (v:z00):iter (z68 v) ([v.Kind],7)=some (v.Kind::be8 v.Bits):=by
 have hs:=fun l k h1 h2=>z12z v l k h1 h2;rw [show (7:Int)=((7:Nat):Int) from rfl,z2c (hs [v.Kind] 7 (by simp) (by omega))];simp only [List.cons_append,List.nil_append, show ((7:Nat):Int) - 1=((6:Nat):Int) from rfl];rw [z2c (hs _ 6 (by simp) (by omega))];simp only [List.cons_append,List.nil_append, show ((6:Nat):Int) - 1=((5:Nat):Int) from rfl];rw [z2c (hs _ 5 (by simp) (by omega))];simp only [List.cons_append,List.nil_append, show ((5:Nat):Int) - 1=((4:Nat):Int) from rfl]
 rw [z2c (hs _ 4 (by simp) (by omega))];simp only [List.cons_append,List.nil_append, show ((4:Nat):Int) - 1=((3:Nat):Int) from rfl];rw [z2c (hs _ 3 (by simp) (by omega))];simp only [List.cons_append,List.nil_append, show ((3:Nat):Int) - 1=((2:Nat):Int) from rfl];rw [z2c (hs _ 2 (by simp) (by omega))];simp only [List.cons_append,List.nil_append, show ((2:Nat):Int) - 1=((1:Nat):Int) from rfl];rw [z2c (hs _ 1 (by simp) (by omega))]
 simp only [List.cons_append,List.nil_append, show ((1:Nat):Int) - 1=((0:Nat):Int) from rfl];rw [z2c (hs _ 0 (by simp) (by omega))];simp only [List.cons_append,List.nil_append];refine z1r ?_;unfold z68;rw [if_neg (by simp)]; rfl
theorem z11e (v:z00) (hI:inI v.Num) (hv:okV v=true):zae v=some (zue v):=by
 unfold zue zae;rcases zhk hv with k | k | k
 ·have h1:=z0o (zig v.Num) (zwc hI);rw [k,zt1 v.Num hI];simp only [bs];rw [if_pos (by decide),z1l (by simp; omega)]; simp [bs]
 ·rw [k,if_neg (by decide),if_pos (by decide),if_neg (by decide),if_pos rfl,← k,z139]; rfl
 ·have h3:=(okV3 hv k).2.2.1;have h1:=z0o v.Text.length (by omega);rw [k,zpj v.Text (by omega)];rw [if_neg (by decide),if_neg (by decide),if_neg (by decide),if_neg (by decide),z2z (by omega)];simp only [bs];rw [z1l (by simp; omega)]; rfl
end
section
open Go
theorem z13v (a b:V3):∀ (n i:Nat),32 - i=n→i≤32→∃ r:Sum Int Unit,iter (z7r a b) (i:Int)=some r∧(z4y (some r) (fun _=>some 0)=some (Lib.compareBytes (a.toList.drop i) (b.toList.drop i))):=by
 intro n
 induction n with
 | zero =>
  intro i hn hi
  have:i=32:=by omega
  subst this;refine ⟨.inr (),z1r ?_,?_⟩
  ·unfold z7r; rw [if_neg (by simp)]
  ·rw [List.drop_eq_nil_of_le (by simp),List.drop_eq_nil_of_le (by simp)]; rfl
 | succ n ih =>
  intro i hn hi;have hlt:i<32:=by omega
  have da:a.toList.drop i=a[i]::a.toList.drop (i+1):=by rw [List.drop_eq_getElem_cons (by simpa using hlt)]; simp
  have db:b.toList.drop i=b[i]::b.toList.drop (i+1):=by rw [List.drop_eq_getElem_cons (by simpa using hlt)]; simp
  have hF:z7r a b (i:Int)=if decide (a[i]<b[i]) then some (.inl (.inl (-1))) else if decide (b[i]<a[i]) then some (.inl (.inl 1)) else some (.inr ((i+1:Nat):Int)):=by
   unfold z7r;rw [if_pos (by simp; omega)];simp only [z8y hlt,bs,z0l (show i<9223372036854775807 by omega)]
  rw [da,db,Lib.compareBytes];by_cases h1:a[i]<b[i]
  ·rw [decide_eq_true h1] at hF;exact ⟨_,z1r hF, by rw [if_pos h1]; rfl⟩
  ·rw [decide_eq_false h1] at hF;by_cases h2:b[i]<a[i]
   ·rw [decide_eq_true h2] at hF;exact ⟨_,z1r hF, by rw [if_neg h1,if_pos h2]; rfl⟩
   ·rw [decide_eq_false h2] at hF;obtain ⟨r,k1,k2⟩:=ih (i+1) (by omega) (by omega);exact ⟨r, by rw [z2c hF]; exact k1, by rw [if_neg h1,if_neg h2]; exact k2⟩
theorem zst (a b:V3):z8u a b=some (Lib.compareBytes a.toList b.toList):=by
 obtain ⟨r,h1,h2⟩:=z13v a b 32 0 rfl (by omega);unfold z8u;rw [show (0:Int)=((0:Nat):Int) from rfl,h1]
 simpa using h2
theorem zur (a b:V3):z9l a b=some (Lib.compareBytes a.toList b.toList):=by
 unfold z9l zfs; rfl
def z8a:List V3→Bool
 | a::b::l=>!decide (0≤Lib.compareBytes a.toList b.toList)&&z8a (b::l)
 | _=>true
theorem znp (l:List V3) (hl:l.length≤9223372036854775807):∀ (n i:Nat),l.length - i=n→1≤i→i≤l.length→iter (z4d l) (i:Int)=some (if z8a (l.drop (i - 1)) then .inr () else .inl false):=by
 intro n
 induction n with
 | zero =>
  intro i hn h1 hi
  have:i=l.length:=by omega
  refine z1r ?_;have e:l.drop (i - 1)=[l[i - 1]'(by omega)]:=by
   rw [List.drop_eq_getElem_cons (by omega),List.drop_eq_nil_of_le (by omega)]
  rw [e];unfold z4d;rw [if_neg (by simp; omega)];simp [z8a]
 | succ n ih =>
  intro i hn h1 hi;have hlt:i<l.length:=by omega
  have e:l.drop (i - 1)=l[i - 1]::l[i]::l.drop (i+1):=by
   rw [List.drop_eq_getElem_cons (by omega), show i - 1+1=i by omega,List.drop_eq_getElem_cons hlt]
  have e':l.drop (i+1 - 1)=l[i]::l.drop (i+1):=by rw [Nat.add_sub_cancel,List.drop_eq_getElem_cons hlt]
  have hF:z4d l (i:Int)=if decide (0≤Lib.compareBytes (l[i - 1]).toList (l[i]).toList) then some (.inl (.inl false)) else some (.inr ((i+1:Nat):Int)):=by
   unfold z4d;rw [if_pos (by simp; omega),z17 (by omega) (by omega), show ((i:Int) - 1)=((i - 1:Nat):Int) by omega];simp only [z0k hlt,z0k (show i - 1<l.length by omega),bs,zst,z0l (show i<9223372036854775807 by omega)]
  rw [e,z8a]
  cases hc:decide (0≤Lib.compareBytes (l[i - 1]).toList (l[i]).toList) with
  | true=>rw [hc] at hF; rw [z1r hF]; rfl
  | false =>
   rw [hc] at hF;rw [z2c hF,ih (i+1) (by omega) (by omega) (by omega),e']; simp
theorem ztt (l:List V3) (hl:l.length≤9223372036854775807):z7t l=some (z8a l):=by
 unfold z7t
 cases l with
 | nil =>
  rw [z1r (b:=.inr ()) (by unfold z4d; rw [if_neg (by simp)])]; rfl
 | cons x l =>
  have:=znp (x::l) hl _ 1 rfl (by omega) (by simp)
  rw [show (1:Int)=((1:Nat):Int) from rfl,this];simp only [Nat.sub_self,List.drop_zero]
  cases z8a (x::l) <;> rfl
theorem zrr (l:List V3) (hl:l.length≤9223372036854775806):∀ (n i:Nat),l.length - i=n→i≤l.length→∃ r,iter (z0v l l) ((i:Int),(i:Int))=some r∧(z8a (l.drop i)=true→∃ c,r=.inr c)∧(z8a (l.drop i)=false→∃ (k:Nat) (c:Int),r=.inl ((k:Int),c)):=by
 intro n
 induction n with
 | zero =>
  intro i hn hi
  have:i=l.length:=by omega
  refine ⟨.inr (i:Int),z1r ?_, fun _=>⟨_,rfl⟩, fun h=>?_⟩
  ·unfold z0v;rw [if_neg (by simp; omega)]
  ·rw [List.drop_eq_nil_of_le (by omega)] at h; simp [z8a] at h
 | succ n ih =>
  intro i hn hi;have hlt:i<l.length:=by omega
  by_cases h2:i+1<l.length
  ·have e:l.drop i=l[i]::l[i+1]::l.drop (i+2):=by rw [List.drop_eq_getElem_cons hlt,List.drop_eq_getElem_cons h2]
   have e':l.drop (i+1)=l[i+1]::l.drop (i+2):=by rw [List.drop_eq_getElem_cons h2]
   have hF:z0v l l ((i:Int),(i:Int))=if decide (0≤Lib.compareBytes (l[i]).toList (l[i+1]).toList) then some (.inl (.inl ((i:Int),((i+1:Nat):Int)))) else some (.inr (((i+1:Nat):Int),((i+1:Nat):Int))):=by
    unfold z0v zd4;rw [if_pos (by simp; omega)];simp only [z0k hlt,bs,z0l (show i<9223372036854775807 by omega)];rw [if_pos (by simp; omega),z17 (by omega) (by omega), show ((i+1:Nat):Int) - 1=(i:Int) by omega];simp only [z0k hlt,z0k h2,bs,zur]
   rw [e,z8a]
   cases hc:decide (0≤Lib.compareBytes (l[i]).toList (l[i+1]).toList) with
   | true =>
    rw [hc] at hF;exact ⟨_,z1r hF, fun h=>by simp at h, fun _=>⟨i,_,rfl⟩⟩
   | false =>
    rw [hc] at hF;obtain ⟨r,k1,k2,k3⟩:=ih (i+1) (by omega) (by omega);rw [e'] at k2 k3;exact ⟨r, by rw [z2c hF]; exact k1, fun h=>k2 (by simpa using h), fun h=>k3 (by simpa using h)⟩
  ·have e:l.drop i=[l[i]]:=by rw [List.drop_eq_getElem_cons hlt,List.drop_eq_nil_of_le (by omega)]
   have hF:z0v l l ((i:Int),(i:Int))=some (.inr (((i+1:Nat):Int),((i+1:Nat):Int))):=by
    unfold z0v zd4;rw [if_pos (by simp; omega)];simp only [z0k hlt,bs,z0l (show i<9223372036854775807 by omega)];rw [if_neg (by simp; omega)];simp only [bs]; rfl
   obtain ⟨r,k1,k2,k3⟩:=ih (i+1) (by omega) (by omega);rw [List.drop_eq_nil_of_le (by omega)] at k2 k3;exact ⟨r, by rw [z2c hF]; exact k1, fun _=>k2 rfl, fun h=>by rw [e] at h; simp [z8a] at h⟩
theorem zpz (l:List V3) (hl:l.length≤9223372036854775806):zdb l=some (z8a l):=by
 obtain ⟨r,k1,k2,k3⟩:=zrr l hl _ 0 rfl (by omega);unfold zdb z2l z2x;rw [show ((0:Int),(0:Int))=(((0:Nat):Int),((0:Nat):Int)) from rfl,k1];simp only [List.drop_zero] at k2 k3
 cases h:z8a l with
 | true=>obtain ⟨c,rfl⟩:=k2 h; rfl
 | false =>
  obtain ⟨k,c,rfl⟩:=k3 h;simp only [zz3,bs];rw [decide_eq_true (by omega)]; rfl
def zg4 (l:List V3):List UInt8:=l.flatMap Vector.toList
theorem zhp (l:List V3):(zg4 l).length=32 * l.length:=by
 induction l with
 | nil=>rfl
 | cons x l ih=>unfold zg4 at ih ⊢; rw [List.flatMap_cons,List.length_append,ih]; simp; omega
theorem zry (l:List V3) (i:Nat) (hi:i<l.length):zg4 (l.take (i+1))=zg4 (l.take i)++(l[i]).toList:=by
 rw [List.take_add_one,List.getElem?_eq_getElem hi]; unfold zg4; rw [List.flatMap_append,Option.toList_some,List.flatMap_cons,List.flatMap_nil,List.append_nil]
theorem z179 (l:List V3) (h:l.length≤1000) (s:List UInt8) (hs:s.length≤9):iter (z6y l) (s,0)=some (s++zg4 l):=by
 have:=z3d (F:=z6y l) (b:=s++zg4 l) l.length (fun i=>(s++zg4 (l.take i),(i:Int))) (fun i hi=>?_) ?_
 ·simpa [zg4] using this
 ·unfold z6y;have hf:=zhp (l.take i);rw [if_pos (by simp; omega)];simp only [z0k hi,bs];rw [z1l (by simp at hf ⊢; omega)];simp only [bs,z0l (show i<9223372036854775807 by omega),zry l i hi,List.append_assoc]
 ·unfold z6y;rw [if_neg (by simp)]
  simp
theorem z1a3 (l:List V3) (h:l.length≤1000) (s:List UInt8) (hs:s.length≤9):iter (zdd l) (s,0)=some (s++zg4 l):=by
 have:=z3d (F:=zdd l) (b:=s++zg4 l) l.length (fun i=>(s++zg4 (l.take i),(i:Int))) (fun i hi=>?_) ?_
 ·simpa [zg4] using this
 ·unfold zdd;have hf:=zhp (l.take i);rw [if_pos (by simp; omega)];simp only [z0k hi,bs];rw [z1l (by simp at hf ⊢; omega)];simp only [bs,z0l (show i<9223372036854775807 by omega),zry l i hi,List.append_assoc]
 ·unfold zdd;rw [if_neg (by simp)]
  simp
theorem zdr {n:Nat} (h:n<18446744073709551616):(UInt64.ofInt (n:Int)).toNat=n:=by
 simp [UInt64.ofInt]; omega
theorem z142 (l:List V3) (h:l.length≤1000):zb6 l=some (z0i l.length++zg4 l):=by
 unfold zb6;have hn:=z0o l.length (by omega);rw [z87,zdr (by omega)];simp only [bs];rw [z179 l h _ (by omega)]; rfl
theorem z181 (l:List V3) (h:l.length≤60) (hi:z8a l=true):zmz l=some (z0i l.length++zg4 l,0):=by
 unfold zmz;have hn:=z0o l.length (by omega);rw [if_neg (by simp; omega),zpz l (by omega),hi,z4r,zdr (by omega)];simp only [bs,Bool.not_true,Bool.false_eq_true,if_false];rw [z1a3 l (by omega) _ (by omega)]; rfl
end
section
open Go
def nk:List UInt8→Nat
 | []=>0
 | a::l=>a.toNat * 256 ^ l.length+nk l
theorem z192:∀ l:List UInt8,nk l<256 ^ l.length
 | []=>by simp [nk]
 | a::l=>by
  have ih:=z192 l;have ha:=UInt8.toNat_lt a;simp only [nk,List.length_cons,Nat.pow_succ];have h1:(a.toNat+1) * 256 ^ l.length≤256 * 256 ^ l.length:=Nat.mul_le_mul_right _ (by omega);rw [Nat.add_mul,Nat.one_mul] at h1;omega
theorem z122:∀ a b:List UInt8,a.length=b.length→Lib.compareBytes a b=(if nk a<nk b then -1 else if nk b<nk a then 1 else 0)∧(nk a=nk b→a=b)
 | [],[],_=>by simp [Lib.compareBytes,nk]
 | [],_::_,h=>by simp at h
 | _::_,[],h=>by simp at h
 | a::x,b::y,h=>by
  have hl:x.length=y.length:=by simpa using h
  obtain ⟨i1,i2⟩:=z122 x y hl;have lx:=z192 x;have ly:=z192 y;simp only [Lib.compareBytes,nk,hl] at *;have e:∀ u v:UInt8,u.toNat<v.toNat→u.toNat * 256 ^ y.length+256 ^ y.length≤v.toNat * 256 ^ y.length:=fun u v huv=>by
   have:=Nat.mul_le_mul_right (256 ^ y.length) (show u.toNat+1≤v.toNat from huv)
   rwa [Nat.add_mul,Nat.one_mul] at this
  by_cases h1:a<b
  ·have h1':a.toNat<b.toNat:=UInt8.lt_iff_toNat_lt.1 h1
   have:=e a b h1'
   rw [if_pos h1,if_pos (by omega)];exact ⟨rfl, fun h=>by omega⟩
  ·by_cases h2:b<a
   ·have h2':b.toNat<a.toNat:=UInt8.lt_iff_toNat_lt.1 h2
    have:=e b a h2'
    rw [if_neg h1,if_pos h2,if_neg (by omega),if_pos (by omega)];exact ⟨rfl, fun h=>by omega⟩
   ·have h3:a=b:=UInt8.toNat_inj.1 (by rw [UInt8.lt_iff_toNat_lt] at h1 h2; omega);subst h3;rw [if_neg h1,if_neg h1,i1];refine ⟨?_, fun h=>by rw [i2 (by omega)]⟩;by_cases c1:nk x<nk y
    ·rw [if_pos c1,if_pos (by omega)]
    ·by_cases c2:nk y<nk x
     ·rw [if_neg c1,if_pos c2,if_neg (by omega),if_pos (by omega)]
     ·rw [if_neg c1,if_neg c2,if_neg (by omega),if_neg (by omega)]
def kd (d:V3):Nat:=nk d.toList
theorem zyb (a b:V3):Lib.compareBytes a.toList b.toList=if kd a<kd b then -1 else if kd b<kd a then 1 else 0:=(z122 a.toList b.toList (by simp)).1
theorem zmd {a b:V3} (h:kd a=kd b):a=b:=by
 have:=(z122 a.toList b.toList (by simp)).2 h
 exact Vector.toList_inj.1 this
theorem zxh (a b:V3):z9l a b=some (if kd a<kd b then -1 else if kd b<kd a then 1 else 0):=by rw [zur,zyb]
theorem z18w (a b:V3):z8u a b=some (if kd a<kd b then -1 else if kd b<kd a then 1 else 0):=by rw [zst,zyb]
theorem zu9 (a b:V3):decide ((if kd a<kd b then (-1:Int) else if kd b<kd a then 1 else 0)<0)=decide (kd a<kd b):=by
 by_cases h:kd a<kd b
 ·simp [h]
 ·by_cases h2:kd b<kd a <;> simp [h,h2]
theorem z16j (a b:V3):decide (0≤(if kd a<kd b then (-1:Int) else if kd b<kd a then 1 else 0))=decide (kd b≤kd a):=by
 by_cases h:kd a<kd b
 ·have:¬ kd b≤kd a:=by omega
  simp [h,this]
 ·have h3:kd b≤kd a:=by omega
  by_cases h2:kd b<kd a <;> simp [h,h2,h3]
theorem z1bh (a b:V3):((if kd a<kd b then (-1:Int) else if kd b<kd a then 1 else 0)==0)=decide (a=b):=by
 by_cases h:kd a<kd b
 ·have:a≠b:=fun e=>by rw [e] at h; omega
  simp [h,this]
 ·by_cases h2:kd b<kd a
  ·have:a≠b:=fun e=>by rw [e] at h2; omega
   simp [h,h2,this]
  ·have:a=b:=zmd (by omega)
   simp [h,h2,this]
theorem zwz:∀ l:List V3,z8a l=true↔∀ i (h:i+1<l.length),kd (l[i]'(by omega))<kd l[i+1]
 | []=>by simp [z8a]
 | [a]=>by simp [z8a]
 | a::b::l=>by
  have ih:=zwz (b::l);rw [z8a,Bool.and_eq_true,ih,zyb,z16j]
  constructor
  ·rintro ⟨h1,h2⟩ i hi
   cases i with
   | zero=>simpa using h1
   | succ i=>exact h2 i (by simpa using hi)
  ·intro h;refine ⟨?_, fun i hi=>h (i+1) (by simpa using hi)⟩
   have:=h 0 (by simp)
   simpa using this
theorem zcq:∀ l:List V3,z8a l=true↔l.Pairwise (fun a b=>kd a<kd b)
 | []=>by simp [z8a]
 | [a]=>by simp [z8a]
 | a::b::l=>by
  have ih:=zcq (b::l);rw [z8a,Bool.and_eq_true,ih,zyb,z16j]
  constructor
  ·rintro ⟨h1,h2⟩
   have h1':kd a<kd b:=by simpa using h1
   refine List.pairwise_cons.2 ⟨fun c hc=>?_,h2⟩;rcases List.mem_cons.1 hc with rfl | hc
   ·exact h1'
   ·have:=(List.pairwise_cons.1 h2).1 c hc; omega
  ·intro h;obtain ⟨h1,h2⟩:=List.pairwise_cons.1 h
   have:=h1 b (by simp)
   exact ⟨by simp; omega,h2⟩
theorem z108 (l:List V3) (hl:l.length≤9223372036854775807):∃ b,z1i l=some b∧(b=true↔∀ i (h:i+1<l.length),kd (l[i]'(by omega))≤kd l[i+1]):=by
 have key:∀ n,n<l.length→∃ r:Sum Bool Unit,iter (z10 l) (n:Int)=some r∧((r=.inr ()∧∀ i (h:i+1<l.length),i+1≤n→kd (l[i]'(by omega))≤kd l[i+1])∨(r=.inl false∧∃ i,∃ h:i+1<l.length,¬ kd (l[i]'(by omega))≤kd l[i+1])):=by
  intro n
  induction n with
  | zero =>
   intro h;refine ⟨_,z1r ?_,.inl ⟨rfl, fun i _ h=>by omega⟩⟩;unfold z10;rw [if_neg (by simp)]
  | succ n ih =>
   intro h;have hF:z10 l ((n+1:Nat):Int)=if decide (kd l[n+1]<kd l[n]) then some (.inl (.inl false)) else some (.inr (n:Int)):=by
    unfold z10;rw [if_pos (by simp <;> omega),z0k h,z17 (by omega) (by omega), show (((n+1:Nat):Int) - 1)=(n:Int) by omega,z0k (by omega)]
    simp only [bS];rw [zxh];simp only [bS];rw [zu9]
   by_cases hc:kd l[n+1]<kd l[n]
   ·rw [decide_eq_true hc,if_pos rfl] at hF;exact ⟨_,z1r hF,.inr ⟨rfl,n,h, by omega⟩⟩
   ·rw [decide_eq_false hc,if_neg (by simp)] at hF;obtain ⟨r,h1,h2⟩:=ih (by omega);refine ⟨r, by rw [z2c hF]; exact h1,?_⟩;rcases h2 with ⟨h2,h3⟩ | h2
    ·refine .inl ⟨h2, fun i hi hn=>?_⟩;by_cases hin:i=n
     ·subst hin; omega
     ·exact h3 i hi (by omega)
    ·exact .inr h2
 unfold z1i;simp only [bS];by_cases h0:l.length=0
 ·refine ⟨true,?_, by simp; intro i hi; omega⟩;rw [h0,z17 (by omega) (by omega),z1r (b:=.inr ())]
  ·rfl
  ·unfold z10;rw [if_neg (by simp)]
 ·obtain ⟨r,h1,h2⟩:=key (l.length - 1) (by omega);rw [z17 (by omega) (by omega), show ((l.length:Int) - 1)=((l.length - 1:Nat):Int) by omega,h1];rcases h2 with ⟨rfl,h3⟩ | ⟨rfl,i,hi,h3⟩
  ·exact ⟨true,rfl, by simp; exact fun i hi=>h3 i hi (by omega)⟩
  ·exact ⟨false,rfl, by simp; exact ⟨i,hi, by omega⟩⟩
theorem zqp {k n j:Nat} (h:j<n):subi k n (j:Int)=some (k+j):=by unfold subi; rw [if_pos (by omega)]; simp
theorem zv5 {α:Type} (b:List α) (k n:Nat) (x:α) (h:k+n≤b.length):(clr b k n x).length=b.length:=by
 unfold clr;simp only [List.length_append,List.length_take,List.length_replicate,List.length_drop]; omega
theorem zv9 (l:List V3) (s:Nat) (h1:1≤s) (hs:s<l.length) (hl:l.length≤9223372036854775806):∃ b:List V3 × Int,iter (z1c l s) (l,(s:Int),1)=some b∧b.1.length=l.length∧∃ j:Nat,b.2=(j:Int)∧j<l.length:=by
 refine z7b (F:=z1c l s) (l.length - s) (fun i st=>st.1.length=l.length∧st.2.2=(i:Int)∧1≤i∧∃ j:Nat,st.2.1=(j:Int)∧j+1≤s+i) _ ?_ ?_ _ 1 (by omega) ⟨rfl,rfl, by omega,s,rfl, by omega⟩
 ·rintro i ⟨c,j',i'⟩ hi ⟨e1,e2,e0,j,e3,e4⟩
  simp only at e1 e2 e3;subst e2 e3;unfold z1c;rw [if_pos (by simp; omega)];simp only [Int.toNat_natCast];rw [zqp (by omega),z17 (x:=(i:Int) - 1) (by omega) (by omega), show ((i:Int) - 1)=((i - 1:Nat):Int) by omega,zqp (by omega)];simp only [bS];rw [z0k (by omega),z0k (by omega)];simp only [bS];by_cases hc:c[s+i]'(by omega)=c[s+(i - 1)]'(by omega)
  ·rw [decide_eq_true hc,if_neg (by simp)];exact ⟨_,rfl,e1,z0l (by omega), by omega,j,rfl, by omega⟩
  ·rw [decide_eq_false hc,if_pos (by simp),z0k (by omega)];simp only [bS];exact ⟨_,rfl, by simpa using e1,z0l (by omega), by omega,j+1,z0l (by omega), by omega⟩
 ·rintro ⟨c,j',i'⟩ ⟨e1,e2,e0,j,e3,e4⟩
  simp only at e1 e2 e3;subst e2 e3;unfold z1c;rw [if_neg (by simp <;> omega)]
  exact ⟨_,rfl,e1,j,rfl, by omega⟩
theorem zxt (l:List V3) (hl:l.length≤9223372036854775806):∃ c,z1g l=some c∧(c.length=l.length↔∀ i (h:i+1<l.length),l[i]'(by omega)≠l[i+1]):=by
 have key:∀ k n,l.length - n=k→1≤n→n≤l.length→∃ r:Sum (List V3) Unit,iter (z0m l) (n:Int)=some r∧((r=.inr ()∧∀ i (h:i+1<l.length),n≤i+1→l[i]'(by omega)≠l[i+1])∨(∃ c,r=.inl c∧c.length≠l.length∧∃ i,∃ h:i+1<l.length,l[i]'(by omega)=l[i+1])):=by
  intro k
  induction k with
  | zero =>
   intro n hk h1 hn;refine ⟨_,z1r ?_,.inl ⟨rfl, fun i _ h=>by omega⟩⟩;unfold z0m;rw [if_neg (by simp; omega)]
  | succ k ih =>
   intro n hk h1 hn;have hlt:n<l.length:=by omega
   by_cases hc:l[n]=l[n - 1]
   ·obtain ⟨⟨c,j'⟩,e1,e2,j,e3,e4⟩:=zv9 l n h1 hlt hl;simp only at e2 e3;subst e3;have hF:z0m l (n:Int)=some (.inl (.inl ((clr c j (c.length - j) (Vector.replicate 32 0)).take j))):=by
     unfold z0m;rw [if_pos (by simp; omega),z0k hlt,z17 (by omega) (by omega), show ((n:Int) - 1)=((n - 1:Nat):Int) by omega,z0k (by omega)];simp only [bS];rw [decide_eq_true hc,if_pos rfl,z2z (by omega)];simp only [bS];rw [e1];simp only [bS];rw [z2z (by omega),z2z (by simp; omega)];simp only [bS,Int.toNat_natCast];rw [show (0:Int)=((0:Nat):Int) from rfl,zav (by omega) (by rw [zv5 _ _ _ _ (by omega)]; omega)]
     simp
    refine ⟨_,z1r hF,.inr ⟨_,rfl,?_,n - 1, by omega,?_⟩⟩
    ·rw [List.length_take]; omega
    ·have:n - 1+1=n:=by omega
     simp only [this]; exact hc.symm
   ·have hF:z0m l (n:Int)=some (.inr ((n+1:Nat):Int)):=by
     unfold z0m;rw [if_pos (by simp; omega),z0k hlt,z17 (x:=(n:Int) - 1) (by omega) (by omega), show ((n:Int) - 1)=((n - 1:Nat):Int) by omega,z0k (by omega)];simp only [bS];rw [decide_eq_false hc,if_neg (by simp),z0l (by omega)]
    obtain ⟨r,h2,h3⟩:=ih (n+1) (by omega) (by omega) (by omega);refine ⟨r, by rw [z2c hF]; exact h2,?_⟩;rcases h3 with ⟨h3,h4⟩ | h3
    ·refine .inl ⟨h3, fun i hi hni=>?_⟩;by_cases hin:i+1=n
     ·subst hin; exact fun e=>hc e.symm
     ·exact h4 i hi (by omega)
    ·exact .inr h3
 unfold z1g;by_cases h2:l.length<2
 ·rw [if_pos (by simp; omega)];exact ⟨l,rfl, by simp; intro i hi; omega⟩
 ·rw [if_neg (by simp; omega)];obtain ⟨r,e1,e2⟩:=key (l.length - 1) 1 rfl (by omega) (by omega);rw [show (1:Int)=((1:Nat):Int) from rfl,e1];rcases e2 with ⟨rfl,h3⟩ | ⟨c,rfl,h3,i,hi,h4⟩
  ·exact ⟨l,rfl, by simp; exact fun i hi=>h3 i hi (by omega)⟩
  ·exact ⟨c,rfl,⟨fun h=>absurd h h3, fun h=>absurd h4 (h i hi)⟩⟩
theorem z155 (l:List V3):z8a l=true↔(∀ i (h:i+1<l.length),kd (l[i]'(by omega))≤kd l[i+1])∧∀ i (h:i+1<l.length),l[i]'(by omega)≠l[i+1]:=by
 rw [zwz]
 constructor
 ·intro h;refine ⟨fun i hi=>Nat.le_of_lt (h i hi), fun i hi e=>?_⟩
  have:=h i hi
  rw [e] at this; omega
 ·rintro ⟨h1,h2⟩ i hi
  have:=h1 i hi
  rcases Nat.lt_or_eq_of_le this with h | h
  ·exact h
  ·exact absurd (zmd h) (h2 i hi)
end
section
open Go Go.Shelf Go.RowKit Go.Lib Go.Sort
def cfID (x y:V3):Int:=Lib.compareBytes x.toList y.toList
theorem ltID (x y:V3):ltOf cfID x y=decide (kd x<kd y):=by
 unfold ltOf cfID;rw [zyb,zu9]
theorem z1c8:SWO (ltOf cfID) where
 irrefl x:=by rw [ltID]; simp
 trans x y z h1 h2:=by rw [ltID] at *; simp at *; omega
 ntrans x y z h1 h2:=by rw [ltID] at *; simp at *; omega
def zvn (l:List V3):List V3:=l.mergeSort fun x y=>!(ltOf cfID) y x
theorem zo9 (l:List V3):(zvn l).length=l.length:=List.length_mergeSort l
theorem ztz (l:List V3) (x:V3):x∈zvn l↔x∈l:=List.mem_mergeSort
theorem zly (l:List V3):(zvn l).Pairwise fun x y=>kd x≤kd y:=by
 have h:=List.pairwise_mergeSort (le:=fun x y=>!(ltOf cfID) y x) (fun a b c h1 h2=>by
  rw [ltID] at *; simp at *; omega) (fun a b=>by rw [ltID,ltID]; simp; omega) l
 exact h.imp fun {a b} hab=>by rw [ltID] at hab; simp at hab; omega
def z10e (l:List V3):Option (List V3):=chk (l.length≤1000000) >>= fun _=>some (zvn l)
theorem zwk (p0:Value) (c0:List V3):z23 Tryz.prog 47 [.val p0,.val (.func (.func 48) #[] #[])] [(1,some (p0,.list (z3i 32 u8R) 45 c0))] (z10e c0) (fun r nv=>⟨[],[(1,some (p0,.list (z3i 32 u8R) 45 r))]⟩):=by
 refine z14h zvn zo9 (fun cap w=>?_) (fun blk cap d w hH hb hs=>?_) p0 c0
 ·exact AnyF.slices_SortFunc_none z199 none cap _ w
 ·have eg:∀ args w,(callFunc 48 args).run Tryz.prog w=.ok (.enter 48 args) w:=enters_of Tryz.func48 (by kernel_rfl) rfl
  exact AnyQ.slices_SortFunc_total z199 32 Tryz.isAgg45 Tryz.sizeOf45 z6d zf1 (fun x v hv=>by
   unfold z6d at hv;obtain ⟨c,_,rfl⟩:=List.mem_map.1 hv
   rfl) cfID z1c8 48 #[] blk 0 cap d w eg (fun m os dk _ x y=>zpu x y _) hH hb hs (fun x y h1 h2=>by
   rw [ltID] at h1 h2;simp at h1 h2
   exact zmd (by omega))
end
end Go.Proofs.YtojceajkeefnpaaGreatDoor
