import Derived.Test.YthgpinfkodaefaaGreatDoorJb
set_option linter.unusedSimpArgs false
set_option linter.unusedVariables false
namespace Go.Proofs.YthgpinfkodaefaaGreatDoor
section
open Go Go.RowKit
set_option maxRecDepth 100000
theorem zey (a1:Int):z1t Tryz.prog 156 [.val (.slice none 0 0),.rd z0c a1] [] (z44 a1) (fun r nv=>⟨[.val (nv 0)],[(100,some (nv 0,.list u8R 5 r))]⟩):=by
 refine z2p 27 Tryz.func156 Z Z Z fun H w=>?_
 refine gSR<|Zb Z<|z0s<|gSR<|Zm Z<|Zq (I.lss Z Z)<|Zj Z (fun h1=>?_) (fun h1=>?_)
 ·
  refine z18b
 ·
  refine Zt<|z0s<|gSR<|Zm Z<|Zm Z<|Zq (capN Z Z tu129)<|Zm Z<|z156 u8R 11 Z<|Zq (z3s Z .rd Z tu129)<|Zq (I.sub Z Z)<|Zq (I.sub Z Z)<|Za Z<|z1x 1 Z fun y2=>Zn<|gSR<|Zm Z<|Zq (I.gtr Z Z)<|Zj Z (fun h3=>?_) (fun h3=>?_)
  ·
   refine z28<|Zm Z<|Zm Z<|Zq (capN Z Z tu129)<|Zq (cutN Z Z tu129 ti5)<|Zm Z<|z0u fun x4 h5=>Ef Z (apZ 1 Z Z h5 tu129 tu3 ti5 (Zr.num Z) Z) fun v6=>Zm Z<|z156 u8R 23 Z<|Zq (z3s Z .rd Z tu129)<|z0u fun x7 h8=>Ef Z (cutO 1 Z Z Z h8 tu129 ti5) fun v9=>Zb Z<|gSR<|Zm Z<|Zb Z<|z0l<|Ze [v9] [1] Z
  ·
   refine Zt<|gSR<|Zm Z<|Zb Z<|z0l<|zy4 u8R 5 2<|Ze [(.slice none 0 0)] [2] Z
def z0z (a0:List (List UInt8)) (s2:Int × Int):Option (Sum Int (Int × Int)) :=
 if decide (s2.2<(a0.length:Int)) then
  idx a0 s2.2 >>= fun x4 =>
  some (w64 (s2.1+(x4.length:Int))) >>= fun y6 =>
  if decide (y6<0) then
   none
  else
   some (.inr (y6,w64 (s2.2+1)))
 else
  some (.inl s2.1)
def z0y (a0:List (List UInt8)) (s11:(List UInt8) × Int):Option (Sum ((List UInt8)) ((List UInt8) × Int)) :=
 if decide (s11.2<(a0.length:Int)) then
  idx a0 s11.2 >>= fun x14 =>
  app 1 s11.1 x14 >>= fun x16 =>
  some (.inr (x16,w64 (s11.2+1)))
 else
  some (.inl s11.1)
def z24 (a0:List (List UInt8)):Option ((List UInt8)) :=
 (iter (z0z a0) (0,0)) >>= fun s1 =>
 z44 s1 >>= fun r8 =>
 (iter (z0y a0) (r8,0)) >>= fun s10 =>
 some s10
theorem z6l (a0:List (List UInt8)):z1t Tryz.prog 109 [.rd (z02 (z02 u8R)) a0] [] (z24 a0) (fun r nv=>⟨[.val (nv 0)],[(100,some (nv 0,.list u8R 5 r))]⟩):=by
 refine z2p 36 Tryz.func109 Z Z Z fun H w=>?_
 refine gSR<|Zb Z<|gSR<|Zb Z<|z8t (fun (s1:Int) aa ww=>Sta (ctx 36 H [] w) [(0,.rd (z02 (z02 u8R)) a0),(3,.rd z0c s1)] [] aa ww) ?_ (fun s1=>?_)
 ·
  refine gSR<|Zm Z<|Zq (z3s Z .rd Z tu201)<|Zm Z<|Zn<|z1w (fun (s2:Int × Int) aa ww=>Sta (ctx 36 H [] w) [(0,.rd (z02 (z02 u8R)) a0),(3,.rd z0c s2.1),(9,.rd (z02 (z02 u8R)) a0),(10,.rd z0c (a0.length:Int)),(11,.rd z0c s2.2)] [] aa ww) (fun aa ww h=>Zu h []) (fun s2=>?_)
  refine gSR<|Zq (I.lss Z Z)<|Zn<|z0s<|gIf Z Z (fun h3=>?_) (fun h3=>?_)
  ·
   refine Zt<|z0s<|z4w<|gSR<|z0u fun x4 h5=>Zq (ixR Z Z h5 tu201 zje Z)<|Zq (ldR Z zyp)<|Zb Z<|gSR<|Zm Z<|Zm Z<|Zq (z3s Z .rd Z tu129)<|Zq (I.add Z Z)<|Za Z<|z1x 3 Z fun y6=>Zn<|gSR<|Zm Z<|Zq (I.lss Z Z)<|Zj Z (fun h7=>?_) (fun h7=>?_)
   ·
    refine z18b
   ·
    refine z2u<|z38<|z0k<|z28<|Zq (I.add Z Z)<|Zm Z<|z1s<|z1g (fun aa ww h=>Zu h [])
  ·
   refine z1r<|z0x<|z10<|z3t (fun aa ww h=>Zu h [])
 ·
  refine gSR<|Zm Z<|Zc [] [(100,1)] Tryz.func156 Z (zey _) fun r8 n9=>Zb Z<|z8t (fun (s10:(List UInt8)) aa ww=>∃ nv:Nat→Value,Sta (ctx 36 H [] w) [(6,.val (nv 0))] [(1,some ((nv 0),.list u8R 5 s10))] aa ww) ?_ (fun s10=>?_)
  ·
   refine gSR<|Zm Z<|Zq (z3s Z .rd Z tu201)<|Zm Z<|Zn<|z1w (fun (s11:(List UInt8) × Int) aa ww=>∃ nv:Nat→Value,Sta (ctx 36 H [] w) [(6,.val (nv 0)),(25,.rd (z02 (z02 u8R)) a0),(26,.rd z0c (a0.length:Int)),(27,.rd z0c s11.2)] [(1,some ((nv 0),.list u8R 5 s11.1))] aa ww) (fun aa ww h=>⟨nvl [(n9 0)],Zu h [1]⟩) (fun s11=>?_)
   refine gEx fun n12=>gSR<|Zq (I.lss Z Z)<|Zn<|z0s<|gIf Z Z (fun h13=>?_) (fun h13=>?_)
   ·
    refine Zt<|z0s<|z4w<|gSR<|z0u fun x14 h15=>Zq (ixR Z Z h15 tu201 zje Z)<|Zq (ldR Z zyp)<|Zb Z<|z28<|Zm Z<|Zm Z<|z0u fun x16 h17=>Ef Z (apn 1 Z Z Z .rd h17 tu129 ti5 Z Z Z) fun v18=>Za Z<|z1s<|z38<|z0k<|z28<|Zq (I.add Z Z)<|Zm Z<|z1s<|z1g (fun aa ww h=>⟨nvl [v18],Zu h [1]⟩)
   ·
    refine z1r<|z0x<|z10<|z3t (fun aa ww h=>⟨nvl [(n12 0)],Zu h [1]⟩)
  ·
   refine gEx fun n19=>gSR<|Zm Z<|Zb Z<|z0l<|Ze [(n19 0)] [1] Z
def zdf (a0:List UInt8):Option ((List UInt8) × Int) :=
 if decide (10000<(a0.length:Int)) then
  some ([],4)
 else
  z7h (UInt64.ofInt (a0.length:Int)) >>= fun r2 =>
  app 1 r2 a0 >>= fun x4 =>
  some (x4,0)
theorem zjs (a0:List UInt8):z1t Tryz.prog 111 [.rd (z02 u8R) a0] [] (zdf a0) (fun r nv=>⟨[.val (nv 0),.rd z0c r.2],[(100,some (nv 0,.list u8R 5 r.1))]⟩):=by
 refine z2p 13 Tryz.func111 Z Z Z fun H w=>?_
 refine gSR<|Za Z<|Zb Z<|z0s<|gSR<|Zm Z<|Zq (z3s Z .rd Z tu129)<|Zq (I.gtr Z Z)<|Zj Z (fun h1=>?_) (fun h1=>?_)
 ·
  refine gSR<|Za Z<|Zb Z<|z0l<|z0w<|zy4 u8R 5 1<|Ze [(.slice none 0 0)] [1] Z
 ·
  refine Zt<|gSR<|Zm Z<|Zq (z3s Z .rd Z tu129)<|Zq (I.toU Z tu3 tu52)<|Zc [] [(100,2)] Tryz.func110 Z (z7a _) fun r2 n3=>Zm Z<|z0u fun x4 h5=>Ef Z (apn 2 Z Z Z .rd h5 tu129 ti5 Z Z Z) fun v6=>Za Z<|Zb Z<|z0l<|Ze [v6] [2] Z
def zfi (a0:Int):Option ((List UInt8)) :=
 z7h ((zqa (UInt64.ofInt a0) 1) ^^^ (UInt64.ofInt (shrI a0 63))) >>= fun r1 =>
 some r1
theorem zoo (a0:Int):z1t Tryz.prog 158 [.rd z0c a0] [] (zfi a0) (fun r nv=>⟨[.val (nv 0)],[(100,some (nv 0,.list u8R 5 r))]⟩):=by
 refine z2p 11 Tryz.func158 Z Z Z fun H w=>?_
 refine gSR<|Zb Z<|gSR<|Zm Z<|Zq (I.toU Z Tryz.underlying2 tu52)<|Zq (U.shl Z Z (Int.natCast_nonneg _))<|Zm Z<|Zq (I.shr Z Z (Int.natCast_nonneg _))<|Zq (I.toU Z Tryz.underlying2 tu52)<|Zq (U.xor Z Z)<|Zc [] [(100,1)] Tryz.func110 Z (z7a _) fun r1 n2=>Zb Z<|z0l<|Ze [(n2 0)] [1] Z
def z9a (a0:z03) (s14:(List UInt8) × Int):Option (Sum ((List UInt8)) ((List UInt8) × Int)) :=
 if decide (0≤s14.2) then
  chk (0≤s14.2) >>= fun u17 =>
  app 1 s14.1 [(z85 a0.Bits ((s14.2:Int).toNat)).toUInt8] >>= fun x20 =>
  some (w64 (s14.2 - 8)) >>= fun y23 =>
  some (.inr (x20,y23))
 else
  some (.inl s14.1)
def zeb (a0:z03):Option ((List UInt8) × Int) :=
 zds a0 >>= fun r2 =>
 if r2 != 0 then
  some ([],r2)
 else
  (if a0.Kind==1 then
   zfi a0.Num >>= fun r8 =>
   app 1 [a0.Kind] r8 >>= fun x10 =>
   some x10
  else
   if a0.Kind==2 then
    iter (z9a a0) ([a0.Kind],56)
   else
    if a0.Kind==3 then
     chk (a0.Text.length≤281474976710656) >>= fun u25 =>
     zdf a0.Text >>= fun r27 =>
     app 1 [a0.Kind] r27.1 >>= fun x29 =>
     some x29
    else
     some [a0.Kind]) >>= fun s6 =>
  some (s6,0)
theorem zno (a0:z03):z1t Tryz.prog 112 [.rd z12 a0] [] (zeb a0) (fun r nv=>⟨[.val (nv 0),.rd z0c r.2],[(100,some (nv 0,.list u8R 5 r.1))]⟩):=by
 refine z2p 53 Tryz.func112 Z Z Z fun H w=>?_
 refine gSR<|Eb Z (bx 1 Z) fun v1=>Za Z<|Zb Z<|z0s<|gSR<|Zq (ld 1 Z Z fH zo4 Z)<|Zc [] [] Tryz.func157 Z (zi4 _) fun r2 n3=>Zb Z<|gSR<|Zm Z<|Zq (I.neq Z Z)<|Zj Z (fun h4=>?_) (fun h4=>?_)
 ·
  refine gSR<|Zm Z<|Za Z<|Zb Z<|z0l<|z0w<|zy4 u8R 5 2<|Ze [(.slice none 0 0)] [2] Z
 ·
  refine Zt<|gSR<|Zq (faB 1 Z Z Tryz.underlying54 Z (by exact ti5))<|Zq (ld 1 Z Z (fP (z2m _)) ty5 Z)<|Ef Z (lit (R:=u8R) ([a0.Kind]:List UInt8) 3 (pP Z Z<|pN) Z tu129 ti5 Z Z) fun v5=>Zb Z<|z8t (fun (s6:(List UInt8)) aa ww=>∃ nv:Nat→Value,Sta (ctx 53 H [] w) [(5,.val (nv 0))] [(3,some ((nv 0),.list u8R 5 s6))] aa ww) ?_ (fun s6=>?_)
  ·
   refine gSR<|Zq (faB 1 Z Z Tryz.underlying54 Z (by exact ti5))<|Zq (ld 1 Z Z (fP (z2m _)) ty5 Z)<|Zn<|z4w<|gSR<|Zq (B.eql Z Z)<|Zb Z<|gIf Z Z (fun h7=>?_) (fun h7=>?_)
   ·
    refine gKn 20 Z h7<|z28<|Zm Z<|Zq (faB 1 Z Z Tryz.underlying54 Z (by exact ti2))<|Zq (ld 1 Z Z (fP (z5c _)) ty2 Z)<|Zc [] [(100,4)] Tryz.func158 Z (zoo _) fun r8 n9=>z0u fun x10 h11=>Ef Z (apn 3 Z Z Z (.own 4 Z) h11 tu129 ti5 Z Z Z) fun v12=>Za Z<|z1s<|z38<|z3t (fun aa ww h=>⟨nvl [v12],Zu h [3]⟩)
   ·
    refine gKn 20 Z h7<|gSR<|Zq (B.eql Z Z)<|Zb Z<|gIf Z Z (fun h13=>?_) (fun h13=>?_)
    ·
     refine gKn 27 Z h13<|gSR<|Zb Z<|z1w (fun (s14:(List UInt8) × Int) aa ww=>∃ nv:Nat→Value,Sta (ctx 53 H [] w) [(1,.val (z06 v1 0)),(5,.val (nv 0)),(6,.rd z0c s14.2)] [(1,some (v1,.box 54 [.rd z12 a0])),(3,some ((nv 0),.list u8R 5 s14.1))] aa ww) (fun aa ww h=>⟨nvl [v5],Zu h [1,3]⟩) (fun s14=>?_)
     refine gEx fun n15=>z0s<|gSR<|Zm Z<|Zq (I.geq Z Z)<|Zj Z (fun h16=>?_) (fun h16=>?_)
     ·
      refine Zt<|z0s<|z4w<|z28<|Zm Z<|Zq (faB 1 Z Z Tryz.underlying54 Z (by exact zq6))<|Zq (ld 1 Z Z (fP (z49 _)) zpd Z)<|Zm Z<|z0u fun u17 h18=>Zq (U.shr Z Z (z6g h18))<|Zq (U.toB Z tu52 tu5)<|Ef Z (lit (R:=u8R) ([(z85 a0.Bits ((s14.2:Int).toNat)).toUInt8]:List UInt8) 5 (pP Z Z<|pN) Z tu129 ti5 Z Z) fun v19=>z0u fun x20 h21=>Ef Z (apn 3 Z Z Z (.own 5 Z) h21 tu129 ti5 Z Z Z) fun v22=>Za Z<|z1s<|z38<|z0k<|z28<|Zm Z<|Zq (I.sub Z Z)<|Za Z<|z1x 6 Z fun y23=>z1s<|z1g (fun aa ww h=>⟨nvl [v22],Zu h [1,3]⟩)
     ·
      refine z1r<|z0x<|z10<|z38<|z3t (fun aa ww h=>⟨nvl [(n15 0)],Zu h [3]⟩)
    ·
     refine gKn 27 Z h13<|gSR<|Zq (B.eql Z Z)<|Zb Z<|gIf Z Z (fun h24=>?_) (fun h24=>?_)
     ·
      refine gKn 41 Z h24<|gSR<|Zq (faB 1 Z Z Tryz.underlying54 Z (by exact ti9))<|Zq (ld 1 Z Z (fP (z3o _)) ty9 Z)<|z0u fun u25 h26=>z145 Z Z h26 tu9 tu129 tu5<|Zc [] [(100,6)] Tryz.func111 Z (zjs _) fun r27 n28=>Zm Z<|Zq (ext Z Z)<|Zq (ext Z Z)<|Za Z<|Zb Z<|z28<|Zm Z<|Zm Z<|z0u fun x29 h30=>Ef Z (apn 3 Z Z Z (.own 6 Z) h30 tu129 ti5 Z Z Z) fun v31=>Za Z<|z1s<|z38<|z3t (fun aa ww h=>⟨nvl [v31],Zu h [3]⟩)
     ·
      refine gKn 41 Z h24<|z2u<|z38<|z3t (fun aa ww h=>⟨nvl [v5],Zu h [3]⟩)
  ·
   refine gEx fun n32=>gSR<|Zm Z<|Za Z<|Zb Z<|z0l<|Ze [(n32 0)] [3] Z
def zc3 (a0:z05):Option ((List UInt8) × Int) :=
 zfu ({ a0 with Sig:=(⟨0,0⟩:z08) }) >>= fun r2 =>
 if r2 != 0 then
  some ([],r2)
 else
  zmh (({ a0 with Sig:=(⟨0,0⟩:z08) }).Preds) >>= fun r5 =>
  z7h ((({ a0 with Sig:=(⟨0,0⟩:z08) }).Author).toUInt64) >>= fun r7 =>
  z7h (({ a0 with Sig:=(⟨0,0⟩:z08) }).Stamp) >>= fun r10 =>
  z24 [[111],r7,r5.1,r10,[(({ a0 with Sig:=(⟨0,0⟩:z08) }).Act).Kind]] >>= fun r13 =>
  if ((({ a0 with Sig:=(⟨0,0⟩:z08) }).Act).Kind)==1 then
   some (r13,0)
  else
   chk (((({ a0 with Sig:=(⟨0,0⟩:z08) }).Act).Key).length≤281474976710656) >>= fun u18 =>
   zdf ((({ a0 with Sig:=(⟨0,0⟩:z08) }).Act).Key) >>= fun r20 =>
   app 1 r13 r20.1 >>= fun x22 =>
   if ((({ a0 with Sig:=(⟨0,0⟩:z08) }).Act).Kind)==4 then
    zeb ((({ a0 with Sig:=(⟨0,0⟩:z08) }).Act).Value) >>= fun r26 =>
    app 1 x22 r26.1 >>= fun x28 =>
    some (x28,0)
   else
    some (x22,0)
set_option maxHeartbeats 4000000 in
theorem zft (a0:z05):z1t Tryz.prog 77 [.rd z04 a0] [] (zc3 a0) (fun r nv=>⟨[.val (nv 0),.rd z0c r.2],[(100,some (nv 0,.list u8R 5 r.1))]⟩):=by
 refine z2p 71 Tryz.func77 Z Z Z fun H w=>?_
 refine gSR<|Eb Z (bx 1 Z) fun v1=>Za Z<|Zb Z<|gSR<|Zq (bld (x':=(⟨0,0⟩:z08)) [(0,1),(1,1)] Tryz.underlying70 zm3 Z zqy Z (Bld.done Z))<|Zq (faB 1 Z Z Tryz.underlying72 Z (by exact zm3))<|Es (sto 1 Z Z (fP (z2g _)) Z zm3)<|Zn<|z0s<|gSR<|Zq (ld 1 Z Z fH ze5 Z)<|Zc [] [] Tryz.func107 Z (zid _) fun r2 n3=>Zb Z<|gSR<|Zm Z<|Zq (I.neq Z Z)<|Zj Z (fun h4=>?_) (fun h4=>?_)
 ·
  refine gSR<|Zm Z<|Za Z<|Zb Z<|z0l<|z0w<|zy4 u8R 5 2<|Ze [(.slice none 0 0)] [2] Z
 ·
  refine Zt<|gSR<|Zq (faB 1 Z Z Tryz.underlying72 Z (by exact z6b))<|Zq (ld 1 Z Z (fP (z0t _)) z8l Z)<|Zc [] [(100,3)] Tryz.func108 Z (zu6 _) fun r5 n6=>Zm Z<|Zq (ext Z Z)<|Zq (ext Z Z)<|Za Z<|Zb Z<|z0s<|gFrz 3 [23,5] Z (fS Z<|fS Z<|fN)<|gSub [(1,.val (z06 v1 0)),(5,.rd (z02 u8R) r5.1)] [(1,some (v1,.box 72 [.rd z04 ({ a0 with Sig:=(⟨0,0⟩:z08) })]))] [1] (sS Z<|sS Z<|sN) (y1 Z)<|zbq fun r7 h9=>zbq fun r10 h12=>zbq fun r13 h15=>gOr [] [⟨4,none,[(0,none)]⟩,⟨1,some ([], fun nv=>(v1,.box 72 [.rd z04 ({ a0 with Sig:=(⟨0,0⟩:z08) })])),[]⟩,⟨5,none,[(4,none)]⟩,⟨6,none,[(8,none)]⟩,⟨7,none,[(12,none)]⟩,⟨8,none,[(13,none)]⟩,⟨9,none,[(14,some ([6], fun nv=>((nv 6),.list u8R 5 r13)))]⟩] [⟨some (25,[], fun nv=>.rd (z02 u8R) [111]),[(0,0,true)],[1],[]⟩,pk 26 (.val (z06 v1 (0+0))) [(1,0,false)],pk 27 (.rd z0n (({ a0 with Sig:=(⟨0,0⟩:z08) }).Author)) [(1,0,false)],pd 28 (.rd z2w ((({ a0 with Sig:=(⟨0,0⟩:z08) }).Author).toUInt64)),⟨some (29,[], fun nv=>.rd (z02 u8R) r7),[(2,0,true)],[2],[]⟩,pd 30 (.rd (z02 u8R) r5.1),pk 31 (.val (z06 v1 (0+2))) [(1,0,false)],pk 32 (.rd z2w (({ a0 with Sig:=(⟨0,0⟩:z08) }).Stamp)) [(1,0,false)],⟨some (33,[], fun nv=>.rd (z02 u8R) r10),[(3,0,true)],[3],[]⟩,pk 34 (.val (z06 v1 (0+3))) [(1,0,false)],pk 35 (.val (z06 v1 (0+3+0))) [(1,0,false)],pk 36 (.rd u8R ((({ a0 with Sig:=(⟨0,0⟩:z08) }).Act).Kind)) [(1,0,false)],⟨some (37,[], fun nv=>.rd (z02 u8R) [(({ a0 with Sig:=(⟨0,0⟩:z08) }).Act).Kind]),[(4,0,true)],[4],[]⟩,⟨some (38,[], fun nv=>.rd (z02 (z02 u8R)) [[111],r7,r5.1,r10,[(({ a0 with Sig:=(⟨0,0⟩:z08) }).Act).Kind]]),[(5,0,true)],[5],[]⟩,⟨some (39,[6], fun nv=>.val (nv 6)),[(6,0,true)],[6],[]⟩,⟨some (7,[6], fun nv=>.val (nv 6)),[],[],[]⟩] mixed (oC (oFz (A1:=fun nv=>[(4,some ((nv 1),.list u8R 5 [111]))]) 4 1 (oEf 4 1 (fun nv E=>lit (R:=u8R) ([111]:List UInt8) 4 (pP Z Z<|pN) Z tu129 ti5 Z Z)))<|oC (oRn (fun nv E=>faB 1 Z Z Tryz.underlying72 Z (by exact z5u)))<|oC (oRn (fun nv E=>ld 1 Z Z (fP (z2z _)) z92 Z))<|oC (oRn (fun nv E=>W.toU Z tu65 tu52))<|oC (oFz (A1:=fun nv=>[(5,some ((nv 2),.list u8R 5 r7))]) 5 2 (oCl [2] [] [(100,5)] h9 Tryz.func110 Z (fun nv=>(z7a _)) (fun nv=>(Y1 Z)) (fun nv E=>rN)))<|oC (oRn (fun nv E=>mv Z))<|oC (oRn (fun nv E=>faB 1 Z Z Tryz.underlying72 Z (by exact zq6)))<|oC (oRn (fun nv E=>ld 1 Z Z (fP (z2i _)) zpd Z))<|oC (oFz (A1:=fun nv=>[(6,some ((nv 3),.list u8R 5 r10))]) 6 3 (oCl [3] [] [(100,6)] h12 Tryz.func110 Z (fun nv=>(z7a _)) (fun nv=>(Y1 Z)) (fun nv E=>rN)))<|oC (oRn (fun nv E=>faB 1 Z Z Tryz.underlying72 Z (by exact zgd)))<|oC (oRn (fun nv E=>faB 1 Z Z Tryz.underlying64 Z (by exact ti5)))<|oC (oRn (fun nv E=>ld 1 Z Z ((fP (z11 _)).part (z1h _)) ty5 Z))<|oC (oFz (A1:=fun nv=>[(7,some ((nv 4),.list u8R 5 [(({ a0 with Sig:=(⟨0,0⟩:z08) }).Act).Kind]))]) 7 4 (oEf 7 4 (fun nv E=>lit (R:=u8R) ([(({ a0 with Sig:=(⟨0,0⟩:z08) }).Act).Kind]:List UInt8) 7 (pP Z Z<|pN) Z tu129 ti5 Z Z)))<|oC (oFz (A1:=fun nv=>[(8,some ((nv 5),.list (z02 u8R) 129 [[111],r7,r5.1,r10,[(({ a0 with Sig:=(⟨0,0⟩:z08) }).Act).Kind]]))]) 8 5 (oEf 8 5 (fun nv E=>lit (R:=(z02 u8R)) ([[111],r7,r5.1,r10,[(({ a0 with Sig:=(⟨0,0⟩:z08) }).Act).Kind]]:List (List UInt8)) 8 (pP Z Z<|pP Z Z<|pP Z Z<|pP Z Z<|pP Z Z<|pN) Z tu201 zje Z Z)))<|oC (oCl [6] [] [(100,9)] h15 Tryz.func109 Z (fun nv=>(z6l _)) (fun nv=>(Y1 Z)) (fun nv E=>rN))<|oC (oRn (fun nv E=>asg Z))<|oN) fun n16=>z0k<|z0s<|gSR<|Zq (faB 1 Z Z Tryz.underlying72 Z (by exact zgd))<|Zq (faB 1 Z Z Tryz.underlying64 Z (by exact ti5))<|Zq (ld 1 Z Z ((fP (z11 _)).part (z1h _)) ty5 Z)<|Zq (B.eql Z Z)<|Zj Z (fun h17=>?_) (fun h17=>?_)
  ·
   refine gSR<|Zm Z<|Za Z<|Zb Z<|z0l<|z0w<|Ze [(n16 6)] [9] Z
  ·
   refine Zt<|gSR<|Zq (faB 1 Z Z Tryz.underlying72 Z (by exact zgd))<|Zq (faB 1 Z Z Tryz.underlying64 Z (by exact ti9))<|Zq (ld 1 Z Z ((fP (z11 _)).part (z29 _)) ty9 Z)<|z0u fun u18 h19=>z145 Z Z h19 tu9 tu129 tu5<|Zc [] [(100,10)] Tryz.func111 Z (zjs _) fun r20 n21=>Zm Z<|Zq (ext Z Z)<|Zq (ext Z Z)<|Za Z<|Zb Z<|gSR<|Zm Z<|Zm Z<|z0u fun x22 h23=>Ef Z (apn 9 Z Z Z (.own 10 Z) h23 tu129 ti5 Z Z Z) fun v24=>Zb Z<|z0s<|gSR<|Zq (faB 1 Z Z Tryz.underlying72 Z (by exact zgd))<|Zq (faB 1 Z Z Tryz.underlying64 Z (by exact ti5))<|Zq (ld 1 Z Z ((fP (z11 _)).part (z1h _)) ty5 Z)<|Zq (B.eql Z Z)<|Zj Z (fun h25=>?_) (fun h25=>?_)
   ·
    refine gSR<|Zq (faB 1 Z Z Tryz.underlying72 Z (by exact zgd))<|Zq (faB 1 Z Z Tryz.underlying64 Z (by exact zem))<|Zq (ld 1 Z Z ((fP (z11 _)).part (z3k _)) zo4 Z)<|Zc [] [(100,11)] Tryz.func112 Z (zno _) fun r26 n27=>Zm Z<|Zq (ext Z Z)<|Zq (ext Z Z)<|Za Z<|Zb Z<|z28<|Zm Z<|Zm Z<|z0u fun x28 h29=>Ef Z (apn 9 Z Z Z (.own 11 Z) h29 tu129 ti5 Z Z Z) fun v30=>Zb Z<|gSR<|Zm Z<|Za Z<|Zb Z<|z0l<|Ze [v30] [9] Z
   ·
    refine Zt<|gSR<|Zm Z<|Za Z<|Zb Z<|z0l<|Ze [v24] [9] Z
def zf4 (a0:z05):Option ((List UInt8) × Int) :=
 zfu a0 >>= fun r2 =>
 if r2 != 0 then
  some ([],r2)
 else
  zc3 a0 >>= fun r5 =>
  z7h a0.Sig.E.toUInt64 >>= fun r7 =>
  z7h a0.Sig.S.toUInt64 >>= fun r9 =>
  z24 [r5.1,r7,r9] >>= fun r12 =>
  some (r12,0)
theorem zt1 (a0:z05):z1t Tryz.prog 118 [.rd z04 a0] [] (zf4 a0) (fun r nv=>⟨[.val (nv 0),.rd z0c r.2],[(100,some (nv 0,.list u8R 5 r.1))]⟩):=by
 refine z2p 30 Tryz.func118 Z Z Z fun H w=>?_
 refine gSR<|Eb Z (bx 1 Z) fun v1=>Za Z<|Zb Z<|z0s<|gSR<|Zq (ld 1 Z Z fH ze5 Z)<|Zc [] [] Tryz.func107 Z (zid _) fun r2 n3=>Zb Z<|gSR<|Zm Z<|Zq (I.neq Z Z)<|Zj Z (fun h4=>?_) (fun h4=>?_)
 ·
  refine gSR<|Zm Z<|Za Z<|Zb Z<|z0l<|z0w<|zy4 u8R 5 2<|Ze [(.slice none 0 0)] [2] Z
 ·
  refine Zt<|gSR<|Zq (ld 1 Z Z fH ze5 Z)<|Zc [] [(100,3)] Tryz.func77 Z (zft _) fun r5 n6=>Zm Z<|Zq (ext Z Z)<|Zq (ext Z Z)<|Za Z<|Zb Z<|z0s<|z6n [19,34,37,40] mixed Z Z<|hTk 0 Z Z (mv Z)<|hTk 1 Z Z (faB 1 Z Z Tryz.underlying72 Z (by exact zm3))<|hTk 2 Z Z (faB 1 Z Z Tryz.underlying70 Z (by exact z5u))<|hTk 3 Z Z (ld 1 Z Z ((fP (z2g _)).part (z4v _)) z92 Z)<|hTk 4 Z Z (W.toU Z tu65 tu52)<|hTk 6 Z Z (faB 1 Z Z Tryz.underlying72 Z (by exact zm3))<|hTk 7 Z Z (faB 1 Z Z Tryz.underlying70 Z (by exact z5u))<|hTk 8 Z Z (ld 1 Z Z ((fP (z2g _)).part (z6v _)) z92 Z)<|hTk 9 Z Z (W.toU Z tu65 tu52)<|z3a 5 [] [(100,19)] Z (by kernel_rfl) Z (gd0 Z) Z Tryz.func110 Z Z (z7a _) (Y1 Z) rN Z (fun _ _=>z3w) fun r7 n8=>z3a 10 [] [(100,34)] Z (by kernel_rfl) Z (gd0 Z) Z Tryz.func110 Z Z (z7a _) (Y1 Z) rN Z (fun _ _=>z3w) fun r9 n10=>hFrz 3 [15,5,17] Z (fS Z<|fS Z<|fS Z<|fN)<|hFrz 19 [22] Z (fS Z<|fN)<|hFrz 34 [27] Z (fS Z<|fN)<|Zo 11 Z Z Z (lit (R:=(z02 u8R)) ([r5.1,r7,r9]:List (List UInt8)) 37 (pP Z Z<|pP Z Z<|pP Z Z<|pN) Z tu201 zje Z Z) fun v11=>hFrz 37 [28] Z (fS Z<|fN)<|z3a 12 [] [(100,40)] Z (by kernel_rfl) Z (gd0 Z) Z Tryz.func109 Z Z (z6l _) (Y1 Z) rN Z (fun _ _=>z3w) fun r12 n13=>Zf 13 Z Z z3w (asg Z)<|hTk 14 Z Z (asg Z)<|z30 (by kernel_rfl)<|z0k<|z0l<|Ze [(n13 0)] [40] Z
def zdx (a0:List UInt8):Option (Bool) :=
 some (decide (10000<(a0.length:Int))) >>= fun y1 =>
 some y1
theorem zjg (a0:List UInt8):z1t Tryz.prog 202 [.rd (z02 u8R) a0] [] (zdx a0) (fun r nv=>⟨[.rd z0d r],[]⟩):=by
 refine z2p 6 Tryz.func202 Z Z Z fun H w=>?_
 refine gSR<|Zb Z<|gSR<|Zm Z<|Zq (z3s Z .rd Z tu129)<|Zq (I.gtr Z Z)<|Za Z<|z1x 2 Z fun y1=>Zn<|z0l<|Ze [] [] Z
def ze7  : Option (z2h) :=
 some (⟨(#v[1779033703,3144134277,1013904242,2773480762,1359893119,2600822924,528734635,1541459225]:Vector UInt32 8),[],0⟩:z2h)
theorem zmv  : z1t Tryz.prog 203 [] [] (ze7) (fun r nv=>⟨[.rd z2v r],[]⟩):=by
 refine z2p 3 Tryz.func203 Z Z Z fun H w=>?_
 refine gSR<|Eb Z (z5o 1 zoq (ZrE.rd (R:=(z3m 8 z0n)) (x:=(Vector.replicate 8 0)) zrd (ZrE.nilS (ZrE.rd (R:=z0c) (x:=0) (Zr.num Z) ZrE.nil Z)) Z)) fun v1=>Zn<|gSR<|Zq (litA (R:=z0n) [1779033703,3144134277,1013904242,2773480762,1359893119,2600822924,528734635,1541459225] (#v[1779033703,3144134277,1013904242,2773480762,1359893119,2600822924,528734635,1541459225]:Vector UInt32 8) (pP Z Z<|pP Z Z<|pP Z Z<|pP Z Z<|pP Z Z<|pP Z Z<|pP Z Z<|pP Z Z<|pN) Z tu194 zhy Z z5u)<|Zq (zz1 [(0,8),(8,1),(9,1)] Tryz.underlying241 zoq (ZrE.rd (R:=(z3m 8 z0n)) (x:=(Vector.replicate 8 0)) zrd (ZrE.nilS (ZrE.rd (R:=z0c) (x:=0) (Zr.num Z) ZrE.nil Z)) Z) Z (zn2.cons Z Z z2c (zbp.cast (zbp.here z2c) Z)<|zn2.done Z))<|Es (zze 1 Z Z (z0q.cast (z0q.cons z2c (z0q.cons z0e (z0q.cons z2c z0q.nil))) Z) Z (z6j.cons zeo (z6j.cons z23 (z6j.cons zeo z6j.nil))) (z0q.cast (z0q.cons z2c (z0q.cons z0e (z0q.cons z2c z0q.nil))) Z) zoq)<|Zn<|z0l<|zrm u8R [.rd (z3m 8 z0n) (#v[1779033703,3144134277,1013904242,2773480762,1359893119,2600822924,528734635,1541459225]:Vector UInt32 8),.rd (z02 u8R) [],.rd z0c 0] 1 [.rd (z3m 8 z0n) (#v[1779033703,3144134277,1013904242,2773480762,1359893119,2600822924,528734635,1541459225]:Vector UInt32 8)] [.rd z0c 0] Z Z Z<|eJoi (R:=z2v) (⟨(#v[1779033703,3144134277,1013904242,2773480762,1359893119,2600822924,528734635,1541459225]:Vector UInt32 8),[],0⟩:z2h) 1 Z (Sp.via (Sp.prod (Sp.prod (Sp.prod Sp.unit))))<|zcn [] [] Z (eC 1 Z Z zsh<|eN) (rN)
def z1l (a0:UInt32) (a1:Int):Option (UInt32) :=
 some ((UInt64.ofInt a1) &&& 31) >>= fun y1 =>
 some ((zq8 a0 y1.toNat) ||| (z4k a0 ((32 - y1).toNat))) >>= fun y2 =>
 some y2
theorem z2a (a0:UInt32) (a1:Int):z1t Tryz.prog 236 [.rd z0n a0,.rd z0c a1] [] (z1l a0 a1) (fun r nv=>⟨[.rd z0n r],[]⟩):=by
 refine z2p 17 Tryz.func236 Z Z Z fun H w=>?_
 refine gSR<|Zb Z<|gSR<|Zm Z<|Zq (I.toU Z tu3 Tryz.underlying149)<|Zq (U.and Z Z)<|Za Z<|z1x 5 Z fun y1=>Zn<|gSR<|Zm Z<|Zm Z<|Zq (W.shl Z Z (Int.natCast_nonneg _))<|Zm Z<|Zm Z<|Zq (U.sub Z Z)<|Zq (W.shr Z Z (Int.natCast_nonneg _))<|Zq (W.or Z Z)<|Za Z<|z1x 4 Z fun y2=>Zn<|z0l<|Ze [] [] Z
def z79 (x3:List UInt8) (s5:(Vector UInt32 64) × Int):Option (Sum ((Vector UInt32 64)) ((Vector UInt32 64) × Int)) :=
 if decide (s5.2<(x3.length:Int)) then
  idx x3 s5.2 >>= fun x7 =>
  z84 s5.1 (w64 (Int.tdiv s5.2 4)) >>= fun x9 =>
  z84 s5.1 (w64 (Int.tdiv s5.2 4)) >>= fun x11 =>
  some (.inr (zj9 s5.1 (w64 (Int.tdiv s5.2 4)) ((zq8 x9 8) ||| x7.toUInt32),w64 (s5.2+1)))
 else
  some (.inl s5.1)
def z59 (s14:(Vector UInt32 64) × Int):Option (Sum ((Vector UInt32 64)) ((Vector UInt32 64) × Int)) :=
 if decide (s14.2<64) then
  z84 s14.1 (w64 (s14.2 - 15)) >>= fun x16 =>
  z84 s14.1 (w64 (s14.2 - 2)) >>= fun x18 =>
  z1l x16 (-7) >>= fun r20 =>
  z1l x16 (-18) >>= fun r22 =>
  some ((r20 ^^^ r22) ^^^ (z4k x16 3)) >>= fun y24 =>
  z1l x18 (-17) >>= fun r25 =>
  z1l x18 (-19) >>= fun r27 =>
  some ((r25 ^^^ r27) ^^^ (z4k x18 10)) >>= fun y29 =>
  z84 s14.1 (w64 (s14.2 - 16)) >>= fun x30 =>
  z84 s14.1 (w64 (s14.2 - 7)) >>= fun x32 =>
  z84 s14.1 s14.2 >>= fun x34 =>
  some (w64 (s14.2+1)) >>= fun y37 =>
  some (.inr (zj9 s14.1 s14.2 (((x30+x32)+y24)+y29),y37))
 else
  some (.inl s14.1)
def zdv (a0:List UInt8):Option ((Vector UInt32 64)) :=
 (cut a0 0 64 >>= fun x3 =>
 iter (z79 x3) ((Vector.replicate 64 0),0)) >>= fun s2 =>
 (iter (z59) (s2,16)) >>= fun s13 =>
 some s13
set_option maxHeartbeats 4000000 in
theorem zjc (a0:List UInt8):z1t Tryz.prog 231 [.rd (z02 u8R) a0] [] (zdv a0) (fun r nv=>⟨[.rd (z3m 64 z0n) r],[]⟩):=by
 refine z2p 74 Tryz.func231 Z Z Z fun H w=>?_
 refine gSR<|Eb Z (z5o 1 z109 (.zr (R:=(z3m 64 z0n)) (x:=(Vector.replicate 64 0)) z18a)) fun v1=>Zn<|z8t (fun (s2:(Vector UInt32 64)) aa ww=>Sta (ctx 74 H [] w) [(2,.val (z06 v1 0))] [(1,some (v1,.box 264 [.rd (z3m 64 z0n) s2]))] aa ww) ?_ (fun s2=>?_)
 ·
  refine gSR<|Zm Z<|z0u fun x3 h4=>Zq (cut' Z .no (.to Z) h4 tu129 ti5)<|Zq (z3s Z .rd Z tu129)<|Zm Z<|Zn<|z1w (fun (s5:(Vector UInt32 64) × Int) aa ww=>Sta (ctx 74 H [] w) [(2,.val (z06 v1 0)),(11,.rd (z02 u8R) x3),(12,.rd z0c (x3.length:Int)),(13,.rd z0c s5.2)] [(1,some (v1,.box 264 [.rd (z3m 64 z0n) s5.1]))] aa ww) (fun aa ww h=>Zu h [1]) (fun s5=>?_)
  refine gSR<|Zq (I.lss Z Z)<|Zn<|z0s<|gIf Z Z (fun h6=>?_) (fun h6=>?_)
  ·
   refine Zt<|z0s<|z4w<|gSR<|Zm Z<|z0u fun x7 h8=>Zq (ixR Z Z h8 tu129 ti5 Z)<|Zq (ldR Z ty5)<|Za Z<|Zb Z<|z28<|Zm Z<|Zq (I.quo Z Z (by decide))<|Zm Z<|Zq (I.quo Z Z (by decide))<|z0u fun x9 h10=>Zq (ixB 1 Z Z Z h10 Tryz.underlying264 z5u)<|Zq (ld 1 Z Z (fP (.el h10)) z92 Z)<|Zq (W.shl Z Z (Int.natCast_nonneg _))<|Zm Z<|Zq (B.toW Z tu5 tu65)<|Zq (W.or Z Z)<|z0u fun x11 h12=>Zq (ixB 1 Z Z Z h12 Tryz.underlying264 z5u)<|Es (sto 1 Z Z (fP (.el h12)) Z z5u)<|z1s<|z38<|z0k<|z28<|Zq (I.add Z Z)<|Zm Z<|z1s<|z1g (fun aa ww h=>Zu h [1])
  ·
   refine z1r<|z0x<|z10<|z3t (fun aa ww h=>Zu h [1])
 ·
  refine z8t (fun (s13:(Vector UInt32 64)) aa ww=>Sta (ctx 74 H [] w) [(2,.val (z06 v1 0))] [(1,some (v1,.box 264 [.rd (z3m 64 z0n) s13]))] aa ww) ?_ (fun s13=>?_)
  ·
   refine gSR<|Zb Z<|z1w (fun (s14:(Vector UInt32 64) × Int) aa ww=>Sta (ctx 74 H [] w) [(2,.val (z06 v1 0)),(5,.rd z0c s14.2)] [(1,some (v1,.box 264 [.rd (z3m 64 z0n) s14.1]))] aa ww) (fun aa ww h=>Zu h [1]) (fun s14=>?_)
   refine z0s<|gSR<|Zm Z<|Zq (I.lss Z Z)<|Zj Z (fun h15=>?_) (fun h15=>?_)
   ·
    refine Zt<|z0s<|z4w<|z0s<|zit mixed (by kernel_rfl)<|Rq Z (mv Z)<|Rq Z (I.sub Z Z)<|z8f fun x16 h17=>Rq Z (ixB 1 Z Z Z h17 Tryz.underlying264 z5u)<|Rq Z (ld 1 Z Z (fP (.el h17)) z92 Z)<|Rq Z (mv Z)<|Rq Z (I.sub Z Z)<|z8f fun x18 h19=>Rq Z (ixB 1 Z Z Z h19 Tryz.underlying264 z5u)<|Rq Z (ld 1 Z Z (fP (.el h19)) z92 Z)<|Rq Z (asg Z)<|Rq Z (asg Z)<|ztz<|z0k<|gSR<|Zm Z<|Zc [] [] Tryz.func236 Z (z2a _ _) fun r20 n21=>Zm Z<|Zc [] [] Tryz.func236 Z (z2a _ _) fun r22 n23=>Zq (W.xor Z Z)<|Zm Z<|Zq (W.shr Z Z (Int.natCast_nonneg _))<|Zq (W.xor Z Z)<|Za Z<|z1x 8 Z fun y24=>Zn<|gSR<|Zm Z<|Zc [] [] Tryz.func236 Z (z2a _ _) fun r25 n26=>Zm Z<|Zc [] [] Tryz.func236 Z (z2a _ _) fun r27 n28=>Zq (W.xor Z Z)<|Zm Z<|Zq (W.shr Z Z (Int.natCast_nonneg _))<|Zq (W.xor Z Z)<|Za Z<|z1x 9 Z fun y29=>Zn<|gSub [(2,.val (z06 v1 0)),(5,.rd z0c s14.2),(8,.rd z0n y24),(9,.rd z0n y29)] [(1,some (v1,.box 264 [.rd (z3m 64 z0n) s14.1]))] [1] (Zs Z Z Z Z<|sN) (y1 Z)<|zbq fun x30 h31=>zbq fun x32 h33=>zbq fun x34 h35=>gOr [] [⟨1,some ([], fun nv=>(v1,.box 264 [.rd (z3m 64 z0n) s14.1])),[(15,some ([], fun nv=>(v1,.box 264 [.rd (z3m 64 z0n) (zj9 s14.1 s14.2 (((x30+x32)+y24)+y29))])))]⟩] [pd 58 (.rd z0c s14.2),pd 59 (.rd z0c s14.2),pd 60 (.rd z0c (w64 (s14.2 - 16))),pk 61 (.val (z06 v1 (0+(w64 (s14.2 - 16):Int).toNat * 1))) [(0,0,false)],pk 62 (.rd z0n x30) [(0,0,false)],pd 63 (.rd z0c s14.2),pd 64 (.rd z0c (w64 (s14.2 - 7))),pk 65 (.val (z06 v1 (0+(w64 (s14.2 - 7):Int).toNat * 1))) [(0,0,false)],pk 66 (.rd z0n x32) [(0,0,false)],pd 67 (.rd z0n (x30+x32)),pd 68 (.rd z0n y24),pd 69 (.rd z0n ((x30+x32)+y24)),pd 70 (.rd z0n y29),pd 71 (.rd z0n (((x30+x32)+y24)+y29)),pk 72 (.val (z06 v1 (0+(s14.2:Int).toNat * 1))) [(0,0,false)],⟨none,[(0,0,true)],[],[]⟩] mixed (oC (oRn (fun nv E=>mv Z))<|oC (oRn (fun nv E=>mv Z))<|oC (oRn (fun nv E=>I.sub Z Z))<|oC (oRn (fun nv E=>ixB 1 Z Z Z h31 Tryz.underlying264 z5u))<|oC (oRn (fun nv E=>ld 1 Z Z (fP (.el h31)) z92 Z))<|oC (oRn (fun nv E=>mv Z))<|oC (oRn (fun nv E=>I.sub Z Z))<|oC (oRn (fun nv E=>ixB 1 Z Z Z h33 Tryz.underlying264 z5u))<|oC (oRn (fun nv E=>ld 1 Z Z (fP (.el h33)) z92 Z))<|oC (oRn (fun nv E=>W.add Z Z))<|oC (oRn (fun nv E=>mv Z))<|oC (oRn (fun nv E=>W.add Z Z))<|oC (oRn (fun nv E=>mv Z))<|oC (oRn (fun nv E=>W.add Z Z))<|oC (oRn (fun nv E=>ixB 1 Z Z Z h35 Tryz.underlying264 z5u))<|oC (oEs 1 (fun nv E=>sto 1 Z Z (fP (.el h35)) Z z5u))<|oN) fun n36=>z38<|z0k<|z28<|Zm Z<|Zq (I.add Z Z)<|Za Z<|z1x 5 Z fun y37=>z1s<|z1g (fun aa ww h=>Zu h [1])
   ·
    refine z1r<|z0x<|z10<|z3t (fun aa ww h=>Zu h [1])
  ·
   refine gSR<|Zq (ld 1 Z Z fH z18y Z)<|Es (sto 1 Z Z fH Z z109)<|Zn<|z0l<|zcn [] [] Z (eC 1 Z Z z18y<|eN) (rN)
def zf8 (a0:UInt32) (a1:Int) (a2:Int) (a3:Int):Option (UInt32) :=
 z1l a0 (w64 (0 - a1)) >>= fun r1 =>
 z1l a0 (w64 (0 - a2)) >>= fun r3 =>
 z1l a0 (w64 (0 - a3)) >>= fun r5 =>
 some ((r1 ^^^ r3) ^^^ r5) >>= fun y7 =>
 some y7
theorem zk7 (a0:UInt32) (a1:Int) (a2:Int) (a3:Int):z1t Tryz.prog 232 [.rd z0n a0,.rd z0c a1,.rd z0c a2,.rd z0c a3] [] (zf8 a0 a1 a2 a3) (fun r nv=>⟨[.rd z0n r],[]⟩):=by
 refine z2p 23 Tryz.func232 Z Z Z fun H w=>?_
 refine gSR<|Zb Z<|gSR<|Zm Z<|Zm Z<|Zq (I.neg Z)<|Zc [] [] Tryz.func236 Z (z2a _ _) fun r1 n2=>Zm Z<|Zm Z<|Zq (I.neg Z)<|Zc [] [] Tryz.func236 Z (z2a _ _) fun r3 n4=>Zq (W.xor Z Z)<|Zm Z<|Zm Z<|Zq (I.neg Z)<|Zc [] [] Tryz.func236 Z (z2a _ _) fun r5 n6=>Zq (W.xor Z Z)<|Za Z<|z1x 8 Z fun y7=>Zn<|z0l<|Ze [] [] Z
def z8u (a0:List UInt8):Option ((List UInt8)) :=
 app 1 ([]:List UInt8) a0 >>= fun x3 =>
 some x3
theorem zad (a0:List UInt8):z1t Tryz.prog 225 [.rd (z02 u8R) a0] [] (z8u a0) (fun r nv=>⟨[.val (nv 0)],[(100,some (nv 0,.list u8R 5 r))]⟩):=by
 refine z2p 8 Tryz.func225 Z Z Z fun H w=>?_
 refine gSR<|Zb Z<|z0s<|gSR<|Zm Z<|z19b Z Z .rd Z tu129 (fun h1=>?_) ?_
 ·
  subst h1
  refine Zn<|zgn Z<|gSR<|Zb Z<|z0l<|z0w<|zy4 u8R 5 1<|Ze [(.slice none 0 0)] [1] Z
 ·
  refine Zn<|zeh Z<|Zt<|gSR<|Ef Z (lit (R:=u8R) (([]:List UInt8):List UInt8) 2 (pN) Z tu129 ti5 Z Z) fun v2=>Zm Z<|z0u fun x3 h4=>Ef Z (apn 2 Z Z Z .rd h4 tu129 ti5 Z Z Z) fun v5=>Zb Z<|z0l<|Ze [v5] [2] Z
def z5z (r1:(Vector UInt32 64)) (s21:UInt32 × UInt32 × UInt32 × UInt32 × UInt32 × UInt32 × UInt32 × UInt32 × Int):Option (Sum (UInt32 × UInt32 × UInt32 × UInt32 × UInt32 × UInt32 × UInt32 × UInt32) (UInt32 × UInt32 × UInt32 × UInt32 × UInt32 × UInt32 × UInt32 × UInt32 × Int)) :=
 if decide (s21.2.2.2.2.2.2.2.2<64) then
  z84 z5x s21.2.2.2.2.2.2.2.2 >>= fun x23 =>
  z84 r1 s21.2.2.2.2.2.2.2.2 >>= fun x25 =>
  zf8 s21.2.2.2.2.1 6 11 25 >>= fun r27 =>
  some ((((s21.2.2.2.2.2.2.2.1+r27)+((s21.2.2.2.2.1 &&& s21.2.2.2.2.2.1) ^^^ ((~~~s21.2.2.2.2.1) &&& s21.2.2.2.2.2.2.1)))+x23)+x25) >>= fun y29 =>
  zf8 s21.1 2 13 22 >>= fun r30 =>
  some (r30+(((s21.1 &&& s21.2.1) ^^^ (s21.1 &&& s21.2.2.1)) ^^^ (s21.2.1 &&& s21.2.2.1))) >>= fun y32 =>
  some (s21.2.2.2.1+y29) >>= fun y33 =>
  some (.inr (y29+y32,s21.1,s21.2.1,s21.2.2.1,y33,s21.2.2.2.2.1,s21.2.2.2.2.2.1,s21.2.2.2.2.2.2.1,w64 (s21.2.2.2.2.2.2.2.2+1)))
 else
  some (.inl (s21.1,s21.2.1,s21.2.2.1,s21.2.2.2.1,s21.2.2.2.2.1,s21.2.2.2.2.2.1,s21.2.2.2.2.2.2.1,s21.2.2.2.2.2.2.2.1))
def ze0 (s20:UInt32 × UInt32 × UInt32 × UInt32 × UInt32 × UInt32 × UInt32 × UInt32) (s34:(Vector UInt32 8) × Int):Option (Sum ((Vector UInt32 8)) ((Vector UInt32 8) × Int)) :=
 if decide (s34.2<8) then
  z84 (#v[s20.1,s20.2.1,s20.2.2.1,s20.2.2.2.1,s20.2.2.2.2.1,s20.2.2.2.2.2.1,s20.2.2.2.2.2.2.1,s20.2.2.2.2.2.2.2]:Vector UInt32 8) s34.2 >>= fun x36 =>
  z84 s34.1 s34.2 >>= fun x38 =>
  z84 s34.1 s34.2 >>= fun x40 =>
  some (.inr (zj9 s34.1 s34.2 (x38+x36),w64 (s34.2+1)))
 else
  some (.inl s34.1)
def zej (c0:Vector UInt32 8) (a1:List UInt8):Option ((Vector UInt32 8)) :=
 zdv a1 >>= fun r1 =>
 z84 c0 0 >>= fun x4 =>
 z84 c0 1 >>= fun x6 =>
 z84 c0 2 >>= fun x8 =>
 z84 c0 3 >>= fun x10 =>
 z84 c0 4 >>= fun x12 =>
 z84 c0 5 >>= fun x14 =>
 z84 c0 6 >>= fun x16 =>
 z84 c0 7 >>= fun x18 =>
 (iter (z5z r1) (x4,x6,x8,x10,x12,x14,x16,x18,0)) >>= fun s20 =>
 iter (ze0 s20) (c0,0)
theorem zni (ph0:Value) (kh0:Nat) (uh0:(Vector UInt32 8)→z4b) (hh0:∀ y,Foc (uh0 y) kh0 (z3m 8 z0n) y uh0) (c0:Vector UInt32 8) (a1:List UInt8):z1t Tryz.prog 224 [.val (z06 ph0 kh0),.rd (z02 u8R) a1] [(1,some (ph0,uh0 c0)),zG1] (zej c0 a1) (fun r nv=>⟨[],[(1,some (ph0,uh0 r)),(1001,some (.bool true,.glob 1 (z3m 64 z0n) z5x))]⟩):=by
 refine z2p 126 Tryz.func224 Z Z Z fun H w=>?_
 refine gSR<|Zm Z<|Zc [] [] Tryz.func231 Z (zjc _) fun r1 n2=>Eb Z (z5o 2 z109 (.zr (R:=(z3m 64 z0n)) (x:=(Vector.replicate 64 0)) z18a)) fun v3=>Es (sto 2 Z Z fH Z z109)<|Zn<|z0s<|zit mixed (by kernel_rfl)<|Rq Z (mv Z)<|Rq Z (nckP 1 Z Z (hh0 _))<|z8f fun x4 h5=>Rq Z (ixH 1 Z Z (hh0 _) Z h5 tu194 z5u)<|Rq Z (ld 1 Z Z ((hh0 _).part (.el h5)) z92 Z)<|Rq Z (mv Z)<|Rq Z (nckP 1 Z Z (hh0 _))<|z8f fun x6 h7=>Rq Z (ixH 1 Z Z (hh0 _) Z h7 tu194 z5u)<|Rq Z (ld 1 Z Z ((hh0 _).part (.el h7)) z92 Z)<|Rq Z (mv Z)<|Rq Z (nckP 1 Z Z (hh0 _))<|z8f fun x8 h9=>Rq Z (ixH 1 Z Z (hh0 _) Z h9 tu194 z5u)<|Rq Z (ld 1 Z Z ((hh0 _).part (.el h9)) z92 Z)<|Rq Z (mv Z)<|Rq Z (nckP 1 Z Z (hh0 _))<|z8f fun x10 h11=>Rq Z (ixH 1 Z Z (hh0 _) Z h11 tu194 z5u)<|Rq Z (ld 1 Z Z ((hh0 _).part (.el h11)) z92 Z)<|Rq Z (mv Z)<|Rq Z (nckP 1 Z Z (hh0 _))<|z8f fun x12 h13=>Rq Z (ixH 1 Z Z (hh0 _) Z h13 tu194 z5u)<|Rq Z (ld 1 Z Z ((hh0 _).part (.el h13)) z92 Z)<|Rq Z (mv Z)<|Rq Z (nckP 1 Z Z (hh0 _))<|z8f fun x14 h15=>Rq Z (ixH 1 Z Z (hh0 _) Z h15 tu194 z5u)<|Rq Z (ld 1 Z Z ((hh0 _).part (.el h15)) z92 Z)<|Rq Z (mv Z)<|Rq Z (nckP 1 Z Z (hh0 _))<|z8f fun x16 h17=>Rq Z (ixH 1 Z Z (hh0 _) Z h17 tu194 z5u)<|Rq Z (ld 1 Z Z ((hh0 _).part (.el h17)) z92 Z)<|Rq Z (mv Z)<|Rq Z (nckP 1 Z Z (hh0 _))<|z8f fun x18 h19=>Rq Z (ixH 1 Z Z (hh0 _) Z h19 tu194 z5u)<|Rq Z (ld 1 Z Z ((hh0 _).part (.el h19)) z92 Z)<|Rq Z (asg Z)<|Rq Z (asg Z)<|Rq Z (asg Z)<|Rq Z (asg Z)<|Rq Z (asg Z)<|Rq Z (asg Z)<|Rq Z (asg Z)<|Rq Z (asg Z)<|ztz<|z0k<|z8t (fun (s20:UInt32 × UInt32 × UInt32 × UInt32 × UInt32 × UInt32 × UInt32 × UInt32) aa ww=>Sta (ctx 126 H [(1,some (ph0,uh0 c0)),zG1] w) [(0,.val (z06 ph0 kh0)),(5,.rd z0n s20.1),(6,.rd z0n s20.2.1),(7,.rd z0n s20.2.2.1),(8,.rd z0n s20.2.2.2.1),(9,.rd z0n s20.2.2.2.2.1),(10,.rd z0n s20.2.2.2.2.2.1),(11,.rd z0n s20.2.2.2.2.2.2.1),(12,.rd z0n s20.2.2.2.2.2.2.2)] [(1,some (ph0,uh0 c0)),zG1] aa ww) ?_ (fun s20=>?_)
 ·
  refine gSR<|Zm Z<|Zn<|z1w (fun (s21:UInt32 × UInt32 × UInt32 × UInt32 × UInt32 × UInt32 × UInt32 × UInt32 × Int) aa ww=>Sta (ctx 126 H [(1,some (ph0,uh0 c0)),zG1] w) [(0,.val (z06 ph0 kh0)),(4,.val (z06 v3 0)),(5,.rd z0n s21.1),(6,.rd z0n s21.2.1),(7,.rd z0n s21.2.2.1),(8,.rd z0n s21.2.2.2.1),(9,.rd z0n s21.2.2.2.2.1),(10,.rd z0n s21.2.2.2.2.2.1),(11,.rd z0n s21.2.2.2.2.2.2.1),(12,.rd z0n s21.2.2.2.2.2.2.2.1),(52,.rd z0c s21.2.2.2.2.2.2.2.2)] [(1,some (ph0,uh0 c0)),(2,some (v3,.box 264 [.rd (z3m 64 z0n) r1])),zG1] aa ww) (fun aa ww h=>Zu h [1,2,1001]) (fun s21=>?_)
  refine gSR<|Zq (I.lss Z Z)<|Zn<|z0s<|gIf Z Z (fun h22=>?_) (fun h22=>?_)
  ·
   refine Zt<|z0s<|z4w<|gSR<|Zm Z<|Zb Z<|z0s<|z6n [] mixed Z Z<|hTk 0 Z Z (mv Z)<|hTk 1 Z Z (mv Z)<|hTk 4 Z Z (mv Z)<|hTk 5 Z Z (mv Z)<|hTk 6 Z Z (W.and Z Z)<|hTk 7 Z Z (mv Z)<|hTk 8 Z Z (W.cpl Z)<|hTk 9 Z Z (mv Z)<|hTk 10 Z Z (W.and Z Z)<|hTk 11 Z Z (W.xor Z Z)<|hTk 13 Z Z (mv Z)<|z4c fun x23 h24=>hTk 14 Z Z (ixG 1001 Z Z h24 Tryz.underlying264 z5u)<|hTk 15 Z Z (ldR Z z92)<|hTk 17 Z Z (mv Z)<|z4c fun x25 h26=>hTk 18 Z Z (ixB 2 Z Z Z h26 Tryz.underlying264 z5u)<|hTk 19 Z Z (ld 2 Z Z (fP (.el h26)) z92 Z)<|z3a 2 [] [] Z (by kernel_rfl) Z (gd0 Z) Z Tryz.func232 Z Z (zk7 _ _ _ _) (aQ Z<|aQ Z<|aQ Z<|aQ Z<|aN) rN Z (fun _ _=>z27) fun r27 n28=>hTk 3 Z Z (W.add Z Z)<|hTk 12 Z Z (W.add Z Z)<|hTk 16 Z Z (W.add Z Z)<|hTk 20 Z Z (W.add Z Z)<|hTk 21 Z Z (asg Z)<|z10k 14 Z Z fun y29=>z30 (by kernel_rfl)<|z0k<|gSR<|Zm Z<|Zc [] [] Tryz.func232 Z (zk7 _ _ _ _) fun r30 n31=>Zm Z<|Zm Z<|Zq (W.and Z Z)<|Zm Z<|Zm Z<|Zq (W.and Z Z)<|Zq (W.xor Z Z)<|Zm Z<|Zm Z<|Zq (W.and Z Z)<|Zq (W.xor Z Z)<|Zq (W.add Z Z)<|Za Z<|z1x 15 Z fun y32=>Zn<|z28<|Zm Z<|Zm Z<|Zq (W.add Z Z)<|Zm Z<|Zm Z<|Zm Z<|Zm Z<|Zm Z<|Zq (W.add Z Z)<|Zm Z<|Zm Z<|Zm Z<|Za Z<|Za Z<|Za Z<|Za Z<|Za Z<|z1x 9 Z fun y33=>Za Z<|Za Z<|Za Z<|z1s<|z38<|z0k<|z28<|Zq (I.add Z Z)<|Zm Z<|z1s<|z1g (fun aa ww h=>Zu h [1,2,1001])
  ·
   refine z1r<|z0x<|z10<|z3t (fun aa ww h=>Zu h [1,1001])
 ·
  refine gSR<|Zm Z<|Zm Z<|Zm Z<|Zm Z<|Zm Z<|Zm Z<|Zm Z<|Zm Z<|Zq (litA (R:=z0n) [s20.1,s20.2.1,s20.2.2.1,s20.2.2.2.1,s20.2.2.2.2.1,s20.2.2.2.2.2.1,s20.2.2.2.2.2.2.1,s20.2.2.2.2.2.2.2] (#v[s20.1,s20.2.1,s20.2.2.1,s20.2.2.2.1,s20.2.2.2.2.1,s20.2.2.2.2.2.1,s20.2.2.2.2.2.2.1,s20.2.2.2.2.2.2.2]:Vector UInt32 8) (pP Z Z<|pP Z Z<|pP Z Z<|pP Z Z<|pP Z Z<|pP Z Z<|pP Z Z<|pP Z Z<|pN) Z tu194 zhy Z z5u)<|Zm Z<|Zn<|z1w (fun (s34:(Vector UInt32 8) × Int) aa ww=>Sta (ctx 126 H [(1,some (ph0,uh0 c0)),zG1] w) [(0,.val (z06 ph0 kh0)),(111,.rd (z3m 8 z0n) (#v[s20.1,s20.2.1,s20.2.2.1,s20.2.2.2.1,s20.2.2.2.2.1,s20.2.2.2.2.2.1,s20.2.2.2.2.2.2.1,s20.2.2.2.2.2.2.2]:Vector UInt32 8)),(112,.rd z0c s34.2)] [(1,some (ph0,uh0 s34.1)),zG1] aa ww) (fun aa ww h=>Zu h [1,1001]) (fun s34=>?_)
  refine gSR<|Zq (I.lss Z Z)<|Zn<|z0s<|gIf Z Z (fun h35=>?_) (fun h35=>?_)
  ·
   refine Zt<|z0s<|z4w<|gSR<|Zm Z<|z0u fun x36 h37=>Zq (idxV Z Z h37 tu194 z5u z92)<|Za Z<|Zb Z<|z6n [1] mixed Z Z<|hTk 0 Z Z (mv Z)<|hTk 1 Z Z (mv Z)<|hTk 2 Z Z (nckP 1 Z Z (hh0 _))<|z4c fun x38 h39=>hTk 3 Z Z (ixH 1 Z Z (hh0 _) Z h39 tu194 z5u)<|hTk 5 Z Z (mv Z)<|hTk 7 Z Z (nckP 1 Z Z (hh0 _))<|hRun 4 Z (by kernel_rfl) (gd0 Z) Z Z z27 (ld 1 Z Z ((hh0 _).part (.el h39)) z92 Z)<|hTk 6 Z Z (W.add Z Z)<|z4c fun x40 h41=>hTk 8 Z Z (ixH 1 Z Z (hh0 _) Z h41 tu194 z5u)<|Zp 9 Z Z Z Z Z (sto 1 Z Z ((hh0 _).part (.el h41)) Z z5u)<|z30 (by kernel_rfl)<|z38<|z0k<|z28<|Zq (I.add Z Z)<|Zm Z<|z1s<|z1g (fun aa ww h=>Zu h [1,1001])
  ·
   refine z1r<|z0x<|z10<|Ze [] [1,1001] Z
def za4 (s7:z2h × (List UInt8)):Option (Sum (z2h × (List UInt8)) (z2h × (List UInt8))) :=
 if decide (64≤(s7.2.length:Int)) then
  zej s7.1.Words s7.2 >>= fun r10 =>
  cut s7.2 64 (s7.2.length:Int) >>= fun x12 =>
  some (.inr ({ s7.1 with Words:=r10 },x12))
 else
  some (.inl (s7.1,s7.2))
def zc5 (a0:z2h) (a1:List UInt8):Option (z2h) :=
 z24 [a0.Rest,a1] >>= fun r4 =>
 (iter (za4) (a0,r4)) >>= fun s6 =>
 z8u s6.2 >>= fun r14 =>
 some (⟨({ s6.1 with N:=w64 (s6.1.N+(a1.length:Int)) }).Words,r14,({ s6.1 with N:=w64 (s6.1.N+(a1.length:Int)) }).N⟩:z2h)
theorem zi5 (a0:z2h) (a1:List UInt8):z1t Tryz.prog 204 [.rd z2v a0,.rd (z02 u8R) a1] [zG1] (zc5 a0 a1) (fun r nv=>⟨[.rd z2v r],[(1001,some (.bool true,.glob 1 (z3m 64 z0n) z5x))]⟩):=by
 refine z2p 29 Tryz.func204 Z Z Z fun H w=>?_
 refine gSR<|Eb Z (bx 1 Z) fun v1=>Eb Z (z5o 2 zoq (ZrE.rd (R:=(z3m 8 z0n)) (x:=(Vector.replicate 8 0)) zrd (ZrE.nilS (ZrE.rd (R:=z0c) (x:=0) (Zr.num Z) ZrE.nil Z)) Z)) fun v2=>Zn<|gSR<|Zq (faB 1 Z Z Tryz.underlying241 Z (by exact zje))<|Zq (ld 1 Z Z (fP (zlv _)) zyp Z)<|Zm Z<|Ef Z (lit (R:=(z02 u8R)) ([a0.Rest,a1]:List (List UInt8)) 3 (pP Z Z<|pP Z Z<|pN) Z tu201 zje Z Z) fun v3=>zkx 3 [9] Z (fS Z<|fN)<|Zc [] [(100,4)] Tryz.func109 Z (z6l _) fun r4 n5=>Zb Z<|z8t (fun (s6:z2h × (List UInt8)) aa ww=>Sta (ctx 29 H [zG1] w) [(1,.rd (z02 u8R) a1),(2,.val (z06 v1 0)),(4,.val (z06 v2 0)),(5,.rd (z02 u8R) s6.2)] [(1,some (v1,.box 241 [.rd z2v s6.1])),(2,some (v2,.box 241 [.rd (z3m 8 z0n) (Vector.replicate 8 0),.val (.slice none 0 0),.rd z0c 0])),zG1] aa ww) ?_ (fun s6=>?_)
 ·
  refine gFrz 4 [10,5] Z (fS Z<|fS Z<|fN)<|z1w (fun (s7:z2h × (List UInt8)) aa ww=>Sta (ctx 29 H [zG1] w) [(1,.rd (z02 u8R) a1),(2,.val (z06 v1 0)),(4,.val (z06 v2 0)),(5,.rd (z02 u8R) s7.2)] [(1,some (v1,.box 241 [.rd z2v s7.1])),(2,some (v2,.box 241 [.rd (z3m 8 z0n) (Vector.replicate 8 0),.val (.slice none 0 0),.rd z0c 0])),zG1] aa ww) (fun aa ww h=>Zu h [1,2,1001]) (fun s7=>?_)
  refine z0s<|gSR<|Zm Z<|Zq (z3s Z .rd Z tu129)<|Zq (I.geq Z Z)<|Zj Z (fun h8=>?_) (fun h8=>?_)
  ·
   refine Zt<|z4w<|gSR<|Zq (faB 1 Z Z Tryz.underlying241 Z (by exact zhy))<|Zm Z<|call [1,1001] [(1,1)] Z Tryz.func224 Z Z (zni _ _ (fun y9=>.box 241 [.rd z2v ({ s7.1 with Words:=y9 })]) (fun _=>(fP (zf5 _))) _ _) (Y2 Z Z) (Zi Z<|Zi Z<|rN) fun r10 n11=>Zn<|z28<|Zm Z<|z0u fun x12 h13=>Zq (cut' Z (.to Z) .no h13 tu129 ti5)<|Za Z<|z1s<|z38<|z1g (fun aa ww h=>Zu h [1,2,1001])
  ·
   refine z1r<|z0x<|z10<|z3t (fun aa ww h=>Zu h [1,2,1001])
 ·
  refine z0s<|z6n [1,1020] mixed Z Z<|hTk 0 Z Z (faB 1 Z Z Tryz.underlying241 Z (by exact ti3))<|hTk 2 Z Z (mv Z)<|hTk 3 Z Z (z3s Z .rd Z tu129)<|hTk 5 Z Z (mv Z)<|hAlt [1,6] (by kernel_rfl) Z ⟨?_,?_,trivial⟩
  ·
   refine oRun 1 Z (gd0 Z) Z Z z27 (ld 1 Z Z (fP (z9t _)) ty3 Z)<|hTk 4 Z Z (I.add Z Z)<|z3a 6 [] [(100,1020)] Z (by kernel_rfl) Z (gd0 Z) Z Tryz.func225 Z Z (zad _) (Y1 Z) rN Z (fun _ _=>z3w) fun r14 n15=>hTk 7 Z Z (faB 1 Z Z Tryz.underlying241 Z (by exact ti3))<|Zp 8 Z Z Z Z Z (sto 1 Z Z (fP (z9t _)) Z ti3)<|Zf 9 Z Z z3w (faB 1 Z Z Tryz.underlying241 Z (by exact zje))<|hSpl (R:=z2v) 1 Z (Sp.via (Sp.prod (Sp.prod (Sp.prod Sp.unit))))<|Zp 10 Z Z Z Z Z (zta 1 Z Z (zbp.cast (zbp.next z2c (zbp.here z2c)) Z) Z z23 z0e zje)<|z30 (by kernel_rfl)<|z0k<|gSR<|zxy [.rd (z3m 8 z0n) (({ s6.1 with N:=w64 (s6.1.N+(a1.length:Int)) }).Words),.rd (z02 u8R) r14,.rd z0c (({ s6.1 with N:=w64 (s6.1.N+(a1.length:Int)) }).N)] 1 1020 [.rd (z3m 8 z0n) (({ s6.1 with N:=w64 (s6.1.N+(a1.length:Int)) }).Words)] [.rd z0c (({ s6.1 with N:=w64 (s6.1.N+(a1.length:Int)) }).N)] Z Z Z Z Z<|ze3 (R:=z2v) (⟨({ s6.1 with N:=w64 (s6.1.N+(a1.length:Int)) }).Words,r14,({ s6.1 with N:=w64 (s6.1.N+(a1.length:Int)) }).N⟩:z2h) 1 Z (Sp.via (Sp.prod (Sp.prod (Sp.prod Sp.unit))))<|Zq (ld 1 Z Z fH zsh Z)<|zbv u8R [.rd (z3m 8 z0n) (Vector.replicate 8 0),.rd (z02 u8R) [],.rd z0c 0] 2 [.rd (z3m 8 z0n) (Vector.replicate 8 0)] [.rd z0c 0] Z Z Z<|ze3 (R:=z2v) (⟨(Vector.replicate 8 0),[],0⟩:z2h) 2 Z (Sp.via (Sp.prod (Sp.prod (Sp.prod Sp.unit))))<|Es (sto 2 Z Z fH Z zoq)<|Zn<|z0l<|zcn [] [1001] Z (eC 2 Z Z zsh<|eN) (y1 Z)
  ·
   refine z19t 6 [] [(100,1020)] Z Z (gd0 Z) Z Tryz.func225 Z Z (zad _) (Y1 Z) rN Z (fun _ _=>z3w) fun r16 n17=>hRun 1 Z (by kernel_rfl) (gd0 Z) Z Z z27 (ld 1 Z Z (fP (z9t _)) ty3 Z)<|hTk 4 Z Z (I.add Z Z)<|hTk 7 Z Z (faB 1 Z Z Tryz.underlying241 Z (by exact ti3))<|Zp 8 Z Z Z Z Z (sto 1 Z Z (fP (z9t _)) Z ti3)<|Zf 9 Z Z z3w (faB 1 Z Z Tryz.underlying241 Z (by exact zje))<|hSpl (R:=z2v) 1 Z (Sp.via (Sp.prod (Sp.prod (Sp.prod Sp.unit))))<|Zp 10 Z Z Z Z Z (zta 1 Z Z (zbp.cast (zbp.next z2c (zbp.here z2c)) Z) Z z23 z0e zje)<|z30 (by kernel_rfl)<|z0k<|gSR<|zxy [.rd (z3m 8 z0n) (({ s6.1 with N:=w64 (s6.1.N+(a1.length:Int)) }).Words),.rd (z02 u8R) r16,.rd z0c (({ s6.1 with N:=w64 (s6.1.N+(a1.length:Int)) }).N)] 1 1020 [.rd (z3m 8 z0n) (({ s6.1 with N:=w64 (s6.1.N+(a1.length:Int)) }).Words)] [.rd z0c (({ s6.1 with N:=w64 (s6.1.N+(a1.length:Int)) }).N)] Z Z Z Z Z<|ze3 (R:=z2v) (⟨({ s6.1 with N:=w64 (s6.1.N+(a1.length:Int)) }).Words,r16,({ s6.1 with N:=w64 (s6.1.N+(a1.length:Int)) }).N⟩:z2h) 1 Z (Sp.via (Sp.prod (Sp.prod (Sp.prod Sp.unit))))<|Zq (ld 1 Z Z fH zsh Z)<|zbv u8R [.rd (z3m 8 z0n) (Vector.replicate 8 0),.rd (z02 u8R) [],.rd z0c 0] 2 [.rd (z3m 8 z0n) (Vector.replicate 8 0)] [.rd z0c 0] Z Z Z<|ze3 (R:=z2v) (⟨(Vector.replicate 8 0),[],0⟩:z2h) 2 Z (Sp.via (Sp.prod (Sp.prod (Sp.prod Sp.unit))))<|Es (sto 2 Z Z fH Z zoq)<|Zn<|z0l<|zcn [] [1001] Z (eC 2 Z Z zsh<|eN) (y1 Z)
def zbg (y3:UInt64) (s9:(List UInt8) × Int):Option (Sum ((List UInt8)) ((List UInt8) × Int)) :=
 if decide (0≤s9.2) then
  chk (0≤s9.2) >>= fun u12 =>
  app 1 s9.1 [(z85 y3 ((s9.2:Int).toNat)).toUInt8] >>= fun x15 =>
  some (w64 (s9.2 - 8)) >>= fun y18 =>
  some (.inr (x15,y18))
 else
  some (.inl s9.1)
def z9g (r21:z2h) (s23:V3 × Int):Option (Sum (V3) (V3 × Int)) :=
 if decide (s23.2<8) then
  z84 r21.Words s23.2 >>= fun x25 =>
  z84 s23.1 (w64 (4 * s23.2)) >>= fun x27 =>
  z84 (zj9 s23.1 (w64 (4 * s23.2)) ((z4k x25 24).toUInt8)) (w64 ((w64 (4 * s23.2))+1)) >>= fun x29 =>
  z84 (zj9 (zj9 s23.1 (w64 (4 * s23.2)) ((z4k x25 24).toUInt8)) (w64 ((w64 (4 * s23.2))+1)) ((z4k x25 16).toUInt8)) (w64 ((w64 (4 * s23.2))+2)) >>= fun x31 =>
  z84 (zj9 (zj9 (zj9 s23.1 (w64 (4 * s23.2)) ((z4k x25 24).toUInt8)) (w64 ((w64 (4 * s23.2))+1)) ((z4k x25 16).toUInt8)) (w64 ((w64 (4 * s23.2))+2)) ((z4k x25 8).toUInt8)) (w64 ((w64 (4 * s23.2))+3)) >>= fun x33 =>
  some (.inr (zj9 (zj9 (zj9 (zj9 s23.1 (w64 (4 * s23.2)) ((z4k x25 24).toUInt8)) (w64 ((w64 (4 * s23.2))+1)) ((z4k x25 16).toUInt8)) (w64 ((w64 (4 * s23.2))+2)) ((z4k x25 8).toUInt8)) (w64 ((w64 (4 * s23.2))+3)) x25.toUInt8,w64 (s23.2+1)))
 else
  some (.inl s23.1)
def zh4 (a0:z2h):Option (V3) :=
 some ((UInt64.ofInt a0.N) * 8) >>= fun y3 =>
 appz 1 [128] 0 (Int.tmod (w64 (119 - (Int.tmod a0.N 64))) 64) >>= fun x5 =>
 (iter (zbg y3) (x5,56)) >>= fun s8 =>
 (zc5 a0 s8 >>= fun r21 =>
 iter (z9g r21) ((Vector.replicate 32 0),0)) >>= fun s20 =>
 some s20
theorem zpv (a0:z2h):z1t Tryz.prog 205 [.rd z2v a0] [zG1] (zh4 a0) (fun r nv=>⟨[.rd aZ r],[(1001,some (.bool true,.glob 1 (z3m 64 z0n) z5x))]⟩):=by
 refine z2p 66 Tryz.func205 Z Z Z fun H w=>?_
 refine gSR<|Eb Z (bx 1 Z) fun v1=>Eb Z (z5o 2 z33 (.zr (R:=aZ) (x:=(Vector.replicate 32 0)) zex)) fun v2=>Zn<|gSR<|Zq (faB 1 Z Z Tryz.underlying241 Z (by exact ti3))<|Zq (ld 1 Z Z (fP (z9t _)) ty3 Z)<|Zq (I.toU Z tu3 tu52)<|Zq (U.mul Z Z)<|Za Z<|z1x 3 Z fun y3=>Zn<|gSR<|Ef Z (lit (R:=u8R) ([128]:List UInt8) 3 (pP Z Z<|pN) Z tu129 ti5 Z Z) fun v4=>Zq (faB 1 Z Z Tryz.underlying241 Z (by exact ti3))<|Zq (ld 1 Z Z (fP (z9t _)) ty3 Z)<|Zq (I.rem Z Z (by decide))<|Zq (I.sub Z Z)<|Zq (I.rem Z Z (by decide))<|z0u fun x5 h6=>Ef Z (apZO 3 Z Z Z h6 tu129 tu3 ti5 (Zr.num Z) Z) fun v7=>Zb Z<|z8t (fun (s8:(List UInt8)) aa ww=>∃ nv:Nat→Value,Sta (ctx 66 H [zG1] w) [(1,.val (z06 v1 0)),(2,.val (z06 v2 0)),(4,.val (nv 0))] [(1,some (v1,.box 241 [.rd z2v a0])),(2,some (v2,.box 78 [.rd aZ (Vector.replicate 32 0)])),(3,some ((nv 0),.list u8R 5 s8)),zG1] aa ww) ?_ (fun s8=>?_)
 ·
  refine gSR<|Zb Z<|z1w (fun (s9:(List UInt8) × Int) aa ww=>∃ nv:Nat→Value,Sta (ctx 66 H [zG1] w) [(1,.val (z06 v1 0)),(2,.val (z06 v2 0)),(3,.rd z2w y3),(4,.val (nv 0)),(5,.rd z0c s9.2)] [(1,some (v1,.box 241 [.rd z2v a0])),(2,some (v2,.box 78 [.rd aZ (Vector.replicate 32 0)])),(3,some ((nv 0),.list u8R 5 s9.1)),zG1] aa ww) (fun aa ww h=>⟨nvl [v7],Zu h [1,2,3,1001]⟩) (fun s9=>?_)
  refine gEx fun n10=>z0s<|gSR<|Zm Z<|Zq (I.geq Z Z)<|Zj Z (fun h11=>?_) (fun h11=>?_)
  ·
   refine Zt<|z0s<|z4w<|z28<|Zm Z<|Zm Z<|Zm Z<|z0u fun u12 h13=>Zq (U.shr Z Z (z6g h13))<|Zq (U.toB Z tu52 tu5)<|Ef Z (lit (R:=u8R) ([(z85 y3 ((s9.2:Int).toNat)).toUInt8]:List UInt8) 1100 (pP Z Z<|pN) Z tu129 ti5 Z Z) fun v14=>z0u fun x15 h16=>Ef Z (apn 3 Z Z Z (.own 1100 Z) h16 tu129 ti5 Z Z Z) fun v17=>Za Z<|z1s<|z38<|z0k<|z28<|Zm Z<|Zq (I.sub Z Z)<|Za Z<|z1x 5 Z fun y18=>z1s<|z1g (fun aa ww h=>⟨nvl [v17],Zu h [1,2,3,1001]⟩)
  ·
   refine z1r<|z0x<|z10<|z3t (fun aa ww h=>⟨nvl [(n10 0)],Zu h [1,2,3,1001]⟩)
 ·
  refine gEx fun n19=>z8t (fun (s20:V3) aa ww=>Sta (ctx 66 H [zG1] w) [(2,.val (z06 v2 0))] [(2,some (v2,.box 78 [.rd aZ s20])),zG1] aa ww) ?_ (fun s20=>?_)
  ·
   refine gSR<|Zq (ld 1 Z Z fH zsh Z)<|Zm Z<|zkx 3 [4,31] Z (fS Z<|fS Z<|fN)<|Zc [1001] [] Tryz.func204 Z (zi5 _ _) fun r21 n22=>Zq (fldV Z (zf5 _) Z Tryz.underlying241 Z zr8)<|Zm Z<|Zn<|z1w (fun (s23:V3 × Int) aa ww=>Sta (ctx 66 H [zG1] w) [(2,.val (z06 v2 0)),(33,.rd (z3m 8 z0n) r21.Words),(34,.rd z0c s23.2)] [(2,some (v2,.box 78 [.rd aZ s23.1])),zG1] aa ww) (fun aa ww h=>Zu h [2,1001]) (fun s23=>?_)
   refine gSR<|Zq (I.lss Z Z)<|Zn<|z0s<|gIf Z Z (fun h24=>?_) (fun h24=>?_)
   ·
    refine Zt<|z0s<|z4w<|gSR<|Zm Z<|z0u fun x25 h26=>Zq (idxV Z Z h26 tu194 z5u z92)<|Za Z<|Zb Z<|z28<|Zm Z<|Zq (I.mul Z Z)<|Zm Z<|Zq (I.mul Z Z)<|Zq (I.add Z Z)<|Zm Z<|Zq (I.mul Z Z)<|Zq (I.add Z Z)<|Zm Z<|Zq (I.mul Z Z)<|Zq (I.add Z Z)<|Zm Z<|Zq (W.shr Z Z (Int.natCast_nonneg _))<|Zq (W.toB Z tu65 tu5)<|Zm Z<|Zq (W.shr Z Z (Int.natCast_nonneg _))<|Zq (W.toB Z tu65 tu5)<|Zm Z<|Zq (W.shr Z Z (Int.natCast_nonneg _))<|Zq (W.toB Z tu65 tu5)<|Zm Z<|Zq (W.toB Z tu65 tu5)<|z0u fun x27 h28=>Zq (ixB 2 Z Z Z h28 tu78 ti5)<|Es (sto 2 Z Z (fP (.el h28)) Z ti5)<|z0u fun x29 h30=>Zq (ixB 2 Z Z Z h30 tu78 ti5)<|Es (sto 2 Z Z (fP (.el h30)) Z ti5)<|z0u fun x31 h32=>Zq (ixB 2 Z Z Z h32 tu78 ti5)<|Es (sto 2 Z Z (fP (.el h32)) Z ti5)<|z0u fun x33 h34=>Zq (ixB 2 Z Z Z h34 tu78 ti5)<|Es (sto 2 Z Z (fP (.el h34)) Z ti5)<|z1s<|z38<|z0k<|z28<|Zq (I.add Z Z)<|Zm Z<|z1s<|z1g (fun aa ww h=>Zu h [2,1001])
   ·
    refine z1r<|z0x<|z10<|z3t (fun aa ww h=>Zu h [2,1001])
  ·
   refine gSR<|Zq (ld 2 Z Z fH z4x Z)<|Es (sto 2 Z Z fH Z z33)<|Zn<|z0l<|zcn [] [1001] Z (eC 2 Z Z z4x<|eN) (y1 Z)
def z14 (a0:List (List UInt8)) (s2:Int):Option (Sum (Sum Int Unit) Int) :=
 if decide (s2<(a0.length:Int)) then
  idx a0 s2 >>= fun x4 =>
  zdx x4 >>= fun r6 =>
  if r6 then
   some (.inl (.inl s2))
  else
   some (.inr (w64 (s2+1)))
 else
  some (.inl (.inr ()))
def z2y (a0:List (List UInt8)):Option (Int) :=
 z4y (iter (z14 a0) 0) fun s1 =>
 some (-1)
theorem z7w (a0:List (List UInt8)):z1t Tryz.prog 223 [.rd (z02 (z02 u8R)) a0,.val (.func (.func 202) #[] #[])] [] (z2y a0) (fun r nv=>⟨[.rd z0c r],[]⟩):=by
 refine z2p 19 Tryz.func223 Z Z Z fun H w=>?_
 refine gSR<|Zb Z<|z7b (fun (s1:Unit) aa ww=>Sta (ctx 19 H [] w) [] [] aa ww) ?_ (fun s1=>?_)
 ·
  refine gSR<|Zm Z<|Zq (z3s Z .rd Z tu201)<|Zm Z<|Zn<|z1w (fun (s2:Int) aa ww=>Sta (ctx 19 H [] w) [(0,.rd (z02 (z02 u8R)) a0),(1,.val (.func (.func 202) #[] #[])),(7,.rd z0c (a0.length:Int)),(8,.rd z0c s2)] [] aa ww) (fun aa ww h=>Zu h []) (fun s2=>?_)
  refine gSR<|Zq (I.lss Z Z)<|Zn<|z0s<|gIf Z Z (fun h3=>?_) (fun h3=>?_)
  ·
   refine Zt<|z0s<|z4w<|gSR<|Zm Z<|Zb Z<|gSR<|Zm Z<|Zm Z<|Zm Z<|z0u fun x4 h5=>Zq (ixR Z Z h5 tu201 zje Z)<|Zq (ldR Z zyp)<|zly [] [] (gd0 Z) Z Z Tryz.func202 Z Z (zjg _) (Y1 Z) (cN) rN fun r6 n7=>Zj Z (fun h8=>?_) (fun h8=>?_)
   ·
    refine gSR<|Zm Z<|Zb Z<|z0l<|z3x<|z0w<|z6q<|z5w<|Ze [] [] Z
   ·
    refine z2u<|z38<|z0k<|z28<|Zq (I.add Z Z)<|Zm Z<|z1s<|z1g (fun aa ww h=>Zu h [])
  ·
   refine z1r<|z0x<|z10<|z5p (fun aa ww h=>Zu h [])
 ·
  refine gSR<|Zb Z<|z0l<|Ze [] [] Z
def z1k (a0:List (List UInt8)):Option (Bool) :=
 z2y a0 >>= fun r1 =>
 some (decide (0≤r1)) >>= fun y3 =>
 some y3
theorem z74 (a0:List (List UInt8)):z1t Tryz.prog 201 [.rd (z02 (z02 u8R)) a0,.val (.func (.func 202) #[] #[])] [] (z1k a0) (fun r nv=>⟨[.rd z0d r],[]⟩):=by
 refine z2p 9 Tryz.func201 Z Z Z fun H w=>?_
 refine gSR<|Zb Z<|gSR<|Zm Z<|Zm Z<|Zc [] [] Tryz.func223 Z (z7w _) fun r1 n2=>Zq (I.geq Z Z)<|Za Z<|z1x 4 Z fun y3=>Zn<|z0l<|Ze [] [] Z
def z8m (a0:List (List UInt8)) (s11:z2h × Int):Option (Sum z2h (z2h × Int)) :=
 if decide (s11.2<(a0.length:Int)) then
  idx a0 s11.2 >>= fun x13 =>
  zc5 s11.1 x13 >>= fun r15 =>
  some (.inr (r15,w64 (s11.2+1)))
 else
  some (.inl s11.1)
def zbk (a0:List (List UInt8)):Option (V3 × Int) :=
 (if decide (20<(a0.length:Int)) then
  some true
 else
  z1k a0 >>= fun r4 =>
  some r4) >>= fun s2 =>
 if s2 then
  some ((Vector.replicate 32 0),4)
 else
  ze7 >>= fun r7 =>
  (iter (z8m a0) (r7,0)) >>= fun s10 =>
  zh4 s10 >>= fun r17 =>
  some (r17,0)
theorem zg0 (a0:List (List UInt8)):z1t Tryz.prog 163 [.rd (z02 (z02 u8R)) a0] [zG1] (zbk a0) (fun r nv=>⟨[.rd aZ r.1,.rd z0c r.2],[(1001,some (.bool true,.glob 1 (z3m 64 z0n) z5x))]⟩):=by
 refine z2p 28 Tryz.func163 Z Z Z fun H w=>?_
 refine gSR<|Eb Z (z5o 1 z33 (.zr (R:=aZ) (x:=(Vector.replicate 32 0)) zex)) fun v1=>Zb Z<|z0s<|z8t (fun (s2:Bool) aa ww=>Sta (ctx 28 H [zG1] w) [(0,.rd (z02 (z02 u8R)) a0),(2,.val (z06 v1 0)),(13,.rd z0d s2)] [(1,some (v1,.box 78 [.rd aZ (Vector.replicate 32 0)])),zG1] aa ww) ?_ (fun s2=>?_)
 ·
  refine z28<|Zm Z<|Zq (z3s Z .rd Z tu201)<|Zq (I.gtr Z Z)<|Zm Z<|z1p 10 Z (fun h3=>?_) (fun h3=>?_)
  ·
   refine lKn 9 Z h3<|Zk Z<|Zk Z<|Zq (pkT Z Z)<|z1s<|z3t (fun aa ww h=>Zu h [1,1001])
  ·
   refine lKn 9 Z h3<|z18 Zx Z Z (mv Z)<|zgy [] [] Zx Z Tryz.func201 Z Z (z74 _) (Y2 Z Z) rN fun r4 n5=>Zq (pkF Z Z)<|z1s<|z3t (fun aa ww h=>Zu h [1,1001])
 ·
  refine gIf Z Z (fun h6=>?_) (fun h6=>?_)
  ·
   refine gSR<|Zq (bldG (x':=((Vector.replicate 32 0):V3)) tu78 z33 zex ti5 (Bld.done Z))<|Es (sto 1 Z Z fH Z z33)<|Zb Z<|z0l<|z0w<|zcn [] [1001] Z (eC 1 Z Z z4x<|eE Z<|eN) (y1 Z)
  ·
   refine Zt<|gSR<|Zc [] [] Tryz.func203 Z (zmv) fun r7 n8=>Eb Z (z5o 1100 zoq (ZrE.rd (R:=(z3m 8 z0n)) (x:=(Vector.replicate 8 0)) zrd (ZrE.nilS (ZrE.rd (R:=z0c) (x:=0) (Zr.num Z) ZrE.nil Z)) Z)) fun v9=>zbv u8R [.rd (z3m 8 z0n) (Vector.replicate 8 0),.rd (z02 u8R) [],.rd z0c 0] 1100 [.rd (z3m 8 z0n) (Vector.replicate 8 0)] [.rd z0c 0] Z Z Z<|ze3 (R:=z2v) (⟨(Vector.replicate 8 0),[],0⟩:z2h) 1100 Z (Sp.via (Sp.prod (Sp.prod (Sp.prod Sp.unit))))<|Es (sto 1100 Z Z fH Z zoq)<|Zn<|z8t (fun (s10:z2h) aa ww=>Sta (ctx 28 H [zG1] w) [(2,.val (z06 v1 0)),(4,.val (z06 v9 0))] [(1,some (v1,.box 78 [.rd aZ (Vector.replicate 32 0)])),(1100,some (v9,.box 241 [.rd z2v s10])),zG1] aa ww) ?_ (fun s10=>?_)
   ·
    refine gSR<|Zm Z<|Zq (z3s Z .rd Z tu201)<|Zm Z<|Zn<|z1w (fun (s11:z2h × Int) aa ww=>Sta (ctx 28 H [zG1] w) [(2,.val (z06 v1 0)),(4,.val (z06 v9 0)),(16,.rd (z02 (z02 u8R)) a0),(17,.rd z0c (a0.length:Int)),(18,.rd z0c s11.2)] [(1,some (v1,.box 78 [.rd aZ (Vector.replicate 32 0)])),(1100,some (v9,.box 241 [.rd z2v s11.1])),zG1] aa ww) (fun aa ww h=>Zu h [1,1100,1001]) (fun s11=>?_)
    refine gSR<|Zq (I.lss Z Z)<|Zn<|z0s<|gIf Z Z (fun h12=>?_) (fun h12=>?_)
    ·
     refine Zt<|z0s<|z4w<|gSR<|z0u fun x13 h14=>Zq (ixR Z Z h14 tu201 zje Z)<|Zq (ldR Z zyp)<|Zb Z<|z28<|Zq (ld 1100 Z Z fH zsh Z)<|Zm Z<|Zc [1001] [] Tryz.func204 Z (zi5 _ _) fun r15 n16=>Es (sto 1100 Z Z fH Z zoq)<|z1s<|z38<|z0k<|z28<|Zq (I.add Z Z)<|Zm Z<|z1s<|z1g (fun aa ww h=>Zu h [1,1100,1001])
    ·
     refine z1r<|z0x<|z10<|z3t (fun aa ww h=>Zu h [1,1100,1001])
   ·
    refine gSR<|Zq (ld 1100 Z Z fH zsh Z)<|Zc [1001] [] Tryz.func205 Z (zpv _) fun r17 n18=>Es (sto 1 Z Z fH Z z33)<|Zb Z<|z0l<|zcn [] [1001] Z (eC 1 Z Z z4x<|eE Z<|eN) (y1 Z)
def zhe (a0:List UInt8):Option (V3 × Int) :=
 zbk [a0] >>= fun r3 =>
 some (r3.1,r3.2)
theorem zqf (a0:List UInt8):z1t Tryz.prog 119 [.rd (z02 u8R) a0] [zG1] (zhe a0) (fun r nv=>⟨[.rd aZ r.1,.rd z0c r.2],[(1001,some (.bool true,.glob 1 (z3m 64 z0n) z5x))]⟩):=by
 refine z2p 9 Tryz.func119 Z Z Z fun H w=>?_
 refine gSR<|Eb Z (z5o 1 z33 (.zr (R:=aZ) (x:=(Vector.replicate 32 0)) zex)) fun v1=>Zb Z<|gSR<|Zm Z<|Ef Z (lit (R:=(z02 u8R)) ([a0]:List (List UInt8)) 2 (pP Z Z<|pN) Z tu201 zje Z Z) fun v2=>zkx 2 [5] Z (fS Z<|fN)<|Zc [1001] [] Tryz.func163 Z (zg0 _) fun r3 n4=>Zq (ext Z Z)<|Zq (ext Z Z)<|Es (sto 1 Z Z fH Z z33)<|Zb Z<|z0l<|zcn [] [1001] Z (eC 1 Z Z z4x<|eE Z<|eN) (y1 Z)
def zyq (a0:z05):Option (V3 × Int) :=
 zf4 a0 >>= fun r3 =>
 if r3.2 != 0 then
  some ((Vector.replicate 32 0),r3.2)
 else
  zhe r3.1 >>= fun r6 =>
  some (r6.1,r6.2)
theorem zvk (a0:z05):z1t Tryz.prog 80 [.rd z04 a0] [zG1] (zyq a0) (fun r nv=>⟨[.rd aZ r.1,.rd z0c r.2],[(1001,some (.bool true,.glob 1 (z3m 64 z0n) z5x))]⟩):=by
 refine z2p 19 Tryz.func80 Z Z Z fun H w=>?_
 refine gSR<|Eb Z (bx 1 Z) fun v1=>Eb Z (z5o 2 z33 (.zr (R:=aZ) (x:=(Vector.replicate 32 0)) zex)) fun v2=>Zb Z<|gSR<|Zq (ld 1 Z Z fH ze5 Z)<|Zc [] [(100,3)] Tryz.func118 Z (zt1 _) fun r3 n4=>Zm Z<|Zq (ext Z Z)<|Zq (ext Z Z)<|Za Z<|Zb Z<|z0s<|gSR<|Zm Z<|Zq (I.neq Z Z)<|Zj Z (fun h5=>?_) (fun h5=>?_)
 ·
  refine gSR<|Zq (bldG (x':=((Vector.replicate 32 0):V3)) tu78 z33 zex ti5 (Bld.done Z))<|Zm Z<|Es (sto 2 Z Z fH Z z33)<|Zb Z<|z0l<|z0w<|zcn [] [1001] Z (eC 2 Z Z z4x<|eE Z<|eN) (y1 Z)
 ·
  refine Zt<|gSR<|Zm Z<|zkx 3 [9,4,15] Z (fS Z<|fS Z<|fS Z<|fN)<|Zc [1001] [] Tryz.func119 Z (zqf _) fun r6 n7=>Zq (ext Z Z)<|Zq (ext Z Z)<|Es (sto 2 Z Z fH Z z33)<|Zb Z<|z0l<|zcn [] [1001] Z (eC 2 Z Z z4x<|eE Z<|eN) (y1 Z)
def z58 (a0:List UInt32) (s2:Int):Option (Sum (Sum Bool Unit) Int) :=
 if decide (s2<(a0.length:Int)) then
  idx a0 s2 >>= fun x4 =>
  zhf x4 >>= fun r6 =>
  if !r6 then
   some (.inl (.inl false))
  else
   some (.inr (w64 (s2+1)))
 else
  some (.inl (.inr ()))
def ze2 (a0:List UInt32):Option (Bool) :=
 z4y (iter (z58 a0) 0) fun s1 =>
 some true
theorem zln (a0:List UInt32):z1t Tryz.prog 200 [.rd (z02 z0n) a0] [] (ze2 a0) (fun r nv=>⟨[.rd z0d r],[]⟩):=by
 refine z2p 15 Tryz.func200 Z Z Z fun H w=>?_
 refine gSR<|Zb Z<|z7b (fun (s1:Unit) aa ww=>Sta (ctx 15 H [] w) [] [] aa ww) ?_ (fun s1=>?_)
 ·
  refine gSR<|Zm Z<|Zq (z3s Z .rd Z tu236)<|Zm Z<|Zn<|z1w (fun (s2:Int) aa ww=>Sta (ctx 15 H [] w) [(5,.rd (z02 z0n) a0),(6,.rd z0c (a0.length:Int)),(7,.rd z0c s2)] [] aa ww) (fun aa ww h=>Zu h []) (fun s2=>?_)
  refine gSR<|Zq (I.lss Z Z)<|Zn<|z0s<|gIf Z Z (fun h3=>?_) (fun h3=>?_)
  ·
   refine Zt<|z0s<|z4w<|gSR<|z0u fun x4 h5=>Zq (ixR Z Z h5 tu236 z5u Z)<|Zq (ldR Z z92)<|Zb Z<|gSR<|Zm Z<|Zc [] [] Tryz.func153 Z (zi8 _) fun r6 n7=>Zq (zew Z)<|Zj Z (fun h8=>?_) (fun h8=>?_)
   ·
    refine gSR<|Zb Z<|z0l<|z3x<|z0w<|z6q<|z5w<|Ze [] [] Z
   ·
    refine z2u<|z38<|z0k<|z28<|Zq (I.add Z Z)<|Zm Z<|z1s<|z1g (fun aa ww h=>Zu h [])
  ·
   refine z1r<|z0x<|z10<|z5p (fun aa ww h=>Zu h [])
 ·
  refine gSR<|Zb Z<|z0l<|Ze [] [] Z
def zns (a0:UInt32) (a1:UInt64):Option (UInt32 × Int) :=
 ze2 [a0] >>= fun r2 =>
 if !r2 then
  some (0,2)
 else
  zf0 a0 a1 >>= fun r5 =>
  some (r5,0)
end
section
open Go Go.RowKit
set_option maxRecDepth 100000
theorem zrb (a0:UInt32) (a1:UInt64):z1t Tryz.prog 161 [.rd z0n a0,.rd z2w a1] [] (zns a0 a1) (fun r nv=>⟨[.rd z0n r.1,.rd z0c r.2],[]⟩):=by
 refine z2p 13 Tryz.func161 Z Z Z fun H w=>?_
 refine gSR<|Za Z<|Zb Z<|z0s<|gSR<|Zm Z<|Ef Z (lit (R:=z0n) ([a0]:List UInt32) 1 (pP Z Z<|pN) Z tu236 z5u Z Z) fun v1=>zkx 1 [7] Z (fS Z<|fN)<|Zc [] [] Tryz.func200 Z (zln _) fun r2 n3=>Zq (zew Z)<|Zj Z (fun h4=>?_) (fun h4=>?_)
 ·
  refine gSR<|Za Z<|Zb Z<|z0l<|z0w<|Ze [] [] Z
 ·
  refine Zt<|gSR<|Zm Z<|Zm Z<|Zc [] [] Tryz.func151 Z (zgj _ _) fun r5 n6=>Za Z<|Zb Z<|z0l<|Ze [] [] Z
def zcb (a0:UInt64):Option (UInt32) :=
 zf0 4 a0 >>= fun r1 =>
 some r1
theorem zfx (a0:UInt64):z1t Tryz.prog 106 [.rd z2w a0] [] (zcb a0) (fun r nv=>⟨[.rd z0n r],[]⟩):=by
 refine z2p 5 Tryz.func106 Z Z Z fun H w=>?_
 refine gSR<|Zb Z<|gSR<|Zm Z<|Zc [] [] Tryz.func151 Z (zgj _ _) fun r1 n2=>Zb Z<|z0l<|Ze [] [] Z
def zn0 (a0:UInt32) (a1:UInt32):Option (UInt32 × Int) :=
 ze2 [a0,a1] >>= fun r2 =>
 if !r2 then
  some (0,2)
 else
  zb8 1000000007 [a0,a1] >>= fun r6 =>
  some (r6,0)
theorem zs8 (a0:UInt32) (a1:UInt32):z1t Tryz.prog 162 [.rd z0n a0,.rd z0n a1] [] (zn0 a0 a1) (fun r nv=>⟨[.rd z0n r.1,.rd z0c r.2],[]⟩):=by
 refine z2p 15 Tryz.func162 Z Z Z fun H w=>?_
 refine gSR<|Za Z<|Zb Z<|z0s<|gSR<|Zm Z<|Zm Z<|Ef Z (lit (R:=z0n) ([a0,a1]:List UInt32) 1 (pP Z Z<|pP Z Z<|pN) Z tu236 z5u Z Z) fun v1=>zkx 1 [8] Z (fS Z<|fN)<|Zc [] [] Tryz.func200 Z (zln _) fun r2 n3=>Zq (zew Z)<|Zj Z (fun h4=>?_) (fun h4=>?_)
 ·
  refine gSR<|Za Z<|Zb Z<|z0l<|z0w<|Ze [] [] Z
 ·
  refine Zt<|gSR<|Zm Z<|Zm Z<|Ef Z (lit (R:=z0n) ([a0,a1]:List UInt32) 2 (pP Z Z<|pP Z Z<|pN) Z tu236 z5u Z Z) fun v5=>zkx 2 [13] Z (fS Z<|fN)<|Zc [] [] Tryz.func160 Z (zed _ _) fun r6 n7=>Za Z<|Zb Z<|z0l<|Ze [] [] Z
def z48 (a2:List UInt32) (s4:(List UInt8) × Int):Option (Sum ((List UInt8)) ((List UInt8) × Int)) :=
 if decide (s4.2<(a2.length:Int)) then
  idx a2 s4.2 >>= fun x7 =>
  app 1 s4.1 [(z4k x7 24).toUInt8,(z4k x7 16).toUInt8,(z4k x7 8).toUInt8,x7.toUInt8] >>= fun x10 =>
  some (.inr (x10,w64 (s4.2+1)))
 else
  some (.inl s4.1)
def zch (r15:V3 × Int) (s19:UInt64 × Int):Option (Sum UInt64 (UInt64 × Int)) :=
 if decide (s19.2<(((r15.1.toList.drop 0).take 8).length:Int)) then
  idx ((r15.1.toList.drop 0).take 8) s19.2 >>= fun x21 =>
  some ((zqa s19.1 8) ||| x21.toUInt64) >>= fun y23 =>
  some (.inr (y23,w64 (s19.2+1)))
 else
  some (.inl s19.1)
def zdr (a0:UInt8) (a1:List UInt8) (a2:List UInt32):Option (UInt64 × Int) :=
 if decide (9991<(a1.length:Int)) then
  some (0,4)
 else
  (iter (z48 a2) ([a0],0)) >>= fun s3 =>
  zbk [s3,a1] >>= fun r15 =>
  (iter (zch r15) (0,0)) >>= fun s18 =>
  some (s18,r15.2)
theorem zls (a0:UInt8) (a1:List UInt8) (a2:List UInt32):z1t Tryz.prog 159 [.rd u8R a0,.rd (z02 u8R) a1,.rd (z02 z0n) a2] [zG1] (zdr a0 a1 a2) (fun r nv=>⟨[.rd z2w r.1,.rd z0c r.2],[(1001,some (.bool true,.glob 1 (z3m 64 z0n) z5x))]⟩):=by
 refine z2p 63 Tryz.func159 Z Z Z fun H w=>?_
 refine gSR<|Za Z<|Zb Z<|z0s<|gSR<|Zm Z<|Zq (z3s Z .rd Z tu129)<|Zq (I.gtr Z Z)<|Zj Z (fun h1=>?_) (fun h1=>?_)
 ·
  refine gSR<|Za Z<|Zb Z<|z0l<|z0w<|Ze [] [1001] Z
 ·
  refine Zt<|gSR<|Zm Z<|Ef Z (lit (R:=u8R) ([a0]:List UInt8) 1 (pP Z Z<|pN) Z tu129 ti5 Z Z) fun v2=>Zb Z<|z8t (fun (s3:(List UInt8)) aa ww=>∃ nv:Nat→Value,Sta (ctx 63 H [zG1] w) [(1,.rd (z02 u8R) a1),(8,.val (nv 0))] [(1,some ((nv 0),.list u8R 5 s3)),zG1] aa ww) ?_ (fun s3=>?_)
  ·
   refine gSR<|Zm Z<|Zq (z3s Z .rd Z tu236)<|Zm Z<|Zn<|z1w (fun (s4:(List UInt8) × Int) aa ww=>∃ nv:Nat→Value,Sta (ctx 63 H [zG1] w) [(1,.rd (z02 u8R) a1),(8,.val (nv 0)),(21,.rd (z02 z0n) a2),(22,.rd z0c (a2.length:Int)),(23,.rd z0c s4.2)] [(1,some ((nv 0),.list u8R 5 s4.1)),zG1] aa ww) (fun aa ww h=>⟨nvl [v2],Zu h [1,1001]⟩) (fun s4=>?_)
   refine gEx fun n5=>gSR<|Zq (I.lss Z Z)<|Zn<|z0s<|gIf Z Z (fun h6=>?_) (fun h6=>?_)
   ·
    refine Zt<|z0s<|z4w<|gSR<|z0u fun x7 h8=>Zq (ixR Z Z h8 tu236 z5u Z)<|Zq (ldR Z z92)<|Zb Z<|z28<|Zm Z<|Zm Z<|Zq (W.shr Z Z (Int.natCast_nonneg _))<|Zq (W.toB Z tu65 tu5)<|Zm Z<|Zq (W.shr Z Z (Int.natCast_nonneg _))<|Zq (W.toB Z tu65 tu5)<|Zm Z<|Zq (W.shr Z Z (Int.natCast_nonneg _))<|Zq (W.toB Z tu65 tu5)<|Zm Z<|Zq (W.toB Z tu65 tu5)<|Ef Z (lit (R:=u8R) ([(z4k x7 24).toUInt8,(z4k x7 16).toUInt8,(z4k x7 8).toUInt8,x7.toUInt8]:List UInt8) 1100 (pP Z Z<|pP Z Z<|pP Z Z<|pP Z Z<|pN) Z tu129 ti5 Z Z) fun v9=>z0u fun x10 h11=>Ef Z (apn 1 Z Z Z (.own 1100 Z) h11 tu129 ti5 Z Z Z) fun v12=>Za Z<|z1s<|z38<|z0k<|z28<|Zq (I.add Z Z)<|Zm Z<|z1s<|z1g (fun aa ww h=>⟨nvl [v12],Zu h [1,1001]⟩)
   ·
    refine z1r<|z0x<|z10<|z3t (fun aa ww h=>⟨nvl [(n5 0)],Zu h [1,1001]⟩)
  ·
   refine gEx fun n13=>gSR<|Zm Z<|Zm Z<|zkx 1 [8,43] Z (fS Z<|fS Z<|fN)<|Ef Z (lit (R:=(z02 u8R)) ([s3,a1]:List (List UInt8)) 1101 (pP Z Z<|pP Z Z<|pN) Z tu201 zje Z Z) fun v14=>zkx 1101 [45] Z (fS Z<|fN)<|Zc [1001] [] Tryz.func163 Z (zg0 _) fun r15 n16=>Zm Z<|Zq (ext Z Z)<|Zq (ext Z Z)<|Eb Z (z5o 1102 z33 (.zr (R:=aZ) (x:=(Vector.replicate 32 0)) zex)) fun v17=>Es (sto 1102 Z Z fH Z z33)<|Zb Z<|gSR<|Zb Z<|z8t (fun (s18:UInt64) aa ww=>Sta (ctx 63 H [zG1] w) [(12,.rd z0c r15.2),(13,.rd z2w s18)] [zG1] aa ww) ?_ (fun s18=>?_)
   ·
    refine gSR<|z19o 1102 11 Z Z<|Zq (z1b1 (i:=0) (j:=8) Z .no (.to Z) tu78 ti5 (by decide) Z Z Z)<|Zq (z3s Z .rd Z tu129)<|Zm Z<|Zn<|z1w (fun (s19:UInt64 × Int) aa ww=>Sta (ctx 63 H [zG1] w) [(12,.rd z0c r15.2),(13,.rd z2w s19.1),(49,.rd (z02 u8R) ((r15.1.toList.drop 0).take 8)),(50,.rd z0c (((r15.1.toList.drop 0).take 8).length:Int)),(51,.rd z0c s19.2)] [zG1] aa ww) (fun aa ww h=>Zu h [1001]) (fun s19=>?_)
    refine gSR<|Zq (I.lss Z Z)<|Zn<|z0s<|gIf Z Z (fun h20=>?_) (fun h20=>?_)
    ·
     refine Zt<|z0s<|z4w<|gSR<|z0u fun x21 h22=>Zq (ixR Z Z h22 tu129 ti5 Z)<|Zq (ldR Z ty5)<|Zb Z<|z28<|Zm Z<|Zq (U.shl Z Z (Int.natCast_nonneg _))<|Zm Z<|Zq (B.toU Z tu5 tu52)<|Zq (U.or Z Z)<|Za Z<|z1x 13 Z fun y23=>z1s<|z38<|z0k<|z28<|Zq (I.add Z Z)<|Zm Z<|z1s<|z1g (fun aa ww h=>Zu h [1001])
    ·
     refine z1r<|z0x<|z10<|z3t (fun aa ww h=>Zu h [1001])
   ·
    refine gSR<|Zm Z<|Zm Z<|Za Z<|Zb Z<|z0l<|Ze [] [1001] Z
def za9 (a0:UInt32) (a1:UInt32) (a2:List UInt8):Option (UInt32 × Int) :=
 zdr 99 a2 [a0,a1] >>= fun r2 =>
 if r2.2 != 0 then
  some (0,r2.2)
 else
  some ((r2.1 % 500000003).toUInt32) >>= fun y5 =>
  some (y5,0)
theorem zez (a0:UInt32) (a1:UInt32) (a2:List UInt8):z1t Tryz.prog 114 [.rd z0n a0,.rd z0n a1,.rd (z02 u8R) a2] [zG1] (za9 a0 a1 a2) (fun r nv=>⟨[.rd z0n r.1,.rd z0c r.2],[(1001,some (.bool true,.glob 1 (z3m 64 z0n) z5x))]⟩):=by
 refine z2p 24 Tryz.func114 Z Z Z fun H w=>?_
 refine gSR<|Za Z<|Zb Z<|gSR<|Zm Z<|Zm Z<|Zm Z<|Ef Z (lit (R:=z0n) ([a0,a1]:List UInt32) 1 (pP Z Z<|pP Z Z<|pN) Z tu236 z5u Z Z) fun v1=>zkx 1 [14] Z (fS Z<|fN)<|Zc [1001] [] Tryz.func159 Z (zls _ _ _) fun r2 n3=>Zm Z<|Zq (ext Z Z)<|Zq (ext Z Z)<|Za Z<|Zb Z<|z0s<|gSR<|Zm Z<|Zq (I.neq Z Z)<|Zj Z (fun h4=>?_) (fun h4=>?_)
 ·
  refine gSR<|Zm Z<|Za Z<|Zb Z<|z0l<|z0w<|Ze [] [1001] Z
 ·
  refine Zt<|gSR<|Zm Z<|Zq (U.rem Z Z (by decide))<|Zq (U.toW Z tu52 tu65)<|Za Z<|z1x 6 Z fun y5=>Zb Z<|z0l<|Ze [] [1001] Z
def zfq (a0:UInt32) (a1:List UInt8) (a2:z08):Option (Int) :=
 zhf a0 >>= fun r2 =>
 if !r2 then
  some 2
 else
  if decide (9991<(a1.length:Int)) then
   some 4
  else
   if decide (500000003≤(max a2.E a2.S)) then
    some 22
   else
    zns a0 (500000003 - a2.E.toUInt64) >>= fun r7 =>
    zcb a2.S.toUInt64 >>= fun r9 =>
    zn0 r9 r7.1 >>= fun r11 =>
    za9 r11.1 a0 a1 >>= fun r13 =>
    if r13.2 != 0 then
     some 22
    else
     if r13.1 != a2.E then
      some 22
     else
      some 0
theorem zoj (a0:UInt32) (a1:List UInt8) (a2:z08):z1t Tryz.prog 117 [.rd z0n a0,.rd (z02 u8R) a1,.rd z0o a2] [zG1] (zfq a0 a1 a2) (fun r nv=>⟨[.rd z0c r],[(1001,some (.bool true,.glob 1 (z3m 64 z0n) z5x))]⟩):=by
 refine z2p 58 Tryz.func117 Z Z Z fun H w=>?_
 refine gSR<|Eb Z (bx 1 Z) fun v1=>Zb Z<|z0s<|gSR<|Zm Z<|Zc [] [] Tryz.func153 Z (zi8 _) fun r2 n3=>Zq (zew Z)<|Zj Z (fun h4=>?_) (fun h4=>?_)
 ·
  refine gSR<|Zb Z<|z0l<|z0w<|Ze [] [1001] Z
 ·
  refine Zt<|z0s<|gSR<|Zm Z<|Zq (z3s Z .rd Z tu129)<|Zq (I.gtr Z Z)<|Zj Z (fun h5=>?_) (fun h5=>?_)
  ·
   refine gSR<|Zb Z<|z0l<|z0w<|Ze [] [1001] Z
  ·
   refine Zt<|z0s<|gSR<|Zq (faB 1 Z Z Tryz.underlying70 Z (by exact z5u))<|Zq (ld 1 Z Z (fP (z4v _)) z92 Z)<|Zq (faB 1 Z Z Tryz.underlying70 Z (by exact z5u))<|Zq (ld 1 Z Z (fP (z6v _)) z92 Z)<|Zq (W.max Z Z)<|Zq (W.geq Z Z)<|Zj Z (fun h6=>?_) (fun h6=>?_)
   ·
    refine gSR<|Zb Z<|z0l<|z0w<|Ze [] [1001] Z
   ·
    refine Zt<|gSR<|Zm Z<|Zq (faB 1 Z Z Tryz.underlying70 Z (by exact z5u))<|Zq (ld 1 Z Z (fP (z4v _)) z92 Z)<|Zq (W.toU Z tu65 tu52)<|Zq (U.sub Z Z)<|Zc [] [] Tryz.func161 Z (zrb _ _) fun r7 n8=>Zm Z<|Zq (ext Z Z)<|Zq (ext Z Z)<|Za Z<|Zb Z<|gSR<|Zq (faB 1 Z Z Tryz.underlying70 Z (by exact z5u))<|Zq (ld 1 Z Z (fP (z6v _)) z92 Z)<|Zq (W.toU Z tu65 tu52)<|Zc [] [] Tryz.func106 Z (zfx _) fun r9 n10=>Zm Z<|Zc [] [] Tryz.func162 Z (zs8 _ _) fun r11 n12=>Zm Z<|Zq (ext Z Z)<|Zq (ext Z Z)<|Za Z<|Zb Z<|z0s<|gSR<|Zm Z<|Zm Z<|Zm Z<|Zc [1001] [] Tryz.func114 Z (zez _ _ _) fun r13 n14=>Zm Z<|Zq (ext Z Z)<|Zq (ext Z Z)<|Za Z<|Zb Z<|gSR<|Zm Z<|Zq (I.neq Z Z)<|Zm Z<|z1p 52 Z (fun h15=>?_) (fun h15=>?_)
    ·
     refine lKn 51 Z h15<|Zk Z<|Zk Z<|Zk Z<|Zk Z<|Zq (pkT Z Z)<|Zn<|zgn Z<|gSR<|Zb Z<|z0l<|z0w<|Ze [] [1001] Z
    ·
     refine lKn 51 Z h15<|z18 Zx Z Z (mv Z)<|z18 Zx Z Z (faB 1 Z Z Tryz.underlying70 Z (by exact z5u))<|z18 Zx Z Z (ld 1 Z Z (fP (z4v _)) z92 Z)<|z18 Zx Z Z (W.neq Z Z)<|Zq (pkF Z Z)<|Zj Z (fun h16=>?_) (fun h16=>?_)
     ·
      refine gKn 56 Z h16<|gSR<|Zb Z<|z0l<|z0w<|Ze [] [1001] Z
     ·
      refine gKn 56 Z h16<|Zt<|gSR<|Zb Z<|z0l<|Ze [] [1001] Z
def zh0 (a0:z05):Option (Int) :=
 zfu a0 >>= fun r2 =>
 if r2 != 0 then
  some r2
 else
  zc3 a0 >>= fun r5 =>
  zfq a0.Author r5.1 a0.Sig >>= fun r7 =>
  some r7
theorem zlc (a0:z05):z1t Tryz.prog 79 [.rd z04 a0] [zG1] (zh0 a0) (fun r nv=>⟨[.rd z0c r],[(1001,some (.bool true,.glob 1 (z3m 64 z0n) z5x))]⟩):=by
 refine z2p 22 Tryz.func79 Z Z Z fun H w=>?_
 refine gSR<|Eb Z (bx 1 Z) fun v1=>Zb Z<|z0s<|gSR<|Zq (ld 1 Z Z fH ze5 Z)<|Zc [] [] Tryz.func107 Z (zid _) fun r2 n3=>Zb Z<|gSR<|Zm Z<|Zq (I.neq Z Z)<|Zj Z (fun h4=>?_) (fun h4=>?_)
 ·
  refine gSR<|Zm Z<|Zb Z<|z0l<|z0w<|Ze [] [1001] Z
 ·
  refine Zt<|gSR<|Zq (ld 1 Z Z fH ze5 Z)<|Zc [] [(100,2)] Tryz.func77 Z (zft _) fun r5 n6=>Zm Z<|Zq (ext Z Z)<|Zq (ext Z Z)<|Za Z<|Zb Z<|gSR<|Zq (faB 1 Z Z Tryz.underlying72 Z (by exact z5u))<|Zq (ld 1 Z Z (fP (z2z _)) z92 Z)<|Zm Z<|Zq (faB 1 Z Z Tryz.underlying72 Z (by exact zm3))<|Zq (ld 1 Z Z (fP (z2g _)) ty70 Z)<|zkx 2 [14,4,18] Z (fS Z<|fS Z<|fS Z<|fN)<|Zc [1001] [] Tryz.func117 Z (zoj _ _ _) fun r7 n8=>Zb Z<|z0l<|Ze [] [1001] Z
def z5e (s4:UInt64 × (List UInt8)):Option (Sum ((List UInt8)) (UInt64 × (List UInt8))) :=
 if decide (0<s4.1) then
  app 1 s4.2 [(s4.1 % 256).toUInt8] >>= fun x8 =>
  some (.inr (s4.1 / 256,x8))
 else
  some (.inl s4.2)
def z5i (s3:(List UInt8)) (s15:(List UInt8) × Int):Option (Sum ((List UInt8)) ((List UInt8) × Int)) :=
 if decide (0≤s15.2) then
  idx s3 s15.2 >>= fun x18 =>
  app 1 s15.1 [x18] >>= fun x21 =>
  some (w64 (s15.2 - 1)) >>= fun y24 =>
  some (.inr (x21,y24))
 else
  some (.inl s15.1)
def z2n (a0:UInt64):Option ((List UInt8)) :=
 if decide (a0≤247) then
  some [a0.toUInt8]
 else
  (iter (z5e) (a0,[])) >>= fun s3 =>
  (some (w64 ((s3.length:Int) - 1)) >>= fun y14 =>
  iter (z5i s3) ([UInt8.ofInt (w64 (247+(s3.length:Int)))],y14)) >>= fun s13 =>
  some s13
theorem z37 (a0:UInt64):z1t Tryz.prog 150 [.rd z2w a0] [] (z2n a0) (fun r nv=>⟨[.val (nv 0)],[(100,some (nv 0,.list u8R 5 r))]⟩):=by
 refine z2p 41 Tryz.func150 Z Z Z fun H w=>?_
 refine gSR<|Zb Z<|z0s<|gSR<|Zm Z<|Zq (U.leq Z Z)<|Zj Z (fun h1=>?_) (fun h1=>?_)
 ·
  refine gSR<|Zm Z<|Zq (U.toB Z tu52 tu5)<|Ef Z (lit (R:=u8R) ([a0.toUInt8]:List UInt8) 1 (pP Z Z<|pN) Z tu129 ti5 Z Z) fun v2=>Zb Z<|z0l<|z0w<|Ze [v2] [1] Z
 ·
  refine Zt<|gSR<|Zb Z<|z8t (fun (s3:(List UInt8)) aa ww=>∃ nv:Nat→Value,Sta (ctx 41 H [] w) [(3,.val (nv 0))] [(3,some ((nv 0),.list u8R 5 s3))] aa ww) ?_ (fun s3=>?_)
  ·
   refine zxg u8R 5 6<|z1w (fun (s4:UInt64 × (List UInt8)) aa ww=>∃ nv:Nat→Value,Sta (ctx 41 H [] w) [(0,.rd z2w s4.1),(3,.val (nv 0))] [(5,some ((nv 0),.list u8R 5 s4.2))] aa ww) (fun aa ww h=>⟨nvl [(.slice none 0 0)],Zu h [6]⟩) (fun s4=>?_)
   refine gEx fun n5=>z0s<|gSR<|Zm Z<|Zq (U.gtr Z Z)<|Zj Z (fun h6=>?_) (fun h6=>?_)
   ·
    refine Zt<|z4w<|gSR<|Zm Z<|Zm Z<|Zq (U.rem Z Z (by decide))<|Zq (U.toB Z tu52 tu5)<|Ef Z (lit (R:=u8R) ([(s4.1 % 256).toUInt8]:List UInt8) 7 (pP Z Z<|pN) Z tu129 ti5 Z Z) fun v7=>z0u fun x8 h9=>Ef Z (apn 5 Z Z Z (.own 7 Z) h9 tu129 ti5 Z Z Z) fun v10=>Zb Z<|z28<|Zm Z<|Zq (U.quo Z Z (by decide))<|Za Z<|z1s<|z38<|z1g (fun aa ww h=>⟨nvl [v10],Zu h [5]⟩)
   ·
    refine z1r<|z0x<|z10<|z3t (fun aa ww h=>⟨nvl [(n5 0)],Zu h [5]⟩)
  ·
   refine gEx fun n11=>gSR<|Zm Z<|Zq (z3s Z (.own 3 Z) Z tu129)<|Zq (I.add Z Z)<|Zq (I.toB Z tu3 tu5)<|Ef Z (lit (R:=u8R) ([UInt8.ofInt (w64 (247+(s3.length:Int)))]:List UInt8) 8 (pP Z Z<|pN) Z tu129 ti5 Z Z) fun v12=>Zb Z<|z8t (fun (s13:(List UInt8)) aa ww=>∃ nv:Nat→Value,Sta (ctx 41 H [] w) [(4,.val (nv 0))] [(8,some ((nv 0),.list u8R 5 s13))] aa ww) ?_ (fun s13=>?_)
   ·
    refine gSR<|Zm Z<|Zq (z3s Z (.own 3 Z) Z tu129)<|Zq (I.sub Z Z)<|Za Z<|z1x 5 Z fun y14=>Zn<|z1w (fun (s15:(List UInt8) × Int) aa ww=>∃ nv:Nat→Value,Sta (ctx 41 H [] w) [(3,.val (n11 0)),(4,.val (nv 0)),(5,.rd z0c s15.2)] [(3,some ((n11 0),.list u8R 5 s3)),(8,some ((nv 0),.list u8R 5 s15.1))] aa ww) (fun aa ww h=>⟨nvl [v12],Zu h [3,8]⟩) (fun s15=>?_)
    refine gEx fun n16=>z0s<|gSR<|Zm Z<|Zq (I.geq Z Z)<|Zj Z (fun h17=>?_) (fun h17=>?_)
    ·
     refine Zt<|z0s<|z4w<|z28<|Zm Z<|Zm Z<|Zm Z<|z0u fun x18 h19=>Zq (ixO 3 Z Z Z h19 tu129 ti5)<|Zq (ld 3 Z Z (Foc.el h19) ty5 Z)<|Ef Z (lit (R:=u8R) ([x18]:List UInt8) 9 (pP Z Z<|pN) Z tu129 ti5 Z Z) fun v20=>z0u fun x21 h22=>Ef Z (apn 8 Z Z Z (.own 9 Z) h22 tu129 ti5 Z Z Z) fun v23=>Za Z<|z1s<|z38<|z0k<|z28<|Zm Z<|Zq (I.sub Z Z)<|Za Z<|z1x 5 Z fun y24=>z1s<|z1g (fun aa ww h=>⟨nvl [v23],Zu h [3,8]⟩)
    ·
     refine z1r<|z0x<|z10<|z3t (fun aa ww h=>⟨nvl [(n16 0)],Zu h [8]⟩)
   ·
    refine gEx fun n25=>gSR<|Zm Z<|Zb Z<|z0l<|Ze [(n25 0)] [8] Z
def z6t (a0:List V3) (s4:(List UInt8) × Int):Option (Sum ((List UInt8)) ((List UInt8) × Int)) :=
 if decide (s4.2<(a0.length:Int)) then
  idx a0 s4.2 >>= fun x7 =>
  app 1 s4.1 x7.toList >>= fun x9 =>
  some (w64 (s4.2+1)) >>= fun y12 =>
  some (.inr (x9,y12))
 else
  some (.inl s4.1)
def zbc (a0:List V3):Option ((List UInt8)) :=
 z2n (UInt64.ofInt (a0.length:Int)) >>= fun r1 =>
 (iter (z6t a0) (r1,0)) >>= fun s3 =>
 some s3
theorem zke (a0:List V3):z1t Tryz.prog 190 [.rd (z02 aZ) a0] [] (zbc a0) (fun r nv=>⟨[.val (nv 0)],[(100,some (nv 0,.list u8R 5 r))]⟩):=by
 refine z2p 22 Tryz.func190 Z Z Z fun H w=>?_
 refine gSR<|Zb Z<|gSR<|Zm Z<|Zq (z3s Z .rd Z tu24)<|Zq (I.toU Z tu3 tu52)<|Zc [] [(100,1)] Tryz.func150 Z (z37 _) fun r1 n2=>Zb Z<|z8t (fun (s3:(List UInt8)) aa ww=>∃ nv:Nat→Value,Sta (ctx 22 H [] w) [(3,.val (nv 0))] [(1,some ((nv 0),.list u8R 5 s3))] aa ww) ?_ (fun s3=>?_)
 ·
  refine gSR<|Zb Z<|z1w (fun (s4:(List UInt8) × Int) aa ww=>∃ nv:Nat→Value,Sta (ctx 22 H [] w) [(0,.rd (z02 aZ) a0),(3,.val (nv 0)),(4,.rd z0c s4.2)] [(1,some ((nv 0),.list u8R 5 s4.1))] aa ww) (fun aa ww h=>⟨nvl [(n2 0)],Zu h [1]⟩) (fun s4=>?_)
  refine gEx fun n5=>z0s<|gSR<|Zm Z<|Zm Z<|Zq (z3s Z .rd Z tu24)<|Zq (I.lss Z Z)<|Zj Z (fun h6=>?_) (fun h6=>?_)
  ·
   refine Zt<|z0s<|z4w<|z28<|Zm Z<|Zm Z<|Zm Z<|z0u fun x7 h8=>Zq (ixR Z Z h8 tu24 z33 Z)<|Zq (cutV Z tu78 ti5 Z Z Z)<|z0u fun x9 h10=>Ef Z (apn 1 Z Z Z .rd h10 tu129 ti5 Z Z Z) fun v11=>Za Z<|z1s<|z38<|z0k<|z28<|Zm Z<|Zq (I.add Z Z)<|Za Z<|z1x 4 Z fun y12=>z1s<|z1g (fun aa ww h=>⟨nvl [v11],Zu h [1]⟩)
  ·
   refine z1r<|z0x<|z10<|z3t (fun aa ww h=>⟨nvl [(n5 0)],Zu h [1]⟩)
 ·
  refine gEx fun n13=>gSR<|Zm Z<|Zb Z<|z0l<|Ze [(n13 0)] [1] Z
def z7z (a0:List UInt8):Option ((List UInt8)) :=
 z2n (UInt64.ofInt (a0.length:Int)) >>= fun r1 =>
 app 1 r1 a0 >>= fun x3 =>
 some x3
theorem zel (a0:List UInt8):z1t Tryz.prog 191 [.rd (z02 u8R) a0] [] (z7z a0) (fun r nv=>⟨[.val (nv 0)],[(100,some (nv 0,.list u8R 5 r))]⟩):=by
 refine z2p 9 Tryz.func191 Z Z Z fun H w=>?_
 refine gSR<|Zb Z<|gSR<|Zm Z<|Zq (z3s Z .rd Z tu129)<|Zq (I.toU Z tu3 tu52)<|Zc [] [(100,1)] Tryz.func150 Z (z37 _) fun r1 n2=>Zm Z<|z0u fun x3 h4=>Ef Z (apn 1 Z Z Z .rd h4 tu129 ti5 Z Z Z) fun v5=>Zb Z<|z0l<|Ze [v5] [1] Z
def z9o (a0:Int):Option ((List UInt8)) :=
 if decide (0≤a0) then
  z2n (2 * (UInt64.ofInt a0)) >>= fun r2 =>
  some r2
 else
  z2n ((2 * (UInt64.ofInt (w64 (0 - (w64 (a0+1))))))+1) >>= fun r4 =>
  some r4
theorem zi0 (a0:Int):z1t Tryz.prog 216 [.rd z0c a0] [] (z9o a0) (fun r nv=>⟨[.val (nv 0)],[(100,some (nv 0,.list u8R 5 r))]⟩):=by
 refine z2p 16 Tryz.func216 Z Z Z fun H w=>?_
 refine gSR<|Zb Z<|z0s<|gSR<|Zm Z<|Zq (I.geq Z Z)<|Zj Z (fun h1=>?_) (fun h1=>?_)
 ·
  refine gSR<|Zm Z<|Zq (I.toU Z Tryz.underlying2 tu52)<|Zq (U.mul Z Z)<|Zc [] [(100,1)] Tryz.func150 Z (z37 _) fun r2 n3=>Zb Z<|z0l<|z0w<|Ze [(n3 0)] [1] Z
 ·
  refine Zt<|gSR<|Zm Z<|Zq (I.add Z Z)<|Zq (I.neg Z)<|Zq (I.toU Z Tryz.underlying2 tu52)<|Zq (U.mul Z Z)<|Zq (U.add Z Z)<|Zc [] [(100,2)] Tryz.func150 Z (z37 _) fun r4 n5=>Zb Z<|z0l<|Ze [(n5 0)] [2] Z
def z63 (a0:z03) (s11:(List UInt8) × Int):Option (Sum ((List UInt8)) ((List UInt8) × Int)) :=
 if decide (0≤s11.2) then
  chk (0≤w64 (8 * s11.2)) >>= fun u14 =>
  app 1 s11.1 [(z85 a0.Bits ((w64 (8 * s11.2):Int).toNat)).toUInt8] >>= fun x17 =>
  some (w64 (s11.2 - 1)) >>= fun y20 =>
  some (.inr (x17,y20))
 else
  some (.inl s11.1)
def zao (a0:z03):Option ((List UInt8)) :=
 if a0.Kind==1 then
  z9o a0.Num >>= fun r4 =>
  app 1 [a0.Kind] r4 >>= fun x6 =>
  some x6
 else
  if a0.Kind==2 then
   (iter (z63 a0) ([a0.Kind],7)) >>= fun s10 =>
   some s10
  else
   chk (a0.Text.length≤281474976710656) >>= fun u22 =>
   z7z a0.Text >>= fun r24 =>
   app 1 [a0.Kind] r24 >>= fun x26 =>
   some x26
theorem zil (a0:z03):z1t Tryz.prog 192 [.rd z12 a0] [] (zao a0) (fun r nv=>⟨[.val (nv 0)],[(100,some (nv 0,.list u8R 5 r))]⟩):=by
 refine z2p 39 Tryz.func192 Z Z Z fun H w=>?_
 refine gSR<|Eb Z (bx 1 Z) fun v1=>Zb Z<|gSR<|Zq (faB 1 Z Z Tryz.underlying54 Z (by exact ti5))<|Zq (ld 1 Z Z (fP (z2m _)) ty5 Z)<|Ef Z (lit (R:=u8R) ([a0.Kind]:List UInt8) 2 (pP Z Z<|pN) Z tu129 ti5 Z Z) fun v2=>Zb Z<|z0s<|gSR<|Zq (faB 1 Z Z Tryz.underlying54 Z (by exact ti5))<|Zq (ld 1 Z Z (fP (z2m _)) ty5 Z)<|Zn<|z4w<|gSR<|Zq (B.eql Z Z)<|Zb Z<|gIf Z Z (fun h3=>?_) (fun h3=>?_)
 ·
  refine gKn 11 Z h3<|gSR<|Zm Z<|Zq (faB 1 Z Z Tryz.underlying54 Z (by exact ti2))<|Zq (ld 1 Z Z (fP (z5c _)) ty2 Z)<|Zc [] [(100,3)] Tryz.func216 Z (zi0 _) fun r4 n5=>z0u fun x6 h7=>Ef Z (apn 2 Z Z Z (.own 3 Z) h7 tu129 ti5 Z Z Z) fun v8=>Zb Z<|z0l<|z3x<|z0w<|Ze [v8] [2] Z
 ·
  refine gKn 11 Z h3<|gSR<|Zq (B.eql Z Z)<|Zb Z<|gIf Z Z (fun h9=>?_) (fun h9=>?_)
  ·
   refine gKn 18 Z h9<|z8t (fun (s10:(List UInt8)) aa ww=>∃ nv:Nat→Value,Sta (ctx 39 H [] w) [(3,.val (nv 0))] [(2,some ((nv 0),.list u8R 5 s10))] aa ww) ?_ (fun s10=>?_)
   ·
    refine gSR<|Zb Z<|z1w (fun (s11:(List UInt8) × Int) aa ww=>∃ nv:Nat→Value,Sta (ctx 39 H [] w) [(1,.val (z06 v1 0)),(3,.val (nv 0)),(4,.rd z0c s11.2)] [(1,some (v1,.box 54 [.rd z12 a0])),(2,some ((nv 0),.list u8R 5 s11.1))] aa ww) (fun aa ww h=>⟨nvl [v2],Zu h [1,2]⟩) (fun s11=>?_)
    refine gEx fun n12=>z0s<|gSR<|Zm Z<|Zq (I.geq Z Z)<|Zj Z (fun h13=>?_) (fun h13=>?_)
    ·
     refine Zt<|z0s<|z4w<|z28<|Zm Z<|Zq (faB 1 Z Z Tryz.underlying54 Z (by exact zq6))<|Zq (ld 1 Z Z (fP (z49 _)) zpd Z)<|Zm Z<|Zq (I.mul Z Z)<|z0u fun u14 h15=>Zq (U.shr Z Z (z6g h15))<|Zq (U.toB Z tu52 tu5)<|Ef Z (lit (R:=u8R) ([(z85 a0.Bits ((w64 (8 * s11.2):Int).toNat)).toUInt8]:List UInt8) 4 (pP Z Z<|pN) Z tu129 ti5 Z Z) fun v16=>z0u fun x17 h18=>Ef Z (apn 2 Z Z Z (.own 4 Z) h18 tu129 ti5 Z Z Z) fun v19=>Za Z<|z1s<|z38<|z0k<|z28<|Zm Z<|Zq (I.sub Z Z)<|Za Z<|z1x 4 Z fun y20=>z1s<|z1g (fun aa ww h=>⟨nvl [v19],Zu h [1,2]⟩)
    ·
     refine z1r<|z0x<|z10<|z3t (fun aa ww h=>⟨nvl [(n12 0)],Zu h [2]⟩)
   ·
    refine gEx fun n21=>gSR<|Zm Z<|Zb Z<|z0l<|z3x<|z0w<|Ze [(n21 0)] [2] Z
  ·
   refine gKn 18 Z h9<|z2u<|z38<|z0k<|gSR<|Zm Z<|Zq (faB 1 Z Z Tryz.underlying54 Z (by exact ti9))<|Zq (ld 1 Z Z (fP (z3o _)) ty9 Z)<|z0u fun u22 h23=>z145 Z Z h23 tu9 tu129 tu5<|Zc [] [(100,5)] Tryz.func191 Z (zel _) fun r24 n25=>z0u fun x26 h27=>Ef Z (apn 2 Z Z Z (.own 5 Z) h27 tu129 ti5 Z Z Z) fun v28=>Zb Z<|z0l<|Ze [v28] [2] Z
def z93 (a0:z05):Option ((List UInt8)) :=
 z2n a0.Author.toUInt64 >>= fun r3 =>
 app 1 [111] r3 >>= fun x5 =>
 zbc a0.Preds >>= fun r8 =>
 app 1 x5 r8 >>= fun x10 =>
 z2n a0.Stamp >>= fun r13 =>
 app 1 x10 r13 >>= fun x15 =>
 app 1 x15 [a0.Act.Kind] >>= fun x19 =>
 (if a0.Act.Kind != 1 then
  chk (a0.Act.Key.length≤281474976710656) >>= fun u24 =>
  z7z a0.Act.Key >>= fun r26 =>
  app 1 x19 r26 >>= fun x28 =>
  some x28
 else
  some x19) >>= fun s22 =>
 if a0.Act.Kind==4 then
  zao a0.Act.Value >>= fun r33 =>
  app 1 s22 r33 >>= fun x35 =>
  some x35
 else
  some s22
theorem ze9 (a0:z05):z1t Tryz.prog 145 [.rd z04 a0] [] (z93 a0) (fun r nv=>⟨[.val (nv 0)],[(100,some (nv 0,.list u8R 5 r))]⟩):=by
 refine z2p 47 Tryz.func145 Z Z Z fun H w=>?_
 refine gSR<|Eb Z (bx 1 Z) fun v1=>Zb Z<|gSR<|Ef Z (lit (R:=u8R) ([111]:List UInt8) 2 (pP Z Z<|pN) Z tu129 ti5 Z Z) fun v2=>Zq (faB 1 Z Z Tryz.underlying72 Z (by exact z5u))<|Zq (ld 1 Z Z (fP (z2z _)) z92 Z)<|Zq (W.toU Z tu65 tu52)<|Zc [] [(100,3)] Tryz.func150 Z (z37 _) fun r3 n4=>z0u fun x5 h6=>Ef Z (apn 2 Z Z Z (.own 3 Z) h6 tu129 ti5 Z Z Z) fun v7=>Zb Z<|z0s<|z6n [2,13,25] mixed Z Z<|hTk 0 Z Z (mv Z)<|hTk 1 Z Z (faB 1 Z Z Tryz.underlying72 Z (by exact z6b))<|hTk 2 Z Z (ld 1 Z Z (fP (z0t _)) z8l Z)<|hTk 5 Z Z (faB 1 Z Z Tryz.underlying72 Z (by exact zq6))<|hTk 6 Z Z (ld 1 Z Z (fP (z2i _)) zpd Z)<|z3a 3 [] [(100,13)] Z (by kernel_rfl) Z (gd0 Z) Z Tryz.func190 Z Z (zke _) (Y1 Z) rN Z (fun _ _=>z3w) fun r8 n9=>z4c fun x10 h11=>Zo 4 Z Z Z (apn 2 Z Z Z (.own 13 Z) h11 tu129 ti5 Z Z Z) fun v12=>z3a 7 [] [(100,25)] Z (by kernel_rfl) Z (gd0 Z) Z Tryz.func150 Z Z (z37 _) (Y1 Z) rN Z (fun _ _=>z3w) fun r13 n14=>z4c fun x15 h16=>Zo 8 Z Z Z (apn 2 Z Z Z (.own 25 Z) h16 tu129 ti5 Z Z Z) fun v17=>Zf 9 Z Z z3w (asg Z)<|z30 (by kernel_rfl)<|z0k<|gSR<|Zm Z<|Zq (faB 1 Z Z Tryz.underlying72 Z (by exact zgd))<|Zq (faB 1 Z Z Tryz.underlying64 Z (by exact ti5))<|Zq (ld 1 Z Z ((fP (z11 _)).part (z1h _)) ty5 Z)<|Ef Z (lit (R:=u8R) ([a0.Act.Kind]:List UInt8) 37 (pP Z Z<|pN) Z tu129 ti5 Z Z) fun v18=>z0u fun x19 h20=>Ef Z (apn 2 Z Z Z (.own 37 Z) h20 tu129 ti5 Z Z Z) fun v21=>Zb Z<|z8t (fun (s22:(List UInt8)) aa ww=>∃ nv:Nat→Value,Sta (ctx 47 H [] w) [(1,.val (z06 v1 0)),(3,.val (nv 0))] [(1,some (v1,.box 72 [.rd z04 a0])),(2,some ((nv 0),.list u8R 5 s22))] aa ww) ?_ (fun s22=>?_)
 ·
  refine gSR<|Zq (faB 1 Z Z Tryz.underlying72 Z (by exact zgd))<|Zq (faB 1 Z Z Tryz.underlying64 Z (by exact ti5))<|Zq (ld 1 Z Z ((fP (z11 _)).part (z1h _)) ty5 Z)<|Zq (B.neq Z Z)<|Zj Z (fun h23=>?_) (fun h23=>?_)
  ·
   refine z28<|Zm Z<|Zq (faB 1 Z Z Tryz.underlying72 Z (by exact zgd))<|Zq (faB 1 Z Z Tryz.underlying64 Z (by exact ti9))<|Zq (ld 1 Z Z ((fP (z11 _)).part (z29 _)) ty9 Z)<|z0u fun u24 h25=>z145 Z Z h25 tu9 tu129 tu5<|Zc [] [(100,38)] Tryz.func191 Z (zel _) fun r26 n27=>z0u fun x28 h29=>Ef Z (apn 2 Z Z Z (.own 38 Z) h29 tu129 ti5 Z Z Z) fun v30=>Za Z<|z1s<|z3t (fun aa ww h=>⟨nvl [v30],Zu h [1,2]⟩)
  ·
   refine z2u<|z3t (fun aa ww h=>⟨nvl [v21],Zu h [1,2]⟩)
 ·
  refine gEx fun n31=>z0s<|gSR<|Zq (faB 1 Z Z Tryz.underlying72 Z (by exact zgd))<|Zq (faB 1 Z Z Tryz.underlying64 Z (by exact ti5))<|Zq (ld 1 Z Z ((fP (z11 _)).part (z1h _)) ty5 Z)<|Zq (B.eql Z Z)<|Zj Z (fun h32=>?_) (fun h32=>?_)
  ·
   refine z28<|Zm Z<|Zq (faB 1 Z Z Tryz.underlying72 Z (by exact zgd))<|Zq (faB 1 Z Z Tryz.underlying64 Z (by exact zem))<|Zq (ld 1 Z Z ((fP (z11 _)).part (z3k _)) zo4 Z)<|Zc [] [(100,39)] Tryz.func192 Z (zil _) fun r33 n34=>z0u fun x35 h36=>Ef Z (apn 2 Z Z Z (.own 39 Z) h36 tu129 ti5 Z Z Z) fun v37=>Zb Z<|gSR<|Zm Z<|Zb Z<|z0l<|Ze [v37] [2] Z
  ·
   refine Zt<|gSR<|Zm Z<|Zb Z<|z0l<|Ze [(n31 0)] [2] Z
def zap (a0:z05):Option ((List UInt8)) :=
 z93 a0 >>= fun r2 =>
 z2n a0.Sig.E.toUInt64 >>= fun r4 =>
 app 1 r2 r4 >>= fun x6 =>
 z2n a0.Sig.S.toUInt64 >>= fun r9 =>
 app 1 x6 r9 >>= fun x11 =>
 some x11
theorem zj7 (a0:z05):z1t Tryz.prog 103 [.rd z04 a0] [] (zap a0) (fun r nv=>⟨[.val (nv 0)],[(100,some (nv 0,.list u8R 5 r))]⟩):=by
 refine z2p 17 Tryz.func103 Z Z Z fun H w=>?_
 refine gSR<|Eb Z (bx 1 Z) fun v1=>Zb Z<|z0s<|z6n [5,20,38] mixed Z Z<|hTk 0 Z Z (ld 1 Z Z fH ze5 Z)<|hTk 2 Z Z (faB 1 Z Z Tryz.underlying72 Z (by exact zm3))<|hTk 3 Z Z (faB 1 Z Z Tryz.underlying70 Z (by exact z5u))<|hTk 4 Z Z (ld 1 Z Z ((fP (z2g _)).part (z4v _)) z92 Z)<|hTk 5 Z Z (W.toU Z tu65 tu52)<|hTk 8 Z Z (faB 1 Z Z Tryz.underlying72 Z (by exact zm3))<|hTk 9 Z Z (faB 1 Z Z Tryz.underlying70 Z (by exact z5u))<|hTk 10 Z Z (ld 1 Z Z ((fP (z2g _)).part (z6v _)) z92 Z)<|hTk 11 Z Z (W.toU Z tu65 tu52)<|z3a 1 [] [(100,5)] Z (by kernel_rfl) Z (gd0 Z) Z Tryz.func145 Z Z (ze9 _) (Y1 Z) rN Z (fun _ _=>z3w) fun r2 n3=>z3a 6 [] [(100,20)] Z (by kernel_rfl) Z (gd0 Z) Z Tryz.func150 Z Z (z37 _) (Y1 Z) rN Z (fun _ _=>z3w) fun r4 n5=>z4c fun x6 h7=>Zo 7 Z Z Z (apn 5 Z Z Z (.own 20 Z) h7 tu129 ti5 Z Z Z) fun v8=>z3a 12 [] [(100,38)] Z (by kernel_rfl) Z (gd0 Z) Z Tryz.func150 Z Z (z37 _) (Y1 Z) rN Z (fun _ _=>z3w) fun r9 n10=>z4c fun x11 h12=>Zo 13 Z Z Z (apn 5 Z Z Z (.own 38 Z) h12 tu129 ti5 Z Z Z) fun v13=>Zf 14 Z Z z3w (asg Z)<|z30 (by kernel_rfl)<|z0k<|z0l<|Ze [v13] [5] Z
def zcr  : Option ((Vector UInt32 8)) :=
 some (#v[1779033703,3144134277,1013904242,2773480762,1359893119,2600822924,528734635,1541459225]:Vector UInt32 8)
theorem zis  : z1t Tryz.prog 148 [] [] (zcr) (fun r nv=>⟨[.rd (z3m 8 z0n) r],[]⟩):=by
 refine z2p 2 Tryz.func148 Z Z Z fun H w=>?_
 refine gSR<|Eb Z (z5o 1 zhy (.zr (R:=(z3m 8 z0n)) (x:=(Vector.replicate 8 0)) zrd)) fun v1=>Zn<|gSR<|Zq (litA (R:=z0n) [1779033703,3144134277,1013904242,2773480762,1359893119,2600822924,528734635,1541459225] (#v[1779033703,3144134277,1013904242,2773480762,1359893119,2600822924,528734635,1541459225]:Vector UInt32 8) (pP Z Z<|pP Z Z<|pP Z Z<|pP Z Z<|pP Z Z<|pP Z Z<|pP Z Z<|pP Z Z<|pN) Z tu194 zhy Z z5u)<|Es (sto 1 Z Z fH Z zhy)<|Zn<|z0l<|zcn [] [] Z (eC 1 Z Z zr8<|eN) (rN)
def z78 (a0:Int) (s3:(List UInt8)):Option (Sum ((List UInt8)) ((List UInt8))) :=
 if (Int.tmod (w64 ((w64 (a0+(s3.length:Int)))+8)) 64) != 0 then
  app 1 s3 [0] >>= fun x7 =>
  some (.inr x7)
 else
  some (.inl s3)
def z71 (a0:Int) (s12:(List UInt8) × Int):Option (Sum ((List UInt8)) ((List UInt8) × Int)) :=
 if decide (0≤s12.2) then
  chk (0≤w64 (8 * s12.2)) >>= fun u15 =>
  app 1 s12.1 [(z85 (8 * (UInt64.ofInt a0)) ((w64 (8 * s12.2):Int).toNat)).toUInt8] >>= fun x18 =>
  some (w64 (s12.2 - 1)) >>= fun y21 =>
  some (.inr (x18,y21))
 else
  some (.inl s12.1)
def zbo (a0:Int):Option ((List UInt8)) :=
 (iter (z78 a0) [128]) >>= fun s2 =>
 (iter (z71 a0) (s2,7)) >>= fun s11 =>
 some s11
theorem zki (a0:Int):z1t Tryz.prog 149 [.rd z0c a0] [] (zbo a0) (fun r nv=>⟨[.val (nv 0)],[(100,some (nv 0,.list u8R 5 r))]⟩):=by
 refine z2p 31 Tryz.func149 Z Z Z fun H w=>?_
 refine gSR<|Zb Z<|gSR<|Ef Z (lit (R:=u8R) ([128]:List UInt8) 1 (pP Z Z<|pN) Z tu129 ti5 Z Z) fun v1=>Zb Z<|z8t (fun (s2:(List UInt8)) aa ww=>∃ nv:Nat→Value,Sta (ctx 31 H [] w) [(0,.rd z0c a0),(3,.val (nv 0))] [(1,some ((nv 0),.list u8R 5 s2))] aa ww) ?_ (fun s2=>?_)
 ·
  refine z1w (fun (s3:(List UInt8)) aa ww=>∃ nv:Nat→Value,Sta (ctx 31 H [] w) [(0,.rd z0c a0),(3,.val (nv 0))] [(1,some ((nv 0),.list u8R 5 s3))] aa ww) (fun aa ww h=>⟨nvl [v1],Zu h [1]⟩) (fun s3=>?_)
  refine gEx fun n4=>z0s<|gSR<|Zm Z<|Zm Z<|Zq (z3s Z (.own 1 Z) Z tu129)<|Zq (I.add Z Z)<|Zq (I.add Z Z)<|Zq (I.rem Z Z (by decide))<|Zq (I.neq Z Z)<|Zj Z (fun h5=>?_) (fun h5=>?_)
  ·
   refine Zt<|z4w<|z28<|Zm Z<|Ef Z (lit (R:=u8R) ([0]:List UInt8) 2 (pP Z Z<|pN) Z tu129 ti5 Z Z) fun v6=>z0u fun x7 h8=>Ef Z (apn 1 Z Z Z (.own 2 Z) h8 tu129 ti5 Z Z Z) fun v9=>Za Z<|z1s<|z38<|z1g (fun aa ww h=>⟨nvl [v9],Zu h [1]⟩)
  ·
   refine z1r<|z0x<|z10<|z3t (fun aa ww h=>⟨nvl [(n4 0)],Zu h [1]⟩)
 ·
  refine gEx fun n10=>z8t (fun (s11:(List UInt8)) aa ww=>∃ nv:Nat→Value,Sta (ctx 31 H [] w) [(3,.val (nv 0))] [(1,some ((nv 0),.list u8R 5 s11))] aa ww) ?_ (fun s11=>?_)
  ·
   refine gSR<|Zb Z<|z1w (fun (s12:(List UInt8) × Int) aa ww=>∃ nv:Nat→Value,Sta (ctx 31 H [] w) [(0,.rd z0c a0),(3,.val (nv 0)),(4,.rd z0c s12.2)] [(1,some ((nv 0),.list u8R 5 s12.1))] aa ww) (fun aa ww h=>⟨nvl [(n10 0)],Zu h [1]⟩) (fun s12=>?_)
   refine gEx fun n13=>z0s<|gSR<|Zm Z<|Zq (I.geq Z Z)<|Zj Z (fun h14=>?_) (fun h14=>?_)
   ·
    refine Zt<|z0s<|z4w<|z28<|Zm Z<|Zm Z<|Zq (I.toU Z tu3 tu52)<|Zq (U.mul Z Z)<|Zm Z<|Zq (I.mul Z Z)<|z0u fun u15 h16=>Zq (U.shr Z Z (z6g h16))<|Zq (U.toB Z tu52 tu5)<|Ef Z (lit (R:=u8R) ([(z85 (8 * (UInt64.ofInt a0)) ((w64 (8 * s12.2):Int).toNat)).toUInt8]:List UInt8) 3 (pP Z Z<|pN) Z tu129 ti5 Z Z) fun v17=>z0u fun x18 h19=>Ef Z (apn 1 Z Z Z (.own 3 Z) h19 tu129 ti5 Z Z Z) fun v20=>Za Z<|z1s<|z38<|z0k<|z28<|Zm Z<|Zq (I.sub Z Z)<|Za Z<|z1x 4 Z fun y21=>z1s<|z1g (fun aa ww h=>⟨nvl [v20],Zu h [1]⟩)
   ·
    refine z1r<|z0x<|z10<|z3t (fun aa ww h=>⟨nvl [(n13 0)],Zu h [1]⟩)
  ·
   refine gEx fun n22=>gSR<|Zm Z<|Zb Z<|z0l<|Ze [(n22 0)] [1] Z
def z2k (a0:UInt32) (a1:Int):Option (UInt32) :=
 chk (0≤a1) >>= fun u1 =>
 chk (0≤w64 (32 - a1)) >>= fun u3 =>
 some ((z4k a0 ((a1:Int).toNat)) ||| (zq8 a0 ((w64 (32 - a1):Int).toNat))) >>= fun y5 =>
 some y5
theorem z2s (a0:UInt32) (a1:Int):z1t Tryz.prog 217 [.rd z0n a0,.rd z0c a1] [] (z2k a0 a1) (fun r nv=>⟨[.rd z0n r],[]⟩):=by
 refine z2p 13 Tryz.func217 Z Z Z fun H w=>?_
 refine gSR<|Zb Z<|z0s<|zit mixed (by kernel_rfl)<|Rq Z (mv Z)<|Rq Z (mv Z)<|z8f fun u1 h2=>Rq Z (W.shr Z Z (z6g h2))<|Rq Z (mv Z)<|Rq Z (mv Z)<|Rq Z (I.sub Z Z)<|z8f fun u3 h4=>Rq Z (W.shl Z Z (z6g h4))<|Rq Z (W.or Z Z)<|Rq Z (asg Z)<|z1be 4 Z fun y5=>ztz<|z0k<|z0l<|Ze [] [] Z
def za0  : Option ((List UInt32)) :=
 some [1116352408,1899447441,3049323471,3921009573,961987163,1508970993,2453635748,2870763221,3624381080,310598401,607225278,1426881987,1925078388,2162078206,2614888103,3248222580,3835390401,4022224774,264347078,604807628,770255983,1249150122,1555081692,1996064986,2554220882,2821834349,2952996808,3210313671,3336571891,3584528711,113926993,338241895,666307205,773529912,1294757372,1396182291,1695183700,1986661051,2177026350,2456956037,2730485921,2820302411,3259730800,3345764771,3516065817,3600352804,4094571909,275423344,430227734,506948616,659060556,883997877,958139571,1322822218,1537002063,1747873779,1955562222,2024104815,2227730452,2361852424,2428436474,2756734187,3204031479,3329325298]
theorem zfe  : z1t Tryz.prog 218 [] [] (za0) (fun r nv=>⟨[.val (nv 0)],[(100,some (nv 0,.list z0n 65 r))]⟩):=by
 refine z2p 2 Tryz.func218 Z Z Z fun H w=>?_
 refine gSR<|Zb Z<|gSR<|Ef Z (lit (R:=z0n) ([1116352408,1899447441,3049323471,3921009573,961987163,1508970993,2453635748,2870763221,3624381080,310598401,607225278,1426881987,1925078388,2162078206,2614888103,3248222580,3835390401,4022224774,264347078,604807628,770255983,1249150122,1555081692,1996064986,2554220882,2821834349,2952996808,3210313671,3336571891,3584528711,113926993,338241895,666307205,773529912,1294757372,1396182291,1695183700,1986661051,2177026350,2456956037,2730485921,2820302411,3259730800,3345764771,3516065817,3600352804,4094571909,275423344,430227734,506948616,659060556,883997877,958139571,1322822218,1537002063,1747873779,1955562222,2024104815,2227730452,2361852424,2428436474,2756734187,3204031479,3329325298]:List UInt32) 1 (pP Z Z<|pP Z Z<|pP Z Z<|pP Z Z<|pP Z Z<|pP Z Z<|pP Z Z<|pP Z Z<|pP Z Z<|pP Z Z<|pP Z Z<|pP Z Z<|pP Z Z<|pP Z Z<|pP Z Z<|pP Z Z<|pP Z Z<|pP Z Z<|pP Z Z<|pP Z Z<|pP Z Z<|pP Z Z<|pP Z Z<|pP Z Z<|pP Z Z<|pP Z Z<|pP Z Z<|pP Z Z<|pP Z Z<|pP Z Z<|pP Z Z<|pP Z Z<|pP Z Z<|pP Z Z<|pP Z Z<|pP Z Z<|pP Z Z<|pP Z Z<|pP Z Z<|pP Z Z<|pP Z Z<|pP Z Z<|pP Z Z<|pP Z Z<|pP Z Z<|pP Z Z<|pP Z Z<|pP Z Z<|pP Z Z<|pP Z Z<|pP Z Z<|pP Z Z<|pP Z Z<|pP Z Z<|pP Z Z<|pP Z Z<|pP Z Z<|pP Z Z<|pP Z Z<|pP Z Z<|pP Z Z<|pP Z Z<|pP Z Z<|pP Z Z<|pN) Z tu236 z5u Z Z) fun v1=>Zb Z<|z0l<|Ze [v1] [1] Z
def z5f (a1:List UInt8) (s4:(List UInt32) × Int):Option (Sum ((List UInt32)) ((List UInt32) × Int)) :=
 if decide (s4.2<16) then
  idx a1 (w64 (4 * s4.2)) >>= fun x7 =>
  idx a1 (w64 ((w64 (4 * s4.2))+1)) >>= fun x9 =>
  idx a1 (w64 ((w64 (4 * s4.2))+2)) >>= fun x11 =>
  idx a1 (w64 ((w64 (4 * s4.2))+3)) >>= fun x13 =>
  app 4 s4.1 [(((((x7.toUInt32 * 256)+x9.toUInt32) * 256)+x11.toUInt32) * 256)+x13.toUInt32] >>= fun x16 =>
  some (w64 (s4.2+1)) >>= fun y19 =>
  some (.inr (x16,y19))
 else
  some (.inl s4.1)
def z5l (s22:(List UInt32) × Int):Option (Sum ((List UInt32)) ((List UInt32) × Int)) :=
 if decide (s22.2<64) then
  idx s22.1 (w64 (s22.2 - 15)) >>= fun x25 =>
  idx s22.1 (w64 (s22.2 - 2)) >>= fun x27 =>
  idx s22.1 (w64 (s22.2 - 16)) >>= fun x29 =>
  idx s22.1 (w64 (s22.2 - 7)) >>= fun x31 =>
  z2k x25 7 >>= fun r33 =>
  z2k x25 18 >>= fun r36 =>
  z2k x27 17 >>= fun r39 =>
  z2k x27 19 >>= fun r42 =>
  app 4 s22.1 [((x29+x31)+((r33 ^^^ r36) ^^^ (z4k x25 3)))+((r39 ^^^ r42) ^^^ (z4k x27 10))] >>= fun x45 =>
  some (w64 (s22.2+1)) >>= fun y48 =>
  some (.inr (x45,y48))
 else
  some (.inl s22.1)
def z3p (s21:(List UInt32)) (r50:(List UInt32)) (s54:(Vector UInt32 8) × Int):Option (Sum ((Vector UInt32 8)) ((Vector UInt32 8) × Int)) :=
 if decide (s54.2<64) then
  z84 s54.1 0 >>= fun x56 =>
  z84 s54.1 1 >>= fun x58 =>
  z84 s54.1 2 >>= fun x60 =>
  z84 s54.1 4 >>= fun x62 =>
  z84 s54.1 5 >>= fun x64 =>
  z84 s54.1 6 >>= fun x66 =>
  z84 s54.1 7 >>= fun x68 =>
  idx r50 s54.2 >>= fun x70 =>
  idx s21 s54.2 >>= fun x72 =>
  z2k x62 6 >>= fun r74 =>
  z2k x62 11 >>= fun r76 =>
  z2k x62 25 >>= fun r78 =>
  some ((((x68+((r74 ^^^ r76) ^^^ r78))+((x62 &&& x64) ^^^ ((~~~x62) &&& x66)))+x70)+x72) >>= fun y80 =>
  z2k x56 2 >>= fun r81 =>
  z2k x56 13 >>= fun r83 =>
  z2k x56 22 >>= fun r85 =>
  some (((r81 ^^^ r83) ^^^ r85)+(((x56 &&& x58) ^^^ (x56 &&& x60)) ^^^ (x58 &&& x60))) >>= fun y87 =>
  z84 s54.1 3 >>= fun x88 =>
  some (w64 (s54.2+1)) >>= fun y90 =>
  some (.inr ((#v[y80+y87,x56,x58,x60,x88+y80,x62,x64,x66]:Vector UInt32 8),y90))
 else
  some (.inl s54.1)
def z1o (s53:(Vector UInt32 8)) (s92:(Vector UInt32 8) × Int):Option (Sum ((Vector UInt32 8)) ((Vector UInt32 8) × Int)) :=
 if decide (s92.2<8) then
  z84 s92.1 s92.2 >>= fun x94 =>
  z84 s53 s92.2 >>= fun x96 =>
  z84 s92.1 s92.2 >>= fun x98 =>
  some (w64 (s92.2+1)) >>= fun y100 =>
  some (.inr (zj9 s92.1 s92.2 (x94+x96),y100))
 else
  some (.inl s92.1)
def z9h (a0:Vector UInt32 8) (a1:List UInt8):Option ((Vector UInt32 8)) :=
 (iter (z5f a1) ([],0)) >>= fun s3 =>
 (iter (z5l) (s3,16)) >>= fun s21 =>
 za0 >>= fun r50 =>
 (iter (z3p s21 r50) (a0,0)) >>= fun s53 =>
 (iter (z1o s53) (a0,0)) >>= fun s91 =>
 some s91
set_option maxHeartbeats 4000000 in
theorem zhv (a0:Vector UInt32 8) (a1:List UInt8):z1t Tryz.prog 193 [.rd (z3m 8 z0n) a0,.rd (z02 u8R) a1] [] (z9h a0 a1) (fun r nv=>⟨[.rd (z3m 8 z0n) r],[]⟩):=by
 refine z2p 203 Tryz.func193 Z Z Z fun H w=>?_
 refine gSR<|Eb Z (bx 1 Z) fun v1=>Eb Z (z5o 2 zhy (.zr (R:=(z3m 8 z0n)) (x:=(Vector.replicate 8 0)) zrd)) fun v2=>Zn<|gSR<|Zb Z<|z8t (fun (s3:(List UInt32)) aa ww=>∃ nv:Nat→Value,Sta (ctx 203 H [] w) [(2,.val (z06 v1 0)),(4,.val (z06 v2 0)),(5,.val (nv 0))] [(1,some (v1,.box 194 [.rd (z3m 8 z0n) a0])),(2,some (v2,.box 194 [.rd (z3m 8 z0n) (Vector.replicate 8 0)])),(108,some ((nv 0),.list z0n 65 s3))] aa ww) ?_ (fun s3=>?_)
 ·
  refine gSR<|Zb Z<|zxg z0n 65 215<|z1w (fun (s4:(List UInt32) × Int) aa ww=>∃ nv:Nat→Value,Sta (ctx 203 H [] w) [(1,.rd (z02 u8R) a1),(2,.val (z06 v1 0)),(4,.val (z06 v2 0)),(5,.val (nv 0)),(6,.rd z0c s4.2)] [(1,some (v1,.box 194 [.rd (z3m 8 z0n) a0])),(2,some (v2,.box 194 [.rd (z3m 8 z0n) (Vector.replicate 8 0)])),(214,some ((nv 0),.list z0n 65 s4.1))] aa ww) (fun aa ww h=>⟨nvl [(.slice none 0 0)],Zu h [1,2,215]⟩) (fun s4=>?_)
  refine gEx fun n5=>z0s<|gSR<|Zm Z<|Zq (I.lss Z Z)<|Zj Z (fun h6=>?_) (fun h6=>?_)
  ·
   refine Zt<|z0s<|z4w<|z6n [214,318] mixed Z Z<|hTk 0 Z Z (mv Z)<|hTk 1 Z Z (mv Z)<|hTk 2 Z Z (mv Z)<|hTk 3 Z Z (I.mul Z Z)<|z4c fun x7 h8=>hTk 4 Z Z (ixR Z Z h8 tu129 ti5 Z)<|hTk 5 Z Z (ldR Z ty5)<|hTk 6 Z Z (B.toW Z tu5 tu65)<|hTk 7 Z Z (W.mul Z Z)<|hTk 8 Z Z (mv Z)<|hTk 9 Z Z (mv Z)<|hTk 10 Z Z (I.mul Z Z)<|hTk 11 Z Z (I.add Z Z)<|z4c fun x9 h10=>hTk 12 Z Z (ixR Z Z h10 tu129 ti5 Z)<|hTk 13 Z Z (ldR Z ty5)<|hTk 14 Z Z (B.toW Z tu5 tu65)<|hTk 15 Z Z (W.add Z Z)<|hTk 16 Z Z (W.mul Z Z)<|hTk 17 Z Z (mv Z)<|hTk 18 Z Z (mv Z)<|hTk 19 Z Z (I.mul Z Z)<|hTk 20 Z Z (I.add Z Z)<|z4c fun x11 h12=>hTk 21 Z Z (ixR Z Z h12 tu129 ti5 Z)<|hTk 22 Z Z (ldR Z ty5)<|hTk 23 Z Z (B.toW Z tu5 tu65)<|hTk 24 Z Z (W.add Z Z)<|hTk 25 Z Z (W.mul Z Z)<|hTk 26 Z Z (mv Z)<|hTk 27 Z Z (mv Z)<|hTk 28 Z Z (I.mul Z Z)<|hTk 29 Z Z (I.add Z Z)<|z4c fun x13 h14=>hTk 30 Z Z (ixR Z Z h14 tu129 ti5 Z)<|hTk 31 Z Z (ldR Z ty5)<|hTk 32 Z Z (B.toW Z tu5 tu65)<|hTk 33 Z Z (W.add Z Z)<|Zo 34 Z Z Z (lit (R:=z0n) ([(((((x7.toUInt32 * 256)+x9.toUInt32) * 256)+x11.toUInt32) * 256)+x13.toUInt32]:List UInt32) 318 (pP Z Z<|pN) Z tu236 z5u Z Z) fun v15=>z4c fun x16 h17=>Zo 35 Z Z Z (apn 214 Z Z Z (.own 318 Z) h17 tu236 z5u Z Z Z) fun v18=>Zf 36 Z Z z3w (asg Z)<|z30 (by kernel_rfl)<|z38<|z0k<|z28<|Zm Z<|Zq (I.add Z Z)<|Za Z<|z1x 6 Z fun y19=>z1s<|z1g (fun aa ww h=>⟨nvl [v18],Zu h [1,2,214]⟩)
  ·
   refine z1r<|z0x<|z10<|z3t (fun aa ww h=>⟨nvl [(n5 0)],Zu h [1,2,214]⟩)
 ·
  refine gEx fun n20=>z8t (fun (s21:(List UInt32)) aa ww=>∃ nv:Nat→Value,Sta (ctx 203 H [] w) [(2,.val (z06 v1 0)),(4,.val (z06 v2 0)),(5,.val (nv 0))] [(1,some (v1,.box 194 [.rd (z3m 8 z0n) a0])),(2,some (v2,.box 194 [.rd (z3m 8 z0n) (Vector.replicate 8 0)])),(108,some ((nv 0),.list z0n 65 s21))] aa ww) ?_ (fun s21=>?_)
  ·
   refine gSR<|Zb Z<|z1w (fun (s22:(List UInt32) × Int) aa ww=>∃ nv:Nat→Value,Sta (ctx 203 H [] w) [(2,.val (z06 v1 0)),(4,.val (z06 v2 0)),(5,.val (nv 0)),(7,.rd z0c s22.2)] [(1,some (v1,.box 194 [.rd (z3m 8 z0n) a0])),(2,some (v2,.box 194 [.rd (z3m 8 z0n) (Vector.replicate 8 0)])),(108,some ((nv 0),.list z0n 65 s22.1))] aa ww) (fun aa ww h=>⟨nvl [(n20 0)],Zu h [1,2,108]⟩) (fun s22=>?_)
   refine gEx fun n23=>z0s<|gSR<|Zm Z<|Zq (I.lss Z Z)<|Zj Z (fun h24=>?_) (fun h24=>?_)
   ·
    refine Zt<|z0s<|z4w<|z0s<|zit mixed (by kernel_rfl)<|Rq Z (mv Z)<|Rq Z (mv Z)<|Rq Z (I.sub Z Z)<|z8f fun x25 h26=>Rq Z (ixO 108 Z Z Z h26 tu236 z5u)<|Rq Z (ld 108 Z Z (Foc.el h26) z92 Z)<|Rq Z (mv Z)<|Rq Z (mv Z)<|Rq Z (I.sub Z Z)<|z8f fun x27 h28=>Rq Z (ixO 108 Z Z Z h28 tu236 z5u)<|Rq Z (ld 108 Z Z (Foc.el h28) z92 Z)<|Rq Z (asg Z)<|Rq Z (asg Z)<|ztz<|z0k<|gSub [(5,.val (n23 0)),(2,.val (z06 v1 0)),(4,.val (z06 v2 0)),(7,.rd z0c s22.2),(8,.rd z0n x25),(9,.rd z0n x27)] [(1,some (v1,.box 194 [.rd (z3m 8 z0n) a0])),(2,some (v2,.box 194 [.rd (z3m 8 z0n) (Vector.replicate 8 0)])),(108,some ((n23 0),.list z0n 65 s22.1))] [1,2,108] (Zs Z Z Z Z<|sS Z<|sS Z<|sN) (Zi Z<|Zi Z<|Zi Z<|rN)<|zbq fun x29 h30=>zbq fun x31 h32=>zbq fun r33 h35=>zbq fun r36 h38=>zbq fun r39 h41=>zbq fun r42 h44=>zbq fun x45 h46=>gOr [(5,.val (n23 0),32)] [⟨108,some ([], fun nv=>((n23 0),.list z0n 65 s22.1)),[(31,some ([2], fun nv=>((nv 2),.list z0n 65 x45)))]⟩,⟨330,none,[(30,some ([1], fun nv=>((nv 1),.list z0n 65 [((x29+x31)+((r33 ^^^ r36) ^^^ (z4k x25 3)))+((r39 ^^^ r42) ^^^ (z4k x27 10))])))]⟩] [⟨some (76,[], fun nv=>.val (n23 0)),[],[],[0]⟩,⟨some (77,[], fun nv=>.val (n23 0)),[],[],[0]⟩,pd 78 (.rd z0c s22.2),pd 79 (.rd z0c (w64 (s22.2 - 16))),pk 80 (.val (z06 (n23 0) ((w64 (s22.2 - 16):Int).toNat * 1))) [(0,0,false)],pk 81 (.rd z0n x29) [(0,0,false)],⟨some (82,[], fun nv=>.val (n23 0)),[],[],[0]⟩,pd 83 (.rd z0c s22.2),pd 84 (.rd z0c (w64 (s22.2 - 7))),pk 85 (.val (z06 (n23 0) ((w64 (s22.2 - 7):Int).toNat * 1))) [(0,0,false)],pk 86 (.rd z0n x31) [(0,0,false)],pd 87 (.rd z0n (x29+x31)),pd 88 (.rd z0n x25),pd 89 (.rd z0n r33),pd 90 (.rd z0n x25),pd 91 (.rd z0n r36),pd 92 (.rd z0n (r33 ^^^ r36)),pd 93 (.rd z0n x25),pd 94 (.rd z0n (z4k x25 3)),pd 95 (.rd z0n ((r33 ^^^ r36) ^^^ (z4k x25 3))),pd 96 (.rd z0n ((x29+x31)+((r33 ^^^ r36) ^^^ (z4k x25 3)))),pd 97 (.rd z0n x27),pd 98 (.rd z0n r39),pd 99 (.rd z0n x27),pd 100 (.rd z0n r42),pd 101 (.rd z0n (r39 ^^^ r42)),pd 102 (.rd z0n x27),pd 103 (.rd z0n (z4k x27 10)),pd 104 (.rd z0n ((r39 ^^^ r42) ^^^ (z4k x27 10))),pd 105 (.rd z0n (((x29+x31)+((r33 ^^^ r36) ^^^ (z4k x25 3)))+((r39 ^^^ r42) ^^^ (z4k x27 10)))),⟨some (106,[1], fun nv=>.val (nv 1)),[(1,0,true)],[1],[]⟩,⟨some (107,[2], fun nv=>.val (nv 2)),[(1,1,false),(0,0,true)],[2],[]⟩,⟨some (5,[2], fun nv=>.val (nv 2)),[],[],[]⟩] mixed (oC (oRn (fun nv E=>mv Z))<|oC (oRn (fun nv E=>mv Z))<|oC (oRn (fun nv E=>mv Z))<|oC (oRn (fun nv E=>I.sub Z Z))<|oC (oRn (fun nv E=>ixO 108 Z Z Z h30 tu236 z5u))<|oC (oRn (fun nv E=>ld 108 Z Z (Foc.el h30) z92 Z))<|oC (oRn (fun nv E=>mv Z))<|oC (oRn (fun nv E=>mv Z))<|oC (oRn (fun nv E=>I.sub Z Z))<|oC (oRn (fun nv E=>ixO 108 Z Z Z h32 tu236 z5u))<|oC (oRn (fun nv E=>ld 108 Z Z (Foc.el h32) z92 Z))<|oC (oRn (fun nv E=>W.add Z Z))<|oC (oRn (fun nv E=>mv Z))<|oC (oCl [] [] [] h35 Tryz.func217 Z (fun nv=>(z2s _ _)) (fun nv=>(Y2 Z Z)) (fun nv E=>rN))<|oC (oRn (fun nv E=>mv Z))<|oC (oCl [] [] [] h38 Tryz.func217 Z (fun nv=>(z2s _ _)) (fun nv=>(Y2 Z Z)) (fun nv E=>rN))<|oC (oRn (fun nv E=>W.xor Z Z))<|oC (oRn (fun nv E=>mv Z))<|oC (oRn (fun nv E=>W.shr Z Z (Int.natCast_nonneg _)))<|oC (oRn (fun nv E=>W.xor Z Z))<|oC (oRn (fun nv E=>W.add Z Z))<|oC (oRn (fun nv E=>mv Z))<|oC (oCl [] [] [] h41 Tryz.func217 Z (fun nv=>(z2s _ _)) (fun nv=>(Y2 Z Z)) (fun nv E=>rN))<|oC (oRn (fun nv E=>mv Z))<|oC (oCl [] [] [] h44 Tryz.func217 Z (fun nv=>(z2s _ _)) (fun nv=>(Y2 Z Z)) (fun nv E=>rN))<|oC (oRn (fun nv E=>W.xor Z Z))<|oC (oRn (fun nv E=>mv Z))<|oC (oRn (fun nv E=>W.shr Z Z (Int.natCast_nonneg _)))<|oC (oRn (fun nv E=>W.xor Z Z))<|oC (oRn (fun nv E=>W.add Z Z))<|oC (oEf 330 1 (fun nv E=>lit (R:=z0n) ([((x29+x31)+((r33 ^^^ r36) ^^^ (z4k x25 3)))+((r39 ^^^ r42) ^^^ (z4k x27 10))]:List UInt32) 330 (pP Z Z<|pN) Z tu236 z5u Z Z))<|oC (oEf 108 2 (fun nv E=>apn 108 Z Z Z (.own 330 Z) h46 tu236 z5u Z Z Z))<|oC (oRn (fun nv E=>asg Z))<|oN) fun n47=>z38<|z0k<|z28<|Zm Z<|Zq (I.add Z Z)<|Za Z<|z1x 7 Z fun y48=>z1s<|z1g (fun aa ww h=>⟨nvl [(n47 2)],Zu h [1,2,108]⟩)
   ·
    refine z1r<|z0x<|z10<|z3t (fun aa ww h=>⟨nvl [(n23 0)],Zu h [1,2,108]⟩)
  ·
   refine gEx fun n49=>gSR<|Zc [] [(100,331)] Tryz.func218 Z (zfe) fun r50 n51=>Zb Z<|gSR<|Zq (ld 1 Z Z fH zr8 Z)<|Eb Z (z5o 332 zhy (.zr (R:=(z3m 8 z0n)) (x:=(Vector.replicate 8 0)) zrd)) fun v52=>Es (sto 332 Z Z fH Z zhy)<|Zn<|z8t (fun (s53:(Vector UInt32 8)) aa ww=>Sta (ctx 203 H [] w) [(2,.val (z06 v1 0)),(4,.val (z06 v2 0)),(11,.val (z06 v52 0))] [(1,some (v1,.box 194 [.rd (z3m 8 z0n) a0])),(2,some (v2,.box 194 [.rd (z3m 8 z0n) (Vector.replicate 8 0)])),(332,some (v52,.box 194 [.rd (z3m 8 z0n) s53]))] aa ww) ?_ (fun s53=>?_)
   ·
    refine gSR<|Zb Z<|z1w (fun (s54:(Vector UInt32 8) × Int) aa ww=>Sta (ctx 203 H [] w) [(2,.val (z06 v1 0)),(4,.val (z06 v2 0)),(5,.val (n49 0)),(10,.val (n51 0)),(11,.val (z06 v52 0)),(12,.rd z0c s54.2)] [(1,some (v1,.box 194 [.rd (z3m 8 z0n) a0])),(2,some (v2,.box 194 [.rd (z3m 8 z0n) (Vector.replicate 8 0)])),(108,some ((n49 0),.list z0n 65 s21)),(331,some ((n51 0),.list z0n 65 r50)),(332,some (v52,.box 194 [.rd (z3m 8 z0n) s54.1]))] aa ww) (fun aa ww h=>Zu h [1,2,108,331,332]) (fun s54=>?_)
    refine z0s<|gSR<|Zm Z<|Zq (I.lss Z Z)<|Zj Z (fun h55=>?_) (fun h55=>?_)
    ·
     refine Zt<|z0s<|z4w<|z0s<|zit mixed (by kernel_rfl)<|z8f fun x56 h57=>Rq Z (ixB 332 Z Z Z h57 tu194 z5u)<|Rq Z (ld 332 Z Z (fP (.el h57)) z92 Z)<|z8f fun x58 h59=>Rq Z (ixB 332 Z Z Z h59 tu194 z5u)<|Rq Z (ld 332 Z Z (fP (.el h59)) z92 Z)<|z8f fun x60 h61=>Rq Z (ixB 332 Z Z Z h61 tu194 z5u)<|Rq Z (ld 332 Z Z (fP (.el h61)) z92 Z)<|z8f fun x62 h63=>Rq Z (ixB 332 Z Z Z h63 tu194 z5u)<|Rq Z (ld 332 Z Z (fP (.el h63)) z92 Z)<|z8f fun x64 h65=>Rq Z (ixB 332 Z Z Z h65 tu194 z5u)<|Rq Z (ld 332 Z Z (fP (.el h65)) z92 Z)<|z8f fun x66 h67=>Rq Z (ixB 332 Z Z Z h67 tu194 z5u)<|Rq Z (ld 332 Z Z (fP (.el h67)) z92 Z)<|Rq Z (asg Z)<|Rq Z (asg Z)<|Rq Z (asg Z)<|Rq Z (asg Z)<|Rq Z (asg Z)<|Rq Z (asg Z)<|ztz<|z0k<|z0s<|z6n [] mixed Z Z<|z4c fun x68 h69=>hTk 0 Z Z (ixB 332 Z Z Z h69 tu194 z5u)<|hTk 1 Z Z (ld 332 Z Z (fP (.el h69)) z92 Z)<|hTk 2 Z Z (mv Z)<|hTk 4 Z Z (mv Z)<|hTk 7 Z Z (mv Z)<|hTk 11 Z Z (mv Z)<|hTk 12 Z Z (mv Z)<|hTk 13 Z Z (W.and Z Z)<|hTk 14 Z Z (mv Z)<|hTk 15 Z Z (W.cpl Z)<|hTk 16 Z Z (mv Z)<|hTk 17 Z Z (W.and Z Z)<|hTk 18 Z Z (W.xor Z Z)<|hTk 20 Z Z (mv Z)<|hTk 21 Z Z (mv Z)<|z4c fun x70 h71=>hTk 22 Z Z (ixO 331 Z Z Z h71 tu236 z5u)<|hTk 23 Z Z (ld 331 Z Z (Foc.el h71) z92 Z)<|hTk 25 Z Z (mv Z)<|hTk 26 Z Z (mv Z)<|z4c fun x72 h73=>hTk 27 Z Z (ixO 108 Z Z Z h73 tu236 z5u)<|hTk 28 Z Z (ld 108 Z Z (Foc.el h73) z92 Z)<|z3a 3 [] [] Z (by kernel_rfl) Z (gd0 Z) Z Tryz.func217 Z Z (z2s _ _) (Y2 Z Z) rN Z (fun _ _=>z27) fun r74 n75=>z3a 5 [] [] Z (by kernel_rfl) Z (gd0 Z) Z Tryz.func217 Z Z (z2s _ _) (Y2 Z Z) rN Z (fun _ _=>z27) fun r76 n77=>hTk 6 Z Z (W.xor Z Z)<|z3a 8 [] [] Z (by kernel_rfl) Z (gd0 Z) Z Tryz.func217 Z Z (z2s _ _) (Y2 Z Z) rN Z (fun _ _=>z27) fun r78 n79=>hTk 9 Z Z (W.xor Z Z)<|hTk 10 Z Z (W.add Z Z)<|hTk 19 Z Z (W.add Z Z)<|hTk 24 Z Z (W.add Z Z)<|hTk 29 Z Z (W.add Z Z)<|hTk 30 Z Z (asg Z)<|z10k 19 Z Z fun y80=>z30 (by kernel_rfl)<|z0k<|gSR<|Zm Z<|Zc [] [] Tryz.func217 Z (z2s _ _) fun r81 n82=>Zm Z<|Zc [] [] Tryz.func217 Z (z2s _ _) fun r83 n84=>Zq (W.xor Z Z)<|Zm Z<|Zc [] [] Tryz.func217 Z (z2s _ _) fun r85 n86=>Zq (W.xor Z Z)<|Zm Z<|Zm Z<|Zq (W.and Z Z)<|Zm Z<|Zm Z<|Zq (W.and Z Z)<|Zq (W.xor Z Z)<|Zm Z<|Zm Z<|Zq (W.and Z Z)<|Zq (W.xor Z Z)<|Zq (W.add Z Z)<|Za Z<|z1x 20 Z fun y87=>Zn<|z28<|Zm Z<|Zm Z<|Zq (W.add Z Z)<|Zm Z<|Zm Z<|Zm Z<|z0u fun x88 h89=>Zq (ixB 332 Z Z Z h89 tu194 z5u)<|Zq (ld 332 Z Z (fP (.el h89)) z92 Z)<|Zm Z<|Zq (W.add Z Z)<|Zm Z<|Zm Z<|Zm Z<|Zq (litA (R:=z0n) [y80+y87,x56,x58,x60,x88+y80,x62,x64,x66] (#v[y80+y87,x56,x58,x60,x88+y80,x62,x64,x66]:Vector UInt32 8) (pP Z Z<|pP Z Z<|pP Z Z<|pP Z Z<|pP Z Z<|pP Z Z<|pP Z Z<|pP Z Z<|pN) Z tu194 zhy Z z5u)<|Es (sto 332 Z Z fH Z zhy)<|z1s<|z38<|z0k<|z28<|Zm Z<|Zq (I.add Z Z)<|Za Z<|z1x 12 Z fun y90=>z1s<|z1g (fun aa ww h=>Zu h [1,2,108,331,332])
    ·
     refine z1r<|z0x<|z10<|z3t (fun aa ww h=>Zu h [1,2,332])
   ·
    refine z8t (fun (s91:(Vector UInt32 8)) aa ww=>Sta (ctx 203 H [] w) [(2,.val (z06 v1 0)),(4,.val (z06 v2 0))] [(1,some (v1,.box 194 [.rd (z3m 8 z0n) s91])),(2,some (v2,.box 194 [.rd (z3m 8 z0n) (Vector.replicate 8 0)]))] aa ww) ?_ (fun s91=>?_)
    ·
     refine gSR<|Zb Z<|z1w (fun (s92:(Vector UInt32 8) × Int) aa ww=>Sta (ctx 203 H [] w) [(2,.val (z06 v1 0)),(4,.val (z06 v2 0)),(11,.val (z06 v52 0)),(21,.rd z0c s92.2)] [(1,some (v1,.box 194 [.rd (z3m 8 z0n) s92.1])),(2,some (v2,.box 194 [.rd (z3m 8 z0n) (Vector.replicate 8 0)])),(332,some (v52,.box 194 [.rd (z3m 8 z0n) s53]))] aa ww) (fun aa ww h=>Zu h [1,2,332]) (fun s92=>?_)
     refine z0s<|gSR<|Zm Z<|Zq (I.lss Z Z)<|Zj Z (fun h93=>?_) (fun h93=>?_)
     ·
      refine Zt<|z0s<|z4w<|z6n [1] mixed Z Z<|hTk 0 Z Z (mv Z)<|z4c fun x94 h95=>hTk 1 Z Z (ixB 1 Z Z Z h95 tu194 z5u)<|hTk 3 Z Z (mv Z)<|z4c fun x96 h97=>hTk 4 Z Z (ixB 332 Z Z Z h97 tu194 z5u)<|hTk 5 Z Z (ld 332 Z Z (fP (.el h97)) z92 Z)<|hRun 2 Z (by kernel_rfl) (gd0 Z) Z Z z27 (ld 1 Z Z (fP (.el h95)) z92 Z)<|hTk 6 Z Z (W.add Z Z)<|z4c fun x98 h99=>hTk 7 Z Z (ixB 1 Z Z Z h99 tu194 z5u)<|Zp 8 Z Z Z Z Z (sto 1 Z Z (fP (.el h99)) Z z5u)<|z30 (by kernel_rfl)<|z38<|z0k<|z28<|Zm Z<|Zq (I.add Z Z)<|Za Z<|z1x 21 Z fun y100=>z1s<|z1g (fun aa ww h=>Zu h [1,2,332])
     ·
      refine z1r<|z0x<|z10<|z3t (fun aa ww h=>Zu h [1,2])
    ·
     refine gSR<|Zq (ld 1 Z Z fH zr8 Z)<|Es (sto 2 Z Z fH Z zhy)<|Zn<|z0l<|zcn [] [] Z (eC 2 Z Z zr8<|eN) (rN)
def z5j (a1:List UInt8) (s4:(Vector UInt32 8) × Int):Option (Sum ((Vector UInt32 8)) ((Vector UInt32 8) × Int)) :=
 if decide ((w64 (s4.2+64))≤(a1.length:Int)) then
  cut a1 s4.2 (w64 (s4.2+64)) >>= fun x6 =>
  z9h s4.1 x6 >>= fun r8 =>
  some (w64 (s4.2+64)) >>= fun y10 =>
  some (.inr (r8,y10))
 else
  some (.inl s4.1)
def z9n (a0:Vector UInt32 8) (a1:List UInt8):Option ((Vector UInt32 8)) :=
 (iter (z5j a1) (a0,0)) >>= fun s3 =>
 some s3
theorem zhr (a0:Vector UInt32 8) (a1:List UInt8):z1t Tryz.prog 147 [.rd (z3m 8 z0n) a0,.rd (z02 u8R) a1] [] (z9n a0 a1) (fun r nv=>⟨[.rd (z3m 8 z0n) r],[]⟩):=by
 refine z2p 21 Tryz.func147 Z Z Z fun H w=>?_
 refine gSR<|Eb Z (bx 1 Z) fun v1=>Eb Z (z5o 2 zhy (.zr (R:=(z3m 8 z0n)) (x:=(Vector.replicate 8 0)) zrd)) fun v2=>Zn<|z8t (fun (s3:(Vector UInt32 8)) aa ww=>Sta (ctx 21 H [] w) [(2,.val (z06 v1 0)),(4,.val (z06 v2 0))] [(1,some (v1,.box 194 [.rd (z3m 8 z0n) s3])),(2,some (v2,.box 194 [.rd (z3m 8 z0n) (Vector.replicate 8 0)]))] aa ww) ?_ (fun s3=>?_)
 ·
  refine gSR<|Zb Z<|z1w (fun (s4:(Vector UInt32 8) × Int) aa ww=>Sta (ctx 21 H [] w) [(1,.rd (z02 u8R) a1),(2,.val (z06 v1 0)),(4,.val (z06 v2 0)),(5,.rd z0c s4.2)] [(1,some (v1,.box 194 [.rd (z3m 8 z0n) s4.1])),(2,some (v2,.box 194 [.rd (z3m 8 z0n) (Vector.replicate 8 0)]))] aa ww) (fun aa ww h=>Zu h [1,2]) (fun s4=>?_)
  refine z0s<|gSR<|Zm Z<|Zq (I.add Z Z)<|Zm Z<|Zq (z3s Z .rd Z tu129)<|Zq (I.leq Z Z)<|Zj Z (fun h5=>?_) (fun h5=>?_)
  ·
   refine Zt<|z0s<|z4w<|z6n [1] mixed Z Z<|hTk 1 Z Z (mv Z)<|hTk 2 Z Z (mv Z)<|hTk 3 Z Z (mv Z)<|hTk 4 Z Z (I.add Z Z)<|z4c fun x6 h7=>hTk 5 Z Z (cut' Z (.to Z) (.to Z) h7 tu129 ti5)<|hRun 0 Z (by kernel_rfl) (gd0 Z) Z Z anyJ (ld 1 Z Z fH zr8 Z)<|z100 6 [] [] Z (by kernel_rfl) Z (gd0 Z) Z Tryz.func193 Z Z (zhv _ _) (Y2 Z Z) rN Z fun r8 n9=>Zp 7 Z Z Z Z Z (sto 1 Z Z fH Z zhy)<|z30 (by kernel_rfl)<|z38<|z0k<|z28<|Zm Z<|Zq (I.add Z Z)<|Za Z<|z1x 5 Z fun y10=>z1s<|z1g (fun aa ww h=>Zu h [1,2])
  ·
   refine z1r<|z0x<|z10<|z3t (fun aa ww h=>Zu h [1,2])
 ·
  refine gSR<|Zq (ld 1 Z Z fH zr8 Z)<|Es (sto 2 Z Z fH Z zhy)<|Zn<|z0l<|zcn [] [] Z (eC 2 Z Z zr8<|eN) (rN)
def z4z (a0:Vector UInt32 8) (s5:V3 × Int):Option (Sum (V3) (V3 × Int)) :=
 if decide (s5.2<32) then
  z84 a0 (w64 (Int.tdiv s5.2 4)) >>= fun x7 =>
  chk (0≤w64 (24 - (w64 (8 * (Int.tmod s5.2 4))))) >>= fun u9 =>
  z84 s5.1 s5.2 >>= fun x11 =>
  some (w64 (s5.2+1)) >>= fun y13 =>
  some (.inr (zj9 s5.1 s5.2 ((z4k x7 ((w64 (24 - (w64 (8 * (Int.tmod s5.2 4)))):Int).toNat)).toUInt8),y13))
 else
  some (.inl s5.1)
def z8w (a0:Vector UInt32 8):Option (V3) :=
 (iter (z4z a0) ((Vector.replicate 32 0),0)) >>= fun s4 =>
 some s4
theorem zgf (a0:Vector UInt32 8):z1t Tryz.prog 146 [.rd (z3m 8 z0n) a0] [] (z8w a0) (fun r nv=>⟨[.rd aZ r],[]⟩):=by
 refine z2p 22 Tryz.func146 Z Z Z fun H w=>?_
 refine gSR<|Eb Z (bx 1 Z) fun v1=>Eb Z (z5o 2 z33 (.zr (R:=aZ) (x:=(Vector.replicate 32 0)) zex)) fun v2=>Zn<|gSR<|Eb Z (z5o 3 z33 (.zr (R:=aZ) (x:=(Vector.replicate 32 0)) zex)) fun v3=>Zn<|z8t (fun (s4:V3) aa ww=>Sta (ctx 22 H [] w) [(2,.val (z06 v2 0)),(3,.val (z06 v3 0))] [(2,some (v2,.box 78 [.rd aZ (Vector.replicate 32 0)])),(3,some (v3,.box 78 [.rd aZ s4]))] aa ww) ?_ (fun s4=>?_)
 ·
  refine gSR<|Zb Z<|z1w (fun (s5:V3 × Int) aa ww=>Sta (ctx 22 H [] w) [(1,.val (z06 v1 0)),(2,.val (z06 v2 0)),(3,.val (z06 v3 0)),(4,.rd z0c s5.2)] [(1,some (v1,.box 194 [.rd (z3m 8 z0n) a0])),(2,some (v2,.box 78 [.rd aZ (Vector.replicate 32 0)])),(3,some (v3,.box 78 [.rd aZ s5.1]))] aa ww) (fun aa ww h=>Zu h [1,2,3]) (fun s5=>?_)
  refine z0s<|gSR<|Zm Z<|Zq (I.lss Z Z)<|Zj Z (fun h6=>?_) (fun h6=>?_)
  ·
   refine Zt<|z0s<|z4w<|z28<|Zm Z<|Zm Z<|Zq (I.quo Z Z (by decide))<|z0u fun x7 h8=>Zq (ixB 1 Z Z Z h8 tu194 z5u)<|Zq (ld 1 Z Z (fP (.el h8)) z92 Z)<|Zm Z<|Zq (I.rem Z Z (by decide))<|Zq (I.mul Z Z)<|Zq (I.sub Z Z)<|z0u fun u9 h10=>Zq (W.shr Z Z (z6g h10))<|Zq (W.toB Z tu65 tu5)<|z0u fun x11 h12=>Zq (ixB 3 Z Z Z h12 tu78 ti5)<|Es (sto 3 Z Z (fP (.el h12)) Z ti5)<|z1s<|z38<|z0k<|z28<|Zm Z<|Zq (I.add Z Z)<|Za Z<|z1x 4 Z fun y13=>z1s<|z1g (fun aa ww h=>Zu h [1,2,3])
  ·
   refine z1r<|z0x<|z10<|z3t (fun aa ww h=>Zu h [2,3])
 ·
  refine gSR<|Zq (ld 3 Z Z fH z4x Z)<|Es (sto 2 Z Z fH Z z33)<|Zn<|z0l<|zcn [] [] Z (eC 2 Z Z z4x<|eN) (rN)
def zbl (a0:List UInt8):Option (V3) :=
 zcr >>= fun r2 =>
 app 1 ([]:List UInt8) a0 >>= fun x5 =>
 zbo (a0.length:Int) >>= fun r8 =>
 app 1 x5 r8 >>= fun x10 =>
 z9n r2 x10 >>= fun r13 =>
 z8w r13 >>= fun r15 =>
 some r15
end
section
open Go Go.RowKit
set_option maxRecDepth 100000
theorem zg3 (a0:List UInt8):z1t Tryz.prog 102 [.rd (z02 u8R) a0] [] (zbl a0) (fun r nv=>⟨[.rd aZ r],[]⟩):=by
 refine z2p 13 Tryz.func102 Z Z Z fun H w=>?_
 refine gSR<|Eb Z (z5o 1 z33 (.zr (R:=aZ) (x:=(Vector.replicate 32 0)) zex)) fun v1=>Zn<|gSR<|Zc [] [] Tryz.func148 Z (zis) fun r2 n3=>Ef Z (lit (R:=u8R) (([]:List UInt8):List UInt8) 2 (pN) Z tu129 ti5 Z Z) fun v4=>Zm Z<|z0u fun x5 h6=>Ef Z (apn 2 Z Z Z .rd h6 tu129 ti5 Z Z Z) fun v7=>Zm Z<|Zq (z3s Z .rd Z tu129)<|Zc [] [(100,3)] Tryz.func149 Z (zki _) fun r8 n9=>z0u fun x10 h11=>Ef Z (apn 2 Z Z Z (.own 3 Z) h11 tu129 ti5 Z Z Z) fun v12=>zkx 2 [10] Z (fS Z<|fN)<|Zc [] [] Tryz.func147 Z (zhr _ _) fun r13 n14=>Zc [] [] Tryz.func146 Z (zgf _) fun r15 n16=>Es (sto 1 Z Z fH Z z33)<|Zn<|z0l<|zcn [] [] Z (eC 1 Z Z z4x<|eN) (rN)
def zd7 (a0:z05):Option (V3) :=
 zap a0 >>= fun r3 =>
 zbl r3 >>= fun r5 =>
 some r5
theorem zm0 (a0:z05):z1t Tryz.prog 72 [.rd z04 a0] [] (zd7 a0) (fun r nv=>⟨[.rd aZ r],[]⟩):=by
 refine z2p 6 Tryz.func72 Z Z Z fun H w=>?_
 refine gSR<|Eb Z (bx 1 Z) fun v1=>Eb Z (z5o 2 z33 (.zr (R:=aZ) (x:=(Vector.replicate 32 0)) zex)) fun v2=>Zn<|gSR<|Zq (ld 1 Z Z fH ze5 Z)<|Zc [] [(100,3)] Tryz.func103 Z (zj7 _) fun r3 n4=>zkx 3 [4] Z (fS Z<|fN)<|Zc [] [] Tryz.func102 Z (zg3 _) fun r5 n6=>Es (sto 2 Z Z fH Z z33)<|Zn<|z0l<|zcn [] [] Z (eC 2 Z Z z4x<|eN) (rN)
def z7r (a0:V3) (a1:V3) (s4:Int):Option (Sum (Sum Int Unit) Int) :=
 if decide (s4<32) then
  z84 a0 s4 >>= fun x6 =>
  z84 a1 s4 >>= fun x8 =>
  if decide (x6<x8) then
   some (.inl (.inl (-1)))
  else
   z84 a0 s4 >>= fun x11 =>
   z84 a1 s4 >>= fun x13 =>
   if decide (x13<x11) then
    some (.inl (.inl 1))
   else
    some (.inr (w64 (s4+1)))
 else
  some (.inl (.inr ()))
def z5q (a0:V3) (a1:V3):Option (Int) :=
 z4y (iter (z7r a0 a1) 0) fun s3 =>
 some 0
theorem zfa (a0:V3) (a1:V3):z1t Tryz.prog 85 [.rd aZ a0,.rd aZ a1] [] (z5q a0 a1) (fun r nv=>⟨[.rd z0c r],[]⟩):=by
 refine z2p 24 Tryz.func85 Z Z Z fun H w=>?_
 refine gSR<|Eb Z (bx 1 Z) fun v1=>Eb Z (bx 2 Z) fun v2=>Zb Z<|z7b (fun (s3:Unit) aa ww=>Sta (ctx 24 H [] w) [] [] aa ww) ?_ (fun s3=>?_)
 ·
  refine gSR<|Zb Z<|z1w (fun (s4:Int) aa ww=>Sta (ctx 24 H [] w) [(2,.val (z06 v1 0)),(3,.val (z06 v2 0)),(5,.rd z0c s4)] [(1,some (v1,.box 78 [.rd aZ a0])),(2,some (v2,.box 78 [.rd aZ a1]))] aa ww) (fun aa ww h=>Zu h [1,2]) (fun s4=>?_)
  refine z0s<|gSR<|Zm Z<|Zq (I.lss Z Z)<|Zj Z (fun h5=>?_) (fun h5=>?_)
  ·
   refine Zt<|z0s<|z4w<|z0s<|z0s<|zit mixed (by kernel_rfl)<|Rq Z (mv Z)<|z8f fun x6 h7=>Rq Z (ixB 1 Z Z Z h7 tu78 ti5)<|Rq Z (ld 1 Z Z (fP (.el h7)) ty5 Z)<|Rq Z (mv Z)<|z8f fun x8 h9=>Rq Z (ixB 2 Z Z Z h9 tu78 ti5)<|Rq Z (ld 2 Z Z (fP (.el h9)) ty5 Z)<|Rq Z (B.lss Z Z)<|ztz<|z0k<|gIf Z Z (fun h10=>?_) (fun h10=>?_)
   ·
    refine gSR<|Zb Z<|z0l<|z0w<|z3x<|z0w<|z6q<|z5w<|Ze [] [] Z
   ·
    refine Zt<|z0s<|zit mixed (by kernel_rfl)<|Rq Z (mv Z)<|z8f fun x11 h12=>Rq Z (ixB 1 Z Z Z h12 tu78 ti5)<|Rq Z (ld 1 Z Z (fP (.el h12)) ty5 Z)<|Rq Z (mv Z)<|z8f fun x13 h14=>Rq Z (ixB 2 Z Z Z h14 tu78 ti5)<|Rq Z (ld 2 Z Z (fP (.el h14)) ty5 Z)<|Rq Z (B.gtr Z Z)<|ztz<|z0k<|gIf Z Z (fun h15=>?_) (fun h15=>?_)
    ·
     refine gSR<|Zb Z<|z0l<|z3x<|z0w<|z6q<|z5w<|Ze [] [] Z
    ·
     refine z2u<|z38<|z0k<|z28<|Zm Z<|Zq (I.add Z Z)<|Za Z<|z1s<|z1g (fun aa ww h=>Zu h [1,2])
  ·
   refine z1r<|z0x<|z10<|z5p (fun aa ww h=>Zu h [])
 ·
  refine gSR<|Zb Z<|z0l<|Ze [] [] Z
def z4g (a0:List V3) (s2:Int):Option (Sum (Sum Bool Unit) Int) :=
 if decide (s2<(a0.length:Int)) then
  idx a0 (w64 (s2 - 1)) >>= fun x4 =>
  idx a0 s2 >>= fun x6 =>
  z5q x4 x6 >>= fun r8 =>
  if decide (0≤r8) then
   some (.inl (.inl false))
  else
   some (.inr (w64 (s2+1)))
 else
  some (.inl (.inr ()))
def z5t (a0:List V3):Option (Bool) :=
 z4y (iter (z4g a0) 1) fun s1 =>
 some true
theorem z9z (a0:List V3):z1t Tryz.prog 38 [.rd (z02 aZ) a0] [] (z5t a0) (fun r nv=>⟨[.rd z0d r],[]⟩):=by
 refine z2p 21 Tryz.func38 Z Z Z fun H w=>?_
 refine gSR<|Zb Z<|z7b (fun (s1:Unit) aa ww=>Sta (ctx 21 H [] w) [] [] aa ww) ?_ (fun s1=>?_)
 ·
  refine gSR<|Zb Z<|z1w (fun (s2:Int) aa ww=>Sta (ctx 21 H [] w) [(0,.rd (z02 aZ) a0),(3,.rd z0c s2)] [] aa ww) (fun aa ww h=>Zu h []) (fun s2=>?_)
  refine z0s<|gSR<|Zm Z<|Zm Z<|Zq (z3s Z .rd Z tu24)<|Zq (I.lss Z Z)<|Zj Z (fun h3=>?_) (fun h3=>?_)
  ·
   refine Zt<|z0s<|z4w<|z0s<|z6n [] mixed Z Z<|hTk 0 Z Z (mv Z)<|hTk 1 Z Z (mv Z)<|hTk 2 Z Z (I.sub Z Z)<|z4c fun x4 h5=>hTk 3 Z Z (ixR Z Z h5 tu24 z33 Z)<|hTk 4 Z Z (ldR Z z4x)<|hTk 5 Z Z (mv Z)<|hTk 6 Z Z (mv Z)<|z4c fun x6 h7=>hTk 7 Z Z (ixR Z Z h7 tu24 z33 Z)<|hTk 8 Z Z (ldR Z z4x)<|z3a 9 [] [] Z (by kernel_rfl) Z (gd0 Z) Z Tryz.func85 Z Z (zfa _ _) (Y2 Z Z) rN Z (fun _ _=>z27) fun r8 n9=>hTk 10 Z Z (I.geq Z Z)<|z30 (by kernel_rfl)<|z0k<|gIf Z Z (fun h10=>?_) (fun h10=>?_)
   ·
    refine gSR<|Zb Z<|z0l<|z3x<|z0w<|z6q<|z5w<|Ze [] [] Z
   ·
    refine z2u<|z38<|z0k<|z28<|Zm Z<|Zq (I.add Z Z)<|Za Z<|z1s<|z1g (fun aa ww h=>Zu h [])
  ·
   refine z1r<|z0x<|z10<|z5p (fun aa ww h=>Zu h [])
 ·
  refine gSR<|Zb Z<|z0l<|Ze [] [] Z
def z60 (a2:UInt64) (s2:UInt64 × UInt64 × UInt64):Option (Sum UInt64 (UInt64 × UInt64 × UInt64)) :=
 if decide (0<s2.2.1) then
  (if (s2.2.1 % 2)==1 then
   chk (a2≠0) >>= fun u6 =>
   some ((s2.2.2 * s2.1) % a2) >>= fun y8 =>
   some y8
  else
   some s2.2.2) >>= fun s4 =>
  chk (a2≠0) >>= fun u9 =>
  some ((s2.1 * s2.1) % a2) >>= fun y11 =>
  some (.inr (y11,s2.2.1 / 2,s4))
 else
  some (.inl s2.2.2)
def z8n (a0:UInt64) (a1:UInt64) (a2:UInt64):Option (UInt64) :=
 (iter (z60 a2) (a0,a1,1)) >>= fun s1 =>
 some s1
theorem zdp (a0:UInt64) (a1:UInt64) (a2:UInt64):z1t Tryz.prog 182 [.rd z2w a0,.rd z2w a1,.rd z2w a2] [] (z8n a0 a1 a2) (fun r nv=>⟨[.rd z2w r],[]⟩):=by
 refine z2p 26 Tryz.func182 Z Z Z fun H w=>?_
 refine gSR<|Zb Z<|gSR<|Zb Z<|z8t (fun (s1:UInt64) aa ww=>Sta (ctx 26 H [] w) [(7,.rd z2w s1)] [] aa ww) ?_ (fun s1=>?_)
 ·
  refine z1w (fun (s2:UInt64 × UInt64 × UInt64) aa ww=>Sta (ctx 26 H [] w) [(0,.rd z2w s2.1),(1,.rd z2w s2.2.1),(2,.rd z2w a2),(7,.rd z2w s2.2.2)] [] aa ww) (fun aa ww h=>Zu h []) (fun s2=>?_)
  refine z0s<|gSR<|Zm Z<|Zq (U.gtr Z Z)<|Zj Z (fun h3=>?_) (fun h3=>?_)
  ·
   refine Zt<|z4w<|z8t (fun (s4:UInt64) aa ww=>Sta (ctx 26 H [] w) [(0,.rd z2w s2.1),(1,.rd z2w s2.2.1),(2,.rd z2w a2),(7,.rd z2w s4)] [] aa ww) ?_ (fun s4=>?_)
   ·
    refine gSR<|Zm Z<|Zq (U.rem Z Z (by decide))<|Zq (U.eql Z Z)<|Zj Z (fun h5=>?_) (fun h5=>?_)
    ·
     refine z28<|Zm Z<|Zm Z<|Zq (U.mul Z Z)<|Zm Z<|z0u fun u6 h7=>Zq (U.rem Z Z (z6g h7))<|Za Z<|z1x 7 Z fun y8=>z1s<|z3t (fun aa ww h=>Zu h [])
    ·
     refine z2u<|z3t (fun aa ww h=>Zu h [])
   ·
    refine gSR<|Zm Z<|Zm Z<|Zq (U.mul Z Z)<|Zm Z<|z0u fun u9 h10=>Zq (U.rem Z Z (z6g h10))<|Za Z<|z1x 0 Z fun y11=>Zn<|z28<|Zm Z<|Zq (U.quo Z Z (by decide))<|Za Z<|z1s<|z38<|z1g (fun aa ww h=>Zu h [])
  ·
   refine z1r<|z0x<|z10<|z3t (fun aa ww h=>Zu h [])
 ·
  refine gSR<|Zm Z<|Zb Z<|z0l<|Ze [] [] Z
def zbb (a0:UInt32):Option (Bool) :=
 if decide (1≤a0) then
  if decide (a0<1000000007) then
   z8n a0.toUInt64 500000003 1000000007 >>= fun r3 =>
   some (r3==1)
  else
   some false
 else
  some false
theorem zg1 (a0:UInt32):z1t Tryz.prog 141 [.rd z0n a0] [] (zbb a0) (fun r nv=>⟨[.rd z0d r],[]⟩):=by
 refine z2p 15 Tryz.func141 Z Z Z fun H w=>?_
 refine gSR<|Zb Z<|gSR<|Zm Z<|Zq (W.geq Z Z)<|Zm Z<|z1p 5 Z (fun h1=>?_) (fun h1=>?_)
 ·
  refine lKn 4 Z h1<|z18 Zx Z Z (mv Z)<|z18 Zx Z Z (W.lss Z Z)<|Zq (pkT Z Z)<|Zm Z<|z1p 9 Z (fun h2=>?_) (fun h2=>?_)
  ·
   refine lKn 7 Z h2<|lKn 8 Z h2<|z18 Zx Z Z (mv Z)<|z18 Zx Z Z (W.toU Z tu65 tu52)<|zgy [] [] Zx Z Tryz.func182 Z Z (zdp _ _ _) (aQ Z<|aQ Z<|aQ Z<|aN) rN fun r3 n4=>z18 Zx Z Z (U.eql Z Z)<|Zq (pkT Z Z)<|Zb Z<|z0l<|Ze [] [] Z
  ·
   refine lKn 7 Z h2<|lKn 8 Z h2<|Zk Z<|Zk Z<|Zk Z<|Zk Z<|Zq (pkF Z Z)<|Zb Z<|z0l<|Ze [] [] Z
 ·
  refine lKn 4 Z h1<|Zk Z<|Zk Z<|Zq (pkF Z Z)<|Zm Z<|Zk Z<|Zk Z<|Zk Z<|Zk Z<|Zq (pkF Z Z)<|Zb Z<|z0l<|Ze [] [] Z
def z6x (a0:List UInt8) (s4:Int):Option (Sum (Sum Bool Unit) Int) :=
 if decide (s4<(a0.length:Int)) then
  idx a0 s4 >>= fun x6 =>
  if decide (x6<33) then
   some (.inl (.inl false))
  else
   idx a0 s4 >>= fun x9 =>
   if decide (126<x9) then
    some (.inl (.inl false))
   else
    some (.inr (w64 (s4+1)))
 else
  some (.inl (.inr ()))
def z95 (a0:List UInt8):Option (Bool) :=
 if decide ((a0.length:Int)<1) then
  some false
 else
  if decide (20<(a0.length:Int)) then
   some false
  else
   z4y (iter (z6x a0) 0) fun s3 =>
   some true
theorem zeg (a0:List UInt8):z1t Tryz.prog 183 [.rd zb4 a0] [] (z95 a0) (fun r nv=>⟨[.rd z0d r],[]⟩):=by
 refine z2p 28 Tryz.func183 Z Z Z fun H w=>?_
 refine gSR<|Zb Z<|z0s<|gSR<|Zm Z<|Zq (lenT Z Z tu9)<|Zq (I.lss Z Z)<|Zm Z<|z1p 7 Z (fun h1=>?_) (fun h1=>?_)
 ·
  refine lKn 6 Z h1<|Zk Z<|Zk Z<|Zk Z<|Zq (pkT Z Z)<|Zn<|zgn Z<|gSR<|Zb Z<|z0l<|z0w<|Ze [] [] Z
 ·
  refine lKn 6 Z h1<|z18 Zx Z Z (mv Z)<|z18 Zx Z Z (lenT Z Z tu9)<|z18 Zx Z Z (I.gtr Z Z)<|Zq (pkF Z Z)<|Zj Z (fun h2=>?_) (fun h2=>?_)
  ·
   refine gKn 10 Z h2<|gSR<|Zb Z<|z0l<|z0w<|Ze [] [] Z
  ·
   refine gKn 10 Z h2<|Zt<|z7b (fun (s3:Unit) aa ww=>Sta (ctx 28 H [] w) [] [] aa ww) ?_ (fun s3=>?_)
   ·
    refine gSR<|Zb Z<|z1w (fun (s4:Int) aa ww=>Sta (ctx 28 H [] w) [(0,.rd zb4 a0),(3,.rd z0c s4)] [] aa ww) (fun aa ww h=>Zu h []) (fun s4=>?_)
    refine z0s<|gSR<|Zm Z<|Zm Z<|Zq (lenT Z Z tu9)<|Zq (I.lss Z Z)<|Zj Z (fun h5=>?_) (fun h5=>?_)
    ·
     refine Zt<|z0s<|z4w<|gSR<|Zm Z<|Zm Z<|z0u fun x6 h7=>Zq (idxT Z Z tu9 (z6e h7).1 (z6e h7).2.1)<|Zq (B.lss Z Z)<|Zm Z<|z1p 22 Z (fun h8=>?_) (fun h8=>?_)
     ·
      refine lKn 21 Z h8<|Zk Z<|Zk Z<|Zk Z<|Zk Z<|Zq (pkT Z Z)<|Zn<|zgn Z<|gSR<|Zb Z<|z0l<|z3x<|z0w<|z6q<|z5w<|Ze [] [] Z
     ·
      refine lKn 21 Z h8<|z18 Zx Z Z (mv Z)<|z18 Zx Z Z (mv Z)<|z0u fun x9 h10=>z18 Zx Z Z (idxT Z Z tu9 (z6e h10).1 (z6e h10).2.1)<|z18 Zx Z Z (B.gtr Z Z)<|Zq (pkF Z Z)<|Zj Z (fun h11=>?_) (fun h11=>?_)
      ·
       refine gKn 26 Z h11<|gSR<|Zb Z<|z0l<|z3x<|z0w<|z6q<|z5w<|Ze [] [] Z
      ·
       refine gKn 26 Z h11<|z2u<|z38<|z0k<|z28<|Zm Z<|Zq (I.add Z Z)<|Za Z<|z1s<|z1g (fun aa ww h=>Zu h [])
    ·
     refine z1r<|z0x<|z10<|z5p (fun aa ww h=>Zu h [])
   ·
    refine gSR<|Zb Z<|z0l<|Ze [] [] Z
def z8e (a0:UInt64):Option (Int) :=
 some (w64 (((a0 % 9223372036854775808) / 4503599627370496).toNat:Int)) >>= fun y1 =>
 some y1
theorem zg5 (a0:UInt64):z1t Tryz.prog 233 [.rd z2w a0] [] (z8e a0) (fun r nv=>⟨[.rd z0c r],[]⟩):=by
 refine z2p 7 Tryz.func233 Z Z Z fun H w=>?_
 refine gSR<|Zb Z<|gSR<|Zm Z<|Zq (U.rem Z Z (by decide))<|Zq (U.quo Z Z (by decide))<|Zq (U.toI Z tu52 tu3)<|Za Z<|z1x 2 Z fun y1=>Zn<|z0l<|Ze [] [] Z
def zb0 (a0:UInt64):Option (UInt64) :=
 some (a0 % 4503599627370496) >>= fun y1 =>
 some y1
theorem zg8 (a0:UInt64):z1t Tryz.prog 234 [.rd z2w a0] [] (zb0 a0) (fun r nv=>⟨[.rd z2w r],[]⟩):=by
 refine z2p 5 Tryz.func234 Z Z Z fun H w=>?_
 refine gSR<|Zb Z<|gSR<|Zm Z<|Zq (U.rem Z Z (by decide))<|Za Z<|z1x 2 Z fun y1=>Zn<|z0l<|Ze [] [] Z
def zai (a0:UInt64):Option (UInt8) :=
 z8e a0 >>= fun r1 =>
 zb0 a0 >>= fun r3 =>
 z4y (if r1==0 then
  if r3==0 then
   some (.inl 1)
  else
   some (.inr ())
 else
  some (.inr ())) fun s5 =>
 if r1==0 then
  some 2
 else
  if decide (r1<2047) then
   some 3
  else
   if r3==0 then
    some 4
   else
    some 5
theorem zie (a0:UInt64):z1t Tryz.prog 228 [.rd z2w a0] [] (zai a0) (fun r nv=>⟨[.rd u8R r],[]⟩):=by
 refine z2p 21 Tryz.func228 Z Z Z fun H w=>?_
 refine gSR<|Zb Z<|gSR<|Zm Z<|Zc [] [] Tryz.func233 Z (zg5 _) fun r1 n2=>Zm Z<|Zc [] [] Tryz.func234 Z (zg8 _) fun r3 n4=>Za Z<|Zb Z<|z7b (fun (s5:Unit) aa ww=>Sta (ctx 21 H [] w) [(3,.rd z0c r1),(4,.rd z2w r3)] [] aa ww) ?_ (fun s5=>?_)
 ·
  refine gSR<|Zm Z<|Zq (I.eql Z Z)<|Zm Z<|z1p 11 Z (fun h6=>?_) (fun h6=>?_)
  ·
   refine lKn 10 Z h6<|z18 Zx Z Z (mv Z)<|z18 Zx Z Z (U.eql Z Z)<|Zq (pkT Z Z)<|Zj Z (fun h7=>?_) (fun h7=>?_)
   ·
    refine gKn 13 Z h7<|gSR<|Zb Z<|z0l<|z5w<|Ze [] [] Z
   ·
    refine gKn 13 Z h7<|z2u<|z5p (fun aa ww h=>Zu h [])
  ·
   refine lKn 10 Z h6<|Zk Z<|Zk Z<|Zq (pkF Z Z)<|Zn<|zeh Z<|z2u<|z5p (fun aa ww h=>Zu h [])
 ·
  refine z0s<|gSR<|Zm Z<|Zq (I.eql Z Z)<|Zj Z (fun h8=>?_) (fun h8=>?_)
  ·
   refine gSR<|Zb Z<|z0l<|z0w<|Ze [] [] Z
  ·
   refine Zt<|z0s<|gSR<|Zm Z<|Zq (I.lss Z Z)<|Zj Z (fun h9=>?_) (fun h9=>?_)
   ·
    refine gSR<|Zb Z<|z0l<|z0w<|Ze [] [] Z
   ·
    refine Zt<|z0s<|gSR<|Zm Z<|Zq (U.eql Z Z)<|Zj Z (fun h10=>?_) (fun h10=>?_)
    ·
     refine gSR<|Zb Z<|z0l<|z0w<|Ze [] [] Z
    ·
     refine Zt<|gSR<|Zb Z<|z0l<|Ze [] [] Z
def zak (a0:UInt64):Option (UInt64) :=
 zai a0 >>= fun r1 =>
 if r1==5 then
  some 9221120237041090560
 else
  some a0
theorem ziy (a0:UInt64):z1t Tryz.prog 211 [.rd z2w a0] [] (zak a0) (fun r nv=>⟨[.rd z2w r],[]⟩):=by
 refine z2p 7 Tryz.func211 Z Z Z fun H w=>?_
 refine gSR<|Zb Z<|z0s<|gSR<|Zm Z<|Zc [] [] Tryz.func228 Z (zie _) fun r1 n2=>Zq (B.eql Z Z)<|Zj Z (fun h3=>?_) (fun h3=>?_)
 ·
  refine gSR<|Zb Z<|z0l<|z0w<|Ze [] [] Z
 ·
  refine Zt<|gSR<|Zm Z<|Zb Z<|z0l<|Ze [] [] Z
def z4d (a0:List UInt8) (s2:Int):Option (Sum (Sum Bool Unit) Int) :=
 if decide (s2<(a0.length:Int)) then
  idx a0 s2 >>= fun x4 =>
  if decide (x4<32) then
   some (.inl (.inl false))
  else
   idx a0 s2 >>= fun x7 =>
   if decide (126<x7) then
    some (.inl (.inl false))
   else
    some (.inr (w64 (s2+1)))
 else
  some (.inl (.inr ()))
def z7n (a0:List UInt8):Option (Bool) :=
 z4y (iter (z4d a0) 0) fun s1 =>
 some true
theorem zfg (a0:List UInt8):z1t Tryz.prog 212 [.rd zb4 a0] [] (z7n a0) (fun r nv=>⟨[.rd z0d r],[]⟩):=by
 refine z2p 20 Tryz.func212 Z Z Z fun H w=>?_
 refine gSR<|Zb Z<|z7b (fun (s1:Unit) aa ww=>Sta (ctx 20 H [] w) [] [] aa ww) ?_ (fun s1=>?_)
 ·
  refine gSR<|Zb Z<|z1w (fun (s2:Int) aa ww=>Sta (ctx 20 H [] w) [(0,.rd zb4 a0),(3,.rd z0c s2)] [] aa ww) (fun aa ww h=>Zu h []) (fun s2=>?_)
  refine z0s<|gSR<|Zm Z<|Zm Z<|Zq (lenT Z Z tu9)<|Zq (I.lss Z Z)<|Zj Z (fun h3=>?_) (fun h3=>?_)
  ·
   refine Zt<|z0s<|z4w<|gSR<|Zm Z<|Zm Z<|z0u fun x4 h5=>Zq (idxT Z Z tu9 (z6e h5).1 (z6e h5).2.1)<|Zq (B.lss Z Z)<|Zm Z<|z1p 14 Z (fun h6=>?_) (fun h6=>?_)
   ·
    refine lKn 13 Z h6<|Zk Z<|Zk Z<|Zk Z<|Zk Z<|Zq (pkT Z Z)<|Zn<|zgn Z<|gSR<|Zb Z<|z0l<|z3x<|z0w<|z6q<|z5w<|Ze [] [] Z
   ·
    refine lKn 13 Z h6<|z18 Zx Z Z (mv Z)<|z18 Zx Z Z (mv Z)<|z0u fun x7 h8=>z18 Zx Z Z (idxT Z Z tu9 (z6e h8).1 (z6e h8).2.1)<|z18 Zx Z Z (B.gtr Z Z)<|Zq (pkF Z Z)<|Zj Z (fun h9=>?_) (fun h9=>?_)
    ·
     refine gKn 18 Z h9<|gSR<|Zb Z<|z0l<|z3x<|z0w<|z6q<|z5w<|Ze [] [] Z
    ·
     refine gKn 18 Z h9<|z2u<|z38<|z0k<|z28<|Zm Z<|Zq (I.add Z Z)<|Za Z<|z1s<|z1g (fun aa ww h=>Zu h [])
  ·
   refine z1r<|z0x<|z10<|z5p (fun aa ww h=>Zu h [])
 ·
  refine gSR<|Zb Z<|z0l<|Ze [] [] Z
def zaq (a0:z03):Option (Int) :=
 if a0.Kind==1 then
  if a0.Bits==0 then
   if a0.Text==[] then
    some 0
   else
    some 8
  else
   some 8
 else
  if a0.Kind==2 then
   (if a0.Num==0 then
    if a0.Text==[] then
     zak a0.Bits >>= fun r9 =>
     some (r9==a0.Bits)
    else
     some false
   else
    some false) >>= fun s6 =>
   if s6 then
    some 0
   else
    some 8
  else
   if a0.Kind==3 then
    (if a0.Num==0 then
     if a0.Bits==0 then
      if decide ((a0.Text.length:Int)≤30) then
       z7n a0.Text >>= fun r17 =>
       some r17
      else
       some false
     else
      some false
    else
     some false) >>= fun s13 =>
    if s13 then
     some 0
    else
     some 8
   else
    some 8
theorem ziq (a0:z03):z1t Tryz.prog 184 [.rd z12 a0] [] (zaq a0) (fun r nv=>⟨[.rd z0c r],[]⟩):=by
 refine z2p 54 Tryz.func184 Z Z Z fun H w=>?_
 refine gSR<|Eb Z (bx 1 Z) fun v1=>Zb Z<|z0s<|gSR<|Zq (faB 1 Z Z Tryz.underlying54 Z (by exact ti5))<|Zq (ld 1 Z Z (fP (z2m _)) ty5 Z)<|Zn<|z4w<|gSR<|Zq (B.eql Z Z)<|Zb Z<|gIf Z Z (fun h2=>?_) (fun h2=>?_)
 ·
  refine gKn 6 Z h2<|gSR<|Zq (faB 1 Z Z Tryz.underlying54 Z (by exact zq6))<|Zq (ld 1 Z Z (fP (z49 _)) zpd Z)<|Zq (U.eql Z Z)<|Zm Z<|z1p 10 Z (fun h3=>?_) (fun h3=>?_)
  ·
   refine lKn 9 Z h3<|z18 Zx Z Z (faB 1 Z Z Tryz.underlying54 Z (by exact ti9))<|z18 Zx Z Z (ld 1 Z Z (fP (z3o _)) ty9 Z)<|z18 Zx Z Z (eqS Z Z)<|Zq (pkT Z Z)<|Zj Z (fun h4=>?_) (fun h4=>?_)
   ·
    refine gKn 13 Z h4<|gSR<|Zb Z<|z0l<|z3x<|z0w<|Ze [] [] Z
   ·
    refine gKn 13 Z h4<|z2u<|z38<|z0k<|gSR<|Zb Z<|z0l<|Ze [] [] Z
  ·
   refine lKn 9 Z h3<|Zk Z<|Zk Z<|Zk Z<|Zq (pkF Z Z)<|Zn<|zeh Z<|z2u<|z38<|z0k<|gSR<|Zb Z<|z0l<|Ze [] [] Z
 ·
  refine gKn 6 Z h2<|gSR<|Zq (B.eql Z Z)<|Zb Z<|gIf Z Z (fun h5=>?_) (fun h5=>?_)
  ·
   refine gKn 16 Z h5<|z8t (fun (s6:Bool) aa ww=>Sta (ctx 54 H [] w) [(32,.rd z0d s6)] [] aa ww) ?_ (fun s6=>?_)
   ·
    refine z6n [] mixed Z Z<|hTk 0 Z Z (faB 1 Z Z Tryz.underlying54 Z (by exact ti2))<|hTk 1 Z Z (ld 1 Z Z (fP (z5c _)) ty2 Z)<|hTk 2 Z Z (I.eql Z Z)<|hTk 3 Z Z (mv Z)<|hIf 20 Z Z (fun h7=>?_) (fun h7=>?_)
    ·
     refine hKn 19 Z Z h7<|Zg 4 Z Z (faB 1 Z Z Tryz.underlying54 Z (by exact ti9))<|Zg 5 Z Z (ld 1 Z Z (fP (z3o _)) ty9 Z)<|Zg 6 Z Z (eqS Z Z)<|hTk 7 Z Z (pkT Z Z)<|hTk 8 Z Z (mv Z)<|hIf 25 Z Z (fun h8=>?_) (fun h8=>?_)
     ·
      refine hKn 23 Z Z h8<|hKn 24 Z Z h8<|Zg 9 Z Z (faB 1 Z Z Tryz.underlying54 Z (by exact zq6))<|Zg 10 Z Z (ld 1 Z Z (fP (z49 _)) zpd Z)<|Zg 12 Z Z (faB 1 Z Z Tryz.underlying54 Z (by exact zq6))<|Zg 13 Z Z (ld 1 Z Z (fP (z49 _)) zpd Z)<|z3a 11 [] [] Z (by kernel_rfl) Z Zx Z Tryz.func211 Z Z (ziy _) (Y1 Z) rN Z (fun _ _=>z27) fun r9 n10=>Zg 14 Z Z (U.eql Z Z)<|hTk 15 Z Z (pkT Z Z)<|z30 (by kernel_rfl)<|z3t (fun aa ww h=>Zu h [])
     ·
      refine hKn 23 Z Z h8<|hKn 24 Z Z h8<|hSk 9 Z Z<|hSk 10 Z Z<|hSk 11 Z Z<|hSk 12 Z Z<|hSk 13 Z Z<|hSk 14 Z Z<|hTk 15 Z Z (pkF Z Z)<|z30 (by kernel_rfl)<|z3t (fun aa ww h=>Zu h [])
    ·
     refine hKn 19 Z Z h7<|hSk 4 Z Z<|hSk 5 Z Z<|hSk 6 Z Z<|hTk 7 Z Z (pkF Z Z)<|hTk 8 Z Z (mv Z)<|hSk 9 Z Z<|hSk 10 Z Z<|hSk 11 Z Z<|hSk 12 Z Z<|hSk 13 Z Z<|hSk 14 Z Z<|hTk 15 Z Z (pkF Z Z)<|z30 (by kernel_rfl)<|z3t (fun aa ww h=>Zu h [])
   ·
    refine gIf Z Z (fun h11=>?_) (fun h11=>?_)
    ·
     refine gSR<|Zb Z<|z0l<|z3x<|z0w<|Ze [] [] Z
    ·
     refine z2u<|z38<|z0k<|gSR<|Zb Z<|z0l<|Ze [] [] Z
  ·
   refine gKn 16 Z h5<|gSR<|Zq (B.eql Z Z)<|Zb Z<|gIf Z Z (fun h12=>?_) (fun h12=>?_)
   ·
    refine gKn 34 Z h12<|z8t (fun (s13:Bool) aa ww=>Sta (ctx 54 H [] w) [(53,.rd z0d s13)] [] aa ww) ?_ (fun s13=>?_)
    ·
     refine z28<|Zq (faB 1 Z Z Tryz.underlying54 Z (by exact ti2))<|Zq (ld 1 Z Z (fP (z5c _)) ty2 Z)<|Zq (I.eql Z Z)<|Zm Z<|z1p 38 Z (fun h14=>?_) (fun h14=>?_)
     ·
      refine lKn 37 Z h14<|z18 Zx Z Z (faB 1 Z Z Tryz.underlying54 Z (by exact zq6))<|z18 Zx Z Z (ld 1 Z Z (fP (z49 _)) zpd Z)<|z18 Zx Z Z (U.eql Z Z)<|Zq (pkT Z Z)<|Zm Z<|z1p 43 Z (fun h15=>?_) (fun h15=>?_)
      ·
       refine lKn 41 Z h15<|lKn 42 Z h15<|z18 Zx Z Z (faB 1 Z Z Tryz.underlying54 Z (by exact ti9))<|z18 Zx Z Z (ld 1 Z Z (fP (z3o _)) ty9 Z)<|z18 Zx Z Z (lenT Z Z tu9)<|z18 Zx Z Z (I.leq Z Z)<|Zq (pkT Z Z)<|Zm Z<|z1p 49 Z (fun h16=>?_) (fun h16=>?_)
       ·
        refine lKn 47 Z h16<|lKn 48 Z h16<|z18 Zx Z Z (faB 1 Z Z Tryz.underlying54 Z (by exact ti9))<|z18 Zx Z Z (ld 1 Z Z (fP (z3o _)) ty9 Z)<|zgy [] [] Zx Z Tryz.func212 Z Z (zfg _) (Y1 Z) rN fun r17 n18=>Zq (pkT Z Z)<|z1s<|z3t (fun aa ww h=>Zu h [])
       ·
        refine lKn 47 Z h16<|lKn 48 Z h16<|Zk Z<|Zk Z<|Zk Z<|Zq (pkF Z Z)<|z1s<|z3t (fun aa ww h=>Zu h [])
      ·
       refine lKn 41 Z h15<|lKn 42 Z h15<|Zk Z<|Zk Z<|Zk Z<|Zk Z<|Zq (pkF Z Z)<|Zm Z<|Zk Z<|Zk Z<|Zk Z<|Zq (pkF Z Z)<|z1s<|z3t (fun aa ww h=>Zu h [])
     ·
      refine lKn 37 Z h14<|Zk Z<|Zk Z<|Zk Z<|Zq (pkF Z Z)<|Zm Z<|Zk Z<|Zk Z<|Zk Z<|Zk Z<|Zq (pkF Z Z)<|Zm Z<|Zk Z<|Zk Z<|Zk Z<|Zq (pkF Z Z)<|z1s<|z3t (fun aa ww h=>Zu h [])
    ·
     refine gIf Z Z (fun h19=>?_) (fun h19=>?_)
     ·
      refine gSR<|Zb Z<|z0l<|z3x<|z0w<|Ze [] [] Z
     ·
      refine z2u<|z38<|z0k<|gSR<|Zb Z<|z0l<|Ze [] [] Z
   ·
    refine gKn 34 Z h12<|z2u<|z38<|z0k<|gSR<|Zb Z<|z0l<|Ze [] [] Z
def z8a (a0:z07):Option (Int) :=
 some (decide (a0.Value=(⟨0,0,0,[]⟩:z03))) >>= fun y2 =>
 if a0.Kind==1 then
  if a0.Key==[] then
   if y2 then
    some 0
   else
    some 8
  else
   some 8
 else
  (if a0.Kind==2 then
   some true
  else
   some (a0.Kind==3)) >>= fun s6 =>
  if s6 then
   z95 a0.Key >>= fun r9 =>
   if r9 then
    if y2 then
     some 0
    else
     some 8
   else
    some 8
  else
   if a0.Kind==4 then
    z95 a0.Key >>= fun r14 =>
    if r14 then
     zaq a0.Value >>= fun r17 =>
     if r17==0 then
      some 0
     else
      some 8
    else
     some 8
   else
    some 8
theorem zgb (a0:z07):z1t Tryz.prog 142 [.rd z0h a0] [] (z8a a0) (fun r nv=>⟨[.rd z0c r],[]⟩):=by
 refine z2p 38 Tryz.func142 Z Z Z fun H w=>?_
 refine gSR<|Eb Z (bx 1 Z) fun v1=>Zb Z<|gSR<|Zq (faB 1 Z Z Tryz.underlying64 Z (by exact zem))<|Zq (ld 1 Z Z (fP (z3k _)) zo4 Z)<|Zq (bld (x':=(⟨0,0,0,[]⟩:z03)) [(0,1),(1,1),(2,1),(3,1)] Tryz.underlying54 zem Z zok Z (Bld.done Z))<|Zq (eqA Z Z eq54 Z Z gq54)<|Za Z<|z1x 3 Z fun y2=>Zn<|z0s<|gSR<|Zq (faB 1 Z Z Tryz.underlying64 Z (by exact ti5))<|Zq (ld 1 Z Z (fP (z1h _)) ty5 Z)<|Zn<|z4w<|gSR<|Zq (B.eql Z Z)<|Zb Z<|gIf Z Z (fun h3=>?_) (fun h3=>?_)
 ·
  refine gKn 11 Z h3<|gSR<|Zq (faB 1 Z Z Tryz.underlying64 Z (by exact ti9))<|Zq (ld 1 Z Z (fP (z29 _)) ty9 Z)<|Zq (eqS Z Z)<|Zm Z<|z1p 15 Z (fun h4=>?_) (fun h4=>?_)
  ·
   refine lKn 14 Z h4<|z18 Zx Z Z (mv Z)<|Zq (pkT Z Z)<|Zj Z (fun h5=>?_) (fun h5=>?_)
   ·
    refine gKn 3 Z h5<|gKn 16 Z h5<|gSR<|Zb Z<|z0l<|z3x<|z0w<|Ze [] [] Z
   ·
    refine gKn 3 Z h5<|gKn 16 Z h5<|z2u<|z38<|z0k<|gSR<|Zb Z<|z0l<|Ze [] [] Z
  ·
   refine lKn 14 Z h4<|Zk Z<|Zq (pkF Z Z)<|Zn<|zeh Z<|z2u<|z38<|z0k<|gSR<|Zb Z<|z0l<|Ze [] [] Z
 ·
  refine gKn 11 Z h3<|z8t (fun (s6:Bool) aa ww=>Sta (ctx 38 H [] w) [(1,.val (z06 v1 0)),(3,.rd z0d y2),(9,.rd u8R a0.Kind),(18,.rd z0d s6)] [(1,some (v1,.box 64 [.rd z0h a0]))] aa ww) ?_ (fun s6=>?_)
  ·
   refine gSR<|Zq (B.eql Z Z)<|Zb Z<|gIf Z Z (fun h7=>?_) (fun h7=>?_)
   ·
    refine gKn 19 Z h7<|z2u<|z3t (fun aa ww h=>Zu h [1])
   ·
    refine gKn 19 Z h7<|z28<|Zq (B.eql Z Z)<|Za Z<|z1s<|z3t (fun aa ww h=>Zu h [1])
  ·
   refine gIf Z Z (fun h8=>?_) (fun h8=>?_)
   ·
    refine gSR<|Zq (faB 1 Z Z Tryz.underlying64 Z (by exact ti9))<|Zq (ld 1 Z Z (fP (z29 _)) ty9 Z)<|Zc [] [] Tryz.func183 Z (zeg _) fun r9 n10=>Zm Z<|z1p 24 Z (fun h11=>?_) (fun h11=>?_)
    ·
     refine lKn 23 Z h11<|z18 Zx Z Z (mv Z)<|Zq (pkT Z Z)<|Zj Z (fun h12=>?_) (fun h12=>?_)
     ·
      refine gKn 3 Z h12<|gKn 25 Z h12<|gSR<|Zb Z<|z0l<|z3x<|z0w<|Ze [] [] Z
     ·
      refine gKn 3 Z h12<|gKn 25 Z h12<|z2u<|z38<|z0k<|gSR<|Zb Z<|z0l<|Ze [] [] Z
    ·
     refine lKn 23 Z h11<|Zk Z<|Zq (pkF Z Z)<|Zn<|zeh Z<|z2u<|z38<|z0k<|gSR<|Zb Z<|z0l<|Ze [] [] Z
   ·
    refine gSR<|Zq (B.eql Z Z)<|Zb Z<|gIf Z Z (fun h13=>?_) (fun h13=>?_)
    ·
     refine gKn 28 Z h13<|gSR<|Zq (faB 1 Z Z Tryz.underlying64 Z (by exact ti9))<|Zq (ld 1 Z Z (fP (z29 _)) ty9 Z)<|Zc [] [] Tryz.func183 Z (zeg _) fun r14 n15=>Zm Z<|z1p 32 Z (fun h16=>?_) (fun h16=>?_)
     ·
      refine lKn 31 Z h16<|z18 Zx Z Z (faB 1 Z Z Tryz.underlying64 Z (by exact zem))<|z18 Zx Z Z (ld 1 Z Z (fP (z3k _)) zo4 Z)<|zgy [] [] Zx Z Tryz.func184 Z Z (ziq _) (Y1 Z) rN fun r17 n18=>z18 Zx Z Z (I.eql Z Z)<|Zq (pkT Z Z)<|Zj Z (fun h19=>?_) (fun h19=>?_)
      ·
       refine gKn 36 Z h19<|gSR<|Zb Z<|z0l<|z3x<|z0w<|Ze [] [] Z
      ·
       refine gKn 36 Z h19<|z2u<|z38<|z0k<|gSR<|Zb Z<|z0l<|Ze [] [] Z
     ·
      refine lKn 31 Z h16<|Zk Z<|Zk Z<|Zk Z<|Zk Z<|Zq (pkF Z Z)<|Zn<|zeh Z<|z2u<|z38<|z0k<|gSR<|Zb Z<|z0l<|Ze [] [] Z
    ·
     refine gKn 28 Z h13<|z2u<|z38<|z0k<|gSR<|Zb Z<|z0l<|Ze [] [] Z
def z3y (a0:UInt32):Option (Bool) :=
 some (decide (a0.toUInt64<500000003)) >>= fun y1 =>
 some y1
theorem z6c (a0:UInt32):z1t Tryz.prog 143 [.rd z0n a0] [] (z3y a0) (fun r nv=>⟨[.rd z0d r],[]⟩):=by
 refine z2p 6 Tryz.func143 Z Z Z fun H w=>?_
 refine gSR<|Zb Z<|gSR<|Zm Z<|Zq (W.toU Z tu65 tu52)<|Zq (U.lss Z Z)<|Za Z<|z1x 2 Z fun y1=>Zn<|z0l<|Ze [] [] Z
def z8k (a0:z05):Option (Int) :=
 if decide (4<(a0.Preds.length:Int)) then
  some 4
 else
  z5t a0.Preds >>= fun r3 =>
  if !r3 then
   some 32
  else
   (zbb a0.Author >>= fun r7 =>
   if !r7 then
    some true
   else
    if decide (1000000000000<a0.Stamp) then
     some true
    else
     z8a a0.Act >>= fun r11 =>
     if r11 != 0 then
      some true
     else
      z3y a0.Sig.E >>= fun r14 =>
      if !r14 then
       some true
      else
       z3y a0.Sig.S >>= fun r17 =>
       some (!r17)) >>= fun s6 =>
   if s6 then
    some 8
   else
    some 0
theorem zdy (a0:z05):z1t Tryz.prog 100 [.rd z04 a0] [] (z8k a0) (fun r nv=>⟨[.rd z0c r],[]⟩):=by
 refine z2p 40 Tryz.func100 Z Z Z fun H w=>?_
 refine gSR<|Eb Z (bx 1 Z) fun v1=>Zb Z<|z0s<|gSR<|Zq (faB 1 Z Z Tryz.underlying72 Z (by exact z6b))<|Zq (ld 1 Z Z (fP (z0t _)) z8l Z)<|Zq (z3s Z .rd Z tu24)<|Zq (I.gtr Z Z)<|Zj Z (fun h2=>?_) (fun h2=>?_)
 ·
  refine gSR<|Zb Z<|z0l<|z0w<|Ze [] [] Z
 ·
  refine Zt<|z0s<|gSR<|Zq (faB 1 Z Z Tryz.underlying72 Z (by exact z6b))<|Zq (ld 1 Z Z (fP (z0t _)) z8l Z)<|Zc [] [] Tryz.func38 Z (z9z _) fun r3 n4=>Zq (zew Z)<|Zj Z (fun h5=>?_) (fun h5=>?_)
  ·
   refine gSR<|Zb Z<|z0l<|z0w<|Ze [] [] Z
  ·
   refine Zt<|z0s<|z8t (fun (s6:Bool) aa ww=>Sta (ctx 40 H [] w) [(39,.rd z0d s6)] [] aa ww) ?_ (fun s6=>?_)
   ·
    refine z28<|Zq (faB 1 Z Z Tryz.underlying72 Z (by exact z5u))<|Zq (ld 1 Z Z (fP (z2z _)) z92 Z)<|Zc [] [] Tryz.func141 Z (zg1 _) fun r7 n8=>Zq (zew Z)<|Zm Z<|z1p 15 Z (fun h9=>?_) (fun h9=>?_)
    ·
     refine lKn 14 Z h9<|Zk Z<|Zk Z<|Zk Z<|Zq (pkT Z Z)<|Zm Z<|Zk Z<|Zk Z<|Zk Z<|Zk Z<|Zq (pkT Z Z)<|Zm Z<|Zk Z<|Zk Z<|Zk Z<|Zk Z<|Zk Z<|Zq (pkT Z Z)<|Zm Z<|Zk Z<|Zk Z<|Zk Z<|Zk Z<|Zk Z<|Zq (pkT Z Z)<|z1s<|z3t (fun aa ww h=>Zu h [])
    ·
     refine lKn 14 Z h9<|z18 Zx Z Z (faB 1 Z Z Tryz.underlying72 Z (by exact zq6))<|z18 Zx Z Z (ld 1 Z Z (fP (z2i _)) zpd Z)<|z18 Zx Z Z (U.gtr Z Z)<|Zq (pkF Z Z)<|Zm Z<|z1p 20 Z (fun h10=>?_) (fun h10=>?_)
     ·
      refine lKn 18 Z h10<|lKn 19 Z h10<|Zk Z<|Zk Z<|Zk Z<|Zk Z<|Zq (pkT Z Z)<|Zm Z<|Zk Z<|Zk Z<|Zk Z<|Zk Z<|Zk Z<|Zq (pkT Z Z)<|Zm Z<|Zk Z<|Zk Z<|Zk Z<|Zk Z<|Zk Z<|Zq (pkT Z Z)<|z1s<|z3t (fun aa ww h=>Zu h [])
     ·
      refine lKn 18 Z h10<|lKn 19 Z h10<|z18 Zx Z Z (faB 1 Z Z Tryz.underlying72 Z (by exact zgd))<|z18 Zx Z Z (ld 1 Z Z (fP (z11 _)) ty64 Z)<|zgy [] [] Zx Z Tryz.func142 Z Z (zgb _) (Y1 Z) rN fun r11 n12=>z18 Zx Z Z (I.neq Z Z)<|Zq (pkF Z Z)<|Zm Z<|z1p 26 Z (fun h13=>?_) (fun h13=>?_)
      ·
       refine lKn 24 Z h13<|lKn 25 Z h13<|Zk Z<|Zk Z<|Zk Z<|Zk Z<|Zk Z<|Zq (pkT Z Z)<|Zm Z<|Zk Z<|Zk Z<|Zk Z<|Zk Z<|Zk Z<|Zq (pkT Z Z)<|z1s<|z3t (fun aa ww h=>Zu h [])
      ·
       refine lKn 24 Z h13<|lKn 25 Z h13<|z18 Zx Z Z (faB 1 Z Z Tryz.underlying72 Z (by exact zm3))<|z18 Zx Z Z (faB 1 Z Z Tryz.underlying70 Z (by exact z5u))<|z18 Zx Z Z (ld 1 Z Z ((fP (z2g _)).part (z4v _)) z92 Z)<|zgy [] [] Zx Z Tryz.func143 Z Z (z6c _) (Y1 Z) rN fun r14 n15=>z18 Zx Z Z (zew Z)<|Zq (pkF Z Z)<|Zm Z<|z1p 33 Z (fun h16=>?_) (fun h16=>?_)
       ·
        refine lKn 31 Z h16<|lKn 32 Z h16<|Zk Z<|Zk Z<|Zk Z<|Zk Z<|Zk Z<|Zq (pkT Z Z)<|z1s<|z3t (fun aa ww h=>Zu h [])
       ·
        refine lKn 31 Z h16<|lKn 32 Z h16<|z18 Zx Z Z (faB 1 Z Z Tryz.underlying72 Z (by exact zm3))<|z18 Zx Z Z (faB 1 Z Z Tryz.underlying70 Z (by exact z5u))<|z18 Zx Z Z (ld 1 Z Z ((fP (z2g _)).part (z6v _)) z92 Z)<|zgy [] [] Zx Z Tryz.func143 Z Z (z6c _) (Y1 Z) rN fun r17 n18=>z18 Zx Z Z (zew Z)<|Zq (pkF Z Z)<|z1s<|z3t (fun aa ww h=>Zu h [])
   ·
    refine gIf Z Z (fun h19=>?_) (fun h19=>?_)
    ·
     refine gSR<|Zb Z<|z0l<|z0w<|Ze [] [] Z
    ·
     refine Zt<|gSR<|Zb Z<|z0l<|Ze [] [] Z
def z5y (a0:UInt32) (a1:UInt64):Option (UInt32) :=
 z8n a0.toUInt64 a1 1000000007 >>= fun r1 =>
 some r1.toUInt32
theorem za2 (a0:UInt32) (a1:UInt64):z1t Tryz.prog 186 [.rd z0n a0,.rd z2w a1] [] (z5y a0 a1) (fun r nv=>⟨[.rd z0n r],[]⟩):=by
 refine z2p 10 Tryz.func186 Z Z Z fun H w=>?_
 refine gSR<|Zb Z<|gSR<|Zm Z<|Zq (W.toU Z tu65 tu52)<|Zm Z<|Zc [] [] Tryz.func182 Z (zdp _ _ _) fun r1 n2=>Zq (U.toW Z tu52 tu65)<|Zb Z<|z0l<|Ze [] [] Z
def zep (a0:UInt32):Option (UInt32 × Int) :=
 zbb a0 >>= fun r1 =>
 if !r1 then
  some (0,2)
 else
  z5y a0 500000002 >>= fun r4 =>
  some (r4,0)
theorem zl4 (a0:UInt32):z1t Tryz.prog 185 [.rd z0n a0] [] (zep a0) (fun r nv=>⟨[.rd z0n r.1,.rd z0c r.2],[]⟩):=by
 refine z2p 9 Tryz.func185 Z Z Z fun H w=>?_
 refine gSR<|Za Z<|Zb Z<|z0s<|gSR<|Zm Z<|Zc [] [] Tryz.func141 Z (zg1 _) fun r1 n2=>Zq (zew Z)<|Zj Z (fun h3=>?_) (fun h3=>?_)
 ·
  refine gSR<|Za Z<|Zb Z<|z0l<|z0w<|Ze [] [] Z
 ·
  refine Zt<|gSR<|Zm Z<|Zc [] [] Tryz.func186 Z (za2 _ _) fun r4 n5=>Za Z<|Zb Z<|z0l<|Ze [] [] Z
def zdo (a0:UInt64):Option (UInt32) :=
 z5y 4 a0 >>= fun r1 =>
 some r1
theorem zk3 (a0:UInt64):z1t Tryz.prog 215 [.rd z2w a0] [] (zdo a0) (fun r nv=>⟨[.rd z0n r],[]⟩):=by
 refine z2p 5 Tryz.func215 Z Z Z fun H w=>?_
 refine gSR<|Zb Z<|gSR<|Zm Z<|Zc [] [] Tryz.func186 Z (za2 _ _) fun r1 n2=>Zb Z<|z0l<|Ze [] [] Z
def zeq (a0:UInt32):Option (UInt32) :=
 zdo a0.toUInt64 >>= fun r1 =>
 some r1
theorem zl8 (a0:UInt32):z1t Tryz.prog 189 [.rd z0n a0] [] (zeq a0) (fun r nv=>⟨[.rd z0n r],[]⟩):=by
 refine z2p 6 Tryz.func189 Z Z Z fun H w=>?_
 refine gSR<|Zb Z<|gSR<|Zm Z<|Zq (W.toU Z tu65 tu52)<|Zc [] [] Tryz.func215 Z (zk3 _) fun r1 n2=>Zb Z<|z0l<|Ze [] [] Z
def zbi (a0:UInt32) (a1:UInt32):Option (UInt32) :=
 some (((a0.toUInt64 * a1.toUInt64) % 1000000007).toUInt32) >>= fun y1 =>
 some y1
theorem zgh (a0:UInt32) (a1:UInt32):z1t Tryz.prog 188 [.rd z0n a0,.rd z0n a1] [] (zbi a0 a1) (fun r nv=>⟨[.rd z0n r],[]⟩):=by
 refine z2p 12 Tryz.func188 Z Z Z fun H w=>?_
 refine gSR<|Zb Z<|gSR<|Zm Z<|Zq (W.toU Z tu65 tu52)<|Zm Z<|Zq (W.toU Z tu65 tu52)<|Zq (U.mul Z Z)<|Zq (U.rem Z Z (by decide))<|Zq (U.toW Z tu52 tu65)<|Za Z<|z1x 4 Z fun y1=>Zn<|z0l<|Ze [] [] Z
def z9b (a0:UInt32):Option ((List UInt8)) :=
 some [(a0 / 16777216).toUInt8,((a0 / 65536) % 256).toUInt8,((a0 / 256) % 256).toUInt8,(a0 % 256).toUInt8]
theorem zee (a0:UInt32):z1t Tryz.prog 213 [.rd z0n a0] [] (z9b a0) (fun r nv=>⟨[.val (nv 0)],[(100,some (nv 0,.list u8R 5 r))]⟩):=by
 refine z2p 18 Tryz.func213 Z Z Z fun H w=>?_
 refine gSR<|Zb Z<|gSR<|Zm Z<|Zq (W.quo Z Z (by decide))<|Zq (W.toB Z tu65 tu5)<|Zm Z<|Zq (W.quo Z Z (by decide))<|Zq (W.rem Z Z (by decide))<|Zq (W.toB Z tu65 tu5)<|Zm Z<|Zq (W.quo Z Z (by decide))<|Zq (W.rem Z Z (by decide))<|Zq (W.toB Z tu65 tu5)<|Zm Z<|Zq (W.rem Z Z (by decide))<|Zq (W.toB Z tu65 tu5)<|Ef Z (lit (R:=u8R) ([(a0 / 16777216).toUInt8,((a0 / 65536) % 256).toUInt8,((a0 / 256) % 256).toUInt8,(a0 % 256).toUInt8]:List UInt8) 1 (pP Z Z<|pP Z Z<|pP Z Z<|pP Z Z<|pN) Z tu129 ti5 Z Z) fun v1=>Zb Z<|z0l<|Ze [v1] [1] Z
def z5h (r1:V3) (s5:UInt64 × Int):Option (Sum UInt64 (UInt64 × Int)) :=
 if decide (s5.2<8) then
  z84 r1 s5.2 >>= fun x7 =>
  some ((256 * s5.1)+x7.toUInt64) >>= fun y9 =>
  some (w64 (s5.2+1)) >>= fun y10 =>
  some (.inr (y9,y10))
 else
  some (.inl s5.1)
def z9p (a0:List UInt8):Option (UInt64) :=
 zbl a0 >>= fun r1 =>
 (iter (z5h r1) (0,0)) >>= fun s4 =>
 some s4
theorem zhn (a0:List UInt8):z1t Tryz.prog 214 [.rd (z02 u8R) a0] [] (z9p a0) (fun r nv=>⟨[.rd z2w r],[]⟩):=by
 refine z2p 20 Tryz.func214 Z Z Z fun H w=>?_
 refine gSR<|Zb Z<|gSR<|Zm Z<|Zc [] [] Tryz.func102 Z (zg3 _) fun r1 n2=>Eb Z (z5o 1 z33 (.zr (R:=aZ) (x:=(Vector.replicate 32 0)) zex)) fun v3=>Es (sto 1 Z Z fH Z z33)<|Zn<|gSR<|Zb Z<|z8t (fun (s4:UInt64) aa ww=>Sta (ctx 20 H [] w) [(4,.rd z2w s4)] [] aa ww) ?_ (fun s4=>?_)
 ·
  refine gSR<|Zb Z<|z1w (fun (s5:UInt64 × Int) aa ww=>Sta (ctx 20 H [] w) [(3,.val (z06 v3 0)),(4,.rd z2w s5.1),(5,.rd z0c s5.2)] [(1,some (v3,.box 78 [.rd aZ r1]))] aa ww) (fun aa ww h=>Zu h [1]) (fun s5=>?_)
  refine z0s<|gSR<|Zm Z<|Zq (I.lss Z Z)<|Zj Z (fun h6=>?_) (fun h6=>?_)
  ·
   refine Zt<|z0s<|z4w<|z28<|Zm Z<|Zq (U.mul Z Z)<|Zm Z<|z0u fun x7 h8=>Zq (ixB 1 Z Z Z h8 tu78 ti5)<|Zq (ld 1 Z Z (fP (.el h8)) ty5 Z)<|Zq (B.toU Z tu5 tu52)<|Zq (U.add Z Z)<|Za Z<|z1x 4 Z fun y9=>z1s<|z38<|z0k<|z28<|Zm Z<|Zq (I.add Z Z)<|Za Z<|z1x 5 Z fun y10=>z1s<|z1g (fun aa ww h=>Zu h [1])
  ·
   refine z1r<|z0x<|z10<|z3t (fun aa ww h=>Zu h [])
 ·
  refine gSR<|Zm Z<|Zb Z<|z0l<|Ze [] [] Z
def z7o (a0:UInt32) (a1:UInt32) (a2:List UInt8):Option (UInt32) :=
 z9b a0 >>= fun r2 =>
 app 1 [99] r2 >>= fun x4 =>
 z9b a1 >>= fun r7 =>
 app 1 x4 r7 >>= fun x9 =>
 app 1 x9 a2 >>= fun x12 =>
 z9p x12 >>= fun r15 =>
 some ((r15 % 500000003).toUInt32) >>= fun y17 =>
 some y17
theorem zfm (a0:UInt32) (a1:UInt32) (a2:List UInt8):z1t Tryz.prog 187 [.rd z0n a0,.rd z0n a1,.rd (z02 u8R) a2] [] (z7o a0 a1 a2) (fun r nv=>⟨[.rd z0n r],[]⟩):=by
 refine z2p 21 Tryz.func187 Z Z Z fun H w=>?_
 refine gSR<|Zb Z<|gSR<|Ef Z (lit (R:=u8R) ([99]:List UInt8) 1 (pP Z Z<|pN) Z tu129 ti5 Z Z) fun v1=>Zm Z<|Zc [] [(100,2)] Tryz.func213 Z (zee _) fun r2 n3=>z0u fun x4 h5=>Ef Z (apn 1 Z Z Z (.own 2 Z) h5 tu129 ti5 Z Z Z) fun v6=>Zm Z<|Zc [] [(100,3)] Tryz.func213 Z (zee _) fun r7 n8=>z0u fun x9 h10=>Ef Z (apn 1 Z Z Z (.own 3 Z) h10 tu129 ti5 Z Z Z) fun v11=>Zb Z<|gSR<|Zm Z<|Zm Z<|z0u fun x12 h13=>Ef Z (apn 1 Z Z Z .rd h13 tu129 ti5 Z Z Z) fun v14=>zkx 1 [17] Z (fS Z<|fN)<|Zc [] [] Tryz.func214 Z (zhn _) fun r15 n16=>Zq (U.rem Z Z (by decide))<|Zq (U.toW Z tu52 tu65)<|Za Z<|z1x 6 Z fun y17=>Zn<|z0l<|Ze [] [] Z
def zas (a0:UInt32) (a1:List UInt8) (a2:z08):Option (Bool) :=
 z3y a2.E >>= fun r2 =>
 if !r2 then
  some false
 else
  z3y a2.S >>= fun r5 =>
  if !r5 then
   some false
  else
   z5y a0 a2.E.toUInt64 >>= fun r8 =>
   zep r8 >>= fun r10 =>
   zeq a2.S >>= fun r12 =>
   zbi r12 r10.1 >>= fun r14 =>
   z7o r14 a0 a1 >>= fun r16 =>
   some (r16==a2.E)
theorem zik (a0:UInt32) (a1:List UInt8) (a2:z08):z1t Tryz.prog 144 [.rd z0n a0,.rd (z02 u8R) a1,.rd z0o a2] [] (zas a0 a1 a2) (fun r nv=>⟨[.rd z0d r],[]⟩):=by
 refine z2p 39 Tryz.func144 Z Z Z fun H w=>?_
 refine gSR<|Eb Z (bx 1 Z) fun v1=>Zb Z<|z0s<|gSR<|Zq (faB 1 Z Z Tryz.underlying70 Z (by exact z5u))<|Zq (ld 1 Z Z (fP (z4v _)) z92 Z)<|Zc [] [] Tryz.func143 Z (z6c _) fun r2 n3=>Zq (zew Z)<|Zm Z<|z1p 13 Z (fun h4=>?_) (fun h4=>?_)
 ·
  refine lKn 12 Z h4<|Zk Z<|Zk Z<|Zk Z<|Zk Z<|Zq (pkT Z Z)<|Zn<|zgn Z<|gSR<|Zb Z<|z0l<|z0w<|Ze [] [] Z
 ·
  refine lKn 12 Z h4<|z18 Zx Z Z (faB 1 Z Z Tryz.underlying70 Z (by exact z5u))<|z18 Zx Z Z (ld 1 Z Z (fP (z6v _)) z92 Z)<|zgy [] [] Zx Z Tryz.func143 Z Z (z6c _) (Y1 Z) rN fun r5 n6=>z18 Zx Z Z (zew Z)<|Zq (pkF Z Z)<|Zj Z (fun h7=>?_) (fun h7=>?_)
  ·
   refine gKn 17 Z h7<|gSR<|Zb Z<|z0l<|z0w<|Ze [] [] Z
  ·
   refine gKn 17 Z h7<|Zt<|gSR<|Zm Z<|Zq (faB 1 Z Z Tryz.underlying70 Z (by exact z5u))<|Zq (ld 1 Z Z (fP (z4v _)) z92 Z)<|Zq (W.toU Z tu65 tu52)<|Zc [] [] Tryz.func186 Z (za2 _ _) fun r8 n9=>Zc [] [] Tryz.func185 Z (zl4 _) fun r10 n11=>Zm Z<|Zq (ext Z Z)<|Zq (ext Z Z)<|Za Z<|Zb Z<|z0s<|z6n [] mixed Z Z<|hTk 0 Z Z (faB 1 Z Z Tryz.underlying70 Z (by exact z5u))<|hTk 1 Z Z (ld 1 Z Z (fP (z6v _)) z92 Z)<|hTk 3 Z Z (mv Z)<|hTk 5 Z Z (mv Z)<|hTk 6 Z Z (mv Z)<|hTk 8 Z Z (faB 1 Z Z Tryz.underlying70 Z (by exact z5u))<|hTk 9 Z Z (ld 1 Z Z (fP (z4v _)) z92 Z)<|z3a 2 [] [] Z (by kernel_rfl) Z (gd0 Z) Z Tryz.func189 Z Z (zl8 _) (Y1 Z) rN Z (fun _ _=>z27) fun r12 n13=>z3a 4 [] [] Z (by kernel_rfl) Z (gd0 Z) Z Tryz.func188 Z Z (zgh _ _) (Y2 Z Z) rN Z (fun _ _=>z27) fun r14 n15=>z3a 7 [] [] Z (by kernel_rfl) Z (gd0 Z) Z Tryz.func187 Z Z (zfm _ _ _) (aQ Z<|aQ Z<|aQ Z<|aN) rN Z (fun _ _=>z27) fun r16 n17=>hTk 10 Z Z (W.eql Z Z)<|hTk 11 Z Z (asg Z)<|z30 (by kernel_rfl)<|z0k<|z0l<|Ze [] [] Z
def zc8 (a0:z05):Option (Bool) :=
 z93 a0 >>= fun r2 =>
 zas a0.Author r2 a0.Sig >>= fun r4 =>
 some r4
theorem zhu (a0:z05):z1t Tryz.prog 101 [.rd z04 a0] [] (zc8 a0) (fun r nv=>⟨[.rd z0d r],[]⟩):=by
 refine z2p 10 Tryz.func101 Z Z Z fun H w=>?_
 refine gSR<|Eb Z (bx 1 Z) fun v1=>Zb Z<|z0s<|z6n [11] mixed Z Z<|hTk 0 Z Z (faB 1 Z Z Tryz.underlying72 Z (by exact z5u))<|hTk 1 Z Z (ld 1 Z Z (fP (z2z _)) z92 Z)<|hTk 2 Z Z (ld 1 Z Z fH ze5 Z)<|hTk 4 Z Z (faB 1 Z Z Tryz.underlying72 Z (by exact zm3))<|hTk 5 Z Z (ld 1 Z Z (fP (z2g _)) ty70 Z)<|z3a 3 [] [(100,11)] Z (by kernel_rfl) Z (gd0 Z) Z Tryz.func145 Z Z (ze9 _) (Y1 Z) rN Z (fun _ _=>z3w) fun r2 n3=>hFrz 11 [6] Z (fS Z<|fN)<|z3a 6 [] [] Z (by kernel_rfl) Z (gd0 Z) Z Tryz.func144 Z Z (zik _ _ _) (aQ Z<|aQ Z<|aQ Z<|aN) rN Z (fun _ _=>z52) fun r4 n5=>hTk 7 Z Z (asg Z)<|z30 (by kernel_rfl)<|z0k<|z0l<|Ze [] [] Z
def z9u (a0:z05):Option (Int) :=
 z8k a0 >>= fun r2 =>
 if r2 != 0 then
  z8k a0 >>= fun r5 =>
  some r5
 else
  zc8 a0 >>= fun r7 =>
  if !r7 then
   some 22
  else
   some 0
theorem zhq (a0:z05):z1t Tryz.prog 71 [.rd z04 a0] [] (z9u a0) (fun r nv=>⟨[.rd z0c r],[]⟩):=by
 refine z2p 11 Tryz.func71 Z Z Z fun H w=>?_
 refine gSR<|Eb Z (bx 1 Z) fun v1=>Zb Z<|z0s<|gSR<|Zq (ld 1 Z Z fH ze5 Z)<|Zc [] [] Tryz.func100 Z (zdy _) fun r2 n3=>Zq (I.neq Z Z)<|Zj Z (fun h4=>?_) (fun h4=>?_)
 ·
  refine gSR<|Zq (ld 1 Z Z fH ze5 Z)<|Zc [] [] Tryz.func100 Z (zdy _) fun r5 n6=>Zb Z<|z0l<|z0w<|Ze [] [] Z
 ·
  refine Zt<|z0s<|gSR<|Zq (ld 1 Z Z fH ze5 Z)<|Zc [] [] Tryz.func101 Z (zhu _) fun r7 n8=>Zq (zew Z)<|Zj Z (fun h9=>?_) (fun h9=>?_)
  ·
   refine gSR<|Zb Z<|z0l<|z0w<|Ze [] [] Z
  ·
   refine Zt<|gSR<|Zb Z<|z0l<|Ze [] [] Z
end
section
open Go Go.RowKit
set_option maxRecDepth 100000
def z0i (a0:List V3) (a1:V3) (s4:Int × Int):Option (Sum Int (Int × Int)) :=
 if decide (s4.1<s4.2) then
  some (w64 ((z85 (UInt64.ofInt (w64 (s4.1+s4.2))) 1).toNat:Int)) >>= fun y6 =>
  idx a0 y6 >>= fun x7 =>
  z8s x7 a1 >>= fun r9 =>
  if decide (r9<0) then
   some (.inr (w64 (y6+1),s4.2))
  else
   some (.inr (s4.1,y6))
 else
  some (.inl s4.1)
def z0f (a0:List V3) (a1:V3):Option (Int × Bool) :=
 some (a0.length:Int) >>= fun y2 =>
 (iter (z0i a0 a1) (0,y2)) >>= fun s3 =>
 if decide (s3<y2) then
  idx a0 s3 >>= fun x13 =>
  z8s x13 a1 >>= fun r15 =>
  some (s3,r15==0)
 else
  some (s3,false)
theorem z2q (a0:List V3) (a1:V3):z1t Tryz.prog 122 [.rd (z02 aZ) a0,.rd aZ a1,.val (.func (.func 89) #[] #[])] [] (z0f a0 a1) (fun r nv=>⟨[.rd z0c r.1,.rd z0d r.2],[]⟩):=by
 refine z2p 49 Tryz.func122 Z Z Z fun H w=>?_
 refine gSR<|Eb Z (bx 1 Z) fun v1=>Za Z<|Zb Z<|gSR<|Zm Z<|Zq (z3s Z .rd Z tu24)<|Za Z<|z1x 8 Z fun y2=>Zn<|gSR<|Zm Z<|Za Z<|Zb Z<|z8t (fun (s3:Int) aa ww=>Sta (ctx 49 H [] w) [(0,.rd (z02 aZ) a0),(2,.val (.func (.func 89) #[] #[])),(4,.val (z06 v1 0)),(8,.rd z0c y2),(9,.rd z0c s3)] [(1,some (v1,.box 78 [.rd aZ a1]))] aa ww) ?_ (fun s3=>?_)
 ·
  refine z1w (fun (s4:Int × Int) aa ww=>Sta (ctx 49 H [] w) [(0,.rd (z02 aZ) a0),(2,.val (.func (.func 89) #[] #[])),(4,.val (z06 v1 0)),(8,.rd z0c y2),(9,.rd z0c s4.1),(10,.rd z0c s4.2)] [(1,some (v1,.box 78 [.rd aZ a1]))] aa ww) (fun aa ww h=>Zu h [1]) (fun s4=>?_)
  refine z0s<|gSR<|Zm Z<|Zm Z<|Zq (I.lss Z Z)<|Zj Z (fun h5=>?_) (fun h5=>?_)
  ·
   refine Zt<|z4w<|gSR<|Zm Z<|Zm Z<|Zq (I.add Z Z)<|Zq (I.toU Z tu3 Tryz.underlying149)<|Zq (U.shr Z Z (Int.natCast_nonneg _))<|Zq (U.toI Z Tryz.underlying149 tu3)<|Za Z<|z1x 11 Z fun y6=>Zn<|z0s<|z6n [] mixed Z Z<|hTk 0 Z Z (mv Z)<|hTk 1 Z Z (mv Z)<|hTk 2 Z Z (mv Z)<|z4c fun x7 h8=>hTk 3 Z Z (ixR Z Z h8 tu24 z33 Z)<|hTk 4 Z Z (ldR Z z4x)<|hTk 5 Z Z (ld 1 Z Z fH z4x Z)<|ztt 6 [] [] Z (by kernel_rfl) Z (gd0 Z) Z Tryz.func89 Z Z Z (z9r _ _) (Y2 Z Z) (cN) Z rN Z (fun _ _=>z27) fun r9 n10=>hTk 7 Z Z (I.lss Z Z)<|z30 (by kernel_rfl)<|z0k<|gIf Z Z (fun h11=>?_) (fun h11=>?_)
   ·
    refine z28<|Zm Z<|Zq (I.add Z Z)<|Za Z<|z1s<|z38<|z1g (fun aa ww h=>Zu h [1])
   ·
    refine z28<|Zm Z<|Za Z<|z1s<|z38<|z1g (fun aa ww h=>Zu h [1])
  ·
   refine z1r<|z0x<|z10<|z3t (fun aa ww h=>Zu h [1])
 ·
  refine z0s<|z6n [] mixed Z Z<|hTk 0 Z Z (mv Z)<|hTk 1 Z Z (mv Z)<|hTk 2 Z Z (mv Z)<|hTk 3 Z Z (I.lss Z Z)<|hTk 4 Z Z (mv Z)<|hIf 39 Z Z (fun h12=>?_) (fun h12=>?_)
  ·
   refine hKn 38 Z Z h12<|Zg 5 Z Z (mv Z)<|Zg 6 Z Z (mv Z)<|Zg 7 Z Z (mv Z)<|z4c fun x13 h14=>Zg 8 Z Z (ixR Z Z h14 tu24 z33 Z)<|Zg 9 Z Z (ldR Z z4x)<|Zg 10 Z Z (ld 1 Z Z fH z4x Z)<|ztt 11 [] [] Z (by kernel_rfl) Z Zx Z Tryz.func89 Z Z Z (z9r _ _) (Y2 Z Z) (cN) Z rN Z (fun _ _=>z27) fun r15 n16=>Zg 12 Z Z (I.eql Z Z)<|hTk 13 Z Z (pkT Z Z)<|hTk 14 Z Z (asg Z)<|hTk 15 Z Z (asg Z)<|z30 (by kernel_rfl)<|z0k<|z0l<|Ze [] [] Z
  ·
   refine hKn 38 Z Z h12<|hSk 5 Z Z<|hSk 6 Z Z<|hSk 7 Z Z<|hSk 8 Z Z<|hSk 9 Z Z<|hSk 10 Z Z<|hSk 11 Z Z<|hSk 12 Z Z<|hTk 13 Z Z (pkF Z Z)<|hTk 14 Z Z (asg Z)<|hTk 15 Z Z (asg Z)<|z30 (by kernel_rfl)<|z0k<|z0l<|Ze [] [] Z
def zec (a0:z00) (a1:V3):Option (Int × Bool) :=
 z0f a0.IDs a1 >>= fun r3 =>
 some (r3.1,r3.2)
theorem zj4 (a0:z00) (a1:V3):z1t Tryz.prog 84 [.rd z01 a0,.rd aZ a1] [] (zec a0 a1) (fun r nv=>⟨[.rd z0c r.1,.rd z0d r.2],[]⟩):=by
 refine z2p 12 Tryz.func84 Z Z Z fun H w=>?_
 refine gSR<|Eb Z (bx 1 Z) fun v1=>Eb Z (bx 2 Z) fun v2=>Za Z<|Zb Z<|gSR<|Zq (faB 1 Z Z Tryz.underlying27 Z (by exact z6b))<|Zq (ld 1 Z Z (fP (z09 _)) z8l Z)<|Zq (ld 2 Z Z fH z4x Z)<|Zc [] [] Tryz.func122 Z (z2q _ _) fun r3 n4=>Zq (ext Z Z)<|Zq (ext Z Z)<|Za Z<|Zb Z<|z0l<|Ze [] [] Z
def z99 (a0:z00) (s3:Int):Option (Sum (Sum Int Unit) Int) :=
 if decide (s3<(a0.IDs.length:Int)) then
  idx a0.IDs (w64 (s3 - 1)) >>= fun x5 =>
  idx a0.IDs s3 >>= fun x7 =>
  z8s x5 x7 >>= fun r9 =>
  if decide (0≤r9) then
   some (.inl (.inl 32))
  else
   some (.inr (w64 (s3+1)))
 else
  some (.inl (.inr ()))
def zb5 (a0:z00) (s19:(List Int) × (List (List Int)) × (List Int) × Int) (x22:z05) (s26:(List (List Int)) × Int):Option (Sum (Sum (Sum (Sum Int ((List Int) × (List (List Int)) × (List Int))) ((List Int) × (List (List Int)) × (List Int) × Int)) ((List (List Int)))) ((List (List Int)) × Int)) :=
 if decide (s26.2<(x22.Preds.length:Int)) then
  idx x22.Preds s26.2 >>= fun x29 =>
  zec a0 x29 >>= fun r32 =>
  if !r32.2 then
   some (.inl (.inl (.inl (.inl 40))))
  else
   idx s26.1 r32.1 >>= fun x35 =>
   app 8 x35 [s19.2.2.2] >>= fun x38 =>
   some (.inr (s26.1.set (r32.1:Int).toNat x38,w64 (s26.2+1)))
 else
  some (.inl (.inr s26.1))
def zb6 (a0:z00) (s19:(List Int) × (List (List Int)) × (List Int) × Int):Option (Sum (Sum Int ((List Int) × (List (List Int)) × (List Int))) ((List Int) × (List (List Int)) × (List Int) × Int)) :=
 if decide (s19.2.2.2<(a0.Ops.length:Int)) then
  idx a0.Ops s19.2.2.2 >>= fun x22 =>
  z4y (iter (zb5 a0 s19 x22) (s19.2.1,0)) fun s25 =>
  idx s19.1 s19.2.2.2 >>= fun x42 =>
  idx (s19.1.set (s19.2.2.2:Int).toNat (x22.Preds.length:Int)) s19.2.2.2 >>= fun x44 =>
  if x44==0 then
   app 8 s19.2.2.1 [s19.2.2.2] >>= fun x48 =>
   some (.inr (s19.1.set (s19.2.2.2:Int).toNat (x22.Preds.length:Int),s25,x48,w64 (s19.2.2.2+1)))
  else
   some (.inr (s19.1.set (s19.2.2.2:Int).toNat (x22.Preds.length:Int),s25,s19.2.2.1,w64 (s19.2.2.2+1)))
 else
  some (.inl (.inr (s19.1,s19.2.1,s19.2.2.1)))
def zb7 (x59:List Int) (s61:(List Int) × (List Int) × Int):Option (Sum ((List Int) × (List Int)) ((List Int) × (List Int) × Int)) :=
 if decide (s61.2.2<(x59.length:Int)) then
  idx x59 s61.2.2 >>= fun x64 =>
  idx s61.1 x64 >>= fun x66 =>
  idx s61.1 x64 >>= fun x68 =>
  idx (s61.1.set (x64:Int).toNat (w64 (x66 - 1))) x64 >>= fun x70 =>
  if x70==0 then
   app 8 s61.2.1 [x64] >>= fun x74 =>
   some (.inr (s61.1.set (x64:Int).toNat (w64 (x66 - 1)),x74,w64 (s61.2.2+1)))
  else
   some (.inr (s61.1.set (x64:Int).toNat (w64 (x66 - 1)),s61.2.1,w64 (s61.2.2+1)))
 else
  some (.inl (s61.1,s61.2.1))
def zcg (s18:(List Int) × (List (List Int)) × (List Int)) (s53:(List Int) × (List Int) × Int):Option (Sum Int ((List Int) × (List Int) × Int)) :=
 if decide (s53.2.2<(s53.2.1.length:Int)) then
  (idx s53.2.1 s53.2.2 >>= fun x57 =>
  idx s18.2.1 x57 >>= fun x59 =>
  iter (zb7 x59) (s53.1,s53.2.1,0)) >>= fun s56 =>
  some (w64 (s53.2.2+1)) >>= fun y78 =>
  some (.inr (s56.1,s56.2,y78))
 else
  some (.inl s53.2.2)
def zjq (a0:z00):Option (Int) :=
 z4y (iter (z99 a0) 1) fun s2 =>
 mkn 8 0 (a0.Ops.length:Int) >>= fun x12 =>
 mkn 24 ([]:List Int) (a0.Ops.length:Int) >>= fun x15 =>
 z4y (iter (zb6 a0) (x12,x15,[],0)) fun s18 =>
 (iter (zcg s18) (s18.1,s18.2.2,0)) >>= fun s52 =>
 if decide (s52<(a0.Ops.length:Int)) then
  some 36
 else
  some 0
theorem zt3 (a0:z00):z1t Tryz.prog 94 [.rd z01 a0] [] (zjq a0) (fun r nv=>⟨[.rd z0c r],[]⟩):=by
 refine z2p 133 Tryz.func94 Z Z Z fun H w=>?_
 refine gSR<|Eb Z (bx 1 Z) fun v1=>Zb Z<|z7b (fun (s2:Unit) aa ww=>Sta (ctx 133 H [] w) [(1,.val (z06 v1 0))] [(1,some (v1,.box 27 [.rd z01 a0]))] aa ww) ?_ (fun s2=>?_)
 ·
  refine gSR<|Zb Z<|z1w (fun (s3:Int) aa ww=>Sta (ctx 133 H [] w) [(1,.val (z06 v1 0)),(3,.rd z0c s3)] [(1,some (v1,.box 27 [.rd z01 a0]))] aa ww) (fun aa ww h=>h.sub [1] (sS Z<|sS Z<|sN) (y1 Z)) (fun s3=>?_)
  refine z0s<|gSR<|Zm Z<|Zq (faB 1 Z Z Tryz.underlying27 Z (by exact z6b))<|Zq (ld 1 Z Z (fP (z09 _)) z8l Z)<|Zq (z3s Z .rd Z tu24)<|Zq (I.lss Z Z)<|Zj Z (fun h4=>?_) (fun h4=>?_)
  ·
   refine Zt<|z0s<|z4w<|z0s<|z6n [] mixed Z Z<|hTk 0 Z Z (faB 1 Z Z Tryz.underlying27 Z (by exact z6b))<|hTk 1 Z Z (ld 1 Z Z (fP (z09 _)) z8l Z)<|hTk 2 Z Z (mv Z)<|hTk 3 Z Z (I.sub Z Z)<|z4c fun x5 h6=>hTk 4 Z Z (ixR Z Z h6 tu24 z33 Z)<|hTk 5 Z Z (ldR Z z4x)<|hTk 6 Z Z (faB 1 Z Z Tryz.underlying27 Z (by exact z6b))<|hTk 7 Z Z (ld 1 Z Z (fP (z09 _)) z8l Z)<|hTk 8 Z Z (mv Z)<|z4c fun x7 h8=>hTk 9 Z Z (ixR Z Z h8 tu24 z33 Z)<|hTk 10 Z Z (ldR Z z4x)<|z3a 11 [] [] Z (by kernel_rfl) Z (gd0 Z) Z Tryz.func89 Z Z (z9r _ _) (Y2 Z Z) rN Z (fun _ _=>z27) fun r9 n10=>hTk 12 Z Z (I.geq Z Z)<|z30 (by kernel_rfl)<|z0k<|gIf Z Z (fun h11=>?_) (fun h11=>?_)
   ·
    refine gSR<|Zb Z<|z0l<|z3x<|z0w<|z6q<|z5w<|zcn [] [] Z (eE Z<|eN) (rN)
   ·
    refine z2u<|z38<|z0k<|z28<|Zm Z<|Zq (I.add Z Z)<|Za Z<|z1s<|z1g (fun aa ww h=>h.sub [1] (sS Z<|sS Z<|sN) (y1 Z))
  ·
   refine z1r<|z0x<|z10<|z5p (fun aa ww h=>h.sub [1] (sS Z<|sN) (y1 Z))
 ·
  refine gSR<|Zq (faB 1 Z Z Tryz.underlying27 Z (by exact zc0))<|Zq (ld 1 Z Z (fP (z0a _)) zf9 Z)<|Zq (z3s Z .rd Z tu25)<|z0u fun x12 h13=>Ef Z (mks (R:=z0c) 44 Z Z h13 tu157 ti3 (Zr.num Z) Z) fun v14=>Zb Z<|gSR<|Zq (faB 1 Z Z Tryz.underlying27 Z (by exact zc0))<|Zq (ld 1 Z Z (fP (z0a _)) zf9 Z)<|Zq (z3s Z .rd Z tu25)<|z0u fun x15 h16=>Ef Z (mksF 45 Z Z h16 Tryz.underlying176 z12o Z) fun v17=>z1az (base:=100000) (lits:=[(1,some (v1,.box 27 [.rd z01 a0])),(44,some (v14,.list z0c 3 x12)),(45,some (v17,.list zi6 157 (zbj (fun _=>Value.slice none 0 0) x15)))]) z0c 3 [1,44,45] (z17j h16) (Zi Z<|Zi Z<|Zi Z<|rN)<|Zb Z<|gSR<|Zb Z<|z7b (fun (s18:(List Int) × (List (List Int)) × (List Int)) aa ww=>∃ nv:Nat→Value,Sta (ctx 133 H [] w) [(1,.val (z06 v1 0)),(4,.val v14),(5,.val v17),(6,.val (nv 0))] ([(1,some (v1,.box 27 [.rd z01 a0])),(44,some (v14,.list z0c 3 s18.1)),(45,some (v17,.list zi6 157 (zbj (fun j=>nv (j+1)) s18.2.1))),(50,some ((nv 0),.list z0c 3 s18.2.2))]++zqw 100000 z0c 3 (fun j=>nv (j+1)) s18.2.1 0) aa ww) ?_ (fun s18=>?_)
  ·
   refine gSR<|Zq (faB 1 Z Z Tryz.underlying27 Z (by exact zc0))<|Zq (ld 1 Z Z (fP (z0a _)) zf9 Z)<|Zq (z3s Z .rd Z tu25)<|Zm Z<|Zn<|zxg z0c 3 56<|z1w (fun (s19:(List Int) × (List (List Int)) × (List Int) × Int) aa ww=>∃ nv:Nat→Value,Sta (ctx 133 H [] w) [(1,.val (z06 v1 0)),(4,.val v14),(5,.val v17),(6,.val (nv 0)),(45,.rd (z02 z04) a0.Ops),(46,.rd z0c (a0.Ops.length:Int)),(47,.rd z0c s19.2.2.2)] ([(1,some (v1,.box 27 [.rd z01 a0])),(44,some (v14,.list z0c 3 s19.1)),(45,some (v17,.list zi6 157 (zbj (fun j=>nv (j+1)) s19.2.1))),(55,some ((nv 0),.list z0c 3 s19.2.2.1))]++zqw 100000 z0c 3 (fun j=>nv (j+1)) s19.2.1 0) aa ww) (fun aa ww h=>⟨nvlF [(.slice none 0 0)] (fun _=>Value.slice none 0 0),h.subF (by repeat (first | refine z7i.cons Z ?_ | exact z7i.tail)) [1,44,45,56] (Zs Z Z Z Z<|sS Z<|sS Z<|sS Z<|sN) (Zi Z<|Zi Z<|Zi Z<|Zi Z<|rN) rfl⟩) (fun s19=>?_)
   refine gEx fun n20=>gSR<|Zq (I.lss Z Z)<|Zn<|z0s<|gIf Z Z (fun h21=>?_) (fun h21=>?_)
   ·
    refine Zt<|z0s<|z4w<|gSR<|Zm Z<|z0u fun x22 h23=>Zq (ixR Z Z h23 tu25 zax Z)<|Zq (ldR Z ze5)<|Eb Z (z5o 57 zax (ZrE.rd (R:=z0n) (x:=0) (Zr.num Z) (ZrE.nilS (ZrE.rd (R:=z2w) (x:=0) (Zr.num Z) (ZrE.rd (R:=z0h) (x:=(⟨0,[],(⟨0,0,0,[]⟩:z03)⟩:z07)) zom (ZrE.rd (R:=z0o) (x:=(⟨0,0⟩:z08)) zqy ZrE.nil Z) Z) Z)) Z)) fun v24=>Za Z<|zbv aZ [.rd z0n 0,.rd (z02 aZ) [],.rd z2w 0,.rd z0h (⟨0,[],(⟨0,0,0,[]⟩:z03)⟩:z07),.rd z0o (⟨0,0⟩:z08)] 57 [.rd z0n 0] [.rd z2w 0,.rd z0h (⟨0,[],(⟨0,0,0,[]⟩:z03)⟩:z07),.rd z0o (⟨0,0⟩:z08)] Z Z Z<|ze3 (R:=z04) (⟨0,[],0,(⟨0,[],(⟨0,0,0,[]⟩:z03)⟩:z07),(⟨0,0⟩:z08)⟩:z05) 57 Z (Sp.via (Sp.prod (Sp.prod (Sp.prod (Sp.prod (Sp.prod Sp.unit))))))<|Es (sto 57 Z Z fH Z zax)<|Zn<|z7b (fun (s25:(List (List Int))) aa ww=>∃ nv:Nat→Value,Sta (ctx 133 H [] w) [(1,.val (z06 v1 0)),(4,.val v14),(5,.val v17),(6,.val (n20 0)),(7,.rd z0c s19.2.2.2),(8,.val (z06 v24 0)),(45,.rd (z02 z04) a0.Ops),(46,.rd z0c (a0.Ops.length:Int)),(47,.rd z0c s19.2.2.2)] ([(1,some (v1,.box 27 [.rd z01 a0])),(44,some (v14,.list z0c 3 s19.1)),(45,some (v17,.list zi6 157 (zbj (fun j=>nv (j+0)) s25))),(55,some ((n20 0),.list z0c 3 s19.2.2.1)),(57,some (v24,.box 72 [.rd z04 x22]))]++zqw 100000 z0c 3 (fun j=>nv (j+0)) s25 0) aa ww) ?_ (fun s25=>?_)
    ·
     refine gSR<|Zq (faB 57 Z Z Tryz.underlying72 Z (by exact z6b))<|Zq (ld 57 Z Z (fP (z0t _)) z8l Z)<|Zq (z3s Z .rd Z tu24)<|Zm Z<|Zn<|z1w (fun (s26:(List (List Int)) × Int) aa ww=>∃ nv:Nat→Value,Sta (ctx 133 H [] w) [(1,.val (z06 v1 0)),(4,.val v14),(5,.val v17),(6,.val (n20 0)),(7,.rd z0c s19.2.2.2),(8,.val (z06 v24 0)),(45,.rd (z02 z04) a0.Ops),(46,.rd z0c (a0.Ops.length:Int)),(47,.rd z0c s19.2.2.2),(53,.rd (z02 aZ) x22.Preds),(54,.rd z0c (x22.Preds.length:Int)),(55,.rd z0c s26.2)] ([(1,some (v1,.box 27 [.rd z01 a0])),(44,some (v14,.list z0c 3 s19.1)),(45,some (v17,.list zi6 157 (zbj (fun j=>nv (j+0)) s26.1))),(55,some ((n20 0),.list z0c 3 s19.2.2.1)),(57,some (v24,.box 72 [.rd z04 x22]))]++zqw 100000 z0c 3 (fun j=>nv (j+0)) s26.1 0) aa ww) (fun aa ww h=>⟨nvlF [] (fun j=>n20 (j+1)),h.subF (by repeat (first | refine z7i.cons Z ?_ | exact z7i.tail)) [1,44,45,55,57] (Zs Z Z Z Z<|Zs Z Z Z Z<|Zs Z Z Z Z<|sN) (Zi Z<|Zi Z<|Zi Z<|Zi Z<|Zi Z<|rN) rfl⟩) (fun s26=>?_)
     refine gEx fun n27=>gSR<|Zq (I.lss Z Z)<|Zn<|z0s<|gIf Z Z (fun h28=>?_) (fun h28=>?_)
     ·
      refine Zt<|z0s<|z4w<|gSR<|z0u fun x29 h30=>Zq (ixR Z Z h30 tu24 z33 Z)<|Zq (ldR Z z4x)<|Eb Z (z5o 58 z33 (.zr (R:=aZ) (x:=(Vector.replicate 32 0)) zex)) fun v31=>Es (sto 58 Z Z fH Z z33)<|Zn<|gSR<|Zq (ld 1 Z Z fH zb2 Z)<|Zq (ld 58 Z Z fH z4x Z)<|call [] [] Z Tryz.func84 Z Z (zj4 _ _) (Y2 Z Z) rN fun r32 n33=>Zm Z<|Zq (ext Z Z)<|Zq (ext Z Z)<|Za Z<|Zb Z<|z0s<|gSR<|Zm Z<|Zq (zew Z)<|Zj Z (fun h34=>?_) (fun h34=>?_)
      ·
       refine gSR<|Zb Z<|z0l<|z0w<|z3x<|z0w<|z6q<|z5w<|z3x<|z0w<|z6q<|z5w<|zcn [] [] Z (eE Z<|eN) (rN)
      ·
       refine Zt<|z28<|Zm Z<|Zm Z<|Zm Z<|Zm Z<|z0u fun x35 h36=>Zq (ixO 45 Z Z Z (zq9 h36) Tryz.underlying176 z12o)<|Zq (ldF 45 Z Z h36 z16c Z)<|Zm Z<|Ef Z (lit (R:=z0c) ([s19.2.2.2]:List Int) 59 (pP Z Z<|pN) Z tu157 ti3 Z Z) fun v37=>z0u fun x38 h39=>lApF (base:=100000) (lits:=[(1,some (v1,.box 27 [.rd z01 a0])),(44,some (v14,.list z0c 3 s19.1)),(55,some ((n20 0),.list z0c 3 s19.2.2.1)),(57,some (v24,.box 72 [.rd z04 x22])),(58,some (v31,.box 78 [.rd aZ x29])),(59,some (v37,.list z0c 3 [s19.2.2.2]))]) 45 [1,44,55,57,58,59] (by repeat (first | refine z7i.cons Z ?_ | exact z7i.tail)) Z Z Z h36 Z Z Z Z (.own 59 Z) h39 Z (fun _ h=>by cases h; rfl) (fun _ h=>by cases h; rfl) Z Z tu157 ti3 Z Z Z Tryz.underlying176 z12o z16c (Zi Z<|Zi Z<|Zi Z<|Zi Z<|Zi Z<|Zi Z<|rN) Z fun v40=>z1s<|z38<|z0k<|z28<|Zq (I.add Z Z)<|Zm Z<|z1s<|z1g (fun aa ww h=>⟨nvlF [] (updF (fun j=>n27 (j+0)) (r32.1:Int).toNat v40),h.subF (by repeat (first | refine z7i.cons Z ?_ | exact z7i.tail)) [1,44,45,55,57] (Zs Z Z Z Z<|Zs Z Z Z Z<|Zs Z Z Z Z<|sN) (Zi Z<|Zi Z<|Zi Z<|Zi Z<|Zi Z<|rN) rfl⟩)
     ·
      refine z1r<|z0x<|z10<|z5p (fun aa ww h=>⟨nvlF [] (fun j=>n27 (j+0)),h.subF (by repeat (first | refine z7i.cons Z ?_ | exact z7i.tail)) [1,44,45,55,57] (Zs Z Z Z Z<|Zs Z Z Z Z<|sS Z<|sN) (Zi Z<|Zi Z<|Zi Z<|Zi Z<|Zi Z<|rN) rfl⟩)
    ·
     refine gEx fun n41=>gSR<|Zm Z<|Zm Z<|Zq (faB 57 Z Z Tryz.underlying72 Z (by exact z6b))<|Zq (ld 57 Z Z (fP (z0t _)) z8l Z)<|Zq (z3s Z .rd Z tu24)<|z0u fun x42 h43=>Zq (ixO 44 Z Z Z h43 tu157 ti3)<|Es (sto 44 Z Z (Foc.el h43) Z ti3)<|Zn<|gSR<|Zm Z<|Zm Z<|z0u fun x44 h45=>Zq (ixO 44 Z Z Z h45 tu157 ti3)<|Zq (ld 44 Z Z (Foc.el h45) ty3 Z)<|Zq (I.eql Z Z)<|Zj Z (fun h46=>?_) (fun h46=>?_)
     ·
      refine z28<|Zm Z<|Zm Z<|Ef Z (lit (R:=z0c) ([s19.2.2.2]:List Int) 60 (pP Z Z<|pN) Z tu157 ti3 Z Z) fun v47=>z0u fun x48 h49=>Ef Z (apn 55 Z Z Z (.own 60 Z) h49 tu157 ti3 Z Z Z) fun v50=>Za Z<|z1s<|z38<|z0k<|z28<|Zq (I.add Z Z)<|Zm Z<|z1s<|z1g (fun aa ww h=>⟨nvlF [v50] (fun j=>n41 (j+0)),h.subF (by repeat (first | refine z7i.cons Z ?_ | exact z7i.tail)) [1,44,45,55] (Zs Z Z Z Z<|sS Z<|sS Z<|sS Z<|sN) (Zi Z<|Zi Z<|Zi Z<|Zi Z<|rN) rfl⟩)
     ·
      refine z2u<|z38<|z0k<|z28<|Zq (I.add Z Z)<|Zm Z<|z1s<|z1g (fun aa ww h=>⟨nvlF [(n20 0)] (fun j=>n41 (j+0)),h.subF (by repeat (first | refine z7i.cons Z ?_ | exact z7i.tail)) [1,44,45,55] (Zs Z Z Z Z<|sS Z<|sS Z<|sS Z<|sN) (Zi Z<|Zi Z<|Zi Z<|Zi Z<|rN) rfl⟩)
   ·
    refine z1r<|z0x<|z10<|z5p (fun aa ww h=>⟨nvlF [(n20 0)] (fun j=>n20 (j+1)),h.subF (by repeat (first | refine z7i.cons Z ?_ | exact z7i.tail)) [1,44,45,55] (Zs Z Z Z Z<|sN) (Zi Z<|Zi Z<|Zi Z<|Zi Z<|rN) rfl⟩)
  ·
   refine gEx fun n51=>gSR<|Zb Z<|z8t (fun (s52:Int) aa ww=>Sta (ctx 133 H [] w) [(1,.val (z06 v1 0)),(13,.rd z0c s52)] [(1,some (v1,.box 27 [.rd z01 a0]))] aa ww) ?_ (fun s52=>?_)
   ·
    refine z1ba (base:=100000) (T:=3) (lits:=[(1,some (v1,.box 27 [.rd z01 a0])),(44,some (v14,.list z0c 3 s18.1)),(50,some ((n51 0),.list z0c 3 s18.2.2))]) (by repeat (first | refine z7i.cons Z ?_ | exact z7i.tail)) 45 Z [1,44,50] (Zi Z<|Zi Z<|Zi Z<|rN) Z Z<|z1w (fun (s53:(List Int) × (List Int) × Int) aa ww=>∃ nv:Nat→Value,Sta (ctx 133 H [] w) [(1,.val (z06 v1 0)),(4,.val v14),(5,.val v17),(6,.val (nv 0)),(13,.rd z0c s53.2.2)] [(1,some (v1,.box 27 [.rd z01 a0])),(44,some (v14,.list z0c 3 s53.1)),(45,some (v17,.list (z02 z0c) 157 s18.2.1)),(50,some ((nv 0),.list z0c 3 s53.2.1))] aa ww) (fun aa ww h=>⟨nvl [(n51 0)],h.sub [1,44,45,50] (Zs Z Z Z Z<|sS Z<|sN) (Zi Z<|Zi Z<|Zi Z<|Zi Z<|rN)⟩) (fun s53=>?_)
    refine gEx fun n54=>z0s<|gSR<|Zm Z<|Zm Z<|Zq (z3s Z (.own 50 Z) Z tu157)<|Zq (I.lss Z Z)<|Zj Z (fun h55=>?_) (fun h55=>?_)
    ·
     refine Zt<|z8t (fun (s56:(List Int) × (List Int)) aa ww=>∃ nv:Nat→Value,Sta (ctx 133 H [] w) [(1,.val (z06 v1 0)),(4,.val v14),(5,.val v17),(6,.val (nv 0)),(13,.rd z0c s53.2.2)] [(1,some (v1,.box 27 [.rd z01 a0])),(44,some (v14,.list z0c 3 s56.1)),(45,some (v17,.list (z02 z0c) 157 s18.2.1)),(50,some ((nv 0),.list z0c 3 s56.2))] aa ww) ?_ (fun s56=>?_)
     ·
      refine z4w<|gSR<|Zm Z<|Zm Z<|Zm Z<|z0u fun x57 h58=>Zq (ixO 50 Z Z Z h58 tu157 ti3)<|Zq (ld 50 Z Z (Foc.el h58) ty3 Z)<|z0u fun x59 h60=>Zq (ixO 45 Z Z Z h60 Tryz.underlying176 z12o)<|Zq (ld 45 Z Z (Foc.el h60) z16c Z)<|Zq (z3s Z .rd Z tu157)<|Zm Z<|Zn<|z1w (fun (s61:(List Int) × (List Int) × Int) aa ww=>∃ nv:Nat→Value,Sta (ctx 133 H [] w) [(1,.val (z06 v1 0)),(4,.val v14),(5,.val v17),(6,.val (nv 0)),(13,.rd z0c s53.2.2),(106,.rd (z02 z0c) x59),(107,.rd z0c (x59.length:Int)),(108,.rd z0c s61.2.2)] [(1,some (v1,.box 27 [.rd z01 a0])),(44,some (v14,.list z0c 3 s61.1)),(45,some (v17,.list (z02 z0c) 157 s18.2.1)),(50,some ((nv 0),.list z0c 3 s61.2.1))] aa ww) (fun aa ww h=>⟨nvl [(n54 0)],h.sub [1,44,45,50] (Zs Z Z Z Z<|Zs Z Z Z Z<|sN) (Zi Z<|Zi Z<|Zi Z<|Zi Z<|rN)⟩) (fun s61=>?_)
      refine gEx fun n62=>gSR<|Zq (I.lss Z Z)<|Zn<|z0s<|gIf Z Z (fun h63=>?_) (fun h63=>?_)
      ·
       refine Zt<|z0s<|z4w<|gSR<|z0u fun x64 h65=>Zq (ixR Z Z h65 tu157 ti3 Z)<|Zq (ldR Z ty3)<|Zb Z<|gSR<|Zm Z<|Zm Z<|z0u fun x66 h67=>Zq (ixO 44 Z Z Z h67 tu157 ti3)<|Zq (ld 44 Z Z (Foc.el h67) ty3 Z)<|Zq (I.sub Z Z)<|z0u fun x68 h69=>Zq (ixO 44 Z Z Z h69 tu157 ti3)<|Es (sto 44 Z Z (Foc.el h69) Z ti3)<|Zn<|gSR<|Zm Z<|Zm Z<|z0u fun x70 h71=>Zq (ixO 44 Z Z Z h71 tu157 ti3)<|Zq (ld 44 Z Z (Foc.el h71) ty3 Z)<|Zq (I.eql Z Z)<|Zj Z (fun h72=>?_) (fun h72=>?_)
       ·
        refine z28<|Zm Z<|Zm Z<|Ef Z (lit (R:=z0c) ([x64]:List Int) 61 (pP Z Z<|pN) Z tu157 ti3 Z Z) fun v73=>z0u fun x74 h75=>Ef Z (apn 50 Z Z Z (.own 61 Z) h75 tu157 ti3 Z Z Z) fun v76=>Za Z<|z1s<|z38<|z0k<|z28<|Zq (I.add Z Z)<|Zm Z<|z1s<|z1g (fun aa ww h=>⟨nvl [v76],h.sub [1,44,45,50] (Zs Z Z Z Z<|Zs Z Z Z Z<|sN) (Zi Z<|Zi Z<|Zi Z<|Zi Z<|rN)⟩)
       ·
        refine z2u<|z38<|z0k<|z28<|Zq (I.add Z Z)<|Zm Z<|z1s<|z1g (fun aa ww h=>⟨nvl [(n62 0)],h.sub [1,44,45,50] (Zs Z Z Z Z<|Zs Z Z Z Z<|sN) (Zi Z<|Zi Z<|Zi Z<|Zi Z<|rN)⟩)
      ·
       refine z1r<|z0x<|z10<|z38<|z3t (fun aa ww h=>⟨nvl [(n62 0)],h.sub [1,44,45,50] (Zs Z Z Z Z<|sS Z<|sN) (Zi Z<|Zi Z<|Zi Z<|Zi Z<|rN)⟩)
     ·
      refine gEx fun n77=>z28<|Zm Z<|Zq (I.add Z Z)<|Za Z<|z1x 13 Z fun y78=>z1s<|z1g (fun aa ww h=>⟨nvl [(n77 0)],h.sub [1,44,45,50] (Zs Z Z Z Z<|sS Z<|sN) (Zi Z<|Zi Z<|Zi Z<|Zi Z<|rN)⟩)
    ·
     refine z1r<|z0x<|z10<|z3t (fun aa ww h=>h.sub [1] (sS Z<|sS Z<|sN) (y1 Z))
   ·
    refine z0s<|gSR<|Zm Z<|Zq (faB 1 Z Z Tryz.underlying27 Z (by exact zc0))<|Zq (ld 1 Z Z (fP (z0a _)) zf9 Z)<|Zq (z3s Z .rd Z tu25)<|Zq (I.lss Z Z)<|Zj Z (fun h79=>?_) (fun h79=>?_)
    ·
     refine gSR<|Zb Z<|z0l<|z0w<|zcn [] [] Z (eE Z<|eN) (rN)
    ·
     refine Zt<|gSR<|Zb Z<|z0l<|zcn [] [] Z (eE Z<|eN) (rN)
def zci (a0:z00) (s5:Int):Option (Sum (Sum Int Unit) Int) :=
 if decide (s5<(a0.Ops.length:Int)) then
  idx a0.Ops s5 >>= fun x7 =>
  zyq x7 >>= fun r10 =>
  (if r10.2 != 0 then
   some true
  else
   idx a0.IDs s5 >>= fun x15 =>
   if !decide (r10.1=x15) then
    some true
   else
    zh0 x7 >>= fun r18 =>
    some (r18 != 0)) >>= fun s13 =>
  if s13 then
   some (.inl (.inl 8))
  else
   some (.inr (w64 (s5+1)))
 else
  some (.inl (.inr ()))
def z5g (a0:z00):Option (Int) :=
 if decide (60<(a0.Ops.length:Int)) then
  some 4
 else
  if (a0.IDs.length:Int) != (a0.Ops.length:Int) then
   some 8
  else
   z4y (iter (zci a0) 0) fun s4 =>
   zjq a0 >>= fun r21 =>
   some r21
theorem zcj (a0:z00):z1t Tryz.prog 60 [.rd z01 a0] [zG1] (z5g a0) (fun r nv=>⟨[.rd z0c r],[(1001,some (.bool true,.glob 1 (z3m 64 z0n) z5x))]⟩):=by
 refine z2p 50 Tryz.func60 Z Z Z fun H w=>?_
 refine gSR<|Eb Z (bx 1 Z) fun v1=>Zb Z<|z0s<|gSR<|Zq (faB 1 Z Z Tryz.underlying27 Z (by exact zc0))<|Zq (ld 1 Z Z (fP (z0a _)) zf9 Z)<|Zq (z3s Z .rd Z tu25)<|Zq (I.gtr Z Z)<|Zj Z (fun h2=>?_) (fun h2=>?_)
 ·
  refine gSR<|Zb Z<|z0l<|z0w<|Ze [] [1001] Z
 ·
  refine Zt<|z0s<|gSR<|Zq (faB 1 Z Z Tryz.underlying27 Z (by exact z6b))<|Zq (ld 1 Z Z (fP (z09 _)) z8l Z)<|Zq (z3s Z .rd Z tu24)<|Zq (faB 1 Z Z Tryz.underlying27 Z (by exact zc0))<|Zq (ld 1 Z Z (fP (z0a _)) zf9 Z)<|Zq (z3s Z .rd Z tu25)<|Zq (I.neq Z Z)<|Zj Z (fun h3=>?_) (fun h3=>?_)
  ·
   refine gSR<|Zb Z<|z0l<|z0w<|Ze [] [1001] Z
  ·
   refine Zt<|z7b (fun (s4:Unit) aa ww=>Sta (ctx 50 H [zG1] w) [(1,.val (z06 v1 0))] [(1,some (v1,.box 27 [.rd z01 a0])),zG1] aa ww) ?_ (fun s4=>?_)
   ·
    refine gSR<|Zq (faB 1 Z Z Tryz.underlying27 Z (by exact zc0))<|Zq (ld 1 Z Z (fP (z0a _)) zf9 Z)<|Zq (z3s Z .rd Z tu25)<|Zm Z<|Zn<|z1w (fun (s5:Int) aa ww=>Sta (ctx 50 H [zG1] w) [(1,.val (z06 v1 0)),(19,.rd (z02 z04) a0.Ops),(20,.rd z0c (a0.Ops.length:Int)),(21,.rd z0c s5)] [(1,some (v1,.box 27 [.rd z01 a0])),zG1] aa ww) (fun aa ww h=>Zu h [1,1001]) (fun s5=>?_)
    refine gSR<|Zq (I.lss Z Z)<|Zn<|z0s<|gIf Z Z (fun h6=>?_) (fun h6=>?_)
    ·
     refine Zt<|z0s<|z4w<|gSR<|Zm Z<|z0u fun x7 h8=>Zq (ixR Z Z h8 tu25 zax Z)<|Zq (ldR Z ze5)<|Eb Z (z5o 1100 zax (ZrE.rd (R:=z0n) (x:=0) (Zr.num Z) (ZrE.nilS (ZrE.rd (R:=z2w) (x:=0) (Zr.num Z) (ZrE.rd (R:=z0h) (x:=(⟨0,[],(⟨0,0,0,[]⟩:z03)⟩:z07)) zom (ZrE.rd (R:=z0o) (x:=(⟨0,0⟩:z08)) zqy ZrE.nil Z) Z) Z)) Z)) fun v9=>Za Z<|zbv aZ [.rd z0n 0,.rd (z02 aZ) [],.rd z2w 0,.rd z0h (⟨0,[],(⟨0,0,0,[]⟩:z03)⟩:z07),.rd z0o (⟨0,0⟩:z08)] 1100 [.rd z0n 0] [.rd z2w 0,.rd z0h (⟨0,[],(⟨0,0,0,[]⟩:z03)⟩:z07),.rd z0o (⟨0,0⟩:z08)] Z Z Z<|ze3 (R:=z04) (⟨0,[],0,(⟨0,[],(⟨0,0,0,[]⟩:z03)⟩:z07),(⟨0,0⟩:z08)⟩:z05) 1100 Z (Sp.via (Sp.prod (Sp.prod (Sp.prod (Sp.prod (Sp.prod Sp.unit))))))<|Es (sto 1100 Z Z fH Z zax)<|Zn<|gSR<|Zq (ld 1100 Z Z fH ze5 Z)<|Zc [1001] [] Tryz.func80 Z (zvk _) fun r10 n11=>Zm Z<|Zq (ext Z Z)<|Zq (ext Z Z)<|Eb Z (z5o 1101 z33 (.zr (R:=aZ) (x:=(Vector.replicate 32 0)) zex)) fun v12=>Es (sto 1101 Z Z fH Z z33)<|Zb Z<|z8t (fun (s13:Bool) aa ww=>Sta (ctx 50 H [zG1] w) [(1,.val (z06 v1 0)),(19,.rd (z02 z04) a0.Ops),(20,.rd z0c (a0.Ops.length:Int)),(21,.rd z0c s5),(46,.rd z0d s13)] [(1,some (v1,.box 27 [.rd z01 a0])),zG1] aa ww) ?_ (fun s13=>?_)
     ·
      refine z6n [1001] mixed Z Z<|hTk 0 Z Z (mv Z)<|hTk 1 Z Z (I.neq Z Z)<|hTk 2 Z Z (mv Z)<|hIf 33 Z Z (fun h14=>?_) (fun h14=>?_)
      ·
       refine hKn 32 Z Z h14<|hSk 3 Z Z<|hSk 4 Z Z<|hSk 5 Z Z<|hSk 6 Z Z<|hSk 7 Z Z<|hSk 8 Z Z<|hSk 9 Z Z<|hTk 10 Z Z (pkT Z Z)<|hTk 11 Z Z (mv Z)<|hSk 12 Z Z<|hSk 13 Z Z<|hSk 14 Z Z<|hTk 15 Z Z (pkT Z Z)<|z30 (by kernel_rfl)<|z3t (fun aa ww h=>Zu h [1,1001])
      ·
       refine hKn 32 Z Z h14<|Zg 3 Z Z (ld 1101 Z Z fH z4x Z)<|Zg 4 Z Z (faB 1 Z Z Tryz.underlying27 Z (by exact z6b))<|Zg 5 Z Z (ld 1 Z Z (fP (z09 _)) z8l Z)<|Zg 6 Z Z (mv Z)<|z4c fun x15 h16=>Zg 7 Z Z (ixR Z Z h16 tu24 z33 Z)<|Zg 8 Z Z (ldR Z z4x)<|Zg 9 Z Z (neA Z Z eq78 Z Z gq78)<|hTk 10 Z Z (pkF Z Z)<|hTk 11 Z Z (mv Z)<|hIf 42 Z Z (fun h17=>?_) (fun h17=>?_)
       ·
        refine hKn 40 Z Z h17<|hKn 41 Z Z h17<|hSk 12 Z Z<|hSk 13 Z Z<|hSk 14 Z Z<|hTk 15 Z Z (pkT Z Z)<|z30 (by kernel_rfl)<|z3t (fun aa ww h=>Zu h [1,1001])
       ·
        refine hKn 40 Z Z h17<|hKn 41 Z Z h17<|Zg 12 Z Z (ld 1100 Z Z fH ze5 Z)<|z3a 13 [1001] [] Z (by kernel_rfl) Z Zx Z Tryz.func79 Z Z (zlc _) (Y1 Z) (y1 Z) Z (fun _ _=>z27) fun r18 n19=>Zg 14 Z Z (I.neq Z Z)<|hTk 15 Z Z (pkF Z Z)<|z30 (by kernel_rfl)<|z3t (fun aa ww h=>Zu h [1,1001])
     ·
      refine gIf Z Z (fun h20=>?_) (fun h20=>?_)
      ·
       refine gSR<|Zb Z<|z0l<|z3x<|z0w<|z6q<|z5w<|Ze [] [1001] Z
      ·
       refine z2u<|z38<|z0k<|z28<|Zq (I.add Z Z)<|Zm Z<|z1s<|z1g (fun aa ww h=>Zu h [1,1001])
    ·
     refine z1r<|z0x<|z10<|z5p (fun aa ww h=>Zu h [1,1001])
   ·
    refine gSR<|Zq (ld 1 Z Z fH zb2 Z)<|Zc [] [] Tryz.func94 Z (zt3 _) fun r21 n22=>Zb Z<|z0l<|Ze [] [1001] Z
def z8r (a0:List V3) (a1:V3) (s3:Int):Option (Sum (Sum Int Unit) Int) :=
 if decide (s3<(a0.length:Int)) then
  idx a0 s3 >>= fun x5 =>
  if decide (x5=a1) then
   some (.inl (.inl s3))
  else
   some (.inr (w64 (s3+1)))
 else
  some (.inl (.inr ()))
def z2f (a0:List V3) (a1:V3):Option (Int) :=
 z4y (iter (z8r a0 a1) 0) fun s2 =>
 some (-1)
theorem zd1 (a0:List V3) (a1:V3):z1t Tryz.prog 39 [.rd (z02 aZ) a0,.rd aZ a1] [] (z2f a0 a1) (fun r nv=>⟨[.rd z0c r],[]⟩):=by
 refine z2p 19 Tryz.func39 Z Z Z fun H w=>?_
 refine gSR<|Eb Z (bx 1 Z) fun v1=>Zb Z<|z7b (fun (s2:Unit) aa ww=>Sta (ctx 19 H [] w) [] [] aa ww) ?_ (fun s2=>?_)
 ·
  refine gSR<|Zb Z<|z1w (fun (s3:Int) aa ww=>Sta (ctx 19 H [] w) [(0,.rd (z02 aZ) a0),(3,.val (z06 v1 0)),(5,.rd z0c s3)] [(1,some (v1,.box 78 [.rd aZ a1]))] aa ww) (fun aa ww h=>Zu h [1]) (fun s3=>?_)
  refine z0s<|gSR<|Zm Z<|Zm Z<|Zq (z3s Z .rd Z tu24)<|Zq (I.lss Z Z)<|Zj Z (fun h4=>?_) (fun h4=>?_)
  ·
   refine Zt<|z0s<|z4w<|z0s<|zit mixed (by kernel_rfl)<|Rq Z (mv Z)<|Rq Z (mv Z)<|z8f fun x5 h6=>Rq Z (ixR Z Z h6 tu24 z33 Z)<|Rq Z (ldR Z z4x)<|Rq Z (ld 1 Z Z fH z4x Z)<|Rq Z (eqA Z Z eq78 Z Z gq78)<|ztz<|z0k<|gIf Z Z (fun h7=>?_) (fun h7=>?_)
   ·
    refine gSR<|Zm Z<|Zb Z<|z0l<|z3x<|z0w<|z6q<|z5w<|Ze [] [] Z
   ·
    refine z2u<|z38<|z0k<|z28<|Zm Z<|Zq (I.add Z Z)<|Za Z<|z1s<|z1g (fun aa ww h=>Zu h [1])
  ·
   refine z1r<|z0x<|z10<|z5p (fun aa ww h=>Zu h [])
 ·
  refine gSR<|Zb Z<|z0l<|Ze [] [] Z
def z7u (a0:List V3) (a1:List V3) (s2:Int):Option (Sum (Sum Bool Unit) Int) :=
 if decide (s2<(a1.length:Int)) then
  idx a1 s2 >>= fun x4 =>
  z2f a0 x4 >>= fun r6 =>
  if decide (r6<0) then
   some (.inl (.inl false))
  else
   some (.inr (w64 (s2+1)))
 else
  some (.inl (.inr ()))
def z35 (a0:List V3) (a1:List V3):Option (Bool) :=
 z4y (iter (z7u a0 a1) 0) fun s1 =>
 some true
theorem z9s (a0:List V3) (a1:List V3):z1t Tryz.prog 37 [.rd (z02 aZ) a0,.rd (z02 aZ) a1] [] (z35 a0 a1) (fun r nv=>⟨[.rd z0d r],[]⟩):=by
 refine z2p 19 Tryz.func37 Z Z Z fun H w=>?_
 refine gSR<|Zb Z<|z7b (fun (s1:Unit) aa ww=>Sta (ctx 19 H [] w) [] [] aa ww) ?_ (fun s1=>?_)
 ·
  refine gSR<|Zb Z<|z1w (fun (s2:Int) aa ww=>Sta (ctx 19 H [] w) [(0,.rd (z02 aZ) a0),(1,.rd (z02 aZ) a1),(5,.rd z0c s2)] [] aa ww) (fun aa ww h=>Zu h []) (fun s2=>?_)
  refine z0s<|gSR<|Zm Z<|Zm Z<|Zq (z3s Z .rd Z tu24)<|Zq (I.lss Z Z)<|Zj Z (fun h3=>?_) (fun h3=>?_)
  ·
   refine Zt<|z0s<|z4w<|gSR<|Zm Z<|Zm Z<|Zm Z<|z0u fun x4 h5=>Zq (ixR Z Z h5 tu24 z33 Z)<|Zq (ldR Z z4x)<|Zc [] [] Tryz.func39 Z (zd1 _ _) fun r6 n7=>Zq (I.lss Z Z)<|Zj Z (fun h8=>?_) (fun h8=>?_)
   ·
    refine gSR<|Zb Z<|z0l<|z3x<|z0w<|z6q<|z5w<|Ze [] [] Z
   ·
    refine z2u<|z38<|z0k<|z28<|Zm Z<|Zq (I.add Z Z)<|Za Z<|z1s<|z1g (fun aa ww h=>Zu h [])
  ·
   refine z1r<|z0x<|z10<|z5p (fun aa ww h=>Zu h [])
 ·
  refine gSR<|Zb Z<|z0l<|Ze [] [] Z
theorem zj6 (a0:List V3) (q0:Value) (l0:List V3) (a1:V3):z1t Tryz.prog 39 [.vw aZ q0 l0 a0,.rd aZ a1] [(1,some (q0,.list aZ 78 l0))] (z2f a0 a1) (fun r nv=>⟨[.rd z0c r],[(1,some (q0,.list aZ 78 l0))]⟩):=by
 refine z2p 19 Tryz.func39 Z Z Z fun H w=>?_
 refine gSR<|Eb Z (bx 2 Z) fun v1=>Zb Z<|z7b (fun (s2:Unit) aa ww=>Sta (ctx 19 H [(1,some (q0,.list aZ 78 l0))] w) [] [(1,some (q0,.list aZ 78 l0))] aa ww) ?_ (fun s2=>?_)
 ·
  refine gSR<|Zb Z<|z1w (fun (s3:Int) aa ww=>Sta (ctx 19 H [(1,some (q0,.list aZ 78 l0))] w) [(0,.vw aZ q0 l0 a0),(3,.val (z06 v1 0)),(5,.rd z0c s3)] [(1,some (q0,.list aZ 78 l0)),(2,some (v1,.box 78 [.rd aZ a1]))] aa ww) (fun aa ww h=>Zu h [1,2]) (fun s3=>?_)
  refine z0s<|gSR<|Zm Z<|Zm Z<|Zq (z3s Z (.vw 1 Z) Z tu24)<|Zq (I.lss Z Z)<|Zj Z (fun h4=>?_) (fun h4=>?_)
  ·
   refine Zt<|z0s<|z4w<|z0s<|zit mixed (by kernel_rfl)<|Rq Z (mv Z)<|Rq Z (mv Z)<|z8f fun x5 h6=>Rq Z (ixQ 1 Z Z Z h6 tu24 z33)<|Rq Z (ldQ 1 Z Z z4x Z)<|Rq Z (ld 2 Z Z fH z4x Z)<|Rq Z (eqA Z Z eq78 Z Z gq78)<|ztz<|z0k<|gIf Z Z (fun h7=>?_) (fun h7=>?_)
   ·
    refine gSR<|Zm Z<|Zb Z<|z0l<|z3x<|z0w<|z6q<|z5w<|Ze [] [1] Z
   ·
    refine z2u<|z38<|z0k<|z28<|Zm Z<|Zq (I.add Z Z)<|Za Z<|z1s<|z1g (fun aa ww h=>Zu h [1,2])
  ·
   refine z1r<|z0x<|z10<|z5p (fun aa ww h=>Zu h [1])
 ·
  refine gSR<|Zb Z<|z0l<|Ze [] [1] Z
theorem zhz (a0:List V3) (q0:Value) (l0:List V3) (a1:List V3):z1t Tryz.prog 37 [.vw aZ q0 l0 a0,.rd (z02 aZ) a1] [(1,some (q0,.list aZ 78 l0))] (z35 a0 a1) (fun r nv=>⟨[.rd z0d r],[(1,some (q0,.list aZ 78 l0))]⟩):=by
 refine z2p 19 Tryz.func37 Z Z Z fun H w=>?_
 refine gSR<|Zb Z<|z7b (fun (s1:Unit) aa ww=>Sta (ctx 19 H [(1,some (q0,.list aZ 78 l0))] w) [] [(1,some (q0,.list aZ 78 l0))] aa ww) ?_ (fun s1=>?_)
 ·
  refine gSR<|Zb Z<|z1w (fun (s2:Int) aa ww=>Sta (ctx 19 H [(1,some (q0,.list aZ 78 l0))] w) [(0,.vw aZ q0 l0 a0),(1,.rd (z02 aZ) a1),(5,.rd z0c s2)] [(1,some (q0,.list aZ 78 l0))] aa ww) (fun aa ww h=>Zu h [1]) (fun s2=>?_)
  refine z0s<|gSR<|Zm Z<|Zm Z<|Zq (z3s Z .rd Z tu24)<|Zq (I.lss Z Z)<|Zj Z (fun h3=>?_) (fun h3=>?_)
  ·
   refine Zt<|z0s<|z4w<|gSR<|Zm Z<|Zm Z<|Zm Z<|z0u fun x4 h5=>Zq (ixR Z Z h5 tu24 z33 Z)<|Zq (ldR Z z4x)<|Zc [1] [(1,1)] Tryz.func39 Z (zj6 _ _ _ _) fun r6 n7=>Zq (I.lss Z Z)<|Zj Z (fun h8=>?_) (fun h8=>?_)
   ·
    refine gSR<|Zb Z<|z0l<|z3x<|z0w<|z6q<|z5w<|Ze [] [1] Z
   ·
    refine z2u<|z38<|z0k<|z28<|Zm Z<|Zq (I.add Z Z)<|Za Z<|z1s<|z1g (fun aa ww h=>Zu h [1])
  ·
   refine z1r<|z0x<|z10<|z5p (fun aa ww h=>Zu h [1])
 ·
  refine gSR<|Zb Z<|z0l<|Ze [] [1] Z
def z40 (a0:z00) (s6:(List Int) × (List V3) × (List Bool) × Bool) (s9:Int):Option (Sum (Sum ((List Int)) ((List Int) × (List V3) × (List Bool) × Bool)) Int) :=
 if decide (s9<(a0.Ops.length:Int)) then
  (idx s6.2.2.1 s9 >>= fun x12 =>
  if !x12 then
   idx a0.Ops s9 >>= fun x15 =>
   z35 s6.2.1 x15.Preds >>= fun r17 =>
   some r17
  else
   some false) >>= fun s11 =>
  if s11 then
   app 8 s6.1 [s9] >>= fun x20 =>
   idx a0.IDs s9 >>= fun x22 =>
   app 32 s6.2.1 [x22] >>= fun x24 =>
   idx s6.2.2.1 s9 >>= fun x26 =>
   some (.inl (.inr (x20,x24,s6.2.2.1.set (s9:Int).toNat true,true)))
  else
   some (.inr (w64 (s9+1)))
 else
  some (.inl (.inr (s6.1,s6.2.1,s6.2.2.1,false)))
def z8b (a0:z00) (s6:(List Int) × (List V3) × (List Bool) × Bool):Option (Sum ((List Int)) ((List Int) × (List V3) × (List Bool) × Bool)) :=
 if s6.2.2.2 then
  iter (z40 a0 s6) 0
 else
  some (.inl s6.1)
def zaj (a0:z00):Option ((List Int)) :=
 mkn 1 false (a0.Ops.length:Int) >>= fun x2 =>
 (iter (z8b a0) ([],[],x2,true)) >>= fun s5 =>
 some s5
set_option maxHeartbeats 4000000 in
theorem zij (a0:z00):z1t Tryz.prog 104 [.rd z01 a0] [] (zaj a0) (fun r nv=>⟨[.val (nv 0)],[(100,some (nv 0,.list z0c 3 r))]⟩):=by
 refine z2p 51 Tryz.func104 Z Z Z fun H w=>?_
 refine gSR<|Eb Z (bx 1 Z) fun v1=>Zb Z<|gSR<|Zb Z<|gSR<|Zb Z<|gSR<|Zq (faB 1 Z Z Tryz.underlying27 Z (by exact zc0))<|Zq (ld 1 Z Z (fP (z0a _)) zf9 Z)<|Zq (z3s Z .rd Z tu25)<|z0u fun x2 h3=>Ef Z (mks (R:=z0d) 2 Z Z h3 Tryz.underlying125 ti4 Zr.bool Z) fun v4=>Zb Z<|z8t (fun (s5:(List Int)) aa ww=>∃ nv:Nat→Value,Sta (ctx 51 H [] w) [(3,.val (nv 0))] [(3,some ((nv 0),.list z0c 3 s5))] aa ww) ?_ (fun s5=>?_)
 ·
  refine gSR<|Zb Z<|zxg z0c 3 6<|zxg aZ 78 7<|z1w (fun (s6:(List Int) × (List V3) × (List Bool) × Bool) aa ww=>∃ nv:Nat→Value,Sta (ctx 51 H [] w) [(1,.val (z06 v1 0)),(3,.val (nv 0)),(4,.val (nv 1)),(5,.val v4),(6,.rd z0d s6.2.2.2)] [(1,some (v1,.box 27 [.rd z01 a0])),(4,some ((nv 0),.list z0c 3 s6.1)),(5,some ((nv 1),.list aZ 78 s6.2.1)),(2,some (v4,.list z0d 4 s6.2.2.1))] aa ww) (fun aa ww h=>⟨nvl [(.slice none 0 0),(.slice none 0 0)],Zu h [1,6,7,2]⟩) (fun s6=>?_)
  refine gEx fun n7=>z0s<|gSR<|Zm Z<|Zj Z (fun h8=>?_) (fun h8=>?_)
  ·
   refine gKn 6 Z h8<|Zt<|z4w<|gSR<|Zb Z<|gSR<|Zb Z<|z1w (fun (s9:Int) aa ww=>Sta (ctx 51 H [] w) [(1,.val (z06 v1 0)),(3,.val (n7 0)),(4,.val (n7 1)),(5,.val v4),(6,.rd z0d false),(7,.rd z0c s9)] [(1,some (v1,.box 27 [.rd z01 a0])),(4,some ((n7 0),.list z0c 3 s6.1)),(5,some ((n7 1),.list aZ 78 s6.2.1)),(2,some (v4,.list z0d 4 s6.2.2.1))] aa ww) (fun aa ww h=>Zu h [1,4,5,2]) (fun s9=>?_)
   refine z0s<|gSR<|Zm Z<|Zq (faB 1 Z Z Tryz.underlying27 Z (by exact zc0))<|Zq (ld 1 Z Z (fP (z0a _)) zf9 Z)<|Zq (z3s Z .rd Z tu25)<|Zq (I.lss Z Z)<|Zj Z (fun h10=>?_) (fun h10=>?_)
   ·
    refine Zt<|z0s<|z4w<|z8t (fun (s11:Bool) aa ww=>Sta (ctx 51 H [] w) [(1,.val (z06 v1 0)),(3,.val (n7 0)),(4,.val (n7 1)),(5,.val v4),(6,.rd z0d false),(7,.rd z0c s9),(34,.rd z0d s11)] [(1,some (v1,.box 27 [.rd z01 a0])),(4,some ((n7 0),.list z0c 3 s6.1)),(5,some ((n7 1),.list aZ 78 s6.2.1)),(2,some (v4,.list z0d 4 s6.2.2.1))] aa ww) ?_ (fun s11=>?_)
    ·
     refine z28<|Zm Z<|Zm Z<|z0u fun x12 h13=>Zq (ixO 2 Z Z Z h13 Tryz.underlying125 ti4)<|Zq (ld 2 Z Z (Foc.el h13) ty4 Z)<|Zq (zew Z)<|Zm Z<|z1p 25 Z (fun h14=>?_) (fun h14=>?_)
     ·
      refine lKn 24 Z h14<|z18 Zx Z Z (mv Z)<|z18 Zx Z Z (faB 1 Z Z Tryz.underlying27 Z (by exact zc0))<|z18 Zx Z Z (ld 1 Z Z (fP (z0a _)) zf9 Z)<|z18 Zx Z Z (mv Z)<|z0u fun x15 h16=>z18 Zx Z Z (ixR Z Z h16 tu25 zax Z)<|z18 Zx Z Z (faR Z (z0t _) Tryz.underlying72 Z Z (by exact z6b))<|z18 Zx Z Z (ldR Z z8l)<|zgy [5] [(1,5)] Zx Z Tryz.func37 Z Z (zhz _ _ _ _) (aW Z<|aQ Z<|aN) (y1 Z) fun r17 n18=>Zq (pkT Z Z)<|z1s<|z3t (fun aa ww h=>Zu h [1,4,5,2])
     ·
      refine lKn 24 Z h14<|Zk Z<|Zk Z<|Zk Z<|Zk Z<|Zk Z<|Zk Z<|Zk Z<|Zk Z<|Zq (pkF Z Z)<|z1s<|z3t (fun aa ww h=>Zu h [1,4,5,2])
    ·
     refine gIf Z Z (fun h19=>?_) (fun h19=>?_)
     ·
      refine z0s<|gSub [(3,.val (n7 0)),(4,.val (n7 1)),(1,.val (z06 v1 0)),(5,.val v4),(7,.rd z0c s9)] [(1,some (v1,.box 27 [.rd z01 a0])),(4,some ((n7 0),.list z0c 3 s6.1)),(5,some ((n7 1),.list aZ 78 s6.2.1)),(2,some (v4,.list z0d 4 s6.2.2.1))] [1,4,5,2] (Zs Z Z Z Z<|sS Z<|sN) (Zi Z<|Zi Z<|Zi Z<|Zi Z<|rN)<|zbq fun x20 h21=>zbq fun x22 h23=>zbq fun x24 h25=>zbq fun x26 h27=>gOr [(3,.val (n7 0),14),(4,.val (n7 1),15)] [⟨8,none,[(4,some ([1], fun nv=>((nv 1),.list z0c 3 [s9])))]⟩,⟨4,some ([], fun nv=>((n7 0),.list z0c 3 s6.1)),[(5,some ([2], fun nv=>((nv 2),.list z0c 3 x20)))]⟩,⟨1,some ([], fun nv=>(v1,.box 27 [.rd z01 a0])),[]⟩,⟨9,none,[(12,none)]⟩,⟨5,some ([], fun nv=>((n7 1),.list aZ 78 s6.2.1)),[(13,some ([4], fun nv=>((nv 4),.list aZ 78 x24)))]⟩,⟨2,some ([], fun nv=>(v4,.list z0d 4 s6.2.2.1)),[(17,some ([], fun nv=>(v4,.list z0d 4 (s6.2.2.1.set (s9:Int).toNat true))))]⟩] [pd 35 (.val v4),pd 36 (.rd z0c s9),⟨some (37,[], fun nv=>.val (n7 0)),[],[],[0]⟩,pd 38 (.rd z0c s9),⟨some (39,[1], fun nv=>.val (nv 1)),[(0,0,true)],[1],[]⟩,⟨some (40,[2], fun nv=>.val (nv 2)),[(1,0,true),(0,1,false)],[2],[]⟩,⟨some (41,[], fun nv=>.val (n7 1)),[],[],[1]⟩,pk 42 (.val (z06 v1 (0+0))) [(2,0,false)],pk 43 (.rd (z02 aZ) a0.IDs) [(2,0,false)],pd 44 (.rd z0c s9),pd 45 (.rp aZ x22),pd 46 (.rd aZ x22),⟨some (47,[], fun nv=>.rd (z02 aZ) [x22]),[(3,0,true)],[3],[]⟩,⟨some (48,[4], fun nv=>.val (nv 4)),[(4,0,true)],[4],[]⟩,⟨some (3,[2], fun nv=>.val (nv 2)),[],[],[]⟩,⟨some (4,[4], fun nv=>.val (nv 4)),[],[],[]⟩,pk 49 (.val (z06 v4 ((s9:Int).toNat * 1))) [(5,0,false)],⟨none,[(5,0,true)],[],[]⟩,pd 6 (.rd z0d true)] mixed (oC (oRn (fun nv E=>mv Z))<|oC (oRn (fun nv E=>mv Z))<|oC (oRn (fun nv E=>mv Z))<|oC (oRn (fun nv E=>mv Z))<|oC (oEf 8 1 (fun nv E=>lit (R:=z0c) ([s9]:List Int) 8 (pP Z Z<|pN) Z tu157 ti3 Z Z))<|oC (oEf 4 2 (fun nv E=>apn 4 Z Z Z (.own 8 Z) h21 tu157 ti3 Z Z Z))<|oC (oRn (fun nv E=>mv Z))<|oC (oRn (fun nv E=>faB 1 Z Z Tryz.underlying27 Z (by exact z6b)))<|oC (oRn (fun nv E=>ld 1 Z Z (fP (z09 _)) z8l Z))<|oC (oRn (fun nv E=>mv Z))<|oC (oRn (fun nv E=>ixR Z Z h23 tu24 z33 Z))<|oC (oRn (fun nv E=>ldR Z z4x))<|oC (oFz (A1:=fun nv=>[(9,some ((nv 3),.list aZ 78 [x22]))]) 9 3 (oEf 9 3 (fun nv E=>lit (R:=aZ) ([x22]:List V3) 9 (pP Z Z<|pN) Z tu24 z33 Z Z)))<|oC (oEf 5 4 (fun nv E=>apn 5 Z Z Z .rd h25 tu24 z33 Z Z Z))<|oC (oRn (fun nv E=>asg Z))<|oC (oRn (fun nv E=>asg Z))<|oC (oRn (fun nv E=>ixO 2 Z Z Z h27 Tryz.underlying125 ti4))<|oC (oEs 2 (fun nv E=>sto 2 Z Z (Foc.el h27) Z ti4))<|oC (oRn (fun nv E=>asg Z))<|oN) fun n28=>z0k<|z1r<|z16b Z<|z0x<|z10<|z38<|z1g (fun aa ww h=>⟨nvl [(n28 2),(n28 4)],Zu h [1,4,5,2]⟩)
     ·
      refine z2u<|z38<|z0k<|z28<|Zm Z<|Zq (I.add Z Z)<|Za Z<|z1s<|z1g (fun aa ww h=>Zu h [1,4,5,2])
   ·
    refine z1r<|z0x<|z10<|z38<|z1g (fun aa ww h=>⟨nvl [(n7 0),(n7 1)],Zu h [1,4,5,2]⟩)
  ·
   refine gKn 6 Z h8<|z1r<|z0x<|z10<|z3t (fun aa ww h=>⟨nvl [(n7 0)],Zu h [4]⟩)
 ·
  refine gEx fun n29=>gSR<|Zm Z<|Zb Z<|z0l<|Ze [(n29 0)] [3] Z
def z61 (a0:z00) (s6:Int):Option (Sum (Sum Int Unit) Int) :=
 if decide (s6<(a0.Ops.length:Int)) then
  idx a0.Ops s6 >>= fun x8 =>
  z35 a0.IDs x8.Preds >>= fun r10 =>
  if !r10 then
   some (.inl (.inl 40))
  else
   some (.inr (w64 (s6+1)))
 else
  some (.inl (.inr ()))
def zal (a0:z00):Option (Int) :=
 z5t a0.IDs >>= fun r2 =>
 if !r2 then
  some 32
 else
  z4y (iter (z61 a0) 0) fun s5 =>
  zaj a0 >>= fun r13 =>
  if decide ((r13.length:Int)<(a0.Ops.length:Int)) then
   some 36
  else
   some 0
theorem zj5 (a0:z00):z1t Tryz.prog 73 [.rd z01 a0] [] (zal a0) (fun r nv=>⟨[.rd z0c r],[]⟩):=by
 refine z2p 32 Tryz.func73 Z Z Z fun H w=>?_
 refine gSR<|Eb Z (bx 1 Z) fun v1=>Zb Z<|z0s<|gSR<|Zq (faB 1 Z Z Tryz.underlying27 Z (by exact z6b))<|Zq (ld 1 Z Z (fP (z09 _)) z8l Z)<|Zc [] [] Tryz.func38 Z (z9z _) fun r2 n3=>Zq (zew Z)<|Zj Z (fun h4=>?_) (fun h4=>?_)
 ·
  refine gSR<|Zb Z<|z0l<|z0w<|Ze [] [] Z
 ·
  refine Zt<|z7b (fun (s5:Unit) aa ww=>Sta (ctx 32 H [] w) [(1,.val (z06 v1 0))] [(1,some (v1,.box 27 [.rd z01 a0]))] aa ww) ?_ (fun s5=>?_)
  ·
   refine gSR<|Zb Z<|z1w (fun (s6:Int) aa ww=>Sta (ctx 32 H [] w) [(1,.val (z06 v1 0)),(3,.rd z0c s6)] [(1,some (v1,.box 27 [.rd z01 a0]))] aa ww) (fun aa ww h=>Zu h [1]) (fun s6=>?_)
   refine z0s<|gSR<|Zm Z<|Zq (faB 1 Z Z Tryz.underlying27 Z (by exact zc0))<|Zq (ld 1 Z Z (fP (z0a _)) zf9 Z)<|Zq (z3s Z .rd Z tu25)<|Zq (I.lss Z Z)<|Zj Z (fun h7=>?_) (fun h7=>?_)
   ·
    refine Zt<|z0s<|z4w<|z0s<|z6n [] mixed Z Z<|hTk 0 Z Z (faB 1 Z Z Tryz.underlying27 Z (by exact z6b))<|hTk 1 Z Z (ld 1 Z Z (fP (z09 _)) z8l Z)<|hTk 2 Z Z (faB 1 Z Z Tryz.underlying27 Z (by exact zc0))<|hTk 3 Z Z (ld 1 Z Z (fP (z0a _)) zf9 Z)<|hTk 4 Z Z (mv Z)<|z4c fun x8 h9=>hTk 5 Z Z (ixR Z Z h9 tu25 zax Z)<|hTk 6 Z Z (faR Z (z0t _) Tryz.underlying72 Z Z (by exact z6b))<|hTk 7 Z Z (ldR Z z8l)<|z3a 8 [] [] Z (by kernel_rfl) Z (gd0 Z) Z Tryz.func37 Z Z (z9s _ _) (Y2 Z Z) rN Z (fun _ _=>z52) fun r10 n11=>hTk 9 Z Z (zew Z)<|z30 (by kernel_rfl)<|z0k<|gIf Z Z (fun h12=>?_) (fun h12=>?_)
    ·
     refine gSR<|Zb Z<|z0l<|z3x<|z0w<|z6q<|z5w<|Ze [] [] Z
    ·
     refine z2u<|z38<|z0k<|z28<|Zm Z<|Zq (I.add Z Z)<|Za Z<|z1s<|z1g (fun aa ww h=>Zu h [1])
   ·
    refine z1r<|z0x<|z10<|z5p (fun aa ww h=>Zu h [1])
  ·
   refine z0s<|z0s<|z6n [38] mixed Z Z<|hTk 0 Z Z (ld 1 Z Z fH zb2 Z)<|hTk 3 Z Z (faB 1 Z Z Tryz.underlying27 Z (by exact zc0))<|hTk 4 Z Z (ld 1 Z Z (fP (z0a _)) zf9 Z)<|hTk 5 Z Z (z3s Z .rd Z tu25)<|z3a 1 [] [(100,38)] Z (by kernel_rfl) Z (gd0 Z) Z Tryz.func104 Z Z (zij _) (Y1 Z) rN Z (fun _ _=>z3w) fun r13 n14=>Zf 2 Z Z z27 (z3s Z (.own 38 Z) Z tu157)<|hTk 6 Z Z (I.lss Z Z)<|z30 (by kernel_rfl)<|z0k<|gIf Z Z (fun h15=>?_) (fun h15=>?_)
   ·
    refine gSR<|Zb Z<|z0l<|z0w<|Ze [] [] Z
   ·
    refine Zt<|gSR<|Zb Z<|z0l<|Ze [] [] Z
def z69 (a0:z00) (s5:Int):Option (Sum (Sum Int Unit) Int) :=
 if decide (s5<(a0.Ops.length:Int)) then
  idx a0.Ops s5 >>= fun x7 =>
  z9u x7 >>= fun r9 =>
  if r9 != 0 then
   some (.inl (.inl 8))
  else
   idx a0.Ops s5 >>= fun x12 =>
   idx a0.IDs s5 >>= fun x14 =>
   zd7 x12 >>= fun r16 =>
   if !decide (r16=x14) then
    some (.inl (.inl 8))
   else
    some (.inr (w64 (s5+1)))
 else
  some (.inl (.inr ()))
def z5a (a0:z00):Option (Int) :=
 if decide (60<(a0.Ops.length:Int)) then
  some 4
 else
  if (a0.IDs.length:Int) != (a0.Ops.length:Int) then
   some 8
  else
   z4y (iter (z69 a0) 0) fun s4 =>
   zal a0 >>= fun r19 =>
   some r19
theorem zb1 (a0:z00):z1t Tryz.prog 31 [.rd z01 a0] [] (z5a a0) (fun r nv=>⟨[.rd z0c r],[]⟩):=by
 refine z2p 45 Tryz.func31 Z Z Z fun H w=>?_
 refine gSR<|Eb Z (bx 1 Z) fun v1=>Zb Z<|z0s<|gSR<|Zq (faB 1 Z Z Tryz.underlying27 Z (by exact zc0))<|Zq (ld 1 Z Z (fP (z0a _)) zf9 Z)<|Zq (z3s Z .rd Z tu25)<|Zq (I.gtr Z Z)<|Zj Z (fun h2=>?_) (fun h2=>?_)
 ·
  refine gSR<|Zb Z<|z0l<|z0w<|Ze [] [] Z
 ·
  refine Zt<|z0s<|gSR<|Zq (faB 1 Z Z Tryz.underlying27 Z (by exact z6b))<|Zq (ld 1 Z Z (fP (z09 _)) z8l Z)<|Zq (z3s Z .rd Z tu24)<|Zq (faB 1 Z Z Tryz.underlying27 Z (by exact zc0))<|Zq (ld 1 Z Z (fP (z0a _)) zf9 Z)<|Zq (z3s Z .rd Z tu25)<|Zq (I.neq Z Z)<|Zj Z (fun h3=>?_) (fun h3=>?_)
  ·
   refine gSR<|Zb Z<|z0l<|z0w<|Ze [] [] Z
  ·
   refine Zt<|z7b (fun (s4:Unit) aa ww=>Sta (ctx 45 H [] w) [(1,.val (z06 v1 0))] [(1,some (v1,.box 27 [.rd z01 a0]))] aa ww) ?_ (fun s4=>?_)
   ·
    refine gSR<|Zb Z<|z1w (fun (s5:Int) aa ww=>Sta (ctx 45 H [] w) [(1,.val (z06 v1 0)),(3,.rd z0c s5)] [(1,some (v1,.box 27 [.rd z01 a0]))] aa ww) (fun aa ww h=>Zu h [1]) (fun s5=>?_)
    refine z0s<|gSR<|Zm Z<|Zq (faB 1 Z Z Tryz.underlying27 Z (by exact zc0))<|Zq (ld 1 Z Z (fP (z0a _)) zf9 Z)<|Zq (z3s Z .rd Z tu25)<|Zq (I.lss Z Z)<|Zj Z (fun h6=>?_) (fun h6=>?_)
    ·
     refine Zt<|z0s<|z4w<|z0s<|z6n [] mixed Z Z<|hTk 0 Z Z (faB 1 Z Z Tryz.underlying27 Z (by exact zc0))<|hTk 1 Z Z (ld 1 Z Z (fP (z0a _)) zf9 Z)<|hTk 2 Z Z (mv Z)<|z4c fun x7 h8=>hTk 3 Z Z (ixR Z Z h8 tu25 zax Z)<|hTk 4 Z Z (ldR Z ze5)<|z3a 5 [] [] Z (by kernel_rfl) Z (gd0 Z) Z Tryz.func71 Z Z (zhq _) (Y1 Z) rN Z (fun _ _=>z27) fun r9 n10=>hTk 6 Z Z (I.neq Z Z)<|hTk 7 Z Z (mv Z)<|hIf 29 Z Z (fun h11=>?_) (fun h11=>?_)
     ·
      refine hKn 28 Z Z h11<|hSk 8 Z Z<|hSk 9 Z Z<|hSk 10 Z Z<|hSk 11 Z Z<|hSk 12 Z Z<|hSk 13 Z Z<|hSk 14 Z Z<|hSk 15 Z Z<|hSk 16 Z Z<|hSk 17 Z Z<|hSk 18 Z Z<|hSk 19 Z Z<|hTk 20 Z Z (pkT Z Z)<|z30 (by kernel_rfl)<|z0k<|zgn Z<|gSR<|Zb Z<|z0l<|z3x<|z0w<|z6q<|z5w<|Ze [] [] Z
     ·
      refine hKn 28 Z Z h11<|Zg 8 Z Z (faB 1 Z Z Tryz.underlying27 Z (by exact zc0))<|Zg 9 Z Z (ld 1 Z Z (fP (z0a _)) zf9 Z)<|Zg 10 Z Z (mv Z)<|z4c fun x12 h13=>Zg 11 Z Z (ixR Z Z h13 tu25 zax Z)<|Zg 12 Z Z (ldR Z ze5)<|Zg 14 Z Z (faB 1 Z Z Tryz.underlying27 Z (by exact z6b))<|Zg 15 Z Z (ld 1 Z Z (fP (z09 _)) z8l Z)<|Zg 16 Z Z (mv Z)<|z4c fun x14 h15=>Zg 17 Z Z (ixR Z Z h15 tu24 z33 Z)<|Zg 18 Z Z (ldR Z z4x)<|z100 13 [] [] Z (by kernel_rfl) Z Zx Z Tryz.func72 Z Z (zm0 _) (Y1 Z) rN Z fun r16 n17=>zyw 19 Z (by kernel_rfl) (by kernel_rfl) (by kernel_rfl) Zx Z Z z52 (neA Z Z eq78 Z Z gq78)<|hTk 20 Z Z (pkF Z Z)<|z30 (by kernel_rfl)<|z0k<|gIf Z Z (fun h18=>?_) (fun h18=>?_)
      ·
       refine gKn 41 Z h18<|gSR<|Zb Z<|z0l<|z3x<|z0w<|z6q<|z5w<|Ze [] [] Z
      ·
       refine gKn 41 Z h18<|z2u<|z38<|z0k<|z28<|Zm Z<|Zq (I.add Z Z)<|Za Z<|z1s<|z1g (fun aa ww h=>Zu h [1])
    ·
     refine z1r<|z0x<|z10<|z5p (fun aa ww h=>Zu h [1])
   ·
    refine gSR<|Zq (ld 1 Z Z fH zb2 Z)<|Zc [] [] Tryz.func73 Z (zj5 _) fun r19 n20=>Zb Z<|z0l<|Ze [] [] Z
end
section
open Go Go.Shelf
def zz5:Go.Shelf.Ren:=⟨fun | 6=>88 | 15=>96 | 14=>126 | 28=>137 | 29=>138 | 20=>166 | 21=>167 | 22=>168 | 23=>169 | 24=>170 | 25=>171 | 26=>172 | 27=>173 | 46=>207 | 47=>176 | 48=>177 | 49=>208 | 50=>209 | 57=>227 | n=>n, fun | 22=>24 | 24=>78 | 25=>141 | 3=>3 | 39=>149 | 0=>0 | 53=>65 | 55=>52 | 4=>4 | 46=>179 | 45=>178 | 50=>139 | 5=>5 | 9=>9 | 66=>216 | 70=>220 | 76=>247 | 77=>248 | n=>n, fun | n=>n⟩
theorem z18v:Go.Proofs.SlLaysF0.n6 Tryz.prog zz5:={
 mixed:=by kernel_rfl
 f6:=⟨Tryz.f88.name, by decide,Tryz.func88.trans (congrArg some (by kernel_rfl))⟩
 f14:=⟨Tryz.f126.name, by decide,Tryz.func126.trans (congrArg some (by kernel_rfl))⟩
 f15:=Tryz.func96.trans (congrArg some (by kernel_rfl))
 f20:=⟨Tryz.f166.name, by decide,Tryz.func166.trans (congrArg some (by kernel_rfl))⟩
 f21:=⟨Tryz.f167.name, by decide,Tryz.func167.trans (congrArg some (by kernel_rfl))⟩
 f22:=⟨Tryz.f168.name, by decide,Tryz.func168.trans (congrArg some (by kernel_rfl))⟩
 f23:=⟨Tryz.f169.name, by decide,Tryz.func169.trans (congrArg some (by kernel_rfl))⟩
 f24:=⟨Tryz.f170.name, by decide,Tryz.func170.trans (congrArg some (by kernel_rfl))⟩
 f25:=⟨Tryz.f171.name, by decide,Tryz.func171.trans (congrArg some (by kernel_rfl))⟩
 f26:=⟨Tryz.f172.name, by decide,Tryz.func172.trans (congrArg some (by kernel_rfl))⟩
 f27:=⟨Tryz.f173.name, by decide,Tryz.func173.trans (congrArg some (by kernel_rfl))⟩
 f28:=Tryz.func137.trans (congrArg some (by kernel_rfl))
 f29:=Tryz.func138.trans (congrArg some (by kernel_rfl))
 f46:=⟨Tryz.f207.name, by decide,Tryz.func207.trans (congrArg some (by kernel_rfl))⟩
 f47:=Tryz.func176.trans (congrArg some (by kernel_rfl))
 f48:=Tryz.func177.trans (congrArg some (by kernel_rfl))
 f49:=⟨Tryz.f208.name, by decide,Tryz.func208.trans (congrArg some (by kernel_rfl))⟩
 f50:=⟨Tryz.f209.name, by decide,Tryz.func209.trans (congrArg some (by kernel_rfl))⟩
 f57:=⟨Tryz.f227.name, by decide,Tryz.func227.trans (congrArg some (by kernel_rfl))⟩
 t0:=Tryz.underlying0
 a0:=Tryz.isAgg0
 z0:=Tryz.sizeOf0
 v0:=Tryz.zeroValue0
 t3:=Tryz.underlying3
 a3:=Tryz.isAgg3
 z3:=Tryz.sizeOf3
 v3:=Tryz.zeroValue3
 t4:=Tryz.underlying4
 a4:=Tryz.isAgg4
 z4:=Tryz.sizeOf4
 v4:=Tryz.zeroValue4
 t5:=Tryz.underlying5
 a5:=Tryz.isAgg5
 z5:=Tryz.sizeOf5
 v5:=Tryz.zeroValue5
 t9:=Tryz.underlying9
 a9:=Tryz.isAgg9
 z9:=Tryz.sizeOf9
 v9:=Tryz.zeroValue9
 t22:=Tryz.underlying24
 a22:=Tryz.isAgg24
 z22:=Tryz.sizeOf24
 v22:=Tryz.zeroValue24
 t25:=Tryz.underlying141
 a25:=Tryz.isAgg141
 z25:=Tryz.sizeOf141
 v25:=Tryz.zeroValue141
 t39:=Tryz.underlying149
 a39:=Tryz.isAgg149
 z39:=Tryz.sizeOf149
 v39:=Tryz.zeroValue149
 t45:=Tryz.underlying178
 a45:=Tryz.isAgg178
 z45:=Tryz.sizeOf178
 v45:=Tryz.zeroValue178
 t46:=Tryz.underlying179
 a46:=Tryz.isAgg179
 z46:=Tryz.sizeOf179
 v46:=Tryz.zeroValue179
 t50:=Tryz.underlying139
 a50:=Tryz.isAgg139
 z50:=Tryz.sizeOf139
 v50:=Tryz.zeroValue139
 t53:=Tryz.underlying65
 a53:=Tryz.isAgg65
 z53:=Tryz.sizeOf65
 v53:=Tryz.zeroValue65
 t55:=Tryz.underlying52
 a55:=Tryz.isAgg52
 z55:=Tryz.sizeOf52
 v55:=Tryz.zeroValue52
 t66:=Tryz.underlying216
 a66:=Tryz.isAgg216
 z66:=Tryz.sizeOf216
 v66:=Tryz.zeroValue216
 t70:=Tryz.underlying220
 a70:=Tryz.isAgg220
 z70:=Tryz.sizeOf220
 v70:=Tryz.zeroValue220
 t76:=Tryz.underlying247
 a76:=Tryz.isAgg247
 z76:=Tryz.sizeOf247
 v76:=Tryz.zeroValue247
 t77:=Tryz.underlying248
 a77:=Tryz.isAgg248
 z77:=Tryz.sizeOf248
 v77:=Tryz.zeroValue248 }
end
section
open Go Go.Shelf Go.RowKit Go.Lib Go.Sort
def zby (x:V3):List Value:=x.toList.map fun c=>Value.int .u8 (c.toNat:Int)
theorem zgt (x:V3):(zby x).length=32:=by simp [zby]
theorem z147 (x y:V3) (b c:Nat) (W:World) (hx:∀ j u,(zby x)[j]? = some u→W.cell? ⟨b,0+j,none⟩=some u) (hy:∀ j u,(zby y)[j]? = some u→W.cell? ⟨c,0+j,none⟩=some u) :
  (callFunc 174 #[.slice (some ⟨b,0,none⟩) 32 32,.slice (some ⟨c,0,none⟩) 32 32]).run Tryz.prog W=.ok (.value (.int .i64 (Lib.compareBytes x.toList y.toList))) W:=by
 have lx:x.toList.length=32:=by simp
 have ly:y.toList.length=32:=by simp
 have e:=zlg (P:=Tryz.prog) (w:=W) (p:=some ⟨b,0,none⟩) (q:=some ⟨c,0,none⟩) (c:=32) (d:=32) (x:=x.toList) (y:=y.toList) (xs:=zby x) (ys:=zby y)
  ⟨by rw [zgt,lx],.inr ⟨b,0,none,32, by rfl, by omega, by decide,.inr rfl,hx⟩⟩ rfl ⟨by rw [zgt,ly],.inr ⟨c,0,none,32, by rfl, by omega, by decide,.inr rfl,hy⟩⟩ rfl
 rw [lx,ly] at e
 rw [run_callFunc_extern Tryz.func174 rfl rfl (by kernel_rfl) (by kernel_rfl),e]
 rfl
set_option maxHeartbeats 1000000 in
set_option maxRecDepth 100000 in
theorem zpp (x y:V3) (b c:Nat) (W:World) (hx:∀ j u,(zby x)[j]? = some u→W.cell? ⟨b,0+j,none⟩=some u) (hy:∀ j u,(zby y)[j]? = some u→W.cell? ⟨c,0+j,none⟩=some u) :
  Calls Tryz.prog 127 #[.slice (some ⟨b,0,none⟩) 32 32,.slice (some ⟨c,0,none⟩) 32 32] W fun e w'=>e=.returned (.int .i64 (Lib.compareBytes x.toList y.toList))∧w'=W:=by
 have e:=z147 x y b c W hx hy
 go_enter Tryz.func127,Tryz.ntmps127
 go_wp2
 go_ret
 exact ⟨rfl,rfl⟩
theorem zqi {w:World} {b j:Nat} {c:Array Value} {T:TypeId} {fr:Nat × Nat} {u:Value} (h:w.heap[b]? = some (.cells c T fr)) (hj:c[j]? = some u):w.cell? ⟨b,0+j,none⟩=some u:=by
 unfold World.cell?
 rw [h]
 simpa using hj
theorem z17e (W:World) (xs ys:List Value) (n j:Nat) (u:Value) (h:xs[j]? = some u):(((W.alloc (.cells xs.toArray 78)).alloc (.cells ys.toArray 78)).drewN n).cell? ⟨W.heap.size,0+j,none⟩=some u :=
 zqi (c:=xs.toArray) (T:=78) (fr:=(0,0)) (by
  show ((W.heap.push _).push _)[W.heap.size]? = _
  rw [Array.getElem?_push_lt (by simp)]; simp) (by simpa using h)
theorem z163 (W:World) (xs ys:List Value) (n j:Nat) (u:Value) (h:ys[j]? = some u):(((W.alloc (.cells xs.toArray 78)).alloc (.cells ys.toArray 78)).drewN n).cell? ⟨W.heap.size+1,0+j,none⟩=some u :=
 zqi (c:=ys.toArray) (T:=78) (fr:=(0,0)) (by
  show ((W.heap.push _).push _)[W.heap.size+1]? = _
  have:W.heap.size+1=(W.heap.push (Obj.cells xs.toArray 78)).size:=by simp
  rw [this,Array.getElem?_push_size]) (by simpa using h)
set_option maxHeartbeats 1000000 in
set_option maxRecDepth 100000 in
theorem zxh (x y:V3) (W:World):Calls Tryz.prog 89 #[.agg (zby x).toArray,.agg (zby y).toArray] W fun e w'=>e=.returned (.int .i64 (Lib.compareBytes x.toList y.toList))∧∃ q os',w'=grow (W.drewN q) os':=by
 have c0:=z17e W (zby x) (zby y)
 have c1:=z163 W (zby x) (zby y)
 go_enter Tryz.func89,Tryz.ntmps89
 go_wp2
 go_quiet (first | (go_at_call 127; refine Calls.quiet_of_same (zpp x y _ _ _ (c0 _) (c1 _))))
 go_wp2
 go_ret
 exact ⟨rfl,nq,#[.cells (zby x).toArray 78,.cells (zby y).toArray 78],rfl⟩
end
section
open Go Go.RowKit Go.Sort
theorem z15q {α:Type} [Inhabited α] (enc:α→List Value) (k:Nat) (hk:∀ x,(enc x).length=k):∀ (l:List α) (t:Nat),t<l.length * k→(l.flatMap enc)[t]! = (enc l[t / k]!)[t % k]!
  | [],t,h=>by simp at h
  | x::l,t,h=>by
    have hx:=hk x
    have k0 : 0 < k := by rcases Nat.eq_zero_or_pos k with e | e; · subst e; simp at h
                          · exact e
    rw [List.flatMap_cons]
    by_cases ht:t<k
    · rw [List.getElem!_eq_getElem?_getD,List.getElem?_append_left (by omega),Nat.div_eq_of_lt ht,Nat.mod_eq_of_lt ht]
      simp
    · have hl : t - k < l.length * k := by
        simp only [List.length_cons,Nat.add_mul,Nat.one_mul] at h; omega
      have ih:=z15q enc k hk l (t - k) hl
      have e1:t / k=(t - k) / k+1:=by
        have h2:=Nat.add_div_right (t - k) k0
        rw [Nat.sub_add_cancel (by omega)] at h2; exact h2
      have e2:t % k=(t - k) % k:=by rw [Nat.mod_eq_sub_mod (by omega)]
      rw [List.getElem!_eq_getElem?_getD,List.getElem?_append_right (by omega),hx,e1,e2,← List.getElem!_eq_getElem?_getD,ih]
      simp
theorem zt9 {α:Type} (enc:α→List Value) (k:Nat) (hk:∀ x,(enc x).length=k):∀ l:List α,(l.flatMap enc).length=l.length * k
  | []=>by simp
  | x::l=>by rw [List.flatMap_cons,List.length_append,hk,zt9 enc k hk l,List.length_cons,Nat.add_mul,Nat.one_mul,Nat.add_comm]
theorem zyn {α:Type} [Inhabited α] (enc:α→List Value) (k:Nat) (hk:∀ x,(enc x).length=k) (l:List α):flatK enc k l.toArray=(l.flatMap enc).toArray:=by
  refine ext_get! (by rw [size_flatK]; simp only [List.size_toArray,zt9 enc k hk]) fun t ht=>?_
  rw [size_flatK,List.size_toArray] at ht
  rw [get_flatK _ _ _ _ (by simpa using ht)]
  have:=z15q enc k hk l t ht
  simp at this ⊢
  rw [this]
theorem zsb {α:Type} [Inhabited α] (enc:α→List Value) (k:Nat) (hk:∀ x,(enc x).length=k) {w:World} {b:Nat} {C:Array Value} {T:TypeId} (l:List α) (hb:w.heap[b]? = some (.cells C T (0,0))) (hc:C.toList.take (l.length * k)=l.flatMap enc):HoldsK enc k w b 0 l.toArray:=by
  intro j hj
  rw [zyn enc k hk] at hj ⊢
  have hj':j<(l.flatMap enc).length:=by simpa using hj
  constructor
  · refine zqi hb ?_
    have e:(C.toList.take (l.length * k))[j]? = (l.flatMap enc)[j]? := by rw [hc]
    rw [List.getElem?_take_of_lt (by rw [zt9 enc k hk] at hj'; exact hj'),List.getElem?_eq_getElem hj'] at e
    rw [← Array.getElem?_toList,e]
    have:((l.flatMap enc).toArray)[j]! = (l.flatMap enc)[j]:=by rw [getElem!_pos _ j (by simpa using hj')]; simp
    rw [this]; rfl
  · simp [World.frozen?,hb]
theorem zwl {α:Type} [Inhabited α] (enc:α→List Value) (k:Nat) (w:World) (b n:Nat) (d:Array α) (os:Array Obj) {i:Nat} (hi:i<w.heap.size) (hne:i≠b):(sortWorldK enc k w b 0 n d os).heap[i]? = w.heap[i]? := by
  show (w.heap.modify b _++os)[i]? = _
  rw [Array.getElem?_append_left (by simpa using hi),Array.getElem?_modify,if_neg (fun e=>hne e.symm)]
theorem z162 {α:Type} [Inhabited α] (enc:α→List Value) (k:Nat) (w:World) {b:Nat} (n:Nat) (d:Array α) (os:Array Obj) {C:Array Value} {T:TypeId} {fr:Nat × Nat} (hb:w.heap[b]? = some (.cells C T fr)):(sortWorldK enc k w b 0 n d os).heap[b]? = some (.cells (putCells id 0 (flatK enc k d) C) T fr):=by
  have hlt:b<w.heap.size:=(Array.getElem?_eq_some_iff.1 hb).1
  show (w.heap.modify b _++os)[b]? = _
  rw [Array.getElem?_append_left (by simpa using hlt),Array.getElem?_modify,if_pos rfl,hb]
  rfl
theorem z13o {α:Type} [Inhabited α] (enc:α→List Value) (k:Nat) (hk:∀ x,(enc x).length=k) (l:List α) (C:Array Value) (hC:l.length * k≤C.size):(putCells id 0 (flatK enc k l.toArray) C).toList.take (l.length * k)=l.flatMap enc:=by
  rw [zyn enc k hk]
  apply List.ext_getElem?
  intro t
  by_cases ht:t<l.length * k
  · rw [List.getElem?_take_of_lt ht,Array.getElem?_toList]
    have hl:t<(l.flatMap enc).length:=by rw [zt9 enc k hk]; exact ht
    simp only [putCells,Array.getElem?_mapIdx,Nat.sub_zero,Nat.zero_add,List.size_toArray,Nat.zero_le,true_and]
    rw [Array.getElem?_eq_getElem (by omega),Option.map_some,if_pos hl,List.getElem?_eq_getElem hl]
    have:((l.flatMap enc).toArray)[t]! = (l.flatMap enc)[t]:=by rw [getElem!_pos _ t (by simpa using hl)]; simp
    rw [this]; rfl
  · rw [List.getElem?_eq_none (by simp; omega),List.getElem?_eq_none (by rw [zt9 enc k hk]; omega)]
theorem zre {S:Blk} {w:World}:∀ {l:List V3} {cs:List Value},z6k (z3m 32 u8R) S w cs l→cs=l.flatMap zby
  | [],cs,h=>h
  | x::l,cs,h=>by
    obtain ⟨c,d,rfl,h1,h2⟩:=h
    rw [List.flatMap_cons,zre h2,zpw h1]; rfl
theorem zrt {S:Blk} {w:World}:∀ (l:List V3),z6k (z3m 32 u8R) S w (l.flatMap zby) l
  | []=>rfl
  | x::l=>⟨zby x,l.flatMap zby,List.flatMap_cons,znc x.toList,zrt l⟩
theorem z13c {P : Program} {f g T : Nat} (srt : List V3 → List V3) (hlen : ∀ l, (srt l).length = l.length)
    (hnone:∀ (cap:Nat) (w:World),Calls P f #[.slice none 0 cap,.func (.func g) #[] #[]] w fun e w'=>e=.returned (.tuple #[])∧w'=w)
    (hsome:∀ (blk cap:Nat) (d:Array V3) (w:World),HoldsK zby 32 w blk 0 d→blk<w.heap.size→d.size<4611686018427387904 →
      Calls P f #[.slice (some ⟨blk,0,none⟩) d.size cap,.func (.func g) #[] #[]] w fun e w'=>e=.returned (.tuple #[])∧∃ n os,w'=sortWorldK zby 32 w blk 0 n (srt d.toList).toArray os)
    (p0:Value) (c0:List V3):z1t P f [.val p0,.val (.func (.func g) #[] #[])] [(1,some (p0,.list (z3m 32 u8R) T c0))] (chk (c0.length≤1000000) >>= fun _=>some (srt c0))
      (fun r nv=>⟨[],[(1,some (p0,.list (z3m 32 u8R) T r))]⟩):=by
  intro r hr H vs w hvs hres
  have hb:c0.length≤1000000∧r=srt c0:=by
    unfold chk at hr
    split at hr
    · rename_i h; simp at hr; exact ⟨h,hr.symm⟩
    · simp at hr
  obtain ⟨hlen0,rfl⟩:=hb
  match vs,hvs with
  | [v0,v1],hvs =>
  obtain ⟨h0,h1,_⟩:=hvs
  have e0:v0=p0:=h0.1
  have e1:v1=.func (.func g) #[] #[]:=h1.1
  subst e0; subst e1
  have hc:=hres.conts 1 v0 _ rfl
  have only:∀ r v c (q:z4b),lr [(1,some (v0,q))] r=some (v,c)→r=1∧v=v0∧c=q:=fun r v c q h=>by
    rw [z16] at h
    split at h
    · rename_i e; cases h; exact ⟨e.symm,rfl,rfl⟩
    · simp [lr,lk] at h
  rcases hc with ⟨rfl,rfl⟩ | ⟨b,o,k1,k2,b',cap,C,k3,rfl,k4,k5,k6,k7⟩
  · refine (hnone 0 w).mono fun e w' ⟨he,hw⟩=>?_
    subst hw
    refine ⟨fun _=>undef,[],he,trivial, fun r v c h=>?_, fun r v c r' v' c' h h' hne=>?_, fun r v c h b hb=>?_,zm6.rfl'⟩
    · obtain ⟨rfl,rfl,rfl⟩:=only _ _ _ _ h
      have:srt []=[]:=List.eq_nil_of_length_eq_zero (by rw [hlen]; rfl)
      exact .inl ⟨rfl,this⟩
    · exact absurd ((only _ _ _ _ h).1.trans (only _ _ _ _ h').1.symm) hne
    · obtain ⟨rfl,rfl,rfl⟩:=only _ _ _ _ h; cases hb
  · subst k3
    simp only [z5b,Option.some.injEq] at k1
    subst k1
    have hlt:b'<w.heap.size:=(Array.getElem?_eq_some_iff.1 k2).1
    have hrow:=zre k7
    have hsz:(z3m 32 u8R).sz=32:=rfl
    rw [hsz] at k6 hrow
    have hC:c0.length * 32≤C.size:=by rw [k6]; exact Nat.mul_le_mul_right _ k4
    refine (hsome b' cap c0.toArray w (zsb zby 32 zgt c0 k2 hrow) hlt (by simp; omega)).mono fun e w' ⟨he,n,os,hw⟩=>?_
    subst hw
    refine ⟨fun _=>undef,[],he,trivial, fun r v c h=>?_, fun r v c r' v' c' h h' hne=>?_, fun r v c h b hb=>?_,rfl,rfl,rfl,?_, fun i hi=>?_⟩
    · obtain ⟨rfl,rfl,rfl⟩:=only _ _ _ _ h
      refine .inr ⟨b',_,rfl,z162 zby 32 w n _ os k2,b',cap,_, by rw [hlen],rfl, by rw [hlen]; exact k4,k5,?_,?_⟩
      · rw [hsz,← k6]; simp [putCells]
      · rw [hsz,z13o zby 32 zgt (srt c0) C (by rw [hlen]; exact hC)]
        exact zrt _
    · exact absurd ((only _ _ _ _ h).1.trans (only _ _ _ _ h').1.symm) hne
    · obtain ⟨rfl,rfl,rfl⟩:=only _ _ _ _ h
      exact .inr ⟨1,_,_,rfl,hb⟩
    · show w.heap.size≤(w.heap.modify b' _++os).size
      simp
    · exact zwl zby 32 w b' n _ os hi.1 fun e=>hi.2 ⟨1,_,_,rfl, by rw [e]; rfl⟩
end
section
open Go
section
variable {σ β α ρ τ:Type}
theorem bs (x:α) (f:α→Option β):(some x >>= f)=f x:=rfl
theorem bS (x:α) (f:α→Option β):(some x >>= f)=f x:=Eq.trans (rfl:(some x >>= f)=f x) rfl
theorem or_l (r:ρ) (k:τ→Option ρ):z4y (some (.inl r)) k=some r:=rfl
theorem zo6 (t:τ) (k:τ→Option ρ):z4y (some (.inr t)) k=k t:=rfl
theorem z1a {F:σ→Option (Sum β σ)} {s:σ} {b:β} (h:F s=some (.inl b)):iter F s=some b:=by rw [iter,h]; rfl
theorem z1n {F:σ→Option (Sum β σ)} {s s':σ} (h:F s=some (.inr s')):iter F s=iter F s':=by rw [iter,h]; rfl
theorem zam {F:σ→Option (Sum β σ)} (I:σ→Prop) (μ:σ→Nat) (Q:β→Prop) (h:∀ s,I s→(∃ b,F s=some (.inl b)∧Q b)∨∃ s',F s=some (.inr s')∧I s'∧μ s'<μ s) (s:σ) (hs:I s):∃ b,iter F s=some b∧Q b:=by
 have key:∀ n s,μ s=n→I s→∃ b,iter F s=some b∧Q b:=by
  intro n
  induction n using Nat.strongRecOn with
  | _ n ih =>
   intro s hn hs
   rcases h s hs with ⟨b,h1,h2⟩ | ⟨s',h1,h2,h3⟩
   ·
    exact ⟨b,z1a h1,h2⟩
   ·
    rw [z1n h1]; exact ih (μ s') (hn ▸ h3) s' rfl h2
 exact key _ s rfl hs
theorem z7g {F:σ→Option (Sum β σ)} (n:Nat) (I:Nat→σ→Prop) (Q:β→Prop) (h1:∀ i s,i<n→I i s→∃ s',F s=some (.inr s')∧I (i+1) s') (h2:∀ s,I n s→∃ b,F s=some (.inl b)∧Q b) (s:σ) (i:Nat) (hi:i≤n) (hs:I i s):∃ b,iter F s=some b∧Q b:=by
 have key:∀ k i s,n - i=k→i≤n→I i s→∃ b,iter F s=some b∧Q b:=by
  intro k
  induction k with
  | zero =>
   intro i s hk hi hs
   have:i=n:=by omega
   subst this
   obtain ⟨b,h3,h4⟩:=h2 s hs
   exact ⟨b,z1a h3,h4⟩
  | succ k ih =>
   intro i s hk hi hs
   obtain ⟨s',h3,h4⟩:=h1 i s (by omega) hs
   rw [z1n h3]; exact ih (i+1) s' (by omega) (by omega) h4
 exact key _ i s rfl hi hs
theorem z2r {F:σ→Option (Sum β σ)} (n:Nat) (g:Nat→σ) {b:β} (h1:∀ i,i<n→F (g i)=some (.inr (g (i+1)))) (h2:F (g n)=some (.inl b)):iter F (g 0)=some b:=by
 obtain ⟨b',h3,rfl⟩:=z7g n (fun i s=>s=g i) (fun x=>x=b) (fun i s hi hs=>⟨_, by rw [hs]; exact h1 i hi,rfl⟩) (fun s hs=>⟨_, by rw [hs]; exact h2,rfl⟩) (g 0) 0 (Nat.zero_le _) rfl
 exact h3
theorem z0b {l:List α} {i:Nat} (h:i<l.length):idx l (i:Int)=some l[i]:=by simp [idx,h]
theorem z16z {l:List α} {i:Int} (h0:0≤i) (h:i.toNat<l.length):idx l i=some l[i.toNat]:=by simp [idx,h0,h]
theorem z8v {n:Nat} {v:Vector α n} {i:Nat} (h:i<n):z84 v (i:Int)=some v[i]:=by unfold z84; rw [z0b (by simpa using h)]; simp
theorem zh3 {n:Nat} {v:Vector α n} {i:Int} {x:α} {j:Nat} (hj:j<n):(zj9 v i x)[j]=if i.toNat=j then x else v[j]:=by
 unfold zj9; rw [Vector.getElem_setIfInBounds hj]
theorem z3r {p:Prop} [Decidable p] (h:p):chk p=some ():=by simp [chk,h]
theorem z19 {by_:Nat} {b c:List α} (h:(b.length+c.length) * by_≤140737488355328):app by_ b c=some (b++c):=by simp [app,h]
theorem zn3 {by_:Nat} {x:α} {n:Nat} (h:by_ * n≤281474976710656) (h2:n≤9223372036854775807):mkn by_ x (n:Int)=some (List.replicate n x):=by
 unfold mkn; rw [if_pos ⟨by omega, by simpa using h, by omega⟩]; simp
theorem zbn {b:List α} {i j:Nat} (h:i≤j) (hj:j≤b.length):cut b (i:Int) (j:Int)=some ((b.drop i).take (j - i)):=by
 unfold cut; rw [if_pos ⟨by omega, by omega, by omega⟩]; simp
end
theorem z13 {x:Int} (h1:-9223372036854775808≤x) (h2:x≤9223372036854775807):w64 x=x:=zgi h1 h2
theorem z0g {n:Nat} (h:n<9223372036854775807):w64 ((n:Int)+1)=((n+1:Nat):Int):=by rw [z13 (by omega) (by omega)]; omega
theorem zdn (a:UInt64) (n:Nat):(z85 a n).toNat=a.toNat / 2 ^ (min n 64):=by
 unfold z85
 have h1:=UInt64.toNat_lt a
 have h2:a.toNat / 2 ^ (min n 64)≤a.toNat:=Nat.div_le_self _ _
 simp; omega
theorem zmz (a:UInt64) (n:Nat):(zqa a n).toNat=a.toNat * 2 ^ (min n 64) % 18446744073709551616:=by
 unfold zqa; simp
theorem z1an (a:UInt64) (k:Nat) (hk:k<64):((z85 a k &&& 1)==1)=a.toNat.testBit k:=by
 rw [Bool.eq_iff_iff,beq_iff_eq,← UInt64.toNat_inj,UInt64.toNat_and,zdn,Nat.min_eq_left (by omega)]
 have:(1:UInt64).toNat=1:=rfl
 rw [this,Nat.and_one_is_mod,Nat.testBit_eq_decide_div_mod_eq]
 simp
end
section
open Go
def z7j (n:Nat):Nat:=if n=0 then 0 else n.log2+1
theorem zek (n k:Nat) (h:2 ^ k≤n):z7j n=k+z7j (n / 2 ^ k):=by
 have hp:0<2 ^ k:=Nat.pow_pos (by decide)
 have h1:n / 2 ^ k≠0:=by
  have:1≤n / 2 ^ k:=(Nat.le_div_iff_mul_le hp).2 (by rw [Nat.one_mul]; exact h)
  omega
 have h2:n≠0:=by omega
 unfold z7j
 rw [if_neg h1,if_neg h2]
 have h3:n.log2=k+(n / 2 ^ k).log2:=by
  rw [Nat.log2_eq_iff h2]
  have h4:=(Nat.log2_eq_iff h1).1 rfl
  refine ⟨?_,?_⟩
  ·
   rw [Nat.pow_add,Nat.mul_comm]; exact (Nat.le_div_iff_mul_le hp).1 h4.1
  ·
   rw [Nat.add_assoc,Nat.pow_add,Nat.mul_comm]; exact (Nat.div_lt_iff_lt_mul hp).1 h4.2
 omega
theorem zji (n k:Nat) (h:n<2 ^ k):z7j n≤k:=by
 unfold z7j; split
 ·
  omega
 ·
  rename_i h0; have:=(Nat.log2_lt h0).2 h; omega
def z112:ByteArray:=⟨#[0,1,2,2,3,3,3,3,4,4,4,4,4,4,4,4,5,5,5,5,5,5,5,5,5,5,5,5,5,5,5,5,6,6,6,6,6,6,6,6,6,6,6,6,6,6,6,6,6,6,6,6,6,6,6,6,6,6,6,6,6,6,6,6,7,7,7,7,7,7,7,7,7,7,7,7,7,7,7,7,7,7,7,7,7,7,7,7,7,7,7,7,7,7,7,7,7,7,7,7,7,7,7,7,7,7,7,7,7,7,7,7,7,7,7,7,7,7,7,7,7,7,7,7,7,7,7,7,8,8,8,8,8,8,8,8,8,8,8,8,8,8,8,8,8,8,8,8,8,8,8,8,8,8,8,8,8,8,8,8,8,8,8,8,8,8,8,8,8,8,8,8,8,8,8,8,8,8,8,8,8,8,8,8,8,8,8,8,8,8,8,8,8,8,8,8,8,8,8,8,8,8,8,8,8,8,8,8,8,8,8,8,8,8,8,8,8,8,8,8,8,8,8,8,8,8,8,8,8,8,8,8,8,8,8,8,8,8,8,8,8,8,8,8,8,8,8,8,8,8,8,8,8,8,8,8]⟩
set_option maxRecDepth 100000 in
theorem z13p:∀ x:Fin 256,z112.data[x.val]? = some (UInt8.ofNat (z7j x.val)):=by decide +kernel
def z3e (n:Nat):List UInt8:=if h:n=0 then [] else UInt8.ofNat n::z3e (n / 256)
termination_by n
theorem zdq:z3e 0=[]:=by rw [z3e]; simp
theorem zhd (n:Nat) (h:n≠0):z3e n=UInt8.ofNat n::z3e (n / 256):=by rw [z3e]; simp [h]
def z1y (n:Nat):List UInt8:=if n≤247 then [UInt8.ofNat n] else UInt8.ofNat (247+(z3e n).length)::(z3e n).reverse
theorem zoy (n:Nat):(z3e n).length=(z7j n+7) / 8:=by
 induction n using Nat.strongRecOn with
 | _ n ih =>
  by_cases h:n=0
  ·
   subst h; rw [zdq]; simp [z7j]
  ·
   rw [zhd n h,List.length_cons,ih (n / 256) (by omega)]
   by_cases h2:n<256
   ·
    have:n / 256=0:=by omega
    rw [this]
    have h3:z7j n≤8:=zji n 8 h2
    have h4:1≤z7j n:=by unfold z7j; rw [if_neg h]; omega
    simp [z7j] at h3 h4 ⊢
    rw [if_neg h] at h3 h4 ⊢; omega
   ·
    have:=zek n 8 (by omega)
    rw [show (2:Nat) ^ 8=256 from rfl] at this
    omega
theorem zxo (n:Nat):∀ (i:Nat),i<(z3e n).length→(z3e n)[i]? = some (UInt8.ofNat (n / 256 ^ i)):=by
 induction n using Nat.strongRecOn with
 | _ n ih =>
  intro i hi
  by_cases h:n=0
  ·
   subst h; rw [zdq] at hi; simp at hi
  ·
   rw [zhd n h] at hi ⊢
   cases i with
   | zero=>simp
   | succ i =>
    simp only [List.length_cons] at hi
    rw [List.getElem?_cons_succ,ih (n / 256) (by omega) i (by omega),Nat.div_div_eq_div_mul]
    congr 3
    rw [Nat.pow_succ,Nat.mul_comm]
theorem znt (n:Nat) (h:n<18446744073709551616):(z3e n).length≤8:=by
 rw [zoy]; have:=zji n 64 (by simpa using h); omega
theorem z17 (n:Nat) (h:n<18446744073709551616):1≤(z1y n).length∧(z1y n).length≤9:=by
 unfold z1y; have:=znt n h; split <;> simp <;> omega
def zcs (n i:Nat):List UInt8:=UInt8.ofNat (247+(z3e n).length)::(List.replicate ((z3e n).length - i) 0++((z3e n).take i).reverse)
theorem zum (n i:Nat) (h:i≤(z3e n).length):(zcs n i).length=(z3e n).length+1:=by simp [zcs]; omega
theorem zrr (n:Nat):(List.replicate ((z3e n).length+1) (0:UInt8)).set 0 (UInt8.ofNat (247+(z3e n).length))=zcs n 0:=by
 simp [zcs,List.replicate_succ]
theorem zs7 (n i:Nat) (h:i<(z3e n).length):(zcs n i).set ((z3e n).length - i) (UInt8.ofNat (n / 2 ^ (8 * i)))=zcs n (i+1):=by
 have hg:=zxo n i h
 have he:n / 2 ^ (8 * i)=n / 256 ^ i:=by rw [Nat.pow_mul]
 rw [he]
 unfold zcs
 obtain ⟨m,hm⟩:∃ m,(z3e n).length - i=m+1:=⟨(z3e n).length - i - 1, by omega⟩
 have hm2:(z3e n).length - (i+1)=m:=by omega
 rw [hm,hm2,List.set_cons_succ,List.take_succ_eq_append_getElem h,List.reverse_append,List.reverse_singleton,List.replicate_succ']
 rw [List.getElem?_eq_getElem h,Option.some.injEq] at hg
 rw [hg,List.append_assoc,List.set_append_right _ _ (by simp)]
 simp
theorem zrn (n:Nat) (h:247<n):zcs n (z3e n).length=z1y n:=by
 unfold zcs z1y; rw [if_neg (by omega)]; simp
theorem zso (n m:Nat) (ds:List UInt8) (hm:m≠0) (h:z3e n=ds++z3e m):z3e n=(ds++[UInt8.ofNat (m % 256)])++z3e (m / 256):=by
 rw [h,zhd m hm,List.append_assoc]
 have:UInt8.ofNat (m % 256)=UInt8.ofNat m:=by
  apply UInt8.toNat_inj.1; simp
 rw [this]; rfl
theorem zof {α} {l a b:List α} (h:l=a++b):a.length≤l.length:=by rw [h]; simp
def zig (n:Int):Nat:=if 0≤n then (2 * n).toNat else (-2 * n - 1).toNat
theorem z1ad {n:Int} (h1:-9223372036854775808≤n) (h2:n≤9223372036854775807):zig n<18446744073709551616:=by unfold zig; split <;> omega
end
section
open Go Go.RowKit
def zle (x:z03):Prop:=(fun _=>True) x.Kind∧inI x.Num∧(fun _=>True) x.Bits∧(fun s:List UInt8=>s.length≤9223372036854775807) x.Text∧True
def zp4 (x:z07):Prop:=(fun _=>True) x.Kind∧(fun s:List UInt8=>s.length≤9223372036854775807) x.Key∧zle x.Value∧True
def zp5 (x:z08):Prop:=(fun _=>True) x.E∧(fun _=>True) x.S∧True
def zdk (x:z05):Prop:=(fun _=>True) x.Author∧(fun l:List V3=>(∀ x∈l,(fun v:V3=>∀ x∈v.toList,(fun _=>True) x) x)∧l.length≤9223372036854775807) x.Preds∧(fun _=>True) x.Stamp∧zp4 x.Act∧zp5 x.Sig∧True
def z57 (x:z00):Prop:=(fun l:List V3=>(∀ x∈l,(fun v:V3=>∀ x∈v.toList,(fun _=>True) x) x)∧l.length≤9223372036854775807) x.IDs∧(fun l:List z05=>(∀ x∈l,zdk x)∧l.length≤9223372036854775807) x.Ops∧True
end
section
open Go
theorem z12l {n k:Nat} (hn:n<9223372036854775808) (hk:k<9223372036854775808):andI (n:Int) (k:Int)=((n &&& k:Nat):Int):=by
 show IntKind.i64.wrap (BitVec.toNat (BitVec.ofInt 64 (n:Int) &&& BitVec.ofInt 64 (k:Int)):Int)=_
 rw [BitVec.ofInt_natCast,BitVec.ofInt_natCast,BitVec.toNat_and,BitVec.toNat_ofNat,BitVec.toNat_ofNat,Nat.mod_eq_of_lt (by omega),Nat.mod_eq_of_lt (by omega)]
 have:=Nat.and_le_left (n:=n) (m:=k)
 exact zgi (by omega) (by omega)
def okb (c:UInt8):Bool:=decide (32≤c.toNat)&&decide (c.toNat≤126)
theorem zq7 {b:List UInt8} {q:Nat} (h:q<b.length) (ha:(b[q]).toNat<128):z9y b q=((b[q]).toNat,1):=by
 unfold z9y
 exact decode_ascii ⟨b.toArray⟩ q (by show q<b.toArray.size; simpa using h) ha
theorem zzc {b:List UInt8} {q:Nat} (h:q<b.length) (ha:128≤(b[q]).toNat):128≤(z9y b q).1:=by
 unfold z9y
 have e:((ByteArray.mk b.toArray).get! (q+0)).toNat=(b[q]).toNat:=by
  show ((ByteArray.mk b.toArray).get! q).toNat=_
  simp [ByteArray.get!,h]
 simp only [Utf8.decode,e]
 rw [if_neg (by omega)]
 repeat' split
 all_goals (first | (simp only [Utf8.runeError]; omega) | (rename_i h1; simp at h1; omega) | omega)
theorem z12b (x:Int):zea x=some (decide (x<32) || decide (126<x)):=by
 unfold zea
 cases decide (x<32) <;> rfl
theorem zvd (b:List UInt8):∀ (rest pre:List UInt8),b=pre++rest →
  (rest.all okb=true→iter (z1j b true) pre.length=some (.inr ()))∧(rest.all okb=false→∃ i:Nat,iter (z1j b true) pre.length=some (.inl (i:Int)))
 | [],pre,e=>by
  refine ⟨fun _=>z1a ?_, fun h=>by simp at h⟩
  subst e
  unfold z1j
  simp
 | c::rest,pre,e=>by
  have hlen:pre.length<b.length:=by rw [e]; simp
  have hget:b[pre.length]'hlen=c:=by subst e; simp
  have hF:z1j b true pre.length=if ((decide (((z9y b pre.length).1:Int)<32) || decide (126<((z9y b pre.length).1:Int)))==true) then some (.inl (.inl (pre.length:Int))) else some (.inr (pre.length+(z9y b pre.length).2)):=by
   unfold z1j
   rw [if_pos hlen]
   simp only [bs,z12b]
  cases hc:okb c with
  | false =>
   refine ⟨fun h=>by simp [hc] at h, fun _=>⟨pre.length,z1a ?_⟩⟩
   rw [hF,if_pos]
   by_cases h8:c.toNat<128
   ·
    rw [zq7 hlen (by rw [hget]; exact h8),hget]
    simp only [okb,Bool.and_eq_false_iff,decide_eq_false_iff_not] at hc
    simp; omega
   ·
    have:=zzc hlen (by rw [hget]; omega)
    simp; omega
  | true =>
   simp only [okb,Bool.and_eq_true,decide_eq_true_eq] at hc
   rw [zq7 hlen (by rw [hget]; omega),hget,if_neg (by simp; omega)] at hF
   have ih:=zvd b rest (pre++[c]) (by simp [e])
   simp only [List.length_append,List.length_cons,List.length_nil,Nat.zero_add] at ih
   rw [z1n hF]
   have hc':okb c=true:=by simp [okb,hc]
   simpa [hc'] using ih
theorem zlo (b:List UInt8) (hb:b.length≤9223372036854775807):∀ (rest pre:List UInt8),b=pre++rest→iter (z4d b) (pre.length:Int)=some (if rest.all okb then .inr () else .inl false)
 | [],pre,e=>by
  refine z1a ?_
  subst e
  unfold z4d
  simp
 | c::rest,pre,e=>by
  have hlen:pre.length<b.length:=by rw [e]; simp
  have hget:b[pre.length]'hlen=c:=by subst e; simp
  have hF:z4d b (pre.length:Int)=if okb c then some (.inr ((pre.length+1:Nat):Int)) else some (.inl (.inl false)):=by
   unfold z4d
   rw [if_pos (by simp <;> omega)]
   simp only [z0b hlen,hget,bs,z0g (show pre.length<9223372036854775807 by omega)]
   simp only [okb,UInt8.lt_iff_toNat_lt,UInt8.reduceToNat]
   by_cases h1:c.toNat<32
   ·
    have:¬ 32≤c.toNat:=by omega
    simp [h1,this]
   ·
    by_cases h2:126<c.toNat
    ·
     have:¬ c.toNat≤126:=by omega
     simp [h1,h2,this]
    ·
     have h3:32≤c.toNat:=by omega
     have h4:c.toNat≤126:=by omega
     simp [h1,h2,h3,h4]
  cases hc:okb c with
  | false=>rw [hc] at hF; rw [z1a hF]; simp [hc]
  | true =>
   rw [hc] at hF
   rw [z1n hF]
   have ih:=zlo b hb rest (pre++[c]) (by simp [e])
   simp only [List.length_append,List.length_cons,List.length_nil,Nat.zero_add] at ih
   rw [ih]; simp [hc]
theorem zsi (b:List UInt8) (hb:b.length≤9223372036854775807):z7n b=some (b.all okb):=by
 have h:=zlo b hb b [] rfl
 unfold z7n
 rw [show (0:Int)=(([]:List UInt8).length:Int) from rfl,h]
 cases b.all okb <;> rfl
theorem z12p (b:List UInt8) (hb:b.length≤9223372036854775807):zh6 b=some (if decide (30<(b.length:Int)) then (⟨0,0,0,[]⟩,4) else if b.all okb then (⟨3,0,0,b⟩,0) else (⟨0,0,0,[]⟩,8)):=by
 unfold zh6 z56 z4u
 cases decide (30<(b.length:Int))
 ·
  simp only [Bool.false_eq_true,if_false]
  obtain ⟨h1,h2⟩:=zvd b b [] rfl
  simp only [List.length_nil] at h1 h2
  cases h:b.all okb
  ·
   obtain ⟨i,hi⟩:=h2 h
   rw [hi]
   simp only [or_l,bs]
   rw [if_pos (by simp)]; rfl
  ·
   rw [h1 h]; rfl
 ·
  rfl
theorem z14c (a:UInt64):zfd a=some (((a.toNat / 4503599627370496 % 2048:Nat):Int),a % 4503599627370496):=by
 unfold zfd
 simp only [bs]
 have h0:=UInt64.toNat_lt a
 rw [zdn]
 have e1:(2:Nat) ^ (min 52 64)=4503599627370496:=by decide
 rw [e1,z13 (by omega) (by omega), show (2047:Int)=((2047:Nat):Int) from rfl,z12l (by omega) (by omega)]
 congr 2
 ·
  congr 1
  exact Nat.and_two_pow_sub_one_eq_mod _ 11
 ·
  apply UInt64.toNat_inj.1
  rw [UInt64.toNat_and,UInt64.toNat_mod]
  exact Nat.and_two_pow_sub_one_eq_mod _ 52
theorem z19f (a:UInt64):z8e a=some ((a.toNat / 4503599627370496 % 2048:Nat):Int):=by
 unfold z8e
 have h0:=UInt64.toNat_lt a
 simp only [bs,UInt64.toNat_div,UInt64.toNat_mod,UInt64.reduceToNat]
 rw [z13 (by omega) (by omega)]
 congr 2
 omega
def ztx (a:UInt64):Nat:=a.toNat / 4503599627370496 % 2048
def mant (a:UInt64):Nat:=a.toNat % 4503599627370496
theorem z17v (a:UInt64):ztx a<2048:=Nat.mod_lt _ (by omega)
def clsF (a:UInt64):UInt8:=if ztx a=2047 then (if mant a=0 then 4 else 5) else if ztx a=0 then (if mant a=0 then 1 else 2) else 3
theorem z155 (a:UInt64):(a % 4503599627370496==0)=decide (mant a=0):=by
 rw [Bool.eq_iff_iff]
 simp only [beq_iff_eq,decide_eq_true_eq,← UInt64.toNat_inj,UInt64.toNat_mod]
 rfl
theorem z11h (a:UInt64):zfh a=some (clsF a):=by
 unfold zfh clsF
 rw [z14c]
 simp only [bs]
 have hm:=z155 a
 have hne:(a % 4503599627370496 != 0)=!decide (mant a=0):=by rw [← hm]; rfl
 have he:((a.toNat / 4503599627370496 % 2048:Nat):Int)=(ztx a:Int):=rfl
 rw [hne,he]
 by_cases h1:ztx a=2047
 ·
  rw [h1]
  by_cases h2:mant a=0
  ·
   rw [decide_eq_true h2,if_pos h2]; rfl
  ·
   rw [decide_eq_false h2,if_neg h2]; rfl
 ·
  have e1:((ztx a:Int)==2047)=false:=by simp; omega
  rw [if_neg h1,e1]
  simp only [Bool.false_eq_true,if_false,bs]
  by_cases h0:ztx a=0
  ·
   rw [h0]
   by_cases h2:mant a=0
   ·
    rw [decide_eq_true h2,if_pos h2]; rfl
   ·
    rw [decide_eq_false h2,if_neg h2]; rfl
  ·
   have e0:((ztx a:Int) != 0)=true:=by simp; omega
   rw [e0,if_neg h0]; rfl
theorem z11a (a:UInt64):zai a=some (clsF a):=by
 unfold zai zb0 clsF
 rw [z19f]
 simp only [bs]
 rw [z155 a]
 have hx:=z17v a
 show z4y (if ((ztx a:Int)==0)=true then if decide (mant a=0)=true then some (.inl 1) else some (.inr ()) else some (.inr ())) (fun s5=>if ((ztx a:Int)==0)=true then some 2 else if decide ((ztx a:Int)<2047)=true then some 3 else if decide (mant a=0)=true then some 4 else some 5)=_
 by_cases h1:ztx a=2047
 ·
  rw [h1]
  by_cases h2:mant a=0 <;> simp [h2,zo6,or_l]
 ·
  by_cases h0:ztx a=0
  ·
   rw [h0]
   by_cases h2:mant a=0 <;> simp [h2,zo6,or_l]
  ·
   have e0:((ztx a:Int)==0)=false:=by simp; omega
   have e2:decide ((ztx a:Int)<2047)=true:=by simp; omega
   rw [e0,e2,if_neg h1,if_neg h0]; rfl
def zju (a:UInt64):UInt64:=if clsF a=5 then 9221120237041090560 else a
theorem zzm (a:UInt64):zff a=some (zju a):=by
 unfold zff zju
 rw [z11h]
 simp only [bs]
 by_cases h:clsF a=5 <;> simp [h]
theorem z11f (a:UInt64):zak a=some (zju a):=by
 unfold zak zju
 rw [z11a]
 simp only [bs]
 by_cases h:clsF a=5 <;> simp [h]
theorem z11p (a:UInt64):zfj a=some ⟨2,0,zju a,[]⟩:=by
 unfold zfj; rw [zzm]; rfl
def okV (v:z03):Bool :=
 if v.Kind=1 then decide (v.Bits=0)&&decide (v.Text=[])
 else if v.Kind=2 then decide (v.Num=0)&&decide (v.Text=[])&&decide (zju v.Bits=v.Bits)
 else if v.Kind=3 then decide (v.Num=0)&&decide (v.Bits=0)&&decide (v.Text.length≤30)&&v.Text.all okb
 else false
theorem z127 (v:z03) (hb:v.Text.length≤9223372036854775807):zaq v=some (if okV v then 0 else 8):=by
 obtain ⟨K,n,f,t⟩:=v
 unfold zaq okV
 simp only at hb ⊢
 rw [z11f,zsi t hb]
 by_cases h1:K=1
 ·
  subst h1
  by_cases hf:f=0 <;> by_cases ht:t=[] <;> simp [hf,ht]
 by_cases h2:K=2
 ·
  subst h2
  by_cases hn:n=0 <;> by_cases ht:t=[] <;> by_cases hc:zju f=f <;> simp [hn,ht,hc,bs]
 by_cases h3:K=3
 ·
  subst h3
  by_cases hl:t.length≤30
  ·
   have hl':(t.length:Int)≤30:=by omega
   by_cases hn:n=0 <;> by_cases hf:f=0 <;> cases t.all okb <;> simp [hn,hf,hl,hl',bs]
  ·
   have hl':¬ (t.length:Int)≤30:=by omega
   by_cases hn:n=0 <;> by_cases hf:f=0 <;> simp [hn,hf,hl,hl',bs]
 ·
  simp [h1,h2,h3]
theorem zt8 (v:z03) (hb:v.Text.length≤9223372036854775807):zds v=some (if okV v then 0 else 8):=by
 obtain ⟨K,n,f,t⟩:=v
 unfold zds zgp okV
 simp only at hb ⊢
 rw [z11p,z12p t hb]
 by_cases h1:K=1
 ·
  subst h1
  by_cases hf:f=0 <;> by_cases ht:t=[] <;> simp [hf,ht,bs]
 by_cases h2:K=2
 ·
  subst h2
  by_cases hc:zju f=f
  ·
   by_cases hn:n=0 <;> by_cases ht:t=[] <;> simp [hn,ht,hc,bs]
  ·
   have hc':¬ f=zju f:=fun e=>hc e.symm
   by_cases hn:n=0 <;> by_cases ht:t=[] <;> simp [hn,ht,hc,hc',bs]
 by_cases h3:K=3
 ·
  subst h3
  by_cases hl:30<(t.length:Int)
  ·
   have h4:¬ t.length≤30:=by omega
   rw [decide_eq_true hl,decide_eq_false h4]
   simp [bs]
  ·
   have h4:t.length≤30:=by omega
   rw [decide_eq_false hl,decide_eq_true h4]
   cases t.all okb <;> by_cases hn:n=0 <;> by_cases hf:f=0 <;> simp [hn,hf,bs]
 ·
  have e1:(K==1)=false:=by simpa using h1
  have e2:(K==2)=false:=by simpa using h2
  have e3:(K==3)=false:=by simpa using h3
  simp only [e1,e2,e3,Bool.false_eq_true,if_false,bs,h1,h2,h3]
  by_cases h0:K=0
  ·
   subst h0
   split <;> rfl
  ·
   simp [h0]
end
section
open Go
theorem zzu:∀ (n:Nat) (a:UInt64) (ds:List UInt8) (N:Nat),a.toNat=n→z3e N=ds++z3e n→(z3e N).length≤8→iter z5e (a,ds)=some (z3e N):=by
 intro n
 induction n using Nat.strongRecOn with
 | _ n ih =>
  intro a ds N ha hd hl
  by_cases h0:n=0
  ·
   subst h0
   refine z1a ?_
   unfold z5e
   rw [if_neg (by simp [UInt64.lt_iff_toNat_lt,ha])]
   rw [zdq,List.append_nil] at hd
   rw [hd]
  ·
   have hF:z5e (a,ds)=some (.inr (a / 256,ds++[(a % 256).toUInt8])):=by
    unfold z5e
    rw [if_pos (by simp [UInt64.lt_iff_toNat_lt,ha]; omega)]
    have:ds.length≤8:=Nat.le_trans (zof hd) hl
    simp only [z19 (show (ds.length+[(a % 256).toUInt8].length) * 1≤140737488355328 by simp; omega),bs]
   rw [z1n hF]
   have hd2:=zso N n ds h0 hd
   refine ih (n / 256) (Nat.div_lt_self (by omega) (by omega)) _ _ N ?_ ?_ hl
   ·
    simp [ha]
   ·
    rw [hd2]
    congr 2
    congr 1
    apply UInt8.toNat_inj.1
    simp [ha]
theorem zrg (s:List UInt8) (hl:s.length≤8):∀ (i:Nat) (acc:List UInt8),i≤s.length→acc.length+i≤100→iter (z5i s) (acc,(i:Int) - 1)=some (acc++(s.take i).reverse)
 | 0,acc,_,_=>by
  refine z1a ?_
  unfold z5i
  rw [if_neg (by simp)]; simp
 | i+1,acc,hi,ha=>by
  have hlt:i<s.length:=by omega
  have e:((i+1:Nat):Int) - 1=(i:Int):=by omega
  have hF:z5i s (acc,((i+1:Nat):Int) - 1)=some (.inr (acc++[s[i]],(i:Int) - 1)):=by
   unfold z5i
   rw [e,if_pos (by simp)]
   simp only [z0b hlt,bs]
   rw [z19 (by simp; omega)]
   simp only [bs,z13 (show -9223372036854775808≤(i:Int) - 1 by omega) (by omega)]
  rw [z1n hF,zrg s hl i _ (by omega) (by simp; omega)]
  have:List.take (i+1) s=List.take i s++[s[i]]:=by rw [List.take_add_one,List.getElem?_eq_getElem hlt]; rfl
  rw [this]; simp only [List.reverse_append,List.reverse_cons,List.reverse_nil,List.nil_append,List.append_assoc]
theorem z86 (a:UInt64):z2n a=some (z1y a.toNat):=by
 unfold z2n z1y
 have h0:=UInt64.toNat_lt a
 by_cases h:a.toNat≤247
 ·
  have h':decide (a≤247)=true:=by simpa [UInt64.le_iff_toNat_le] using h
  rw [if_pos h',if_pos h]
  congr 2
 ·
  have h':¬ decide (a≤247)=true:=by simpa [UInt64.le_iff_toNat_le] using h
  rw [if_neg h',if_neg h]
  have hd:=znt a.toNat h0
  rw [zzu a.toNat a [] a.toNat rfl rfl hd]
  simp only [bs]
  rw [z13 (show -9223372036854775808≤((z3e a.toNat).length:Int) - 1 by omega) (by omega),z13 (show -9223372036854775808≤247+((z3e a.toNat).length:Int) by omega) (by omega)]
  rw [zrg _ hd _ _ (Nat.le_refl _) (by simp; omega)]
  simp only [bs,List.take_length]
  rw [show (247+((z3e a.toNat).length:Int))=((247+(z3e a.toNat).length:Nat):Int) by omega]
  congr 1
  show _::_=_
  congr 1
  apply UInt8.toNat_inj.1
  simp [UInt8.ofInt]
  omega
theorem zws (a:UInt64) (k:Nat) (hk:k=(z3e a.toNat).length) (hk8:k≤8):iter (zce a (k:Int)) (zcs a.toNat 0,0)=some (zcs a.toNat k):=by
 refine z2r k (fun i=>(zcs a.toNat i,(i:Int))) (fun i hi=>?_) ?_
 ·
  have hf:=zum a.toNat i (by omega)
  unfold zce
  rw [if_pos (by simp; omega)]
  simp only [z13 (show -9223372036854775808≤8 * (i:Int) by omega) (by omega),z3r (show (0:Int)≤8 * (i:Int) by omega),bs,z13 (show -9223372036854775808≤(k:Int) - (i:Int) by omega) (by omega),z0g (show i<9223372036854775807 by omega)]
  rw [z16z (by omega) (by omega)]
  simp only [bs]
  have:=zs7 a.toNat i (by omega)
  rw [← this]
  have e1:((k:Int) - (i:Int)).toNat=(z3e a.toNat).length - i:=by omega
  have e2:(z85 a (8 * (i:Int)).toNat).toUInt8=UInt8.ofNat (a.toNat / 2 ^ (8 * i)):=by
   apply UInt8.toNat_inj.1
   have e3:(8 * (i:Int)).toNat=8 * i:=by omega
   rw [e3]
   simp only [UInt64.toNat_toUInt8,zdn,Nat.min_eq_left (show 8 * i≤64 by omega)]
   simp
  rw [e1,e2]
 ·
  unfold zce
  rw [if_neg (by simp)]
theorem zhl (a:UInt64) (k:Nat) (hk:k<64):(z85 a k).toNat=a.toNat / 2 ^ k:=by rw [zdn,Nat.min_eq_left (by omega)]
set_option maxRecDepth 100000 in
theorem z13t (a:UInt64):zbu a=some (z7j a.toNat:Int):=by
 unfold zbu
 have h0:=UInt64.toNat_lt a
 have s1:∃ (y:UInt64) (n:Nat),(if decide (4294967296≤a) then some (z85 a 32,(32:Int)) else some (a,0))=some (y,(n:Int))∧y.toNat<2 ^ 32∧n≤32∧z7j a.toNat=n+z7j y.toNat:=by
  by_cases h:4294967296≤a.toNat
  ·
   refine ⟨z85 a 32,32, by rw [if_pos (by simpa [UInt64.le_iff_toNat_le] using h)]; rfl,?_, by omega,?_⟩
   ·
    rw [zhl a 32 (by omega)]; omega
   ·
    rw [zhl a 32 (by omega)]; exact zek _ 32 (by omega)
  ·
   exact ⟨a,0, by rw [if_neg (by simpa [UInt64.le_iff_toNat_le] using h)]; rfl, by omega, by omega, by omega⟩
 obtain ⟨y,n,e1,hy,hn,hb⟩:=s1
 rw [e1]; simp only [bs]
 have s2:∃ (z:UInt64) (k:Nat),(if decide (65536≤y) then some (z85 y 16) >>= fun y5=>some (w64 ((n:Int)+16)) >>= fun y6=>some (y5,y6) else some (y,(n:Int)))=some (z,(k:Int))∧z.toNat<2 ^ 16∧k≤48∧z7j a.toNat=k+z7j z.toNat:=by
  by_cases h:65536≤y.toNat
  ·
   refine ⟨z85 y 16,n+16, by rw [if_pos (by simpa [UInt64.le_iff_toNat_le] using h)]; simp only [bs,z13 (show -9223372036854775808≤(n:Int)+16 by omega) (by omega)]; rfl,?_, by omega,?_⟩
   ·
    rw [zhl y 16 (by omega)]; omega
   ·
    rw [zhl y 16 (by omega),hb,zek y.toNat 16 (by omega)]; omega
  ·
   exact ⟨y,n, by rw [if_neg (by simpa [UInt64.le_iff_toNat_le] using h)], by omega, by omega,hb⟩
 obtain ⟨z,k,e2,hz,hk,hb2⟩:=s2
 simp only [bs] at e2
 rw [e2]; simp only [bs]
 have s3:∃ (x:UInt64) (j:Nat),(if decide (256≤z) then some (w64 ((k:Int)+8)) >>= fun y9=>some (z85 z 8,y9) else some (z,(k:Int)))=some (x,(j:Int))∧x.toNat<256∧j≤56∧z7j a.toNat=j+z7j x.toNat:=by
  by_cases h:256≤z.toNat
  ·
   refine ⟨z85 z 8,k+8, by rw [if_pos (by simpa [UInt64.le_iff_toNat_le] using h)]; simp only [bs,z13 (show -9223372036854775808≤(k:Int)+8 by omega) (by omega)]; rfl,?_, by omega,?_⟩
   ·
    rw [zhl z 8 (by omega)]; omega
   ·
    rw [zhl z 8 (by omega),hb2,zek z.toNat 8 (by omega)]; omega
  ·
   exact ⟨z,k, by rw [if_neg (by simpa [UInt64.le_iff_toNat_le] using h)], by omega, by omega,hb2⟩
 obtain ⟨x,j,e3,hx,hj,hb3⟩:=s3
 simp only [bs] at e3
 rw [e3]; simp only [bs]
 have ht:=z13p ⟨x.toNat,hx⟩
 have hx8:(x.toUInt8.toNat:Int)=((x.toNat:Nat):Int):=by simp; omega
 have hle:z7j x.toNat≤8:=zji _ 8 (by omega)
 rw [hx8]
 have hlist:∀ (l:List UInt8),l=z112.data.toList→idx l ((x.toNat:Nat):Int)=some (UInt8.ofNat (z7j x.toNat)):=fun l hl=>by
  subst hl
  unfold idx
  rw [if_pos (by omega)]
  simpa using ht
 refine Eq.trans (congrArg (fun o:Option UInt8=>o >>= fun x10=>some (w64 ((j:Int)+(x10.toNat:Int)))) (hlist _ ?hh)) ?_
 case hh=>rfl
 simp only [bs]
 have e4:((UInt8.ofNat (z7j x.toNat)).toNat:Int)=(z7j x.toNat:Int):=by simp; omega
 rw [e4,z13 (by omega) (by omega),hb3]
 simp
theorem z8h (a:UInt64):z7h a=some (z1y a.toNat):=by
 unfold z7h
 have h0:=UInt64.toNat_lt a
 by_cases h:a.toNat≤247
 ·
  have h':decide (a≤247)=true:=by simpa [UInt64.le_iff_toNat_le] using h
  unfold z1y
  rw [if_pos h',if_pos h]
  congr 2
 ·
  have h':¬ decide (a≤247)=true:=by simpa [UInt64.le_iff_toNat_le] using h
  rw [if_neg h',z13t]
  have hd:=znt a.toNat h0
  have hl:=zoy a.toNat
  have hb:z7j a.toNat≤64:=zji _ 64 h0
  simp only [bs]
  rw [z13 (show -9223372036854775808≤(z7j a.toNat:Int)+7 by omega) (by omega)]
  have e1:Int.tdiv ((z7j a.toNat:Int)+7) 8=((z3e a.toNat).length:Int):=by
   rw [hl, show ((z7j a.toNat:Int)+7)=((z7j a.toNat+7:Nat):Int) by omega]
   rfl
  rw [e1,z13 (show -9223372036854775808≤((z3e a.toNat).length:Int) by omega) (by omega),z0g (by omega),zn3 (by omega) (by omega)]
  simp only [bs]
  rw [show (0:Int)=((0:Nat):Int) from rfl,z0b (by simp)]
  simp only [bs,Int.toNat_natCast]
  rw [z13 (show -9223372036854775808≤247+((z3e a.toNat).length:Int) by omega) (by omega)]
  have e2:UInt8.ofInt (247+((z3e a.toNat).length:Int))=UInt8.ofNat (247+(z3e a.toNat).length):=by
   apply UInt8.toNat_inj.1
   rw [show (247+((z3e a.toNat).length:Int))=((247+(z3e a.toNat).length:Nat):Int) by omega]
   simp [UInt8.ofInt]
   omega
  have:=zrr a.toNat
  rw [e2,this]
  have:=zws a (z3e a.toNat).length rfl hd
  rw [show (0:Int)=((0:Nat):Int) from rfl] at this
  rw [this]
  simp only [bs]
  rw [zrn a.toNat (by omega)]
end
section
open Go
theorem okV3 {v:z03} (h:okV v=true) (k:v.Kind=3):v.Num=0∧v.Bits=0∧v.Text.length≤30∧v.Text.all okb=true:=by
 unfold okV at h; rw [if_neg (by rw [k]; decide),if_neg (by rw [k]; decide),if_pos k] at h
 simp only [Bool.and_eq_true,decide_eq_true_eq] at h
 exact ⟨h.1.1.1,h.1.1.2,h.1.2,h.2⟩
theorem zq5 {v:z03} (h:okV v=true):v.Kind=1∨v.Kind=2∨v.Kind=3:=by
 by_cases h1:v.Kind=1
 ·
  exact .inl h1
 by_cases h2:v.Kind=2
 ·
  exact .inr (.inl h2)
 by_cases h3:v.Kind=3
 ·
  exact .inr (.inr h3)
 ·
  unfold okV at h; simp [h1,h2,h3] at h
theorem z14a (x:UInt64):(x ^^^ 18446744073709551615).toNat=18446744073709551615 - x.toNat:=by
 have e:x ^^^ 18446744073709551615 = ~~~x:=by
  apply UInt64.eq_of_toBitVec_eq
  rw [UInt64.toBitVec_xor,UInt64.toBitVec_not]
  exact BitVec.xor_allOnes
 rw [e,UInt64.toNat_not]; rfl
theorem zdu (n:Int):(UInt64.ofInt n).toNat=(n % 18446744073709551616).toNat:=by
 simp [UInt64.ofInt]; omega
theorem z1b5 (n:Int) (h:inI n):((zqa (UInt64.ofInt n) 1) ^^^ (UInt64.ofInt (shrI n 63))).toNat=zig n:=by
 obtain ⟨h1,h2⟩:=h
 have es:(zqa (UInt64.ofInt n) 1).toNat=(n % 18446744073709551616).toNat * 2 % 18446744073709551616:=by
  rw [zmz,zdu]; rfl
 by_cases h0:0≤n
 ·
  have e:shrI n 63=0:=by
   unfold shrI
   rw [show (2:Int) ^ (min 63 64)=9223372036854775808 from rfl,Int.fdiv_eq_ediv_of_nonneg _ (by omega)]; omega
  rw [e, show UInt64.ofInt 0=0 from rfl,UInt64.xor_zero,es]
  unfold zig; rw [if_pos h0]; omega
 ·
  have e:shrI n 63 = -1:=by
   unfold shrI
   rw [show (2:Int) ^ (min 63 64)=9223372036854775808 from rfl,Int.fdiv_eq_ediv_of_nonneg _ (by omega)]; omega
  rw [e, show UInt64.ofInt (-1)=18446744073709551615 from rfl,z14a,es]
  unfold zig; rw [if_neg h0]; omega
theorem z11x (n:Int) (h:inI n):zfi n=some (z1y (zig n)):=by
 unfold zfi
 rw [z8h,z1b5 n h]; rfl
theorem zru (s:List UInt8) (h:s.length≤10000):zdf s=some (z1y s.length++s,0):=by
 unfold zdf
 rw [if_neg (by simp; omega),z8h]
 have e:(UInt64.ofInt (s.length:Int)).toNat=s.length:=by rw [zdu]; omega
 have:=z17 s.length (by omega)
 simp only [bs,e]
 rw [z19 (by omega)]; rfl
def be8 (b:UInt64):List UInt8:=[(z85 b 56).toUInt8,(z85 b 48).toUInt8,(z85 b 40).toUInt8,(z85 b 32).toUInt8,(z85 b 24).toUInt8,(z85 b 16).toUInt8,(z85 b 8).toUInt8,(z85 b 0).toUInt8]
theorem zz6 (v:z03) (l:List UInt8) (k:Nat) (hl:l.length≤100) (hk:k≤56):z9a v (l,(k:Int))=some (.inr (l++[(z85 v.Bits k).toUInt8],(k:Int) - 8)):=by
 unfold z9a
 rw [if_pos (by simp)]
 simp only
 rw [z3r (by omega)]
 simp only [bs,Int.toNat_natCast]
 rw [z19 (by simp; omega)]
 simp only [bs]
 rw [z13 (by omega) (by omega)]
theorem z13a (v:z03):iter (z9a v) ([v.Kind],56)=some (v.Kind::be8 v.Bits):=by
 have hs:=fun l k h1 h2=>zz6 v l k h1 h2
 rw [show (56:Int)=((56:Nat):Int) from rfl,z1n (hs [v.Kind] 56 (by simp) (by omega))]
 simp only [List.cons_append,List.nil_append, show ((56:Nat):Int) - 8=((48:Nat):Int) from rfl]
 rw [z1n (hs _ 48 (by simp) (by omega))]
 simp only [List.cons_append,List.nil_append, show ((48:Nat):Int) - 8=((40:Nat):Int) from rfl]
 rw [z1n (hs _ 40 (by simp) (by omega))]
 simp only [List.cons_append,List.nil_append, show ((40:Nat):Int) - 8=((32:Nat):Int) from rfl]
 rw [z1n (hs _ 32 (by simp) (by omega))]
 simp only [List.cons_append,List.nil_append, show ((32:Nat):Int) - 8=((24:Nat):Int) from rfl]
 rw [z1n (hs _ 24 (by simp) (by omega))]
 simp only [List.cons_append,List.nil_append, show ((24:Nat):Int) - 8=((16:Nat):Int) from rfl]
 rw [z1n (hs _ 16 (by simp) (by omega))]
 simp only [List.cons_append,List.nil_append, show ((16:Nat):Int) - 8=((8:Nat):Int) from rfl]
 rw [z1n (hs _ 8 (by simp) (by omega))]
 simp only [List.cons_append,List.nil_append, show ((8:Nat):Int) - 8=((0:Nat):Int) from rfl]
 rw [z1n (hs _ 0 (by simp) (by omega))]
 simp only [List.cons_append,List.nil_append]
 refine z1a ?_
 unfold z9a
 rw [if_neg (by simp)]; rfl
def encV (v:z03):List UInt8:=v.Kind::(if v.Kind=1 then z1y (zig v.Num) else if v.Kind=2 then be8 v.Bits else z1y v.Text.length++v.Text)
theorem zvl {n:Int} (h:inI n):zig n<18446744073709551616:=z1ad h.1 h.2
theorem z19x (v:z03) (hI:inI v.Num) (hl:v.Text.length≤9223372036854775807):zeb v=some (if okV v then (encV v,0) else ([],8)):=by
 unfold zeb
 rw [zt8 v hl]
 cases hv:okV v
 ·
  rfl
 simp only [bs,if_true]
 rw [if_neg (by simp)]
 unfold encV
 rcases zq5 hv with k | k | k
 ·
  have h1:=z17 (zig v.Num) (zvl hI)
  rw [k,z11x v.Num hI]
  simp only [bs]
  rw [if_pos (by decide),z19 (by simp; omega)]; simp [bs]
 ·
  rw [k,if_neg (by decide),if_pos (by decide),if_neg (by decide),if_pos rfl,← k,z13a]; rfl
 ·
  have h3:=(okV3 hv k).2.2.1
  have h1:=z17 v.Text.length (by omega)
  rw [k,zru v.Text (by omega)]
  rw [if_neg (by decide),if_neg (by decide),if_pos (by decide),if_neg (by decide),if_neg (by decide),z3r (by omega)]
  simp only [bs]
  rw [z19 (by simp; omega)]; rfl
theorem zsy (n:Int) (h:inI n):z9o n=some (z1y (zig n)):=by
 obtain ⟨h1,h2⟩:=h
 unfold z9o
 by_cases h0:0≤n
 ·
  rw [if_pos (by simpa using h0),z86]
  have e:(2 * UInt64.ofInt n).toNat=zig n:=by
   rw [UInt64.toNat_mul,zdu, show (2:UInt64).toNat=2 from rfl]
   unfold zig; rw [if_pos h0]; omega
  rw [e]; rfl
 ·
  rw [if_neg (by simpa using h0),z86]
  have e:((2 * UInt64.ofInt (w64 (0 - (w64 (n+1)))))+1).toNat=zig n:=by
   rw [z13 (x:=n+1) (by omega) (by omega),z13 (by omega) (by omega),UInt64.toNat_add,UInt64.toNat_mul,zdu, show (2:UInt64).toNat=2 from rfl, show (1:UInt64).toNat=1 from rfl]
   unfold zig; rw [if_neg h0]; omega
  rw [e]; rfl
theorem zpa (s:List UInt8) (h:s.length≤100000):z7z s=some (z1y s.length++s):=by
 unfold z7z
 rw [z86]
 have e:(UInt64.ofInt (s.length:Int)).toNat=s.length:=by rw [zdu]; omega
 have:=z17 s.length (by omega)
 rw [e]
 simp only [bs]
 rw [z19 (by omega)]; rfl
theorem zz3 (v:z03) (l:List UInt8) (k:Nat) (hl:l.length≤100) (hk:k≤7):z63 v (l,(k:Int))=some (.inr (l++[(z85 v.Bits (8 * k)).toUInt8],(k:Int) - 1)):=by
 unfold z63
 rw [if_pos (by simp)]
 simp only
 have e:w64 (8 * (k:Int))=((8 * k:Nat):Int):=by rw [z13 (by omega) (by omega)]; omega
 rw [e,z3r (by omega)]
 simp only [bs,Int.toNat_natCast]
 rw [z19 (by simp; omega)]
 simp only [bs]
 rw [z13 (by omega) (by omega)]
theorem z143 (v:z03):iter (z63 v) ([v.Kind],7)=some (v.Kind::be8 v.Bits):=by
 have hs:=fun l k h1 h2=>zz3 v l k h1 h2
 rw [show (7:Int)=((7:Nat):Int) from rfl,z1n (hs [v.Kind] 7 (by simp) (by omega))]
 simp only [List.cons_append,List.nil_append, show ((7:Nat):Int) - 1=((6:Nat):Int) from rfl]
 rw [z1n (hs _ 6 (by simp) (by omega))]
 simp only [List.cons_append,List.nil_append, show ((6:Nat):Int) - 1=((5:Nat):Int) from rfl]
 rw [z1n (hs _ 5 (by simp) (by omega))]
 simp only [List.cons_append,List.nil_append, show ((5:Nat):Int) - 1=((4:Nat):Int) from rfl]
 rw [z1n (hs _ 4 (by simp) (by omega))]
 simp only [List.cons_append,List.nil_append, show ((4:Nat):Int) - 1=((3:Nat):Int) from rfl]
 rw [z1n (hs _ 3 (by simp) (by omega))]
 simp only [List.cons_append,List.nil_append, show ((3:Nat):Int) - 1=((2:Nat):Int) from rfl]
 rw [z1n (hs _ 2 (by simp) (by omega))]
 simp only [List.cons_append,List.nil_append, show ((2:Nat):Int) - 1=((1:Nat):Int) from rfl]
 rw [z1n (hs _ 1 (by simp) (by omega))]
 simp only [List.cons_append,List.nil_append, show ((1:Nat):Int) - 1=((0:Nat):Int) from rfl]
 rw [z1n (hs _ 0 (by simp) (by omega))]
 simp only [List.cons_append,List.nil_append]
 refine z1a ?_
 unfold z63
 rw [if_neg (by simp)]; rfl
theorem zyx (v:z03) (hI:inI v.Num) (hv:okV v=true):zao v=some (encV v):=by
 unfold encV zao
 rcases zq5 hv with k | k | k
 ·
  have h1:=z17 (zig v.Num) (zvl hI)
  rw [k,zsy v.Num hI]
  simp only [bs]
  rw [if_pos (by decide),z19 (by simp; omega)]; simp [bs]
 ·
  rw [k,if_neg (by decide),if_pos (by decide),if_neg (by decide),if_pos rfl,← k,z143]; rfl
 ·
  have h3:=(okV3 hv k).2.2.1
  have h1:=z17 v.Text.length (by omega)
  rw [k,zpa v.Text (by omega)]
  rw [if_neg (by decide),if_neg (by decide),if_neg (by decide),if_neg (by decide),z3r (by omega)]
  simp only [bs]
  rw [z19 (by simp; omega)]; rfl
end
section
open Go
theorem z13i (a b:V3):∀ (n i:Nat),32 - i=n→i≤32→∃ r:Sum Int Unit,iter (z7r a b) (i:Int)=some r∧(z4y (some r) (fun _=>some 0)=some (Lib.compareBytes (a.toList.drop i) (b.toList.drop i))):=by
 intro n
 induction n with
 | zero =>
  intro i hn hi
  have:i=32:=by omega
  subst this
  refine ⟨.inr (),z1a ?_,?_⟩
  ·
   unfold z7r; rw [if_neg (by simp)]
  ·
   rw [List.drop_eq_nil_of_le (by simp),List.drop_eq_nil_of_le (by simp)]; rfl
 | succ n ih =>
  intro i hn hi
  have hlt:i<32:=by omega
  have da:a.toList.drop i=a[i]::a.toList.drop (i+1):=by rw [List.drop_eq_getElem_cons (by simpa using hlt)]; simp
  have db:b.toList.drop i=b[i]::b.toList.drop (i+1):=by rw [List.drop_eq_getElem_cons (by simpa using hlt)]; simp
  have hF:z7r a b (i:Int)=if decide (a[i]<b[i]) then some (.inl (.inl (-1))) else if decide (b[i]<a[i]) then some (.inl (.inl 1)) else some (.inr ((i+1:Nat):Int)):=by
   unfold z7r
   rw [if_pos (by simp; omega)]
   simp only [z8v hlt,bs,z0g (show i<9223372036854775807 by omega)]
  rw [da,db,Lib.compareBytes]
  by_cases h1:a[i]<b[i]
  ·
   rw [decide_eq_true h1] at hF
   exact ⟨_,z1a hF, by rw [if_pos h1]; rfl⟩
  ·
   rw [decide_eq_false h1] at hF
   by_cases h2:b[i]<a[i]
   ·
    rw [decide_eq_true h2] at hF
    exact ⟨_,z1a hF, by rw [if_neg h1,if_pos h2]; rfl⟩
   ·
    rw [decide_eq_false h2] at hF
    obtain ⟨r,k1,k2⟩:=ih (i+1) (by omega) (by omega)
    exact ⟨r, by rw [z1n hF]; exact k1, by rw [if_neg h1,if_neg h2]; exact k2⟩
theorem zsk (a b:V3):z5q a b=some (Lib.compareBytes a.toList b.toList):=by
 obtain ⟨r,h1,h2⟩:=z13i a b 32 0 rfl (by omega)
 unfold z5q
 rw [show (0:Int)=((0:Nat):Int) from rfl,h1]
 simpa using h2
theorem ztg (a b:V3):z8s a b=some (Lib.compareBytes a.toList b.toList):=by
 unfold z8s zfw; rfl
def z7k:List V3→Bool
 | a::b::l=>!decide (0≤Lib.compareBytes a.toList b.toList)&&z7k (b::l)
 | _=>true
theorem zna (l:List V3) (hl:l.length≤9223372036854775807):∀ (n i:Nat),l.length - i=n→1≤i→i≤l.length→iter (z4g l) (i:Int)=some (if z7k (l.drop (i - 1)) then .inr () else .inl false):=by
 intro n
 induction n with
 | zero =>
  intro i hn h1 hi
  have:i=l.length:=by omega
  refine z1a ?_
  have e:l.drop (i - 1)=[l[i - 1]'(by omega)]:=by
   rw [List.drop_eq_getElem_cons (by omega),List.drop_eq_nil_of_le (by omega)]
  rw [e]
  unfold z4g
  rw [if_neg (by simp; omega)]
  simp [z7k]
 | succ n ih =>
  intro i hn h1 hi
  have hlt:i<l.length:=by omega
  have e:l.drop (i - 1)=l[i - 1]::l[i]::l.drop (i+1):=by
   rw [List.drop_eq_getElem_cons (by omega), show i - 1+1=i by omega,List.drop_eq_getElem_cons hlt]
  have e':l.drop (i+1 - 1)=l[i]::l.drop (i+1):=by rw [Nat.add_sub_cancel,List.drop_eq_getElem_cons hlt]
  have hF:z4g l (i:Int)=if decide (0≤Lib.compareBytes (l[i - 1]).toList (l[i]).toList) then some (.inl (.inl false)) else some (.inr ((i+1:Nat):Int)):=by
   unfold z4g
   rw [if_pos (by simp; omega),z13 (by omega) (by omega), show ((i:Int) - 1)=((i - 1:Nat):Int) by omega]
   simp only [z0b hlt,z0b (show i - 1<l.length by omega),bs,zsk,z0g (show i<9223372036854775807 by omega)]
  rw [e,z7k]
  cases hc:decide (0≤Lib.compareBytes (l[i - 1]).toList (l[i]).toList) with
  | true=>rw [hc] at hF; rw [z1a hF]; rfl
  | false =>
   rw [hc] at hF
   rw [z1n hF,ih (i+1) (by omega) (by omega) (by omega),e']; simp
theorem zmu (l:List V3) (hl:l.length≤9223372036854775807):z5t l=some (z7k l):=by
 unfold z5t
 cases l with
 | nil =>
  rw [z1a (b:=.inr ()) (by unfold z4g; rw [if_neg (by simp)])]; rfl
 | cons x l =>
  have:=zna (x::l) hl _ 1 rfl (by omega) (by simp)
  rw [show (1:Int)=((1:Nat):Int) from rfl,this]
  simp only [Nat.sub_self,List.drop_zero]
  cases z7k (x::l) <;> rfl
theorem zs5 (l:List V3) (hl:l.length≤9223372036854775806):∀ (n i:Nat),l.length - i=n→i≤l.length→∃ r,iter (z0m l l) ((i:Int),(i:Int))=some r∧(z7k (l.drop i)=true→∃ c,r=.inr c)∧(z7k (l.drop i)=false→∃ (k:Nat) (c:Int),r=.inl ((k:Int),c)):=by
 intro n
 induction n with
 | zero =>
  intro i hn hi
  have:i=l.length:=by omega
  refine ⟨.inr (i:Int),z1a ?_, fun _=>⟨_,rfl⟩, fun h=>?_⟩
  ·
   unfold z0m
   rw [if_neg (by simp; omega)]
  ·
   rw [List.drop_eq_nil_of_le (by omega)] at h; simp [z7k] at h
 | succ n ih =>
  intro i hn hi
  have hlt:i<l.length:=by omega
  by_cases h2:i+1<l.length
  ·
   have e:l.drop i=l[i]::l[i+1]::l.drop (i+2):=by rw [List.drop_eq_getElem_cons hlt,List.drop_eq_getElem_cons h2]
   have e':l.drop (i+1)=l[i+1]::l.drop (i+2):=by rw [List.drop_eq_getElem_cons h2]
   have hF:z0m l l ((i:Int),(i:Int))=if decide (0≤Lib.compareBytes (l[i]).toList (l[i+1]).toList) then some (.inl (.inl ((i:Int),((i+1:Nat):Int)))) else some (.inr (((i+1:Nat):Int),((i+1:Nat):Int))):=by
    unfold z0m zda
    rw [if_pos (by simp; omega)]
    simp only [z0b hlt,bs,z0g (show i<9223372036854775807 by omega)]
    rw [if_pos (by simp; omega),z13 (by omega) (by omega), show ((i+1:Nat):Int) - 1=(i:Int) by omega]
    simp only [z0b hlt,z0b h2,bs,ztg]
   rw [e,z7k]
   cases hc:decide (0≤Lib.compareBytes (l[i]).toList (l[i+1]).toList) with
   | true =>
    rw [hc] at hF
    exact ⟨_,z1a hF, fun h=>by simp at h, fun _=>⟨i,_,rfl⟩⟩
   | false =>
    rw [hc] at hF
    obtain ⟨r,k1,k2,k3⟩:=ih (i+1) (by omega) (by omega)
    rw [e'] at k2 k3
    exact ⟨r, by rw [z1n hF]; exact k1, fun h=>k2 (by simpa using h), fun h=>k3 (by simpa using h)⟩
  ·
   have e:l.drop i=[l[i]]:=by rw [List.drop_eq_getElem_cons hlt,List.drop_eq_nil_of_le (by omega)]
   have hF:z0m l l ((i:Int),(i:Int))=some (.inr (((i+1:Nat):Int),((i+1:Nat):Int))):=by
    unfold z0m zda
    rw [if_pos (by simp; omega)]
    simp only [z0b hlt,bs,z0g (show i<9223372036854775807 by omega)]
    rw [if_neg (by simp; omega)]
    simp only [bs]; rfl
   obtain ⟨r,k1,k2,k3⟩:=ih (i+1) (by omega) (by omega)
   rw [List.drop_eq_nil_of_le (by omega)] at k2 k3
   exact ⟨r, by rw [z1n hF]; exact k1, fun _=>k2 rfl, fun h=>by rw [e] at h; simp [z7k] at h⟩
theorem zwq (l:List V3) (hl:l.length≤9223372036854775806):zfz l=some (z7k l):=by
 obtain ⟨r,k1,k2,k3⟩:=zs5 l hl _ 0 rfl (by omega)
 unfold zfz z2b z2t
 rw [show ((0:Int),(0:Int))=(((0:Nat):Int),((0:Nat):Int)) from rfl,k1]
 simp only [List.drop_zero] at k2 k3
 cases h:z7k l with
 | true=>obtain ⟨c,rfl⟩:=k2 h; rfl
 | false =>
  obtain ⟨k,c,rfl⟩:=k3 h
  simp only [or_l,bs]
  rw [decide_eq_true (by omega)]; rfl
def zob (l:List V3):List UInt8:=l.flatMap Vector.toList
theorem zjx (l:List V3):(zob l).length=32 * l.length:=by
 induction l with
 | nil=>rfl
 | cons x l ih=>unfold zob at ih ⊢; rw [List.flatMap_cons,List.length_append,ih]; simp; omega
theorem zt4 (l:List V3) (i:Nat) (hi:i<l.length):zob (l.take (i+1))=zob (l.take i)++(l[i]).toList:=by
 rw [List.take_add_one,List.getElem?_eq_getElem hi]; unfold zob; rw [List.flatMap_append,Option.toList_some,List.flatMap_cons,List.flatMap_nil,List.append_nil]
theorem z164 (l:List V3) (h:l.length≤1000) (s:List UInt8) (hs:s.length≤9):iter (z6t l) (s,0)=some (s++zob l):=by
 have:=z2r (F:=z6t l) (b:=s++zob l) l.length (fun i=>(s++zob (l.take i),(i:Int))) (fun i hi=>?_) ?_
 ·
  simpa [zob] using this
 ·
  unfold z6t
  have hf:=zjx (l.take i)
  rw [if_pos (by simp; omega)]
  simp only [z0b hi,bs]
  rw [z19 (by simp at hf ⊢; omega)]
  simp only [bs,z0g (show i<9223372036854775807 by omega),zt4 l i hi,List.append_assoc]
 ·
  unfold z6t
  rw [if_neg (by simp)]
  simp
theorem z197 (l:List V3) (h:l.length≤1000) (s:List UInt8) (hs:s.length≤9):iter (zdt l) (s,0)=some (s++zob l):=by
 have:=z2r (F:=zdt l) (b:=s++zob l) l.length (fun i=>(s++zob (l.take i),(i:Int))) (fun i hi=>?_) ?_
 ·
  simpa [zob] using this
 ·
  unfold zdt
  have hf:=zjx (l.take i)
  rw [if_pos (by simp; omega)]
  simp only [z0b hi,bs]
  rw [z19 (by simp at hf ⊢; omega)]
  simp only [bs,z0g (show i<9223372036854775807 by omega),zt4 l i hi,List.append_assoc]
 ·
  unfold zdt
  rw [if_neg (by simp)]
  simp
theorem zng {n:Nat} (h:n<18446744073709551616):(UInt64.ofInt (n:Int)).toNat=n:=by
 simp [UInt64.ofInt]; omega
theorem z13l (l:List V3) (h:l.length≤1000):zbc l=some (z1y l.length++zob l):=by
 unfold zbc
 have hn:=z17 l.length (by omega)
 rw [z86,zng (by omega)]
 simp only [bs]
 rw [z164 l h _ (by omega)]; rfl
theorem z17d (l:List V3) (h:l.length≤60) (hi:z7k l=true):zmh l=some (z1y l.length++zob l,0):=by
 unfold zmh
 have hn:=z17 l.length (by omega)
 rw [if_neg (by simp; omega),zwq l (by omega),hi,z8h,zng (by omega)]
 simp only [bs,Bool.not_true,Bool.false_eq_true,if_false]
 rw [z197 l (by omega) _ (by omega)]; rfl
end
section
open Go
def nk:List UInt8→Nat
 | []=>0
 | a::l=>a.toNat * 256 ^ l.length+nk l
theorem z16i:∀ l:List UInt8,nk l<256 ^ l.length
 | []=>by simp [nk]
 | a::l=>by
  have ih:=z16i l
  have ha:=UInt8.toNat_lt a
  simp only [nk,List.length_cons,Nat.pow_succ]
  have h1:(a.toNat+1) * 256 ^ l.length≤256 * 256 ^ l.length:=Nat.mul_le_mul_right _ (by omega)
  rw [Nat.add_mul,Nat.one_mul] at h1
  omega
theorem z10e:∀ a b:List UInt8,a.length=b.length→Lib.compareBytes a b=(if nk a<nk b then -1 else if nk b<nk a then 1 else 0)∧(nk a=nk b→a=b)
 | [],[],_=>by simp [Lib.compareBytes,nk]
 | [],_::_,h=>by simp at h
 | _::_,[],h=>by simp at h
 | a::x,b::y,h=>by
  have hl:x.length=y.length:=by simpa using h
  obtain ⟨i1,i2⟩:=z10e x y hl
  have lx:=z16i x
  have ly:=z16i y
  simp only [Lib.compareBytes,nk,hl] at *
  have e:∀ u v:UInt8,u.toNat<v.toNat→u.toNat * 256 ^ y.length+256 ^ y.length≤v.toNat * 256 ^ y.length:=fun u v huv=>by
   have:=Nat.mul_le_mul_right (256 ^ y.length) (show u.toNat+1≤v.toNat from huv)
   rwa [Nat.add_mul,Nat.one_mul] at this
  by_cases h1:a<b
  ·
   have h1':a.toNat<b.toNat:=UInt8.lt_iff_toNat_lt.1 h1
   have:=e a b h1'
   rw [if_pos h1,if_pos (by omega)]
   exact ⟨rfl, fun h=>by omega⟩
  ·
   by_cases h2:b<a
   ·
    have h2':b.toNat<a.toNat:=UInt8.lt_iff_toNat_lt.1 h2
    have:=e b a h2'
    rw [if_neg h1,if_pos h2,if_neg (by omega),if_pos (by omega)]
    exact ⟨rfl, fun h=>by omega⟩
   ·
    have h3:a=b:=UInt8.toNat_inj.1 (by rw [UInt8.lt_iff_toNat_lt] at h1 h2; omega)
    subst h3
    rw [if_neg h1,if_neg h1,i1]
    refine ⟨?_, fun h=>by rw [i2 (by omega)]⟩
    by_cases c1:nk x<nk y
    ·
     rw [if_pos c1,if_pos (by omega)]
    ·
     by_cases c2:nk y<nk x
     ·
      rw [if_neg c1,if_pos c2,if_neg (by omega),if_pos (by omega)]
     ·
      rw [if_neg c1,if_neg c2,if_neg (by omega),if_neg (by omega)]
def kd (d:V3):Nat:=nk d.toList
theorem zx0 (a b:V3):Lib.compareBytes a.toList b.toList=if kd a<kd b then -1 else if kd b<kd a then 1 else 0:=(z10e a.toList b.toList (by simp)).1
theorem zlj {a b:V3} (h:kd a=kd b):a=b:=by
 have:=(z10e a.toList b.toList (by simp)).2 h
 exact Vector.toList_inj.1 this
theorem zrk (a b:V3):z8s a b=some (if kd a<kd b then -1 else if kd b<kd a then 1 else 0):=by rw [ztg,zx0]
theorem zqb (a b:V3):z5q a b=some (if kd a<kd b then -1 else if kd b<kd a then 1 else 0):=by rw [zsk,zx0]
theorem zp1 (a b:V3):decide ((if kd a<kd b then (-1:Int) else if kd b<kd a then 1 else 0)<0)=decide (kd a<kd b):=by
 by_cases h:kd a<kd b
 ·
  simp [h]
 ·
  by_cases h2:kd b<kd a <;> simp [h,h2]
theorem z154 (a b:V3):decide (0≤(if kd a<kd b then (-1:Int) else if kd b<kd a then 1 else 0))=decide (kd b≤kd a):=by
 by_cases h:kd a<kd b
 ·
  have:¬ kd b≤kd a:=by omega
  simp [h,this]
 ·
  have h3:kd b≤kd a:=by omega
  by_cases h2:kd b<kd a <;> simp [h,h2,h3]
theorem z19l (a b:V3):((if kd a<kd b then (-1:Int) else if kd b<kd a then 1 else 0)==0)=decide (a=b):=by
 by_cases h:kd a<kd b
 ·
  have:a≠b:=fun e=>by rw [e] at h; omega
  simp [h,this]
 ·
  by_cases h2:kd b<kd a
  ·
   have:a≠b:=fun e=>by rw [e] at h2; omega
   simp [h,h2,this]
  ·
   have:a=b:=zlj (by omega)
   simp [h,h2,this]
theorem zva:∀ l:List V3,z7k l=true↔∀ i (h:i+1<l.length),kd (l[i]'(by omega))<kd l[i+1]
 | []=>by simp [z7k]
 | [a]=>by simp [z7k]
 | a::b::l=>by
  have ih:=zva (b::l)
  rw [z7k,Bool.and_eq_true,ih,zx0,z154]
  constructor
  ·
   rintro ⟨h1,h2⟩ i hi
   cases i with
   | zero=>simpa using h1
   | succ i=>exact h2 i (by simpa using hi)
  ·
   intro h
   refine ⟨?_, fun i hi=>h (i+1) (by simpa using hi)⟩
   have:=h 0 (by simp)
   simpa using this
theorem z64:∀ l:List V3,z7k l=true↔l.Pairwise (fun a b=>kd a<kd b)
 | []=>by simp [z7k]
 | [a]=>by simp [z7k]
 | a::b::l=>by
  have ih:=z64 (b::l)
  rw [z7k,Bool.and_eq_true,ih,zx0,z154]
  constructor
  ·
   rintro ⟨h1,h2⟩
   have h1':kd a<kd b:=by simpa using h1
   refine List.pairwise_cons.2 ⟨fun c hc=>?_,h2⟩
   rcases List.mem_cons.1 hc with rfl | hc
   ·
    exact h1'
   ·
    have:=(List.pairwise_cons.1 h2).1 c hc; omega
  ·
   intro h
   obtain ⟨h1,h2⟩:=List.pairwise_cons.1 h
   have:=h1 b (by simp)
   exact ⟨by simp; omega,h2⟩
theorem z11z (l:List V3) (hl:l.length≤9223372036854775807):∃ b,z15 l=some b∧(b=true↔∀ i (h:i+1<l.length),kd (l[i]'(by omega))≤kd l[i+1]):=by
 have key:∀ n,n<l.length→∃ r:Sum Bool Unit,iter (z0v l) (n:Int)=some r∧((r=.inr ()∧∀ i (h:i+1<l.length),i+1≤n→kd (l[i]'(by omega))≤kd l[i+1])∨(r=.inl false∧∃ i,∃ h:i+1<l.length,¬ kd (l[i]'(by omega))≤kd l[i+1])):=by
  intro n
  induction n with
  | zero =>
   intro h
   refine ⟨_,z1a ?_,.inl ⟨rfl, fun i _ h=>by omega⟩⟩
   unfold z0v
   rw [if_neg (by simp)]
  | succ n ih =>
   intro h
   have hF:z0v l ((n+1:Nat):Int)=if decide (kd l[n+1]<kd l[n]) then some (.inl (.inl false)) else some (.inr (n:Int)):=by
    unfold z0v
    rw [if_pos (by simp <;> omega),z0b h,z13 (by omega) (by omega), show (((n+1:Nat):Int) - 1)=(n:Int) by omega,z0b (by omega)]
    simp only [bS]
    rw [zrk]
    simp only [bS]
    rw [zp1]
   by_cases hc:kd l[n+1]<kd l[n]
   ·
    rw [decide_eq_true hc,if_pos rfl] at hF
    exact ⟨_,z1a hF,.inr ⟨rfl,n,h, by omega⟩⟩
   ·
    rw [decide_eq_false hc,if_neg (by simp)] at hF
    obtain ⟨r,h1,h2⟩:=ih (by omega)
    refine ⟨r, by rw [z1n hF]; exact h1,?_⟩
    rcases h2 with ⟨h2,h3⟩ | h2
    ·
     refine .inl ⟨h2, fun i hi hn=>?_⟩
     by_cases hin:i=n
     ·
      subst hin; omega
     ·
      exact h3 i hi (by omega)
    ·
     exact .inr h2
 unfold z15
 simp only [bS]
 by_cases h0:l.length=0
 ·
  refine ⟨true,?_, by simp; intro i hi; omega⟩
  rw [h0,z13 (by omega) (by omega),z1a (b:=.inr ())]
  ·
   rfl
  ·
   unfold z0v
   rw [if_neg (by simp)]
 ·
  obtain ⟨r,h1,h2⟩:=key (l.length - 1) (by omega)
  rw [z13 (by omega) (by omega), show ((l.length:Int) - 1)=((l.length - 1:Nat):Int) by omega,h1]
  rcases h2 with ⟨rfl,h3⟩ | ⟨rfl,i,hi,h3⟩
  ·
   exact ⟨true,rfl, by simp; exact fun i hi=>h3 i hi (by omega)⟩
  ·
   exact ⟨false,rfl, by simp; exact ⟨i,hi, by omega⟩⟩
theorem z103 {k n j:Nat} (h:j<n):subi k n (j:Int)=some (k+j):=by unfold subi; rw [if_pos (by omega)]; simp
theorem zzl {α:Type} (b:List α) (k n:Nat) (x:α) (h:k+n≤b.length):(clr b k n x).length=b.length:=by
 unfold clr
 simp only [List.length_append,List.length_take,List.length_replicate,List.length_drop]; omega
theorem zu7 (l:List V3) (s:Nat) (h1:1≤s) (hs:s<l.length) (hl:l.length≤9223372036854775806):∃ b:List V3 × Int,iter (z2l l s) (l,(s:Int),1)=some b∧b.1.length=l.length∧∃ j:Nat,b.2=(j:Int)∧j<l.length:=by
 refine z7g (F:=z2l l s) (l.length - s) (fun i st=>st.1.length=l.length∧st.2.2=(i:Int)∧1≤i∧∃ j:Nat,st.2.1=(j:Int)∧j+1≤s+i) _ ?_ ?_ _ 1 (by omega) ⟨rfl,rfl, by omega,s,rfl, by omega⟩
 ·
  rintro i ⟨c,j',i'⟩ hi ⟨e1,e2,e0,j,e3,e4⟩
  simp only at e1 e2 e3
  subst e2 e3
  unfold z2l
  rw [if_pos (by simp; omega)]
  simp only [Int.toNat_natCast]
  rw [z103 (by omega),z13 (x:=(i:Int) - 1) (by omega) (by omega), show ((i:Int) - 1)=((i - 1:Nat):Int) by omega,z103 (by omega)]
  simp only [bS]
  rw [z0b (by omega),z0b (by omega)]
  simp only [bS]
  by_cases hc:c[s+i]'(by omega)=c[s+(i - 1)]'(by omega)
  ·
   rw [decide_eq_true hc,if_neg (by simp)]
   exact ⟨_,rfl,e1,z0g (by omega), by omega,j,rfl, by omega⟩
  ·
   rw [decide_eq_false hc,if_pos (by simp),z0b (by omega)]
   simp only [bS]
   exact ⟨_,rfl, by simpa using e1,z0g (by omega), by omega,j+1,z0g (by omega), by omega⟩
 ·
  rintro ⟨c,j',i'⟩ ⟨e1,e2,e0,j,e3,e4⟩
  simp only at e1 e2 e3
  subst e2 e3
  unfold z2l
  rw [if_neg (by simp <;> omega)]
  exact ⟨_,rfl,e1,j,rfl, by omega⟩
theorem zxb (l:List V3) (hl:l.length≤9223372036854775806):∃ c,z3c l=some c∧(c.length=l.length↔∀ i (h:i+1<l.length),l[i]'(by omega)≠l[i+1]):=by
 have key:∀ k n,l.length - n=k→1≤n→n≤l.length→∃ r:Sum (List V3) Unit,iter (z1e l) (n:Int)=some r∧((r=.inr ()∧∀ i (h:i+1<l.length),n≤i+1→l[i]'(by omega)≠l[i+1])∨(∃ c,r=.inl c∧c.length≠l.length∧∃ i,∃ h:i+1<l.length,l[i]'(by omega)=l[i+1])):=by
  intro k
  induction k with
  | zero =>
   intro n hk h1 hn
   refine ⟨_,z1a ?_,.inl ⟨rfl, fun i _ h=>by omega⟩⟩
   unfold z1e
   rw [if_neg (by simp; omega)]
  | succ k ih =>
   intro n hk h1 hn
   have hlt:n<l.length:=by omega
   by_cases hc:l[n]=l[n - 1]
   ·
    obtain ⟨⟨c,j'⟩,e1,e2,j,e3,e4⟩:=zu7 l n h1 hlt hl
    simp only at e2 e3
    subst e3
    have hF:z1e l (n:Int)=some (.inl (.inl ((clr c j (c.length - j) (Vector.replicate 32 0)).take j))):=by
     unfold z1e
     rw [if_pos (by simp; omega),z0b hlt,z13 (by omega) (by omega), show ((n:Int) - 1)=((n - 1:Nat):Int) by omega,z0b (by omega)]
     simp only [bS]
     rw [decide_eq_true hc,if_pos rfl,z3r (by omega)]
     simp only [bS]
     rw [e1]
     simp only [bS]
     rw [z3r (by omega),z3r (by simp; omega)]
     simp only [bS,Int.toNat_natCast]
     rw [show (0:Int)=((0:Nat):Int) from rfl,zbn (by omega) (by rw [zzl _ _ _ _ (by omega)]; omega)]
     simp
    refine ⟨_,z1a hF,.inr ⟨_,rfl,?_,n - 1, by omega,?_⟩⟩
    ·
     rw [List.length_take]; omega
    ·
     have:n - 1+1=n:=by omega
     simp only [this]; exact hc.symm
   ·
    have hF:z1e l (n:Int)=some (.inr ((n+1:Nat):Int)):=by
     unfold z1e
     rw [if_pos (by simp; omega),z0b hlt,z13 (x:=(n:Int) - 1) (by omega) (by omega), show ((n:Int) - 1)=((n - 1:Nat):Int) by omega,z0b (by omega)]
     simp only [bS]
     rw [decide_eq_false hc,if_neg (by simp),z0g (by omega)]
    obtain ⟨r,h2,h3⟩:=ih (n+1) (by omega) (by omega) (by omega)
    refine ⟨r, by rw [z1n hF]; exact h2,?_⟩
    rcases h3 with ⟨h3,h4⟩ | h3
    ·
     refine .inl ⟨h3, fun i hi hni=>?_⟩
     by_cases hin:i+1=n
     ·
      subst hin; exact fun e=>hc e.symm
     ·
      exact h4 i hi (by omega)
    ·
     exact .inr h3
 unfold z3c
 by_cases h2:l.length<2
 ·
  rw [if_pos (by simp; omega)]
  exact ⟨l,rfl, by simp; intro i hi; omega⟩
 ·
  rw [if_neg (by simp; omega)]
  obtain ⟨r,e1,e2⟩:=key (l.length - 1) 1 rfl (by omega) (by omega)
  rw [show (1:Int)=((1:Nat):Int) from rfl,e1]
  rcases e2 with ⟨rfl,h3⟩ | ⟨c,rfl,h3,i,hi,h4⟩
  ·
   exact ⟨l,rfl, by simp; exact fun i hi=>h3 i hi (by omega)⟩
  ·
   exact ⟨c,rfl,⟨fun h=>absurd h h3, fun h=>absurd h4 (h i hi)⟩⟩
theorem z12i (l:List V3):z7k l=true↔(∀ i (h:i+1<l.length),kd (l[i]'(by omega))≤kd l[i+1])∧∀ i (h:i+1<l.length),l[i]'(by omega)≠l[i+1]:=by
 rw [zva]
 constructor
 ·
  intro h
  refine ⟨fun i hi=>Nat.le_of_lt (h i hi), fun i hi e=>?_⟩
  have:=h i hi
  rw [e] at this; omega
 ·
  rintro ⟨h1,h2⟩ i hi
  have:=h1 i hi
  rcases Nat.lt_or_eq_of_le this with h | h
  ·
   exact h
  ·
   exact absurd (zlj h) (h2 i hi)
end
section
open Go Go.Shelf Go.RowKit Go.Lib Go.Sort
def cfID (x y:V3):Int:=Lib.compareBytes x.toList y.toList
theorem ltID (x y:V3):ltOf cfID x y=decide (kd x<kd y):=by
 unfold ltOf cfID
 rw [zx0,zp1]
theorem z1am:SWO (ltOf cfID) where
 irrefl x:=by rw [ltID]; simp
 trans x y z h1 h2:=by rw [ltID] at *; simp at *; omega
 ntrans x y z h1 h2:=by rw [ltID] at *; simp at *; omega
def zkg (l:List V3):List V3:=l.mergeSort fun x y=>!(ltOf cfID) y x
theorem znd (l:List V3):(zkg l).length=l.length:=List.length_mergeSort l
theorem zrl (l:List V3) (x:V3):x∈zkg l↔x∈l:=List.mem_mergeSort
theorem zgm (l:List V3):(zkg l).Pairwise fun x y=>kd x≤kd y:=by
 have h:=List.pairwise_mergeSort (le:=fun x y=>!(ltOf cfID) y x) (fun a b c h1 h2=>by
  rw [ltID] at *; simp at *; omega) (fun a b=>by rw [ltID,ltID]; simp; omega) l
 exact h.imp fun {a b} hab=>by rw [ltID] at hab; simp at hab; omega
def zs0 (l:List V3):Option (List V3):=chk (l.length≤1000000) >>= fun _=>some (zkg l)
theorem zur {l l':List V3} (h:l.Perm l'):zkg l=zkg l' :=
 (((List.mergeSort_perm l _).trans h).trans (List.mergeSort_perm l' _).symm).eq_of_pairwise (le:=fun a b=>kd a≤kd b) (fun a b _ _ h1 h2=>zlj (Nat.le_antisymm h1 h2)) (zgm l) (zgm l')
theorem zox {l l':List V3} (h:l.Perm l'):zs0 l=zs0 l':=by unfold zs0; rw [h.length_eq,zur h]
theorem zvi (p0:Value) (c0:List V3):z1t Tryz.prog 88 [.val p0,.val (.func (.func 89) #[] #[])] [(1,some (p0,.list (z3m 32 u8R) 78 c0))] (zs0 c0) (fun r nv=>⟨[],[(1,some (p0,.list (z3m 32 u8R) 78 r))]⟩):=by
 refine z13c zkg znd (fun cap w=>?_) (fun blk cap d w hH hb hs=>?_) p0 c0
 ·
  exact AnyF.slices_SortFunc_none z18v none cap _ w
 ·
  have eg:∀ args w,(callFunc 89 args).run Tryz.prog w=.ok (.enter 89 args) w:=enters_of Tryz.func89 (by kernel_rfl) rfl
  exact AnyQ.slices_SortFunc_total z18v 32 Tryz.isAgg78 Tryz.sizeOf78 zby zgt (fun x v hv=>by
   unfold zby at hv
   obtain ⟨c,_,rfl⟩:=List.mem_map.1 hv
   rfl) cfID z1am 89 #[] blk 0 cap d w eg (fun m os dk _ x y=>zxh x y _) hH hb hs (fun x y h1 h2=>by
   rw [ltID] at h1 h2
   simp at h1 h2
   exact zlj (by omega))
end
end Go.Proofs.YthgpinfkodaefaaGreatDoor
