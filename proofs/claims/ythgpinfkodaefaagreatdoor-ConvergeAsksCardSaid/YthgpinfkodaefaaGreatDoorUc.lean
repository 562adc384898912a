import Derived.Test.YthgpinfkodaefaaGreatDoorUb
set_option linter.unusedSimpArgs false
set_option linter.unusedVariables false
namespace Go.Proofs.YthgpinfkodaefaaGreatDoor
section
open Go Go.RowKit
set_option maxRecDepth 100000
theorem zbx (a1:Int):z1y Tryz.prog 156 [.val (.slice none 0 0),.rd z09 a1] [] (z30 a1) (fun r nv=>⟨[.val (nv 0)],[(100,some (nv 0,.list u8R 5 r))]⟩):=by
 refine z2l 27 Tryz.func156 Z Z Z fun H w=>?_
 refine gSR<|Zb Z<|z0m<|gSR<|Zm Z<|Zq (I.lss Z Z)<|Zj Z (fun h1=>?_) (fun h1=>?_)
 ·
  refine ztd
 ·
  refine Zt<|z0m<|gSR<|Zm Z<|Zm Z<|Zq (capN Z Z tu129)<|Zm Z<|zny u8R 11 Z<|Zq (z3q Z .rd Z tu129)<|Zq (I.sub Z Z)<|Zq (I.sub Z Z)<|Za Z<|z1e 1 Z fun y2=>Zn<|gSR<|Zm Z<|Zq (I.gtr Z Z)<|Zj Z (fun h3=>?_) (fun h3=>?_)
  ·
   refine z1o<|Zm Z<|Zm Z<|Zq (capN Z Z tu129)<|Zq (cutN Z Z tu129 ti5)<|Zm Z<|z0g fun x4 h5=>Ef Z (apZ 1 Z Z h5 tu129 tu3 ti5 (Zr.num Z) Z) fun v6=>Zm Z<|zny u8R 23 Z<|Zq (z3q Z .rd Z tu129)<|z0g fun x7 h8=>Ef Z (cutO 1 Z Z Z h8 tu129 ti5) fun v9=>Zb Z<|gSR<|Zm Z<|Zb Z<|z0j<|Ze [v9] [1] Z
  ·
   refine Zt<|gSR<|Zm Z<|Zb Z<|z0j<|zkt u8R 5 2<|Ze [(.slice none 0 0)] [2] Z
def z0k (a0:List (List UInt8)) (s2:Int × Int):Option (Sum Int (Int × Int)) :=
 if decide (s2.2<(a0.length:Int)) then
  idx a0 s2.2 >>= fun x4 =>
  some (w64 (s2.1+(x4.length:Int))) >>= fun y6 =>
  if decide (y6<0) then
   none
  else
   some (.inr (y6,w64 (s2.2+1)))
 else
  some (.inl s2.1)
def z0l (a0:List (List UInt8)) (s11:(List UInt8) × Int):Option (Sum ((List UInt8)) ((List UInt8) × Int)) :=
 if decide (s11.2<(a0.length:Int)) then
  idx a0 s11.2 >>= fun x14 =>
  app 1 s11.1 x14 >>= fun x16 =>
  some (.inr (x16,w64 (s11.2+1)))
 else
  some (.inl s11.1)
def z1i (a0:List (List UInt8)):Option ((List UInt8)) :=
 (iter (z0k a0) (0,0)) >>= fun s1 =>
 z30 s1 >>= fun r8 =>
 (iter (z0l a0) (r8,0)) >>= fun s10 =>
 some s10
theorem z4t (a0:List (List UInt8)):z1y Tryz.prog 109 [.rd (z03 (z03 u8R)) a0] [] (z1i a0) (fun r nv=>⟨[.val (nv 0)],[(100,some (nv 0,.list u8R 5 r))]⟩):=by
 refine z2l 36 Tryz.func109 Z Z Z fun H w=>?_
 refine gSR<|Zb Z<|gSR<|Zb Z<|z6t (fun (s1:Int) aa ww=>Sta (ctx 36 H [] w) [(0,.rd (z03 (z03 u8R)) a0),(3,.rd z09 s1)] [] aa ww) ?_ (fun s1=>?_)
 ·
  refine gSR<|Zm Z<|Zq (z3q Z .rd Z tu201)<|Zm Z<|Zn<|z1q (fun (s2:Int × Int) aa ww=>Sta (ctx 36 H [] w) [(0,.rd (z03 (z03 u8R)) a0),(3,.rd z09 s2.1),(9,.rd (z03 (z03 u8R)) a0),(10,.rd z09 (a0.length:Int)),(11,.rd z09 s2.2)] [] aa ww) (fun aa ww h=>Zu h []) (fun s2=>?_)
  refine gSR<|Zq (I.lss Z Z)<|Zn<|z0m<|gIf Z Z (fun h3=>?_) (fun h3=>?_)
  ·
   refine Zt<|z0m<|z4s<|gSR<|z0g fun x4 h5=>Zq (ixR Z Z h5 tu201 zfg Z)<|Zq (ldR Z zrt)<|Zb Z<|gSR<|Zm Z<|Zm Z<|Zq (z3q Z .rd Z tu129)<|Zq (I.add Z Z)<|Za Z<|z1e 3 Z fun y6=>Zn<|gSR<|Zm Z<|Zq (I.lss Z Z)<|Zj Z (fun h7=>?_) (fun h7=>?_)
   ·
    refine ztd
   ·
    refine z2b<|z2n<|z0e<|z1o<|Zq (I.add Z Z)<|Zm Z<|z1f<|z14 (fun aa ww h=>Zu h [])
  ·
   refine z1d<|z0p<|z0s<|z37 (fun aa ww h=>Zu h [])
 ·
  refine gSR<|Zm Z<|Zc [] [(100,1)] Tryz.func156 Z (zbx _) fun r8 n9=>Zb Z<|z6t (fun (s10:(List UInt8)) aa ww=>∃ nv:Nat→Value,Sta (ctx 36 H [] w) [(6,.val (nv 0))] [(1,some ((nv 0),.list u8R 5 s10))] aa ww) ?_ (fun s10=>?_)
  ·
   refine gSR<|Zm Z<|Zq (z3q Z .rd Z tu201)<|Zm Z<|Zn<|z1q (fun (s11:(List UInt8) × Int) aa ww=>∃ nv:Nat→Value,Sta (ctx 36 H [] w) [(6,.val (nv 0)),(25,.rd (z03 (z03 u8R)) a0),(26,.rd z09 (a0.length:Int)),(27,.rd z09 s11.2)] [(1,some ((nv 0),.list u8R 5 s11.1))] aa ww) (fun aa ww h=>⟨nvl [(n9 0)],Zu h [1]⟩) (fun s11=>?_)
   refine gEx fun n12=>gSR<|Zq (I.lss Z Z)<|Zn<|z0m<|gIf Z Z (fun h13=>?_) (fun h13=>?_)
   ·
    refine Zt<|z0m<|z4s<|gSR<|z0g fun x14 h15=>Zq (ixR Z Z h15 tu201 zfg Z)<|Zq (ldR Z zrt)<|Zb Z<|z1o<|Zm Z<|Zm Z<|z0g fun x16 h17=>Ef Z (apn 1 Z Z Z .rd h17 tu129 ti5 Z Z Z) fun v18=>Za Z<|z1f<|z2n<|z0e<|z1o<|Zq (I.add Z Z)<|Zm Z<|z1f<|z14 (fun aa ww h=>⟨nvl [v18],Zu h [1]⟩)
   ·
    refine z1d<|z0p<|z0s<|z37 (fun aa ww h=>⟨nvl [(n12 0)],Zu h [1]⟩)
  ·
   refine gEx fun n19=>gSR<|Zm Z<|Zb Z<|z0j<|Ze [(n19 0)] [1] Z
def zai (a0:List UInt8):Option ((List UInt8) × Int) :=
 if decide (10000<(a0.length:Int)) then
  some ([],4)
 else
  z5e (UInt64.ofInt (a0.length:Int)) >>= fun r2 =>
  app 1 r2 a0 >>= fun x4 =>
  some (x4,0)
theorem zfz (a0:List UInt8):z1y Tryz.prog 111 [.rd (z03 u8R) a0] [] (zai a0) (fun r nv=>⟨[.val (nv 0),.rd z09 r.2],[(100,some (nv 0,.list u8R 5 r.1))]⟩):=by
 refine z2l 13 Tryz.func111 Z Z Z fun H w=>?_
 refine gSR<|Za Z<|Zb Z<|z0m<|gSR<|Zm Z<|Zq (z3q Z .rd Z tu129)<|Zq (I.gtr Z Z)<|Zj Z (fun h1=>?_) (fun h1=>?_)
 ·
  refine gSR<|Za Z<|Zb Z<|z0j<|z0v<|zkt u8R 5 1<|Ze [(.slice none 0 0)] [1] Z
 ·
  refine Zt<|gSR<|Zm Z<|Zq (z3q Z .rd Z tu129)<|Zq (I.toU Z tu3 tu52)<|Zc [] [(100,2)] Tryz.func110 Z (z5f _) fun r2 n3=>Zm Z<|z0g fun x4 h5=>Ef Z (apn 2 Z Z Z .rd h5 tu129 ti5 Z Z Z) fun v6=>Za Z<|Zb Z<|z0j<|Ze [v6] [2] Z
def zc3 (a0:Int):Option ((List UInt8)) :=
 z5e ((zkh (UInt64.ofInt a0) 1) ^^^ (UInt64.ofInt (zwt a0 63))) >>= fun r1 =>
 some r1
theorem ziz (a0:Int):z1y Tryz.prog 158 [.rd z09 a0] [] (zc3 a0) (fun r nv=>⟨[.val (nv 0)],[(100,some (nv 0,.list u8R 5 r))]⟩):=by
 refine z2l 11 Tryz.func158 Z Z Z fun H w=>?_
 refine gSR<|Zb Z<|gSR<|Zm Z<|Zq (I.toU Z Tryz.underlying2 tu52)<|Zq (U.shl Z Z (Int.natCast_nonneg _))<|Zm Z<|Zq (I.shr Z Z (Int.natCast_nonneg _))<|Zq (I.toU Z Tryz.underlying2 tu52)<|Zq (U.xor Z Z)<|Zc [] [(100,1)] Tryz.func110 Z (z5f _) fun r1 n2=>Zb Z<|z0j<|Ze [(n2 0)] [1] Z
def z73 (a0:z02) (s14:(List UInt8) × Int):Option (Sum ((List UInt8)) ((List UInt8) × Int)) :=
 if decide (0≤s14.2) then
  chk (0≤s14.2) >>= fun u17 =>
  app 1 s14.1 [(z61 a0.Bits ((s14.2:Int).toNat)).toUInt8] >>= fun x20 =>
  some (w64 (s14.2 - 8)) >>= fun y23 =>
  some (.inr (x20,y23))
 else
  some (.inl s14.1)
def zbe (a0:z02):Option ((List UInt8) × Int) :=
 zak a0 >>= fun r2 =>
 if r2 != 0 then
  some ([],r2)
 else
  (if a0.Kind==1 then
   zc3 a0.Num >>= fun r8 =>
   app 1 [a0.Kind] r8 >>= fun x10 =>
   some x10
  else
   if a0.Kind==2 then
    iter (z73 a0) ([a0.Kind],56)
   else
    if a0.Kind==3 then
     chk (a0.Text.length≤281474976710656) >>= fun u25 =>
     zai a0.Text >>= fun r27 =>
     app 1 [a0.Kind] r27.1 >>= fun x29 =>
     some x29
    else
     some [a0.Kind]) >>= fun s6 =>
  some (s6,0)
theorem zi0 (a0:z02):z1y Tryz.prog 112 [.rd z07 a0] [] (zbe a0) (fun r nv=>⟨[.val (nv 0),.rd z09 r.2],[(100,some (nv 0,.list u8R 5 r.1))]⟩):=by
 refine z2l 53 Tryz.func112 Z Z Z fun H w=>?_
 refine gSR<|Eb Z (bx 1 Z) fun v1=>Za Z<|Zb Z<|z0m<|gSR<|Zq (ld 1 Z Z fH zey Z)<|Zc [] [] Tryz.func157 Z (ze5 _) fun r2 n3=>Zb Z<|gSR<|Zm Z<|Zq (I.neq Z Z)<|Zj Z (fun h4=>?_) (fun h4=>?_)
 ·
  refine gSR<|Zm Z<|Za Z<|Zb Z<|z0j<|z0v<|zkt u8R 5 2<|Ze [(.slice none 0 0)] [2] Z
 ·
  refine Zt<|gSR<|Zq (faB 1 Z Z Tryz.underlying54 Z (by exact ti5))<|Zq (ld 1 Z Z (fP (z2a _)) ty5 Z)<|Ef Z (lit (R:=u8R) ([a0.Kind]:List UInt8) 3 (pP Z Z<|pN) Z tu129 ti5 Z Z) fun v5=>Zb Z<|z6t (fun (s6:(List UInt8)) aa ww=>∃ nv:Nat→Value,Sta (ctx 53 H [] w) [(5,.val (nv 0))] [(3,some ((nv 0),.list u8R 5 s6))] aa ww) ?_ (fun s6=>?_)
  ·
   refine gSR<|Zq (faB 1 Z Z Tryz.underlying54 Z (by exact ti5))<|Zq (ld 1 Z Z (fP (z2a _)) ty5 Z)<|Zn<|z4s<|gSR<|Zq (B.eql Z Z)<|Zb Z<|gIf Z Z (fun h7=>?_) (fun h7=>?_)
   ·
    refine gKn 20 Z h7<|z1o<|Zm Z<|Zq (faB 1 Z Z Tryz.underlying54 Z (by exact ti2))<|Zq (ld 1 Z Z (fP (z4y _)) ty2 Z)<|Zc [] [(100,4)] Tryz.func158 Z (ziz _) fun r8 n9=>z0g fun x10 h11=>Ef Z (apn 3 Z Z Z (.own 4 Z) h11 tu129 ti5 Z Z Z) fun v12=>Za Z<|z1f<|z2n<|z37 (fun aa ww h=>⟨nvl [v12],Zu h [3]⟩)
   ·
    refine gKn 20 Z h7<|gSR<|Zq (B.eql Z Z)<|Zb Z<|gIf Z Z (fun h13=>?_) (fun h13=>?_)
    ·
     refine gKn 27 Z h13<|gSR<|Zb Z<|z1q (fun (s14:(List UInt8) × Int) aa ww=>∃ nv:Nat→Value,Sta (ctx 53 H [] w) [(1,.val (z05 v1 0)),(5,.val (nv 0)),(6,.rd z09 s14.2)] [(1,some (v1,.box 54 [.rd z07 a0])),(3,some ((nv 0),.list u8R 5 s14.1))] aa ww) (fun aa ww h=>⟨nvl [v5],Zu h [1,3]⟩) (fun s14=>?_)
     refine gEx fun n15=>z0m<|gSR<|Zm Z<|Zq (I.geq Z Z)<|Zj Z (fun h16=>?_) (fun h16=>?_)
     ·
      refine Zt<|z0m<|z4s<|z1o<|Zm Z<|Zq (faB 1 Z Z Tryz.underlying54 Z (by exact zmg))<|Zq (ld 1 Z Z (fP (z2z _)) zku Z)<|Zm Z<|z0g fun u17 h18=>Zq (U.shr Z Z (z4c h18))<|Zq (U.toB Z tu52 tu5)<|Ef Z (lit (R:=u8R) ([(z61 a0.Bits ((s14.2:Int).toNat)).toUInt8]:List UInt8) 5 (pP Z Z<|pN) Z tu129 ti5 Z Z) fun v19=>z0g fun x20 h21=>Ef Z (apn 3 Z Z Z (.own 5 Z) h21 tu129 ti5 Z Z Z) fun v22=>Za Z<|z1f<|z2n<|z0e<|z1o<|Zm Z<|Zq (I.sub Z Z)<|Za Z<|z1e 6 Z fun y23=>z1f<|z14 (fun aa ww h=>⟨nvl [v22],Zu h [1,3]⟩)
     ·
      refine z1d<|z0p<|z0s<|z2n<|z37 (fun aa ww h=>⟨nvl [(n15 0)],Zu h [3]⟩)
    ·
     refine gKn 27 Z h13<|gSR<|Zq (B.eql Z Z)<|Zb Z<|gIf Z Z (fun h24=>?_) (fun h24=>?_)
     ·
      refine gKn 41 Z h24<|gSR<|Zq (faB 1 Z Z Tryz.underlying54 Z (by exact ti9))<|Zq (ld 1 Z Z (fP (z2m _)) ty9 Z)<|z0g fun u25 h26=>zu5 Z Z h26 tu9 tu129 tu5<|Zc [] [(100,6)] Tryz.func111 Z (zfz _) fun r27 n28=>Zm Z<|Zq (ext Z Z)<|Zq (ext Z Z)<|Za Z<|Zb Z<|z1o<|Zm Z<|Zm Z<|z0g fun x29 h30=>Ef Z (apn 3 Z Z Z (.own 6 Z) h30 tu129 ti5 Z Z Z) fun v31=>Za Z<|z1f<|z2n<|z37 (fun aa ww h=>⟨nvl [v31],Zu h [3]⟩)
     ·
      refine gKn 41 Z h24<|z2b<|z2n<|z37 (fun aa ww h=>⟨nvl [v5],Zu h [3]⟩)
  ·
   refine gEx fun n32=>gSR<|Zm Z<|Za Z<|Zb Z<|z0j<|Ze [(n32 0)] [3] Z
def zbw (a0:z12):Option ((List UInt8) × Int) :=
 zbz ({ a0 with Sig:=(⟨0,0⟩:z0y) }) >>= fun r2 =>
 if r2 != 0 then
  some ([],r2)
 else
  zhc (({ a0 with Sig:=(⟨0,0⟩:z0y) }).Preds) >>= fun r5 =>
  z5e ((({ a0 with Sig:=(⟨0,0⟩:z0y) }).Author).toUInt64) >>= fun r7 =>
  z5e (({ a0 with Sig:=(⟨0,0⟩:z0y) }).Stamp) >>= fun r10 =>
  z1i [[111],r7,r5.1,r10,[(({ a0 with Sig:=(⟨0,0⟩:z0y) }).Act).Kind]] >>= fun r13 =>
  if ((({ a0 with Sig:=(⟨0,0⟩:z0y) }).Act).Kind)==1 then
   some (r13,0)
  else
   chk (((({ a0 with Sig:=(⟨0,0⟩:z0y) }).Act).Key).length≤281474976710656) >>= fun u18 =>
   zai ((({ a0 with Sig:=(⟨0,0⟩:z0y) }).Act).Key) >>= fun r20 =>
   app 1 r13 r20.1 >>= fun x22 =>
   if ((({ a0 with Sig:=(⟨0,0⟩:z0y) }).Act).Kind)==4 then
    zbe ((({ a0 with Sig:=(⟨0,0⟩:z0y) }).Act).Value) >>= fun r26 =>
    app 1 x22 r26.1 >>= fun x28 =>
    some (x28,0)
   else
    some (x22,0)
set_option maxHeartbeats 4000000 in
theorem zfs (a0:z12):z1y Tryz.prog 77 [.rd z0z a0] [] (zbw a0) (fun r nv=>⟨[.val (nv 0),.rd z09 r.2],[(100,some (nv 0,.list u8R 5 r.1))]⟩):=by
 refine z2l 71 Tryz.func77 Z Z Z fun H w=>?_
 refine gSR<|Eb Z (bx 1 Z) fun v1=>Za Z<|Zb Z<|gSR<|Zq (bld (x':=(⟨0,0⟩:z0y)) [(0,1),(1,1)] Tryz.underlying70 znt Z zy3 Z (Bld.done Z))<|Zq (faB 1 Z Z Tryz.underlying72 Z (by exact znt))<|Es (sto 1 Z Z (fP (z3d _)) Z znt)<|Zn<|z0m<|gSR<|Zq (ld 1 Z Z fH ziu Z)<|Zc [] [] Tryz.func107 Z (zea _) fun r2 n3=>Zb Z<|gSR<|Zm Z<|Zq (I.neq Z Z)<|Zj Z (fun h4=>?_) (fun h4=>?_)
 ·
  refine gSR<|Zm Z<|Za Z<|Zb Z<|z0j<|z0v<|zkt u8R 5 2<|Ze [(.slice none 0 0)] [2] Z
 ·
  refine Zt<|gSR<|Zq (faB 1 Z Z Tryz.underlying72 Z (by exact zby))<|Zq (ld 1 Z Z (fP (z19 _)) zb1 Z)<|Zc [] [(100,3)] Tryz.func108 Z (zna _) fun r5 n6=>Zm Z<|Zq (ext Z Z)<|Zq (ext Z Z)<|Za Z<|Zb Z<|z0m<|gFrz 3 [23,5] Z (fS Z<|fS Z<|fN)<|zxj [(1,.val (z05 v1 0)),(5,.rd (z03 u8R) r5.1)] [(1,some (v1,.box 72 [.rd z0z ({ a0 with Sig:=(⟨0,0⟩:z0y) })]))] [1] (sS Z<|sS Z<|sN) (y1 Z)<|z9q fun r7 h9=>z9q fun r10 h12=>z9q fun r13 h15=>gOr [] [⟨4,none,[(0,none)]⟩,⟨1,some ([], fun nv=>(v1,.box 72 [.rd z0z ({ a0 with Sig:=(⟨0,0⟩:z0y) })])),[]⟩,⟨5,none,[(4,none)]⟩,⟨6,none,[(8,none)]⟩,⟨7,none,[(12,none)]⟩,⟨8,none,[(13,none)]⟩,⟨9,none,[(14,some ([6], fun nv=>((nv 6),.list u8R 5 r13)))]⟩] [⟨some (25,[], fun nv=>.rd (z03 u8R) [111]),[(0,0,true)],[1],[]⟩,pk 26 (.val (z05 v1 (0+0))) [(1,0,false)],pk 27 (.rd z0o (({ a0 with Sig:=(⟨0,0⟩:z0y) }).Author)) [(1,0,false)],pd 28 (.rd z35 ((({ a0 with Sig:=(⟨0,0⟩:z0y) }).Author).toUInt64)),⟨some (29,[], fun nv=>.rd (z03 u8R) r7),[(2,0,true)],[2],[]⟩,pd 30 (.rd (z03 u8R) r5.1),pk 31 (.val (z05 v1 (0+2))) [(1,0,false)],pk 32 (.rd z35 (({ a0 with Sig:=(⟨0,0⟩:z0y) }).Stamp)) [(1,0,false)],⟨some (33,[], fun nv=>.rd (z03 u8R) r10),[(3,0,true)],[3],[]⟩,pk 34 (.val (z05 v1 (0+3))) [(1,0,false)],pk 35 (.val (z05 v1 (0+3+0))) [(1,0,false)],pk 36 (.rd u8R ((({ a0 with Sig:=(⟨0,0⟩:z0y) }).Act).Kind)) [(1,0,false)],⟨some (37,[], fun nv=>.rd (z03 u8R) [(({ a0 with Sig:=(⟨0,0⟩:z0y) }).Act).Kind]),[(4,0,true)],[4],[]⟩,⟨some (38,[], fun nv=>.rd (z03 (z03 u8R)) [[111],r7,r5.1,r10,[(({ a0 with Sig:=(⟨0,0⟩:z0y) }).Act).Kind]]),[(5,0,true)],[5],[]⟩,⟨some (39,[6], fun nv=>.val (nv 6)),[(6,0,true)],[6],[]⟩,⟨some (7,[6], fun nv=>.val (nv 6)),[],[],[]⟩] mixed (oC (oFz (A1:=fun nv=>[(4,some ((nv 1),.list u8R 5 [111]))]) 4 1 (oEf 4 1 (fun nv E=>lit (R:=u8R) ([111]:List UInt8) 4 (pP Z Z<|pN) Z tu129 ti5 Z Z)))<|oC (oRn (fun nv E=>faB 1 Z Z Tryz.underlying72 Z (by exact z5c)))<|oC (oRn (fun nv E=>ld 1 Z Z (fP (z4z _)) z7y Z))<|oC (oRn (fun nv E=>W.toU Z tu65 tu52))<|oC (oFz (A1:=fun nv=>[(5,some ((nv 2),.list u8R 5 r7))]) 5 2 (oCl [2] [] [(100,5)] h9 Tryz.func110 Z (fun nv=>(z5f _)) (fun nv=>(Y1 Z)) (fun nv E=>rN)))<|oC (oRn (fun nv E=>mv Z))<|oC (oRn (fun nv E=>faB 1 Z Z Tryz.underlying72 Z (by exact zmg)))<|oC (oRn (fun nv E=>ld 1 Z Z (fP (z2t _)) zku Z))<|oC (oFz (A1:=fun nv=>[(6,some ((nv 3),.list u8R 5 r10))]) 6 3 (oCl [3] [] [(100,6)] h12 Tryz.func110 Z (fun nv=>(z5f _)) (fun nv=>(Y1 Z)) (fun nv E=>rN)))<|oC (oRn (fun nv E=>faB 1 Z Z Tryz.underlying72 Z (by exact ze6)))<|oC (oRn (fun nv E=>faB 1 Z Z Tryz.underlying64 Z (by exact ti5)))<|oC (oRn (fun nv E=>ld 1 Z Z ((fP (z0n _)).part (z13 _)) ty5 Z))<|oC (oFz (A1:=fun nv=>[(7,some ((nv 4),.list u8R 5 [(({ a0 with Sig:=(⟨0,0⟩:z0y) }).Act).Kind]))]) 7 4 (oEf 7 4 (fun nv E=>lit (R:=u8R) ([(({ a0 with Sig:=(⟨0,0⟩:z0y) }).Act).Kind]:List UInt8) 7 (pP Z Z<|pN) Z tu129 ti5 Z Z)))<|oC (oFz (A1:=fun nv=>[(8,some ((nv 5),.list (z03 u8R) 129 [[111],r7,r5.1,r10,[(({ a0 with Sig:=(⟨0,0⟩:z0y) }).Act).Kind]]))]) 8 5 (oEf 8 5 (fun nv E=>lit (R:=(z03 u8R)) ([[111],r7,r5.1,r10,[(({ a0 with Sig:=(⟨0,0⟩:z0y) }).Act).Kind]]:List (List UInt8)) 8 (pP Z Z<|pP Z Z<|pP Z Z<|pP Z Z<|pP Z Z<|pN) Z tu201 zfg Z Z)))<|oC (oCl [6] [] [(100,9)] h15 Tryz.func109 Z (fun nv=>(z4t _)) (fun nv=>(Y1 Z)) (fun nv E=>rN))<|oC (oRn (fun nv E=>asg Z))<|oN) fun n16=>z0e<|z0m<|gSR<|Zq (faB 1 Z Z Tryz.underlying72 Z (by exact ze6))<|Zq (faB 1 Z Z Tryz.underlying64 Z (by exact ti5))<|Zq (ld 1 Z Z ((fP (z0n _)).part (z13 _)) ty5 Z)<|Zq (B.eql Z Z)<|Zj Z (fun h17=>?_) (fun h17=>?_)
  ·
   refine gSR<|Zm Z<|Za Z<|Zb Z<|z0j<|z0v<|Ze [(n16 6)] [9] Z
  ·
   refine Zt<|gSR<|Zq (faB 1 Z Z Tryz.underlying72 Z (by exact ze6))<|Zq (faB 1 Z Z Tryz.underlying64 Z (by exact ti9))<|Zq (ld 1 Z Z ((fP (z0n _)).part (z1l _)) ty9 Z)<|z0g fun u18 h19=>zu5 Z Z h19 tu9 tu129 tu5<|Zc [] [(100,10)] Tryz.func111 Z (zfz _) fun r20 n21=>Zm Z<|Zq (ext Z Z)<|Zq (ext Z Z)<|Za Z<|Zb Z<|gSR<|Zm Z<|Zm Z<|z0g fun x22 h23=>Ef Z (apn 9 Z Z Z (.own 10 Z) h23 tu129 ti5 Z Z Z) fun v24=>Zb Z<|z0m<|gSR<|Zq (faB 1 Z Z Tryz.underlying72 Z (by exact ze6))<|Zq (faB 1 Z Z Tryz.underlying64 Z (by exact ti5))<|Zq (ld 1 Z Z ((fP (z0n _)).part (z13 _)) ty5 Z)<|Zq (B.eql Z Z)<|Zj Z (fun h25=>?_) (fun h25=>?_)
   ·
    refine gSR<|Zq (faB 1 Z Z Tryz.underlying72 Z (by exact ze6))<|Zq (faB 1 Z Z Tryz.underlying64 Z (by exact z9k))<|Zq (ld 1 Z Z ((fP (z0n _)).part (z2v _)) zey Z)<|Zc [] [(100,11)] Tryz.func112 Z (zi0 _) fun r26 n27=>Zm Z<|Zq (ext Z Z)<|Zq (ext Z Z)<|Za Z<|Zb Z<|z1o<|Zm Z<|Zm Z<|z0g fun x28 h29=>Ef Z (apn 9 Z Z Z (.own 11 Z) h29 tu129 ti5 Z Z Z) fun v30=>Zb Z<|gSR<|Zm Z<|Za Z<|Zb Z<|z0j<|Ze [v30] [9] Z
   ·
    refine Zt<|gSR<|Zm Z<|Za Z<|Zb Z<|z0j<|Ze [v24] [9] Z
def zbu (a0:z12):Option ((List UInt8) × Int) :=
 zbz a0 >>= fun r2 =>
 if r2 != 0 then
  some ([],r2)
 else
  zbw a0 >>= fun r5 =>
  z5e a0.Sig.E.toUInt64 >>= fun r7 =>
  z5e a0.Sig.S.toUInt64 >>= fun r9 =>
  z1i [r5.1,r7,r9] >>= fun r12 =>
  some (r12,0)
theorem zl7 (a0:z12):z1y Tryz.prog 118 [.rd z0z a0] [] (zbu a0) (fun r nv=>⟨[.val (nv 0),.rd z09 r.2],[(100,some (nv 0,.list u8R 5 r.1))]⟩):=by
 refine z2l 30 Tryz.func118 Z Z Z fun H w=>?_
 refine gSR<|Eb Z (bx 1 Z) fun v1=>Za Z<|Zb Z<|z0m<|gSR<|Zq (ld 1 Z Z fH ziu Z)<|Zc [] [] Tryz.func107 Z (zea _) fun r2 n3=>Zb Z<|gSR<|Zm Z<|Zq (I.neq Z Z)<|Zj Z (fun h4=>?_) (fun h4=>?_)
 ·
  refine gSR<|Zm Z<|Za Z<|Zb Z<|z0j<|z0v<|zkt u8R 5 2<|Ze [(.slice none 0 0)] [2] Z
 ·
  refine Zt<|gSR<|Zq (ld 1 Z Z fH ziu Z)<|Zc [] [(100,3)] Tryz.func77 Z (zfs _) fun r5 n6=>Zm Z<|Zq (ext Z Z)<|Zq (ext Z Z)<|Za Z<|Zb Z<|z0m<|z6p [19,34,37,40] mixed Z Z<|hTk 0 Z Z (mv Z)<|hTk 1 Z Z (faB 1 Z Z Tryz.underlying72 Z (by exact znt))<|hTk 2 Z Z (faB 1 Z Z Tryz.underlying70 Z (by exact z5c))<|hTk 3 Z Z (ld 1 Z Z ((fP (z3d _)).part (z4e _)) z7y Z)<|hTk 4 Z Z (W.toU Z tu65 tu52)<|hTk 6 Z Z (faB 1 Z Z Tryz.underlying72 Z (by exact znt))<|hTk 7 Z Z (faB 1 Z Z Tryz.underlying70 Z (by exact z5c))<|hTk 8 Z Z (ld 1 Z Z ((fP (z3d _)).part (z64 _)) z7y Z)<|hTk 9 Z Z (W.toU Z tu65 tu52)<|z3c 5 [] [(100,19)] Z (by kernel_rfl) Z (gd0 Z) Z Tryz.func110 Z Z (z5f _) (Y1 Z) rN Z (fun _ _=>z2f) fun r7 n8=>z3c 10 [] [(100,34)] Z (by kernel_rfl) Z (gd0 Z) Z Tryz.func110 Z Z (z5f _) (Y1 Z) rN Z (fun _ _=>z2f) fun r9 n10=>zqr 3 [15,5,17] Z (fS Z<|fS Z<|fS Z<|fN)<|zqr 19 [22] Z (fS Z<|fN)<|zqr 34 [27] Z (fS Z<|fN)<|Zo 11 Z Z Z (lit (R:=(z03 u8R)) ([r5.1,r7,r9]:List (List UInt8)) 37 (pP Z Z<|pP Z Z<|pP Z Z<|pN) Z tu201 zfg Z Z) fun v11=>zqr 37 [28] Z (fS Z<|fN)<|z3c 12 [] [(100,40)] Z (by kernel_rfl) Z (gd0 Z) Z Tryz.func109 Z Z (z4t _) (Y1 Z) rN Z (fun _ _=>z2f) fun r12 n13=>Zf 13 Z Z z2f (asg Z)<|hTk 14 Z Z (asg Z)<|z3l (by kernel_rfl)<|z0e<|z0j<|Ze [(n13 0)] [40] Z
def zat (a0:List UInt8):Option (Bool) :=
 some (decide (10000<(a0.length:Int))) >>= fun y1 =>
 some y1
theorem zf9 (a0:List UInt8):z1y Tryz.prog 202 [.rd (z03 u8R) a0] [] (zat a0) (fun r nv=>⟨[.rd z08 r],[]⟩):=by
 refine z2l 6 Tryz.func202 Z Z Z fun H w=>?_
 refine gSR<|Zb Z<|gSR<|Zm Z<|Zq (z3q Z .rd Z tu129)<|Zq (I.gtr Z Z)<|Za Z<|z1e 2 Z fun y1=>Zn<|z0j<|Ze [] [] Z
def zbf  : Option (z1r) :=
 some (⟨(#v[1779033703,3144134277,1013904242,2773480762,1359893119,2600822924,528734635,1541459225]:Vector UInt32 8),[],0⟩:z1r)
theorem zhr  : z1y Tryz.prog 203 [] [] (zbf) (fun r nv=>⟨[.rd z25 r],[]⟩):=by
 refine z2l 3 Tryz.func203 Z Z Z fun H w=>?_
 refine gSR<|Eb Z (z9b 1 zj4 (ZrE.rd (R:=(z3i 8 z0o)) (x:=(Vector.replicate 8 0)) zmc (ZrE.nilS (ZrE.rd (R:=z09) (x:=0) (Zr.num Z) ZrE.nil Z)) Z)) fun v1=>Zn<|gSR<|Zq (litA (R:=z0o) [1779033703,3144134277,1013904242,2773480762,1359893119,2600822924,528734635,1541459225] (#v[1779033703,3144134277,1013904242,2773480762,1359893119,2600822924,528734635,1541459225]:Vector UInt32 8) (pP Z Z<|pP Z Z<|pP Z Z<|pP Z Z<|pP Z Z<|pP Z Z<|pP Z Z<|pP Z Z<|pN) Z tu194 zdt Z z5c)<|Zq (bldE [(0,8),(8,1),(9,1)] Tryz.underlying241 zj4 (ZrE.rd (R:=(z3i 8 z0o)) (x:=(Vector.replicate 8 0)) zmc (ZrE.nilS (ZrE.rd (R:=z09) (x:=0) (Zr.num Z) ZrE.nil Z)) Z) Z (zpx.cons Z Z z9m (zh1.cast (zh1.here z9m) Z)<|zpx.done Z))<|Es (stoG 1 Z Z (z8l.cast (z8l.cons z9m (z8l.cons z7z (z8l.cons z9m z8l.nil))) Z) Z (zj6.cons zrg (zj6.cons zdl (zj6.cons zrg zj6.nil))) (z8l.cast (z8l.cons z9m (z8l.cons z7z (z8l.cons z9m z8l.nil))) Z) zj4)<|Zn<|z0j<|ePnl u8R [.rd (z3i 8 z0o) (#v[1779033703,3144134277,1013904242,2773480762,1359893119,2600822924,528734635,1541459225]:Vector UInt32 8),.rd (z03 u8R) [],.rd z09 0] 1 [.rd (z3i 8 z0o) (#v[1779033703,3144134277,1013904242,2773480762,1359893119,2600822924,528734635,1541459225]:Vector UInt32 8)] [.rd z09 0] Z Z Z<|eJoi (R:=z25) (⟨(#v[1779033703,3144134277,1013904242,2773480762,1359893119,2600822924,528734635,1541459225]:Vector UInt32 8),[],0⟩:z1r) 1 Z (Sp.via (Sp.prod (Sp.prod (Sp.prod Sp.unit))))<|zdj [] [] Z (eC 1 Z Z zm3<|eN) (rN)
def z17 (a0:UInt32) (a1:Int):Option (UInt32) :=
 some ((UInt64.ofInt a1) &&& 31) >>= fun y1 =>
 some ((zki a0 y1.toNat) ||| (z3y a0 ((32 - y1).toNat))) >>= fun y2 =>
 some y2
theorem z1k (a0:UInt32) (a1:Int):z1y Tryz.prog 236 [.rd z0o a0,.rd z09 a1] [] (z17 a0 a1) (fun r nv=>⟨[.rd z0o r],[]⟩):=by
 refine z2l 17 Tryz.func236 Z Z Z fun H w=>?_
 refine gSR<|Zb Z<|gSR<|Zm Z<|Zq (I.toU Z tu3 Tryz.underlying149)<|Zq (U.and Z Z)<|Za Z<|z1e 5 Z fun y1=>Zn<|gSR<|Zm Z<|Zm Z<|Zq (W.shl Z Z (Int.natCast_nonneg _))<|Zm Z<|Zm Z<|Zq (U.sub Z Z)<|Zq (W.shr Z Z (Int.natCast_nonneg _))<|Zq (W.or Z Z)<|Za Z<|z1e 4 Z fun y2=>Zn<|z0j<|Ze [] [] Z
def z56 (x3:List UInt8) (s5:(Vector UInt32 64) × Int):Option (Sum ((Vector UInt32 64)) ((Vector UInt32 64) × Int)) :=
 if decide (s5.2<(x3.length:Int)) then
  idx x3 s5.2 >>= fun x7 =>
  z62 s5.1 (w64 (Int.tdiv s5.2 4)) >>= fun x9 =>
  z62 s5.1 (w64 (Int.tdiv s5.2 4)) >>= fun x11 =>
  some (.inr (zex s5.1 (w64 (Int.tdiv s5.2 4)) ((zki x9 8) ||| x7.toUInt32),w64 (s5.2+1)))
 else
  some (.inl s5.1)
def z3z (s14:(Vector UInt32 64) × Int):Option (Sum ((Vector UInt32 64)) ((Vector UInt32 64) × Int)) :=
 if decide (s14.2<64) then
  z62 s14.1 (w64 (s14.2 - 15)) >>= fun x16 =>
  z62 s14.1 (w64 (s14.2 - 2)) >>= fun x18 =>
  z17 x16 (-7) >>= fun r20 =>
  z17 x16 (-18) >>= fun r22 =>
  some ((r20 ^^^ r22) ^^^ (z3y x16 3)) >>= fun y24 =>
  z17 x18 (-17) >>= fun r25 =>
  z17 x18 (-19) >>= fun r27 =>
  some ((r25 ^^^ r27) ^^^ (z3y x18 10)) >>= fun y29 =>
  z62 s14.1 (w64 (s14.2 - 16)) >>= fun x30 =>
  z62 s14.1 (w64 (s14.2 - 7)) >>= fun x32 =>
  z62 s14.1 s14.2 >>= fun x34 =>
  some (w64 (s14.2+1)) >>= fun y37 =>
  some (.inr (zex s14.1 s14.2 (((x30+x32)+y24)+y29),y37))
 else
  some (.inl s14.1)
def zav (a0:List UInt8):Option ((Vector UInt32 64)) :=
 (cut a0 0 64 >>= fun x3 =>
 iter (z56 x3) ((Vector.replicate 64 0),0)) >>= fun s2 =>
 (iter (z3z) (s2,16)) >>= fun s13 =>
 some s13
set_option maxHeartbeats 4000000 in
theorem zfb (a0:List UInt8):z1y Tryz.prog 231 [.rd (z03 u8R) a0] [] (zav a0) (fun r nv=>⟨[.rd (z3i 64 z0o) r],[]⟩):=by
 refine z2l 74 Tryz.func231 Z Z Z fun H w=>?_
 refine gSR<|Eb Z (z9b 1 zr8 (.zr (R:=(z3i 64 z0o)) (x:=(Vector.replicate 64 0)) zyt)) fun v1=>Zn<|z6t (fun (s2:(Vector UInt32 64)) aa ww=>Sta (ctx 74 H [] w) [(2,.val (z05 v1 0))] [(1,some (v1,.box 264 [.rd (z3i 64 z0o) s2]))] aa ww) ?_ (fun s2=>?_)
 ·
  refine gSR<|Zm Z<|z0g fun x3 h4=>Zq (zwo Z .no (.to Z) h4 tu129 ti5)<|Zq (z3q Z .rd Z tu129)<|Zm Z<|Zn<|z1q (fun (s5:(Vector UInt32 64) × Int) aa ww=>Sta (ctx 74 H [] w) [(2,.val (z05 v1 0)),(11,.rd (z03 u8R) x3),(12,.rd z09 (x3.length:Int)),(13,.rd z09 s5.2)] [(1,some (v1,.box 264 [.rd (z3i 64 z0o) s5.1]))] aa ww) (fun aa ww h=>Zu h [1]) (fun s5=>?_)
  refine gSR<|Zq (I.lss Z Z)<|Zn<|z0m<|gIf Z Z (fun h6=>?_) (fun h6=>?_)
  ·
   refine Zt<|z0m<|z4s<|gSR<|Zm Z<|z0g fun x7 h8=>Zq (ixR Z Z h8 tu129 ti5 Z)<|Zq (ldR Z ty5)<|Za Z<|Zb Z<|z1o<|Zm Z<|Zq (I.quo Z Z (by decide))<|Zm Z<|Zq (I.quo Z Z (by decide))<|z0g fun x9 h10=>Zq (ixB 1 Z Z Z h10 Tryz.underlying264 z5c)<|Zq (ld 1 Z Z (fP (.el h10)) z7y Z)<|Zq (W.shl Z Z (Int.natCast_nonneg _))<|Zm Z<|Zq (B.toW Z tu5 tu65)<|Zq (W.or Z Z)<|z0g fun x11 h12=>Zq (ixB 1 Z Z Z h12 Tryz.underlying264 z5c)<|Es (sto 1 Z Z (fP (.el h12)) Z z5c)<|z1f<|z2n<|z0e<|z1o<|Zq (I.add Z Z)<|Zm Z<|z1f<|z14 (fun aa ww h=>Zu h [1])
  ·
   refine z1d<|z0p<|z0s<|z37 (fun aa ww h=>Zu h [1])
 ·
  refine z6t (fun (s13:(Vector UInt32 64)) aa ww=>Sta (ctx 74 H [] w) [(2,.val (z05 v1 0))] [(1,some (v1,.box 264 [.rd (z3i 64 z0o) s13]))] aa ww) ?_ (fun s13=>?_)
  ·
   refine gSR<|Zb Z<|z1q (fun (s14:(Vector UInt32 64) × Int) aa ww=>Sta (ctx 74 H [] w) [(2,.val (z05 v1 0)),(5,.rd z09 s14.2)] [(1,some (v1,.box 264 [.rd (z3i 64 z0o) s14.1]))] aa ww) (fun aa ww h=>Zu h [1]) (fun s14=>?_)
   refine z0m<|gSR<|Zm Z<|Zq (I.lss Z Z)<|Zj Z (fun h15=>?_) (fun h15=>?_)
   ·
    refine Zt<|z0m<|z4s<|z0m<|zdz mixed (by kernel_rfl)<|Rq Z (mv Z)<|Rq Z (I.sub Z Z)<|z55 fun x16 h17=>Rq Z (ixB 1 Z Z Z h17 Tryz.underlying264 z5c)<|Rq Z (ld 1 Z Z (fP (.el h17)) z7y Z)<|Rq Z (mv Z)<|Rq Z (I.sub Z Z)<|z55 fun x18 h19=>Rq Z (ixB 1 Z Z Z h19 Tryz.underlying264 z5c)<|Rq Z (ld 1 Z Z (fP (.el h19)) z7y Z)<|Rq Z (asg Z)<|Rq Z (asg Z)<|zks<|z0e<|gSR<|Zm Z<|Zc [] [] Tryz.func236 Z (z1k _ _) fun r20 n21=>Zm Z<|Zc [] [] Tryz.func236 Z (z1k _ _) fun r22 n23=>Zq (W.xor Z Z)<|Zm Z<|Zq (W.shr Z Z (Int.natCast_nonneg _))<|Zq (W.xor Z Z)<|Za Z<|z1e 8 Z fun y24=>Zn<|gSR<|Zm Z<|Zc [] [] Tryz.func236 Z (z1k _ _) fun r25 n26=>Zm Z<|Zc [] [] Tryz.func236 Z (z1k _ _) fun r27 n28=>Zq (W.xor Z Z)<|Zm Z<|Zq (W.shr Z Z (Int.natCast_nonneg _))<|Zq (W.xor Z Z)<|Za Z<|z1e 9 Z fun y29=>Zn<|zxj [(2,.val (z05 v1 0)),(5,.rd z09 s14.2),(8,.rd z0o y24),(9,.rd z0o y29)] [(1,some (v1,.box 264 [.rd (z3i 64 z0o) s14.1]))] [1] (Zs Z Z Z Z<|sN) (y1 Z)<|z9q fun x30 h31=>z9q fun x32 h33=>z9q fun x34 h35=>gOr [] [⟨1,some ([], fun nv=>(v1,.box 264 [.rd (z3i 64 z0o) s14.1])),[(15,some ([], fun nv=>(v1,.box 264 [.rd (z3i 64 z0o) (zex s14.1 s14.2 (((x30+x32)+y24)+y29))])))]⟩] [pd 58 (.rd z09 s14.2),pd 59 (.rd z09 s14.2),pd 60 (.rd z09 (w64 (s14.2 - 16))),pk 61 (.val (z05 v1 (0+(w64 (s14.2 - 16):Int).toNat * 1))) [(0,0,false)],pk 62 (.rd z0o x30) [(0,0,false)],pd 63 (.rd z09 s14.2),pd 64 (.rd z09 (w64 (s14.2 - 7))),pk 65 (.val (z05 v1 (0+(w64 (s14.2 - 7):Int).toNat * 1))) [(0,0,false)],pk 66 (.rd z0o x32) [(0,0,false)],pd 67 (.rd z0o (x30+x32)),pd 68 (.rd z0o y24),pd 69 (.rd z0o ((x30+x32)+y24)),pd 70 (.rd z0o y29),pd 71 (.rd z0o (((x30+x32)+y24)+y29)),pk 72 (.val (z05 v1 (0+(s14.2:Int).toNat * 1))) [(0,0,false)],⟨none,[(0,0,true)],[],[]⟩] mixed (oC (oRn (fun nv E=>mv Z))<|oC (oRn (fun nv E=>mv Z))<|oC (oRn (fun nv E=>I.sub Z Z))<|oC (oRn (fun nv E=>ixB 1 Z Z Z h31 Tryz.underlying264 z5c))<|oC (oRn (fun nv E=>ld 1 Z Z (fP (.el h31)) z7y Z))<|oC (oRn (fun nv E=>mv Z))<|oC (oRn (fun nv E=>I.sub Z Z))<|oC (oRn (fun nv E=>ixB 1 Z Z Z h33 Tryz.underlying264 z5c))<|oC (oRn (fun nv E=>ld 1 Z Z (fP (.el h33)) z7y Z))<|oC (oRn (fun nv E=>W.add Z Z))<|oC (oRn (fun nv E=>mv Z))<|oC (oRn (fun nv E=>W.add Z Z))<|oC (oRn (fun nv E=>mv Z))<|oC (oRn (fun nv E=>W.add Z Z))<|oC (oRn (fun nv E=>ixB 1 Z Z Z h35 Tryz.underlying264 z5c))<|oC (oEs 1 (fun nv E=>sto 1 Z Z (fP (.el h35)) Z z5c))<|oN) fun n36=>z2n<|z0e<|z1o<|Zm Z<|Zq (I.add Z Z)<|Za Z<|z1e 5 Z fun y37=>z1f<|z14 (fun aa ww h=>Zu h [1])
   ·
    refine z1d<|z0p<|z0s<|z37 (fun aa ww h=>Zu h [1])
  ·
   refine gSR<|Zq (ld 1 Z Z fH zzt Z)<|Es (sto 1 Z Z fH Z zr8)<|Zn<|z0j<|zdj [] [] Z (eC 1 Z Z zzt<|eN) (rN)
def zbv (a0:UInt32) (a1:Int) (a2:Int) (a3:Int):Option (UInt32) :=
 z17 a0 (w64 (0 - a1)) >>= fun r1 =>
 z17 a0 (w64 (0 - a2)) >>= fun r3 =>
 z17 a0 (w64 (0 - a3)) >>= fun r5 =>
 some ((r1 ^^^ r3) ^^^ r5) >>= fun y7 =>
 some y7
theorem zfp (a0:UInt32) (a1:Int) (a2:Int) (a3:Int):z1y Tryz.prog 232 [.rd z0o a0,.rd z09 a1,.rd z09 a2,.rd z09 a3] [] (zbv a0 a1 a2 a3) (fun r nv=>⟨[.rd z0o r],[]⟩):=by
 refine z2l 23 Tryz.func232 Z Z Z fun H w=>?_
 refine gSR<|Zb Z<|gSR<|Zm Z<|Zm Z<|Zq (I.neg Z)<|Zc [] [] Tryz.func236 Z (z1k _ _) fun r1 n2=>Zm Z<|Zm Z<|Zq (I.neg Z)<|Zc [] [] Tryz.func236 Z (z1k _ _) fun r3 n4=>Zq (W.xor Z Z)<|Zm Z<|Zm Z<|Zq (I.neg Z)<|Zc [] [] Tryz.func236 Z (z1k _ _) fun r5 n6=>Zq (W.xor Z Z)<|Za Z<|z1e 8 Z fun y7=>Zn<|z0j<|Ze [] [] Z
def z6q (a0:List UInt8):Option ((List UInt8)) :=
 app 1 ([]:List UInt8) a0 >>= fun x3 =>
 some x3
theorem z83 (a0:List UInt8):z1y Tryz.prog 225 [.rd (z03 u8R) a0] [] (z6q a0) (fun r nv=>⟨[.val (nv 0)],[(100,some (nv 0,.list u8R 5 r))]⟩):=by
 refine z2l 8 Tryz.func225 Z Z Z fun H w=>?_
 refine gSR<|Zb Z<|z0m<|gSR<|Zm Z<|zzk Z Z .rd Z tu129 (fun h1=>?_) ?_
 ·
  subst h1
  refine Zn<|zc9 Z<|gSR<|Zb Z<|z0j<|z0v<|zkt u8R 5 1<|Ze [(.slice none 0 0)] [1] Z
 ·
  refine Zn<|z9o Z<|Zt<|gSR<|Ef Z (lit (R:=u8R) (([]:List UInt8):List UInt8) 2 (pN) Z tu129 ti5 Z Z) fun v2=>Zm Z<|z0g fun x3 h4=>Ef Z (apn 2 Z Z Z .rd h4 tu129 ti5 Z Z Z) fun v5=>Zb Z<|z0j<|Ze [v5] [2] Z
def z4i (r1:(Vector UInt32 64)) (s21:UInt32 × UInt32 × UInt32 × UInt32 × UInt32 × UInt32 × UInt32 × UInt32 × Int):Option (Sum (UInt32 × UInt32 × UInt32 × UInt32 × UInt32 × UInt32 × UInt32 × UInt32) (UInt32 × UInt32 × UInt32 × UInt32 × UInt32 × UInt32 × UInt32 × UInt32 × Int)) :=
 if decide (s21.2.2.2.2.2.2.2.2<64) then
  z62 z7v s21.2.2.2.2.2.2.2.2 >>= fun x23 =>
  z62 r1 s21.2.2.2.2.2.2.2.2 >>= fun x25 =>
  zbv s21.2.2.2.2.1 6 11 25 >>= fun r27 =>
  some ((((s21.2.2.2.2.2.2.2.1+r27)+((s21.2.2.2.2.1 &&& s21.2.2.2.2.2.1) ^^^ ((~~~s21.2.2.2.2.1) &&& s21.2.2.2.2.2.2.1)))+x23)+x25) >>= fun y29 =>
  zbv s21.1 2 13 22 >>= fun r30 =>
  some (r30+(((s21.1 &&& s21.2.1) ^^^ (s21.1 &&& s21.2.2.1)) ^^^ (s21.2.1 &&& s21.2.2.1))) >>= fun y32 =>
  some (s21.2.2.2.1+y29) >>= fun y33 =>
  some (.inr (y29+y32,s21.1,s21.2.1,s21.2.2.1,y33,s21.2.2.2.2.1,s21.2.2.2.2.2.1,s21.2.2.2.2.2.2.1,w64 (s21.2.2.2.2.2.2.2.2+1)))
 else
  some (.inl (s21.1,s21.2.1,s21.2.2.1,s21.2.2.2.1,s21.2.2.2.2.1,s21.2.2.2.2.2.1,s21.2.2.2.2.2.2.1,s21.2.2.2.2.2.2.2.1))
def zam (s20:UInt32 × UInt32 × UInt32 × UInt32 × UInt32 × UInt32 × UInt32 × UInt32) (s34:(Vector UInt32 8) × Int):Option (Sum ((Vector UInt32 8)) ((Vector UInt32 8) × Int)) :=
 if decide (s34.2<8) then
  z62 (#v[s20.1,s20.2.1,s20.2.2.1,s20.2.2.2.1,s20.2.2.2.2.1,s20.2.2.2.2.2.1,s20.2.2.2.2.2.2.1,s20.2.2.2.2.2.2.2]:Vector UInt32 8) s34.2 >>= fun x36 =>
  z62 s34.1 s34.2 >>= fun x38 =>
  z62 s34.1 s34.2 >>= fun x40 =>
  some (.inr (zex s34.1 s34.2 (x38+x36),w64 (s34.2+1)))
 else
  some (.inl s34.1)
def zbg (c0:Vector UInt32 8) (a1:List UInt8):Option ((Vector UInt32 8)) :=
 zav a1 >>= fun r1 =>
 z62 c0 0 >>= fun x4 =>
 z62 c0 1 >>= fun x6 =>
 z62 c0 2 >>= fun x8 =>
 z62 c0 3 >>= fun x10 =>
 z62 c0 4 >>= fun x12 =>
 z62 c0 5 >>= fun x14 =>
 z62 c0 6 >>= fun x16 =>
 z62 c0 7 >>= fun x18 =>
 (iter (z4i r1) (x4,x6,x8,x10,x12,x14,x16,x18,0)) >>= fun s20 =>
 iter (zam s20) (c0,0)
theorem zii (ph0:Value) (kh0:Nat) (uh0:(Vector UInt32 8)→z3p) (hh0:∀ y,Foc (uh0 y) kh0 (z3i 8 z0o) y uh0) (c0:Vector UInt32 8) (a1:List UInt8):z1y Tryz.prog 224 [.val (z05 ph0 kh0),.rd (z03 u8R) a1] [(1,some (ph0,uh0 c0)),zG1] (zbg c0 a1) (fun r nv=>⟨[],[(1,some (ph0,uh0 r)),(1001,some (.bool true,.glob 1 (z3i 64 z0o) z7v))]⟩):=by
 refine z2l 126 Tryz.func224 Z Z Z fun H w=>?_
 refine gSR<|Zm Z<|Zc [] [] Tryz.func231 Z (zfb _) fun r1 n2=>Eb Z (z9b 2 zr8 (.zr (R:=(z3i 64 z0o)) (x:=(Vector.replicate 64 0)) zyt)) fun v3=>Es (sto 2 Z Z fH Z zr8)<|Zn<|z0m<|zdz mixed (by kernel_rfl)<|Rq Z (mv Z)<|Rq Z (zt3 1 Z Z (hh0 _))<|z55 fun x4 h5=>Rq Z (ixH 1 Z Z (hh0 _) Z h5 tu194 z5c)<|Rq Z (ld 1 Z Z ((hh0 _).part (.el h5)) z7y Z)<|Rq Z (mv Z)<|Rq Z (zt3 1 Z Z (hh0 _))<|z55 fun x6 h7=>Rq Z (ixH 1 Z Z (hh0 _) Z h7 tu194 z5c)<|Rq Z (ld 1 Z Z ((hh0 _).part (.el h7)) z7y Z)<|Rq Z (mv Z)<|Rq Z (zt3 1 Z Z (hh0 _))<|z55 fun x8 h9=>Rq Z (ixH 1 Z Z (hh0 _) Z h9 tu194 z5c)<|Rq Z (ld 1 Z Z ((hh0 _).part (.el h9)) z7y Z)<|Rq Z (mv Z)<|Rq Z (zt3 1 Z Z (hh0 _))<|z55 fun x10 h11=>Rq Z (ixH 1 Z Z (hh0 _) Z h11 tu194 z5c)<|Rq Z (ld 1 Z Z ((hh0 _).part (.el h11)) z7y Z)<|Rq Z (mv Z)<|Rq Z (zt3 1 Z Z (hh0 _))<|z55 fun x12 h13=>Rq Z (ixH 1 Z Z (hh0 _) Z h13 tu194 z5c)<|Rq Z (ld 1 Z Z ((hh0 _).part (.el h13)) z7y Z)<|Rq Z (mv Z)<|Rq Z (zt3 1 Z Z (hh0 _))<|z55 fun x14 h15=>Rq Z (ixH 1 Z Z (hh0 _) Z h15 tu194 z5c)<|Rq Z (ld 1 Z Z ((hh0 _).part (.el h15)) z7y Z)<|Rq Z (mv Z)<|Rq Z (zt3 1 Z Z (hh0 _))<|z55 fun x16 h17=>Rq Z (ixH 1 Z Z (hh0 _) Z h17 tu194 z5c)<|Rq Z (ld 1 Z Z ((hh0 _).part (.el h17)) z7y Z)<|Rq Z (mv Z)<|Rq Z (zt3 1 Z Z (hh0 _))<|z55 fun x18 h19=>Rq Z (ixH 1 Z Z (hh0 _) Z h19 tu194 z5c)<|Rq Z (ld 1 Z Z ((hh0 _).part (.el h19)) z7y Z)<|Rq Z (asg Z)<|Rq Z (asg Z)<|Rq Z (asg Z)<|Rq Z (asg Z)<|Rq Z (asg Z)<|Rq Z (asg Z)<|Rq Z (asg Z)<|Rq Z (asg Z)<|zks<|z0e<|z6t (fun (s20:UInt32 × UInt32 × UInt32 × UInt32 × UInt32 × UInt32 × UInt32 × UInt32) aa ww=>Sta (ctx 126 H [(1,some (ph0,uh0 c0)),zG1] w) [(0,.val (z05 ph0 kh0)),(5,.rd z0o s20.1),(6,.rd z0o s20.2.1),(7,.rd z0o s20.2.2.1),(8,.rd z0o s20.2.2.2.1),(9,.rd z0o s20.2.2.2.2.1),(10,.rd z0o s20.2.2.2.2.2.1),(11,.rd z0o s20.2.2.2.2.2.2.1),(12,.rd z0o s20.2.2.2.2.2.2.2)] [(1,some (ph0,uh0 c0)),zG1] aa ww) ?_ (fun s20=>?_)
 ·
  refine gSR<|Zm Z<|Zn<|z1q (fun (s21:UInt32 × UInt32 × UInt32 × UInt32 × UInt32 × UInt32 × UInt32 × UInt32 × Int) aa ww=>Sta (ctx 126 H [(1,some (ph0,uh0 c0)),zG1] w) [(0,.val (z05 ph0 kh0)),(4,.val (z05 v3 0)),(5,.rd z0o s21.1),(6,.rd z0o s21.2.1),(7,.rd z0o s21.2.2.1),(8,.rd z0o s21.2.2.2.1),(9,.rd z0o s21.2.2.2.2.1),(10,.rd z0o s21.2.2.2.2.2.1),(11,.rd z0o s21.2.2.2.2.2.2.1),(12,.rd z0o s21.2.2.2.2.2.2.2.1),(52,.rd z09 s21.2.2.2.2.2.2.2.2)] [(1,some (ph0,uh0 c0)),(2,some (v3,.box 264 [.rd (z3i 64 z0o) r1])),zG1] aa ww) (fun aa ww h=>Zu h [1,2,1001]) (fun s21=>?_)
  refine gSR<|Zq (I.lss Z Z)<|Zn<|z0m<|gIf Z Z (fun h22=>?_) (fun h22=>?_)
  ·
   refine Zt<|z0m<|z4s<|gSR<|Zm Z<|Zb Z<|z0m<|z6p [] mixed Z Z<|hTk 0 Z Z (mv Z)<|hTk 1 Z Z (mv Z)<|hTk 4 Z Z (mv Z)<|hTk 5 Z Z (mv Z)<|hTk 6 Z Z (W.and Z Z)<|hTk 7 Z Z (mv Z)<|hTk 8 Z Z (W.cpl Z)<|hTk 9 Z Z (mv Z)<|hTk 10 Z Z (W.and Z Z)<|hTk 11 Z Z (W.xor Z Z)<|hTk 13 Z Z (mv Z)<|z36 fun x23 h24=>hTk 14 Z Z (ixG 1001 Z Z h24 Tryz.underlying264 z5c)<|hTk 15 Z Z (ldR Z z7y)<|hTk 17 Z Z (mv Z)<|z36 fun x25 h26=>hTk 18 Z Z (ixB 2 Z Z Z h26 Tryz.underlying264 z5c)<|hTk 19 Z Z (ld 2 Z Z (fP (.el h26)) z7y Z)<|z3c 2 [] [] Z (by kernel_rfl) Z (gd0 Z) Z Tryz.func232 Z Z (zfp _ _ _ _) (aQ Z<|aQ Z<|aQ Z<|aQ Z<|aN) rN Z (fun _ _=>z2j) fun r27 n28=>hTk 3 Z Z (W.add Z Z)<|hTk 12 Z Z (W.add Z Z)<|hTk 16 Z Z (W.add Z Z)<|hTk 20 Z Z (W.add Z Z)<|hTk 21 Z Z (asg Z)<|zqm 14 Z Z fun y29=>z3l (by kernel_rfl)<|z0e<|gSR<|Zm Z<|Zc [] [] Tryz.func232 Z (zfp _ _ _ _) fun r30 n31=>Zm Z<|Zm Z<|Zq (W.and Z Z)<|Zm Z<|Zm Z<|Zq (W.and Z Z)<|Zq (W.xor Z Z)<|Zm Z<|Zm Z<|Zq (W.and Z Z)<|Zq (W.xor Z Z)<|Zq (W.add Z Z)<|Za Z<|z1e 15 Z fun y32=>Zn<|z1o<|Zm Z<|Zm Z<|Zq (W.add Z Z)<|Zm Z<|Zm Z<|Zm Z<|Zm Z<|Zm Z<|Zq (W.add Z Z)<|Zm Z<|Zm Z<|Zm Z<|Za Z<|Za Z<|Za Z<|Za Z<|Za Z<|z1e 9 Z fun y33=>Za Z<|Za Z<|Za Z<|z1f<|z2n<|z0e<|z1o<|Zq (I.add Z Z)<|Zm Z<|z1f<|z14 (fun aa ww h=>Zu h [1,2,1001])
  ·
   refine z1d<|z0p<|z0s<|z37 (fun aa ww h=>Zu h [1,1001])
 ·
  refine gSR<|Zm Z<|Zm Z<|Zm Z<|Zm Z<|Zm Z<|Zm Z<|Zm Z<|Zm Z<|Zq (litA (R:=z0o) [s20.1,s20.2.1,s20.2.2.1,s20.2.2.2.1,s20.2.2.2.2.1,s20.2.2.2.2.2.1,s20.2.2.2.2.2.2.1,s20.2.2.2.2.2.2.2] (#v[s20.1,s20.2.1,s20.2.2.1,s20.2.2.2.1,s20.2.2.2.2.1,s20.2.2.2.2.2.1,s20.2.2.2.2.2.2.1,s20.2.2.2.2.2.2.2]:Vector UInt32 8) (pP Z Z<|pP Z Z<|pP Z Z<|pP Z Z<|pP Z Z<|pP Z Z<|pP Z Z<|pP Z Z<|pN) Z tu194 zdt Z z5c)<|Zm Z<|Zn<|z1q (fun (s34:(Vector UInt32 8) × Int) aa ww=>Sta (ctx 126 H [(1,some (ph0,uh0 c0)),zG1] w) [(0,.val (z05 ph0 kh0)),(111,.rd (z3i 8 z0o) (#v[s20.1,s20.2.1,s20.2.2.1,s20.2.2.2.1,s20.2.2.2.2.1,s20.2.2.2.2.2.1,s20.2.2.2.2.2.2.1,s20.2.2.2.2.2.2.2]:Vector UInt32 8)),(112,.rd z09 s34.2)] [(1,some (ph0,uh0 s34.1)),zG1] aa ww) (fun aa ww h=>Zu h [1,1001]) (fun s34=>?_)
  refine gSR<|Zq (I.lss Z Z)<|Zn<|z0m<|gIf Z Z (fun h35=>?_) (fun h35=>?_)
  ·
   refine Zt<|z0m<|z4s<|gSR<|Zm Z<|z0g fun x36 h37=>Zq (idxV Z Z h37 tu194 z5c z7y)<|Za Z<|Zb Z<|z6p [1] mixed Z Z<|hTk 0 Z Z (mv Z)<|hTk 1 Z Z (mv Z)<|hTk 2 Z Z (zt3 1 Z Z (hh0 _))<|z36 fun x38 h39=>hTk 3 Z Z (ixH 1 Z Z (hh0 _) Z h39 tu194 z5c)<|hTk 5 Z Z (mv Z)<|hTk 7 Z Z (zt3 1 Z Z (hh0 _))<|hRun 4 Z (by kernel_rfl) (gd0 Z) Z Z z2j (ld 1 Z Z ((hh0 _).part (.el h39)) z7y Z)<|hTk 6 Z Z (W.add Z Z)<|z36 fun x40 h41=>hTk 8 Z Z (ixH 1 Z Z (hh0 _) Z h41 tu194 z5c)<|Zp 9 Z Z Z Z Z (sto 1 Z Z ((hh0 _).part (.el h41)) Z z5c)<|z3l (by kernel_rfl)<|z2n<|z0e<|z1o<|Zq (I.add Z Z)<|Zm Z<|z1f<|z14 (fun aa ww h=>Zu h [1,1001])
  ·
   refine z1d<|z0p<|z0s<|Ze [] [1,1001] Z
def z80 (s7:z1r × (List UInt8)):Option (Sum (z1r × (List UInt8)) (z1r × (List UInt8))) :=
 if decide (64≤(s7.2.length:Int)) then
  zbg s7.1.Words s7.2 >>= fun r10 =>
  cut s7.2 64 (s7.2.length:Int) >>= fun x12 =>
  some (.inr ({ s7.1 with Words:=r10 },x12))
 else
  some (.inl (s7.1,s7.2))
def z9e (a0:z1r) (a1:List UInt8):Option (z1r) :=
 z1i [a0.Rest,a1] >>= fun r4 =>
 (iter (z80) (a0,r4)) >>= fun s6 =>
 z6q s6.2 >>= fun r14 =>
 some (⟨({ s6.1 with N:=w64 (s6.1.N+(a1.length:Int)) }).Words,r14,({ s6.1 with N:=w64 (s6.1.N+(a1.length:Int)) }).N⟩:z1r)
theorem ze4 (a0:z1r) (a1:List UInt8):z1y Tryz.prog 204 [.rd z25 a0,.rd (z03 u8R) a1] [zG1] (z9e a0 a1) (fun r nv=>⟨[.rd z25 r],[(1001,some (.bool true,.glob 1 (z3i 64 z0o) z7v))]⟩):=by
 refine z2l 29 Tryz.func204 Z Z Z fun H w=>?_
 refine gSR<|Eb Z (bx 1 Z) fun v1=>Eb Z (z9b 2 zj4 (ZrE.rd (R:=(z3i 8 z0o)) (x:=(Vector.replicate 8 0)) zmc (ZrE.nilS (ZrE.rd (R:=z09) (x:=0) (Zr.num Z) ZrE.nil Z)) Z)) fun v2=>Zn<|gSR<|Zq (faB 1 Z Z Tryz.underlying241 Z (by exact zfg))<|Zq (ld 1 Z Z (fP (zh7 _)) zrt Z)<|Zm Z<|Ef Z (lit (R:=(z03 u8R)) ([a0.Rest,a1]:List (List UInt8)) 3 (pP Z Z<|pP Z Z<|pN) Z tu201 zfg Z Z) fun v3=>zh3 3 [9] Z (fS Z<|fN)<|Zc [] [(100,4)] Tryz.func109 Z (z4t _) fun r4 n5=>Zb Z<|z6t (fun (s6:z1r × (List UInt8)) aa ww=>Sta (ctx 29 H [zG1] w) [(1,.rd (z03 u8R) a1),(2,.val (z05 v1 0)),(4,.val (z05 v2 0)),(5,.rd (z03 u8R) s6.2)] [(1,some (v1,.box 241 [.rd z25 s6.1])),(2,some (v2,.box 241 [.rd (z3i 8 z0o) (Vector.replicate 8 0),.val (.slice none 0 0),.rd z09 0])),zG1] aa ww) ?_ (fun s6=>?_)
 ·
  refine gFrz 4 [10,5] Z (fS Z<|fS Z<|fN)<|z1q (fun (s7:z1r × (List UInt8)) aa ww=>Sta (ctx 29 H [zG1] w) [(1,.rd (z03 u8R) a1),(2,.val (z05 v1 0)),(4,.val (z05 v2 0)),(5,.rd (z03 u8R) s7.2)] [(1,some (v1,.box 241 [.rd z25 s7.1])),(2,some (v2,.box 241 [.rd (z3i 8 z0o) (Vector.replicate 8 0),.val (.slice none 0 0),.rd z09 0])),zG1] aa ww) (fun aa ww h=>Zu h [1,2,1001]) (fun s7=>?_)
  refine z0m<|gSR<|Zm Z<|Zq (z3q Z .rd Z tu129)<|Zq (I.geq Z Z)<|Zj Z (fun h8=>?_) (fun h8=>?_)
  ·
   refine Zt<|z4s<|gSR<|Zq (faB 1 Z Z Tryz.underlying241 Z (by exact zdt))<|Zm Z<|call [1,1001] [(1,1)] Z Tryz.func224 Z Z (zii _ _ (fun y9=>.box 241 [.rd z25 ({ s7.1 with Words:=y9 })]) (fun _=>(fP (zbp _))) _ _) (Y2 Z Z) (Zi Z<|Zi Z<|rN) fun r10 n11=>Zn<|z1o<|Zm Z<|z0g fun x12 h13=>Zq (zwo Z (.to Z) .no h13 tu129 ti5)<|Za Z<|z1f<|z2n<|z14 (fun aa ww h=>Zu h [1,2,1001])
  ·
   refine z1d<|z0p<|z0s<|z37 (fun aa ww h=>Zu h [1,2,1001])
 ·
  refine z0m<|z6p [1,1020] mixed Z Z<|hTk 0 Z Z (faB 1 Z Z Tryz.underlying241 Z (by exact ti3))<|hTk 2 Z Z (mv Z)<|hTk 3 Z Z (z3q Z .rd Z tu129)<|hTk 5 Z Z (mv Z)<|hAlt [1,6] (by kernel_rfl) Z ⟨?_,?_,trivial⟩
  ·
   refine oRun 1 Z (gd0 Z) Z Z z2j (ld 1 Z Z (fP (z7d _)) ty3 Z)<|hTk 4 Z Z (I.add Z Z)<|z3c 6 [] [(100,1020)] Z (by kernel_rfl) Z (gd0 Z) Z Tryz.func225 Z Z (z83 _) (Y1 Z) rN Z (fun _ _=>z2f) fun r14 n15=>hTk 7 Z Z (faB 1 Z Z Tryz.underlying241 Z (by exact ti3))<|Zp 8 Z Z Z Z Z (sto 1 Z Z (fP (z7d _)) Z ti3)<|Zf 9 Z Z z2f (faB 1 Z Z Tryz.underlying241 Z (by exact zfg))<|hSpl (R:=z25) 1 Z (Sp.via (Sp.prod (Sp.prod (Sp.prod Sp.unit))))<|Zp 10 Z Z Z Z Z (stoE 1 Z Z (zh1.cast (zh1.next z9m (zh1.here z9m)) Z) Z zdl z7z zfg)<|z3l (by kernel_rfl)<|z0e<|gSR<|lPow [.rd (z3i 8 z0o) (({ s6.1 with N:=w64 (s6.1.N+(a1.length:Int)) }).Words),.rd (z03 u8R) r14,.rd z09 (({ s6.1 with N:=w64 (s6.1.N+(a1.length:Int)) }).N)] 1 1020 [.rd (z3i 8 z0o) (({ s6.1 with N:=w64 (s6.1.N+(a1.length:Int)) }).Words)] [.rd z09 (({ s6.1 with N:=w64 (s6.1.N+(a1.length:Int)) }).N)] Z Z Z Z Z<|zt4 (R:=z25) (⟨({ s6.1 with N:=w64 (s6.1.N+(a1.length:Int)) }).Words,r14,({ s6.1 with N:=w64 (s6.1.N+(a1.length:Int)) }).N⟩:z1r) 1 Z (Sp.via (Sp.prod (Sp.prod (Sp.prod Sp.unit))))<|Zq (ld 1 Z Z fH zm3 Z)<|zvl u8R [.rd (z3i 8 z0o) (Vector.replicate 8 0),.rd (z03 u8R) [],.rd z09 0] 2 [.rd (z3i 8 z0o) (Vector.replicate 8 0)] [.rd z09 0] Z Z Z<|zt4 (R:=z25) (⟨(Vector.replicate 8 0),[],0⟩:z1r) 2 Z (Sp.via (Sp.prod (Sp.prod (Sp.prod Sp.unit))))<|Es (sto 2 Z Z fH Z zj4)<|Zn<|z0j<|zdj [] [1001] Z (eC 2 Z Z zm3<|eN) (y1 Z)
  ·
   refine zz3 6 [] [(100,1020)] Z Z (gd0 Z) Z Tryz.func225 Z Z (z83 _) (Y1 Z) rN Z (fun _ _=>z2f) fun r16 n17=>hRun 1 Z (by kernel_rfl) (gd0 Z) Z Z z2j (ld 1 Z Z (fP (z7d _)) ty3 Z)<|hTk 4 Z Z (I.add Z Z)<|hTk 7 Z Z (faB 1 Z Z Tryz.underlying241 Z (by exact ti3))<|Zp 8 Z Z Z Z Z (sto 1 Z Z (fP (z7d _)) Z ti3)<|Zf 9 Z Z z2f (faB 1 Z Z Tryz.underlying241 Z (by exact zfg))<|hSpl (R:=z25) 1 Z (Sp.via (Sp.prod (Sp.prod (Sp.prod Sp.unit))))<|Zp 10 Z Z Z Z Z (stoE 1 Z Z (zh1.cast (zh1.next z9m (zh1.here z9m)) Z) Z zdl z7z zfg)<|z3l (by kernel_rfl)<|z0e<|gSR<|lPow [.rd (z3i 8 z0o) (({ s6.1 with N:=w64 (s6.1.N+(a1.length:Int)) }).Words),.rd (z03 u8R) r16,.rd z09 (({ s6.1 with N:=w64 (s6.1.N+(a1.length:Int)) }).N)] 1 1020 [.rd (z3i 8 z0o) (({ s6.1 with N:=w64 (s6.1.N+(a1.length:Int)) }).Words)] [.rd z09 (({ s6.1 with N:=w64 (s6.1.N+(a1.length:Int)) }).N)] Z Z Z Z Z<|zt4 (R:=z25) (⟨({ s6.1 with N:=w64 (s6.1.N+(a1.length:Int)) }).Words,r16,({ s6.1 with N:=w64 (s6.1.N+(a1.length:Int)) }).N⟩:z1r) 1 Z (Sp.via (Sp.prod (Sp.prod (Sp.prod Sp.unit))))<|Zq (ld 1 Z Z fH zm3 Z)<|zvl u8R [.rd (z3i 8 z0o) (Vector.replicate 8 0),.rd (z03 u8R) [],.rd z09 0] 2 [.rd (z3i 8 z0o) (Vector.replicate 8 0)] [.rd z09 0] Z Z Z<|zt4 (R:=z25) (⟨(Vector.replicate 8 0),[],0⟩:z1r) 2 Z (Sp.via (Sp.prod (Sp.prod (Sp.prod Sp.unit))))<|Es (sto 2 Z Z fH Z zj4)<|Zn<|z0j<|zdj [] [1001] Z (eC 2 Z Z zm3<|eN) (y1 Z)
def z8t (y3:UInt64) (s9:(List UInt8) × Int):Option (Sum ((List UInt8)) ((List UInt8) × Int)) :=
 if decide (0≤s9.2) then
  chk (0≤s9.2) >>= fun u12 =>
  app 1 s9.1 [(z61 y3 ((s9.2:Int).toNat)).toUInt8] >>= fun x15 =>
  some (w64 (s9.2 - 8)) >>= fun y18 =>
  some (.inr (x15,y18))
 else
  some (.inl s9.1)
def z7n (r21:z1r) (s23:V3 × Int):Option (Sum (V3) (V3 × Int)) :=
 if decide (s23.2<8) then
  z62 r21.Words s23.2 >>= fun x25 =>
  z62 s23.1 (w64 (4 * s23.2)) >>= fun x27 =>
  z62 (zex s23.1 (w64 (4 * s23.2)) ((z3y x25 24).toUInt8)) (w64 ((w64 (4 * s23.2))+1)) >>= fun x29 =>
  z62 (zex (zex s23.1 (w64 (4 * s23.2)) ((z3y x25 24).toUInt8)) (w64 ((w64 (4 * s23.2))+1)) ((z3y x25 16).toUInt8)) (w64 ((w64 (4 * s23.2))+2)) >>= fun x31 =>
  z62 (zex (zex (zex s23.1 (w64 (4 * s23.2)) ((z3y x25 24).toUInt8)) (w64 ((w64 (4 * s23.2))+1)) ((z3y x25 16).toUInt8)) (w64 ((w64 (4 * s23.2))+2)) ((z3y x25 8).toUInt8)) (w64 ((w64 (4 * s23.2))+3)) >>= fun x33 =>
  some (.inr (zex (zex (zex (zex s23.1 (w64 (4 * s23.2)) ((z3y x25 24).toUInt8)) (w64 ((w64 (4 * s23.2))+1)) ((z3y x25 16).toUInt8)) (w64 ((w64 (4 * s23.2))+2)) ((z3y x25 8).toUInt8)) (w64 ((w64 (4 * s23.2))+3)) x25.toUInt8,w64 (s23.2+1)))
 else
  some (.inl s23.1)
def zdd (a0:z1r):Option (V3) :=
 some ((UInt64.ofInt a0.N) * 8) >>= fun y3 =>
 zy4 1 [128] 0 (Int.tmod (w64 (119 - (Int.tmod a0.N 64))) 64) >>= fun x5 =>
 (iter (z8t y3) (x5,56)) >>= fun s8 =>
 (z9e a0 s8 >>= fun r21 =>
 iter (z7n r21) ((Vector.replicate 32 0),0)) >>= fun s20 =>
 some s20
theorem zk1 (a0:z1r):z1y Tryz.prog 205 [.rd z25 a0] [zG1] (zdd a0) (fun r nv=>⟨[.rd aZ r],[(1001,some (.bool true,.glob 1 (z3i 64 z0o) z7v))]⟩):=by
 refine z2l 66 Tryz.func205 Z Z Z fun H w=>?_
 refine gSR<|Eb Z (bx 1 Z) fun v1=>Eb Z (z9b 2 z3j (.zr (R:=aZ) (x:=(Vector.replicate 32 0)) zje)) fun v2=>Zn<|gSR<|Zq (faB 1 Z Z Tryz.underlying241 Z (by exact ti3))<|Zq (ld 1 Z Z (fP (z7d _)) ty3 Z)<|Zq (I.toU Z tu3 tu52)<|Zq (U.mul Z Z)<|Za Z<|z1e 3 Z fun y3=>Zn<|gSR<|Ef Z (lit (R:=u8R) ([128]:List UInt8) 3 (pP Z Z<|pN) Z tu129 ti5 Z Z) fun v4=>Zq (faB 1 Z Z Tryz.underlying241 Z (by exact ti3))<|Zq (ld 1 Z Z (fP (z7d _)) ty3 Z)<|Zq (I.rem Z Z (by decide))<|Zq (I.sub Z Z)<|Zq (I.rem Z Z (by decide))<|z0g fun x5 h6=>Ef Z (apZO 3 Z Z Z h6 tu129 tu3 ti5 (Zr.num Z) Z) fun v7=>Zb Z<|z6t (fun (s8:(List UInt8)) aa ww=>∃ nv:Nat→Value,Sta (ctx 66 H [zG1] w) [(1,.val (z05 v1 0)),(2,.val (z05 v2 0)),(4,.val (nv 0))] [(1,some (v1,.box 241 [.rd z25 a0])),(2,some (v2,.box 78 [.rd aZ (Vector.replicate 32 0)])),(3,some ((nv 0),.list u8R 5 s8)),zG1] aa ww) ?_ (fun s8=>?_)
 ·
  refine gSR<|Zb Z<|z1q (fun (s9:(List UInt8) × Int) aa ww=>∃ nv:Nat→Value,Sta (ctx 66 H [zG1] w) [(1,.val (z05 v1 0)),(2,.val (z05 v2 0)),(3,.rd z35 y3),(4,.val (nv 0)),(5,.rd z09 s9.2)] [(1,some (v1,.box 241 [.rd z25 a0])),(2,some (v2,.box 78 [.rd aZ (Vector.replicate 32 0)])),(3,some ((nv 0),.list u8R 5 s9.1)),zG1] aa ww) (fun aa ww h=>⟨nvl [v7],Zu h [1,2,3,1001]⟩) (fun s9=>?_)
  refine gEx fun n10=>z0m<|gSR<|Zm Z<|Zq (I.geq Z Z)<|Zj Z (fun h11=>?_) (fun h11=>?_)
  ·
   refine Zt<|z0m<|z4s<|z1o<|Zm Z<|Zm Z<|Zm Z<|z0g fun u12 h13=>Zq (U.shr Z Z (z4c h13))<|Zq (U.toB Z tu52 tu5)<|Ef Z (lit (R:=u8R) ([(z61 y3 ((s9.2:Int).toNat)).toUInt8]:List UInt8) 1100 (pP Z Z<|pN) Z tu129 ti5 Z Z) fun v14=>z0g fun x15 h16=>Ef Z (apn 3 Z Z Z (.own 1100 Z) h16 tu129 ti5 Z Z Z) fun v17=>Za Z<|z1f<|z2n<|z0e<|z1o<|Zm Z<|Zq (I.sub Z Z)<|Za Z<|z1e 5 Z fun y18=>z1f<|z14 (fun aa ww h=>⟨nvl [v17],Zu h [1,2,3,1001]⟩)
  ·
   refine z1d<|z0p<|z0s<|z37 (fun aa ww h=>⟨nvl [(n10 0)],Zu h [1,2,3,1001]⟩)
 ·
  refine gEx fun n19=>z6t (fun (s20:V3) aa ww=>Sta (ctx 66 H [zG1] w) [(2,.val (z05 v2 0))] [(2,some (v2,.box 78 [.rd aZ s20])),zG1] aa ww) ?_ (fun s20=>?_)
  ·
   refine gSR<|Zq (ld 1 Z Z fH zm3 Z)<|Zm Z<|zh3 3 [4,31] Z (fS Z<|fS Z<|fN)<|Zc [1001] [] Tryz.func204 Z (ze4 _ _) fun r21 n22=>Zq (fldV Z (zbp _) Z Tryz.underlying241 Z zm8)<|Zm Z<|Zn<|z1q (fun (s23:V3 × Int) aa ww=>Sta (ctx 66 H [zG1] w) [(2,.val (z05 v2 0)),(33,.rd (z3i 8 z0o) r21.Words),(34,.rd z09 s23.2)] [(2,some (v2,.box 78 [.rd aZ s23.1])),zG1] aa ww) (fun aa ww h=>Zu h [2,1001]) (fun s23=>?_)
   refine gSR<|Zq (I.lss Z Z)<|Zn<|z0m<|gIf Z Z (fun h24=>?_) (fun h24=>?_)
   ·
    refine Zt<|z0m<|z4s<|gSR<|Zm Z<|z0g fun x25 h26=>Zq (idxV Z Z h26 tu194 z5c z7y)<|Za Z<|Zb Z<|z1o<|Zm Z<|Zq (I.mul Z Z)<|Zm Z<|Zq (I.mul Z Z)<|Zq (I.add Z Z)<|Zm Z<|Zq (I.mul Z Z)<|Zq (I.add Z Z)<|Zm Z<|Zq (I.mul Z Z)<|Zq (I.add Z Z)<|Zm Z<|Zq (W.shr Z Z (Int.natCast_nonneg _))<|Zq (W.toB Z tu65 tu5)<|Zm Z<|Zq (W.shr Z Z (Int.natCast_nonneg _))<|Zq (W.toB Z tu65 tu5)<|Zm Z<|Zq (W.shr Z Z (Int.natCast_nonneg _))<|Zq (W.toB Z tu65 tu5)<|Zm Z<|Zq (W.toB Z tu65 tu5)<|z0g fun x27 h28=>Zq (ixB 2 Z Z Z h28 tu78 ti5)<|Es (sto 2 Z Z (fP (.el h28)) Z ti5)<|z0g fun x29 h30=>Zq (ixB 2 Z Z Z h30 tu78 ti5)<|Es (sto 2 Z Z (fP (.el h30)) Z ti5)<|z0g fun x31 h32=>Zq (ixB 2 Z Z Z h32 tu78 ti5)<|Es (sto 2 Z Z (fP (.el h32)) Z ti5)<|z0g fun x33 h34=>Zq (ixB 2 Z Z Z h34 tu78 ti5)<|Es (sto 2 Z Z (fP (.el h34)) Z ti5)<|z1f<|z2n<|z0e<|z1o<|Zq (I.add Z Z)<|Zm Z<|z1f<|z14 (fun aa ww h=>Zu h [2,1001])
   ·
    refine z1d<|z0p<|z0s<|z37 (fun aa ww h=>Zu h [2,1001])
  ·
   refine gSR<|Zq (ld 2 Z Z fH z6z Z)<|Es (sto 2 Z Z fH Z z3j)<|Zn<|z0j<|zdj [] [1001] Z (eC 2 Z Z z6z<|eN) (y1 Z)
def z0u (a0:List (List UInt8)) (s2:Int):Option (Sum (Sum Int Unit) Int) :=
 if decide (s2<(a0.length:Int)) then
  idx a0 s2 >>= fun x4 =>
  zat x4 >>= fun r6 =>
  if r6 then
   some (.inl (.inl s2))
  else
   some (.inr (w64 (s2+1)))
 else
  some (.inl (.inr ()))
def z26 (a0:List (List UInt8)):Option (Int) :=
 z6w (iter (z0u a0) 0) fun s1 =>
 some (-1)
theorem z5y (a0:List (List UInt8)):z1y Tryz.prog 223 [.rd (z03 (z03 u8R)) a0,.val (.func (.func 202) #[] #[])] [] (z26 a0) (fun r nv=>⟨[.rd z09 r],[]⟩):=by
 refine z2l 19 Tryz.func223 Z Z Z fun H w=>?_
 refine gSR<|Zb Z<|z8j (fun (s1:Unit) aa ww=>Sta (ctx 19 H [] w) [] [] aa ww) ?_ (fun s1=>?_)
 ·
  refine gSR<|Zm Z<|Zq (z3q Z .rd Z tu201)<|Zm Z<|Zn<|z1q (fun (s2:Int) aa ww=>Sta (ctx 19 H [] w) [(0,.rd (z03 (z03 u8R)) a0),(1,.val (.func (.func 202) #[] #[])),(7,.rd z09 (a0.length:Int)),(8,.rd z09 s2)] [] aa ww) (fun aa ww h=>Zu h []) (fun s2=>?_)
  refine gSR<|Zq (I.lss Z Z)<|Zn<|z0m<|gIf Z Z (fun h3=>?_) (fun h3=>?_)
  ·
   refine Zt<|z0m<|z4s<|gSR<|Zm Z<|Zb Z<|gSR<|Zm Z<|Zm Z<|Zm Z<|z0g fun x4 h5=>Zq (ixR Z Z h5 tu201 zfg Z)<|Zq (ldR Z zrt)<|znh [] [] (gd0 Z) Z Z Tryz.func202 Z Z (zf9 _) (Y1 Z) (cN) rN fun r6 n7=>Zj Z (fun h8=>?_) (fun h8=>?_)
   ·
    refine gSR<|Zm Z<|Zb Z<|z0j<|z4h<|z0v<|z7x<|z6y<|Ze [] [] Z
   ·
    refine z2b<|z2n<|z0e<|z1o<|Zq (I.add Z Z)<|Zm Z<|z1f<|z14 (fun aa ww h=>Zu h [])
  ·
   refine z1d<|z0p<|z0s<|z6n (fun aa ww h=>Zu h [])
 ·
  refine gSR<|Zb Z<|z0j<|Ze [] [] Z
def z16 (a0:List (List UInt8)):Option (Bool) :=
 z26 a0 >>= fun r1 =>
 some (decide (0≤r1)) >>= fun y3 =>
 some y3
theorem z5b (a0:List (List UInt8)):z1y Tryz.prog 201 [.rd (z03 (z03 u8R)) a0,.val (.func (.func 202) #[] #[])] [] (z16 a0) (fun r nv=>⟨[.rd z08 r],[]⟩):=by
 refine z2l 9 Tryz.func201 Z Z Z fun H w=>?_
 refine gSR<|Zb Z<|gSR<|Zm Z<|Zm Z<|Zc [] [] Tryz.func223 Z (z5y _) fun r1 n2=>Zq (I.geq Z Z)<|Za Z<|z1e 4 Z fun y3=>Zn<|z0j<|Ze [] [] Z
def z6f (a0:List (List UInt8)) (s11:z1r × Int):Option (Sum z1r (z1r × Int)) :=
 if decide (s11.2<(a0.length:Int)) then
  idx a0 s11.2 >>= fun x13 =>
  z9e s11.1 x13 >>= fun r15 =>
  some (.inr (r15,w64 (s11.2+1)))
 else
  some (.inl s11.1)
def z96 (a0:List (List UInt8)):Option (V3 × Int) :=
 (if decide (20<(a0.length:Int)) then
  some true
 else
  z16 a0 >>= fun r4 =>
  some r4) >>= fun s2 =>
 if s2 then
  some ((Vector.replicate 32 0),4)
 else
  zbf >>= fun r7 =>
  (iter (z6f a0) (r7,0)) >>= fun s10 =>
  zdd s10 >>= fun r17 =>
  some (r17,0)
theorem zcm (a0:List (List UInt8)):z1y Tryz.prog 163 [.rd (z03 (z03 u8R)) a0] [zG1] (z96 a0) (fun r nv=>⟨[.rd aZ r.1,.rd z09 r.2],[(1001,some (.bool true,.glob 1 (z3i 64 z0o) z7v))]⟩):=by
 refine z2l 28 Tryz.func163 Z Z Z fun H w=>?_
 refine gSR<|Eb Z (z9b 1 z3j (.zr (R:=aZ) (x:=(Vector.replicate 32 0)) zje)) fun v1=>Zb Z<|z0m<|z6t (fun (s2:Bool) aa ww=>Sta (ctx 28 H [zG1] w) [(0,.rd (z03 (z03 u8R)) a0),(2,.val (z05 v1 0)),(13,.rd z08 s2)] [(1,some (v1,.box 78 [.rd aZ (Vector.replicate 32 0)])),zG1] aa ww) ?_ (fun s2=>?_)
 ·
  refine z1o<|Zm Z<|Zq (z3q Z .rd Z tu201)<|Zq (I.gtr Z Z)<|Zm Z<|z21 10 Z (fun h3=>?_) (fun h3=>?_)
  ·
   refine lKn 9 Z h3<|Zk Z<|Zk Z<|Zq (pkT Z Z)<|z1f<|z37 (fun aa ww h=>Zu h [1,1001])
  ·
   refine lKn 9 Z h3<|z1c Zx Z Z (mv Z)<|zgg [] [] Zx Z Tryz.func201 Z Z (z5b _) (Y2 Z Z) rN fun r4 n5=>Zq (pkF Z Z)<|z1f<|z37 (fun aa ww h=>Zu h [1,1001])
 ·
  refine gIf Z Z (fun h6=>?_) (fun h6=>?_)
  ·
   refine gSR<|Zq (bldG (x':=((Vector.replicate 32 0):V3)) tu78 z3j zje ti5 (Bld.done Z))<|Es (sto 1 Z Z fH Z z3j)<|Zb Z<|z0j<|z0v<|zdj [] [1001] Z (eC 1 Z Z z6z<|eE Z<|eN) (y1 Z)
  ·
   refine Zt<|gSR<|Zc [] [] Tryz.func203 Z (zhr) fun r7 n8=>Eb Z (z9b 1100 zj4 (ZrE.rd (R:=(z3i 8 z0o)) (x:=(Vector.replicate 8 0)) zmc (ZrE.nilS (ZrE.rd (R:=z09) (x:=0) (Zr.num Z) ZrE.nil Z)) Z)) fun v9=>zvl u8R [.rd (z3i 8 z0o) (Vector.replicate 8 0),.rd (z03 u8R) [],.rd z09 0] 1100 [.rd (z3i 8 z0o) (Vector.replicate 8 0)] [.rd z09 0] Z Z Z<|zt4 (R:=z25) (⟨(Vector.replicate 8 0),[],0⟩:z1r) 1100 Z (Sp.via (Sp.prod (Sp.prod (Sp.prod Sp.unit))))<|Es (sto 1100 Z Z fH Z zj4)<|Zn<|z6t (fun (s10:z1r) aa ww=>Sta (ctx 28 H [zG1] w) [(2,.val (z05 v1 0)),(4,.val (z05 v9 0))] [(1,some (v1,.box 78 [.rd aZ (Vector.replicate 32 0)])),(1100,some (v9,.box 241 [.rd z25 s10])),zG1] aa ww) ?_ (fun s10=>?_)
   ·
    refine gSR<|Zm Z<|Zq (z3q Z .rd Z tu201)<|Zm Z<|Zn<|z1q (fun (s11:z1r × Int) aa ww=>Sta (ctx 28 H [zG1] w) [(2,.val (z05 v1 0)),(4,.val (z05 v9 0)),(16,.rd (z03 (z03 u8R)) a0),(17,.rd z09 (a0.length:Int)),(18,.rd z09 s11.2)] [(1,some (v1,.box 78 [.rd aZ (Vector.replicate 32 0)])),(1100,some (v9,.box 241 [.rd z25 s11.1])),zG1] aa ww) (fun aa ww h=>Zu h [1,1100,1001]) (fun s11=>?_)
    refine gSR<|Zq (I.lss Z Z)<|Zn<|z0m<|gIf Z Z (fun h12=>?_) (fun h12=>?_)
    ·
     refine Zt<|z0m<|z4s<|gSR<|z0g fun x13 h14=>Zq (ixR Z Z h14 tu201 zfg Z)<|Zq (ldR Z zrt)<|Zb Z<|z1o<|Zq (ld 1100 Z Z fH zm3 Z)<|Zm Z<|Zc [1001] [] Tryz.func204 Z (ze4 _ _) fun r15 n16=>Es (sto 1100 Z Z fH Z zj4)<|z1f<|z2n<|z0e<|z1o<|Zq (I.add Z Z)<|Zm Z<|z1f<|z14 (fun aa ww h=>Zu h [1,1100,1001])
    ·
     refine z1d<|z0p<|z0s<|z37 (fun aa ww h=>Zu h [1,1100,1001])
   ·
    refine gSR<|Zq (ld 1100 Z Z fH zm3 Z)<|Zc [1001] [] Tryz.func205 Z (zk1 _) fun r17 n18=>Es (sto 1 Z Z fH Z z3j)<|Zb Z<|z0j<|zdj [] [1001] Z (eC 1 Z Z z6z<|eE Z<|eN) (y1 Z)
def zdk (a0:List UInt8):Option (V3 × Int) :=
 z96 [a0] >>= fun r3 =>
 some (r3.1,r3.2)
theorem zkc (a0:List UInt8):z1y Tryz.prog 119 [.rd (z03 u8R) a0] [zG1] (zdk a0) (fun r nv=>⟨[.rd aZ r.1,.rd z09 r.2],[(1001,some (.bool true,.glob 1 (z3i 64 z0o) z7v))]⟩):=by
 refine z2l 9 Tryz.func119 Z Z Z fun H w=>?_
 refine gSR<|Eb Z (z9b 1 z3j (.zr (R:=aZ) (x:=(Vector.replicate 32 0)) zje)) fun v1=>Zb Z<|gSR<|Zm Z<|Ef Z (lit (R:=(z03 u8R)) ([a0]:List (List UInt8)) 2 (pP Z Z<|pN) Z tu201 zfg Z Z) fun v2=>zh3 2 [5] Z (fS Z<|fN)<|Zc [1001] [] Tryz.func163 Z (zcm _) fun r3 n4=>Zq (ext Z Z)<|Zq (ext Z Z)<|Es (sto 1 Z Z fH Z z3j)<|Zb Z<|z0j<|zdj [] [1001] Z (eC 1 Z Z z6z<|eE Z<|eN) (y1 Z)
def zuc (a0:z12):Option (V3 × Int) :=
 zbu a0 >>= fun r3 =>
 if r3.2 != 0 then
  some ((Vector.replicate 32 0),r3.2)
 else
  zdk r3.1 >>= fun r6 =>
  some (r6.1,r6.2)
theorem zty (a0:z12):z1y Tryz.prog 80 [.rd z0z a0] [zG1] (zuc a0) (fun r nv=>⟨[.rd aZ r.1,.rd z09 r.2],[(1001,some (.bool true,.glob 1 (z3i 64 z0o) z7v))]⟩):=by
 refine z2l 19 Tryz.func80 Z Z Z fun H w=>?_
 refine gSR<|Eb Z (bx 1 Z) fun v1=>Eb Z (z9b 2 z3j (.zr (R:=aZ) (x:=(Vector.replicate 32 0)) zje)) fun v2=>Zb Z<|gSR<|Zq (ld 1 Z Z fH ziu Z)<|Zc [] [(100,3)] Tryz.func118 Z (zl7 _) fun r3 n4=>Zm Z<|Zq (ext Z Z)<|Zq (ext Z Z)<|Za Z<|Zb Z<|z0m<|gSR<|Zm Z<|Zq (I.neq Z Z)<|Zj Z (fun h5=>?_) (fun h5=>?_)
 ·
  refine gSR<|Zq (bldG (x':=((Vector.replicate 32 0):V3)) tu78 z3j zje ti5 (Bld.done Z))<|Zm Z<|Es (sto 2 Z Z fH Z z3j)<|Zb Z<|z0j<|z0v<|zdj [] [1001] Z (eC 2 Z Z z6z<|eE Z<|eN) (y1 Z)
 ·
  refine Zt<|gSR<|Zm Z<|zh3 3 [9,4,15] Z (fS Z<|fS Z<|fS Z<|fN)<|Zc [1001] [] Tryz.func119 Z (zkc _) fun r6 n7=>Zq (ext Z Z)<|Zq (ext Z Z)<|Es (sto 2 Z Z fH Z z3j)<|Zb Z<|z0j<|zdj [] [1001] Z (eC 2 Z Z z6z<|eE Z<|eN) (y1 Z)
def z3x (a0:List UInt32) (s2:Int):Option (Sum (Sum Bool Unit) Int) :=
 if decide (s2<(a0.length:Int)) then
  idx a0 s2 >>= fun x4 =>
  zdi x4 >>= fun r6 =>
  if !r6 then
   some (.inl (.inl false))
  else
   some (.inr (w64 (s2+1)))
 else
  some (.inl (.inr ()))
def zaz (a0:List UInt32):Option (Bool) :=
 z6w (iter (z3x a0) 0) fun s1 =>
 some true
theorem zgs (a0:List UInt32):z1y Tryz.prog 200 [.rd (z03 z0o) a0] [] (zaz a0) (fun r nv=>⟨[.rd z08 r],[]⟩):=by
 refine z2l 15 Tryz.func200 Z Z Z fun H w=>?_
 refine gSR<|Zb Z<|z8j (fun (s1:Unit) aa ww=>Sta (ctx 15 H [] w) [] [] aa ww) ?_ (fun s1=>?_)
 ·
  refine gSR<|Zm Z<|Zq (z3q Z .rd Z tu236)<|Zm Z<|Zn<|z1q (fun (s2:Int) aa ww=>Sta (ctx 15 H [] w) [(5,.rd (z03 z0o) a0),(6,.rd z09 (a0.length:Int)),(7,.rd z09 s2)] [] aa ww) (fun aa ww h=>Zu h []) (fun s2=>?_)
  refine gSR<|Zq (I.lss Z Z)<|Zn<|z0m<|gIf Z Z (fun h3=>?_) (fun h3=>?_)
  ·
   refine Zt<|z0m<|z4s<|gSR<|z0g fun x4 h5=>Zq (ixR Z Z h5 tu236 z5c Z)<|Zq (ldR Z z7y)<|Zb Z<|gSR<|Zm Z<|Zc [] [] Tryz.func153 Z (ze9 _) fun r6 n7=>Zq (zf6 Z)<|Zj Z (fun h8=>?_) (fun h8=>?_)
   ·
    refine gSR<|Zb Z<|z0j<|z4h<|z0v<|z7x<|z6y<|Ze [] [] Z
   ·
    refine z2b<|z2n<|z0e<|z1o<|Zq (I.add Z Z)<|Zm Z<|z1f<|z14 (fun aa ww h=>Zu h [])
  ·
   refine z1d<|z0p<|z0s<|z6n (fun aa ww h=>Zu h [])
 ·
  refine gSR<|Zb Z<|z0j<|Ze [] [] Z
def zht (a0:UInt32) (a1:UInt64):Option (UInt32 × Int) :=
 zaz [a0] >>= fun r2 =>
 if !r2 then
  some (0,2)
 else
  zbs a0 a1 >>= fun r5 =>
  some (r5,0)
end
section
open Go Go.RowKit
set_option maxRecDepth 100000
theorem zlz (a0:UInt32) (a1:UInt64):z1y Tryz.prog 161 [.rd z0o a0,.rd z35 a1] [] (zht a0 a1) (fun r nv=>⟨[.rd z0o r.1,.rd z09 r.2],[]⟩):=by
 refine z2l 13 Tryz.func161 Z Z Z fun H w=>?_
 refine gSR<|Za Z<|Zb Z<|z0m<|gSR<|Zm Z<|Ef Z (lit (R:=z0o) ([a0]:List UInt32) 1 (pP Z Z<|pN) Z tu236 z5c Z Z) fun v1=>zh3 1 [7] Z (fS Z<|fN)<|Zc [] [] Tryz.func200 Z (zgs _) fun r2 n3=>Zq (zf6 Z)<|Zj Z (fun h4=>?_) (fun h4=>?_)
 ·
  refine gSR<|Za Z<|Zb Z<|z0j<|z0v<|Ze [] [] Z
 ·
  refine Zt<|gSR<|Zm Z<|Zm Z<|Zc [] [] Tryz.func151 Z (zcv _ _) fun r5 n6=>Za Z<|Zb Z<|z0j<|Ze [] [] Z
def zgm (a0:UInt64):Option (UInt32) :=
 zbs 4 a0 >>= fun r1 =>
 some r1
theorem zjy (a0:UInt64):z1y Tryz.prog 106 [.rd z35 a0] [] (zgm a0) (fun r nv=>⟨[.rd z0o r],[]⟩):=by
 refine z2l 5 Tryz.func106 Z Z Z fun H w=>?_
 refine gSR<|Zb Z<|gSR<|Zm Z<|Zc [] [] Tryz.func151 Z (zcv _ _) fun r1 n2=>Zb Z<|z0j<|Ze [] [] Z
def zhz (a0:UInt32) (a1:UInt32):Option (UInt32 × Int) :=
 zaz [a0,a1] >>= fun r2 =>
 if !r2 then
  some (0,2)
 else
  zbt 1000000007 [a0,a1] >>= fun r6 =>
  some (r6,0)
theorem zl9 (a0:UInt32) (a1:UInt32):z1y Tryz.prog 162 [.rd z0o a0,.rd z0o a1] [] (zhz a0 a1) (fun r nv=>⟨[.rd z0o r.1,.rd z09 r.2],[]⟩):=by
 refine z2l 15 Tryz.func162 Z Z Z fun H w=>?_
 refine gSR<|Za Z<|Zb Z<|z0m<|gSR<|Zm Z<|Zm Z<|Ef Z (lit (R:=z0o) ([a0,a1]:List UInt32) 1 (pP Z Z<|pP Z Z<|pN) Z tu236 z5c Z Z) fun v1=>zh3 1 [8] Z (fS Z<|fN)<|Zc [] [] Tryz.func200 Z (zgs _) fun r2 n3=>Zq (zf6 Z)<|Zj Z (fun h4=>?_) (fun h4=>?_)
 ·
  refine gSR<|Za Z<|Zb Z<|z0j<|z0v<|Ze [] [] Z
 ·
  refine Zt<|gSR<|Zm Z<|Zm Z<|Ef Z (lit (R:=z0o) ([a0,a1]:List UInt32) 2 (pP Z Z<|pP Z Z<|pN) Z tu236 z5c Z Z) fun v5=>zh3 2 [13] Z (fS Z<|fN)<|Zc [] [] Tryz.func160 Z (zd4 _ _) fun r6 n7=>Za Z<|Zb Z<|z0j<|Ze [] [] Z
def z65 (a2:List UInt32) (s4:(List UInt8) × Int):Option (Sum ((List UInt8)) ((List UInt8) × Int)) :=
 if decide (s4.2<(a2.length:Int)) then
  idx a2 s4.2 >>= fun x7 =>
  app 1 s4.1 [(z3y x7 24).toUInt8,(z3y x7 16).toUInt8,(z3y x7 8).toUInt8,x7.toUInt8] >>= fun x10 =>
  some (.inr (x10,w64 (s4.2+1)))
 else
  some (.inl s4.1)
def z9t (r15:V3 × Int) (s19:UInt64 × Int):Option (Sum UInt64 (UInt64 × Int)) :=
 if decide (s19.2<(((r15.1.toList.drop 0).take 8).length:Int)) then
  idx ((r15.1.toList.drop 0).take 8) s19.2 >>= fun x21 =>
  some ((zkh s19.1 8) ||| x21.toUInt64) >>= fun y23 =>
  some (.inr (y23,w64 (s19.2+1)))
 else
  some (.inl s19.1)
def zfw (a0:UInt8) (a1:List UInt8) (a2:List UInt32):Option (UInt64 × Int) :=
 if decide (9991<(a1.length:Int)) then
  some (0,4)
 else
  (iter (z65 a2) ([a0],0)) >>= fun s3 =>
  z96 [s3,a1] >>= fun r15 =>
  (iter (z9t r15) (0,0)) >>= fun s18 =>
  some (s18,r15.2)
theorem zm4 (a0:UInt8) (a1:List UInt8) (a2:List UInt32):z1y Tryz.prog 159 [.rd u8R a0,.rd (z03 u8R) a1,.rd (z03 z0o) a2] [zG1] (zfw a0 a1 a2) (fun r nv=>⟨[.rd z35 r.1,.rd z09 r.2],[(1001,some (.bool true,.glob 1 (z3i 64 z0o) z7v))]⟩):=by
 refine z2l 63 Tryz.func159 Z Z Z fun H w=>?_
 refine gSR<|Za Z<|Zb Z<|z0m<|gSR<|Zm Z<|Zq (z3q Z .rd Z tu129)<|Zq (I.gtr Z Z)<|Zj Z (fun h1=>?_) (fun h1=>?_)
 ·
  refine gSR<|Za Z<|Zb Z<|z0j<|z0v<|Ze [] [1001] Z
 ·
  refine Zt<|gSR<|Zm Z<|Ef Z (lit (R:=u8R) ([a0]:List UInt8) 1 (pP Z Z<|pN) Z tu129 ti5 Z Z) fun v2=>Zb Z<|z6t (fun (s3:(List UInt8)) aa ww=>∃ nv:Nat→Value,Sta (ctx 63 H [zG1] w) [(1,.rd (z03 u8R) a1),(8,.val (nv 0))] [(1,some ((nv 0),.list u8R 5 s3)),zG1] aa ww) ?_ (fun s3=>?_)
  ·
   refine gSR<|Zm Z<|Zq (z3q Z .rd Z tu236)<|Zm Z<|Zn<|z1q (fun (s4:(List UInt8) × Int) aa ww=>∃ nv:Nat→Value,Sta (ctx 63 H [zG1] w) [(1,.rd (z03 u8R) a1),(8,.val (nv 0)),(21,.rd (z03 z0o) a2),(22,.rd z09 (a2.length:Int)),(23,.rd z09 s4.2)] [(1,some ((nv 0),.list u8R 5 s4.1)),zG1] aa ww) (fun aa ww h=>⟨nvl [v2],Zu h [1,1001]⟩) (fun s4=>?_)
   refine gEx fun n5=>gSR<|Zq (I.lss Z Z)<|Zn<|z0m<|gIf Z Z (fun h6=>?_) (fun h6=>?_)
   ·
    refine Zt<|z0m<|z4s<|gSR<|z0g fun x7 h8=>Zq (ixR Z Z h8 tu236 z5c Z)<|Zq (ldR Z z7y)<|Zb Z<|z1o<|Zm Z<|Zm Z<|Zq (W.shr Z Z (Int.natCast_nonneg _))<|Zq (W.toB Z tu65 tu5)<|Zm Z<|Zq (W.shr Z Z (Int.natCast_nonneg _))<|Zq (W.toB Z tu65 tu5)<|Zm Z<|Zq (W.shr Z Z (Int.natCast_nonneg _))<|Zq (W.toB Z tu65 tu5)<|Zm Z<|Zq (W.toB Z tu65 tu5)<|Ef Z (lit (R:=u8R) ([(z3y x7 24).toUInt8,(z3y x7 16).toUInt8,(z3y x7 8).toUInt8,x7.toUInt8]:List UInt8) 1100 (pP Z Z<|pP Z Z<|pP Z Z<|pP Z Z<|pN) Z tu129 ti5 Z Z) fun v9=>z0g fun x10 h11=>Ef Z (apn 1 Z Z Z (.own 1100 Z) h11 tu129 ti5 Z Z Z) fun v12=>Za Z<|z1f<|z2n<|z0e<|z1o<|Zq (I.add Z Z)<|Zm Z<|z1f<|z14 (fun aa ww h=>⟨nvl [v12],Zu h [1,1001]⟩)
   ·
    refine z1d<|z0p<|z0s<|z37 (fun aa ww h=>⟨nvl [(n5 0)],Zu h [1,1001]⟩)
  ·
   refine gEx fun n13=>gSR<|Zm Z<|Zm Z<|zh3 1 [8,43] Z (fS Z<|fS Z<|fN)<|Ef Z (lit (R:=(z03 u8R)) ([s3,a1]:List (List UInt8)) 1101 (pP Z Z<|pP Z Z<|pN) Z tu201 zfg Z Z) fun v14=>zh3 1101 [45] Z (fS Z<|fN)<|Zc [1001] [] Tryz.func163 Z (zcm _) fun r15 n16=>Zm Z<|Zq (ext Z Z)<|Zq (ext Z Z)<|Eb Z (z9b 1102 z3j (.zr (R:=aZ) (x:=(Vector.replicate 32 0)) zje)) fun v17=>Es (sto 1102 Z Z fH Z z3j)<|Zb Z<|gSR<|Zb Z<|z6t (fun (s18:UInt64) aa ww=>Sta (ctx 63 H [zG1] w) [(12,.rd z09 r15.2),(13,.rd z35 s18)] [zG1] aa ww) ?_ (fun s18=>?_)
   ·
    refine gSR<|z100 1102 11 Z Z<|Zq (z106 (i:=0) (j:=8) Z .no (.to Z) tu78 ti5 (by decide) Z Z Z)<|Zq (z3q Z .rd Z tu129)<|Zm Z<|Zn<|z1q (fun (s19:UInt64 × Int) aa ww=>Sta (ctx 63 H [zG1] w) [(12,.rd z09 r15.2),(13,.rd z35 s19.1),(49,.rd (z03 u8R) ((r15.1.toList.drop 0).take 8)),(50,.rd z09 (((r15.1.toList.drop 0).take 8).length:Int)),(51,.rd z09 s19.2)] [zG1] aa ww) (fun aa ww h=>Zu h [1001]) (fun s19=>?_)
    refine gSR<|Zq (I.lss Z Z)<|Zn<|z0m<|gIf Z Z (fun h20=>?_) (fun h20=>?_)
    ·
     refine Zt<|z0m<|z4s<|gSR<|z0g fun x21 h22=>Zq (ixR Z Z h22 tu129 ti5 Z)<|Zq (ldR Z ty5)<|Zb Z<|z1o<|Zm Z<|Zq (U.shl Z Z (Int.natCast_nonneg _))<|Zm Z<|Zq (B.toU Z tu5 tu52)<|Zq (U.or Z Z)<|Za Z<|z1e 13 Z fun y23=>z1f<|z2n<|z0e<|z1o<|Zq (I.add Z Z)<|Zm Z<|z1f<|z14 (fun aa ww h=>Zu h [1001])
    ·
     refine z1d<|z0p<|z0s<|z37 (fun aa ww h=>Zu h [1001])
   ·
    refine gSR<|Zm Z<|Zm Z<|Za Z<|Zb Z<|z0j<|Ze [] [1001] Z
def z9l (a0:UInt32) (a1:UInt32) (a2:List UInt8):Option (UInt32 × Int) :=
 zfw 99 a2 [a0,a1] >>= fun r2 =>
 if r2.2 != 0 then
  some (0,r2.2)
 else
  some ((r2.1 % 500000003).toUInt32) >>= fun y5 =>
  some (y5,0)
theorem zgh (a0:UInt32) (a1:UInt32) (a2:List UInt8):z1y Tryz.prog 114 [.rd z0o a0,.rd z0o a1,.rd (z03 u8R) a2] [zG1] (z9l a0 a1 a2) (fun r nv=>⟨[.rd z0o r.1,.rd z09 r.2],[(1001,some (.bool true,.glob 1 (z3i 64 z0o) z7v))]⟩):=by
 refine z2l 24 Tryz.func114 Z Z Z fun H w=>?_
 refine gSR<|Za Z<|Zb Z<|gSR<|Zm Z<|Zm Z<|Zm Z<|Ef Z (lit (R:=z0o) ([a0,a1]:List UInt32) 1 (pP Z Z<|pP Z Z<|pN) Z tu236 z5c Z Z) fun v1=>zh3 1 [14] Z (fS Z<|fN)<|Zc [1001] [] Tryz.func159 Z (zm4 _ _ _) fun r2 n3=>Zm Z<|Zq (ext Z Z)<|Zq (ext Z Z)<|Za Z<|Zb Z<|z0m<|gSR<|Zm Z<|Zq (I.neq Z Z)<|Zj Z (fun h4=>?_) (fun h4=>?_)
 ·
  refine gSR<|Zm Z<|Za Z<|Zb Z<|z0j<|z0v<|Ze [] [1001] Z
 ·
  refine Zt<|gSR<|Zm Z<|Zq (U.rem Z Z (by decide))<|Zq (U.toW Z tu52 tu65)<|Za Z<|z1e 6 Z fun y5=>Zb Z<|z0j<|Ze [] [1001] Z
def zci (a0:UInt32) (a1:List UInt8) (a2:z0y):Option (Int) :=
 zdi a0 >>= fun r2 =>
 if !r2 then
  some 2
 else
  if decide (9991<(a1.length:Int)) then
   some 4
  else
   if decide (500000003≤(max a2.E a2.S)) then
    some 22
   else
    zht a0 (500000003 - a2.E.toUInt64) >>= fun r7 =>
    zgm a2.S.toUInt64 >>= fun r9 =>
    zhz r9 r7.1 >>= fun r11 =>
    z9l r11.1 a0 a1 >>= fun r13 =>
    if r13.2 != 0 then
     some 22
    else
     if r13.1 != a2.E then
      some 22
     else
      some 0
theorem zjf (a0:UInt32) (a1:List UInt8) (a2:z0y):z1y Tryz.prog 117 [.rd z0o a0,.rd (z03 u8R) a1,.rd z2p a2] [zG1] (zci a0 a1 a2) (fun r nv=>⟨[.rd z09 r],[(1001,some (.bool true,.glob 1 (z3i 64 z0o) z7v))]⟩):=by
 refine z2l 58 Tryz.func117 Z Z Z fun H w=>?_
 refine gSR<|Eb Z (bx 1 Z) fun v1=>Zb Z<|z0m<|gSR<|Zm Z<|Zc [] [] Tryz.func153 Z (ze9 _) fun r2 n3=>Zq (zf6 Z)<|Zj Z (fun h4=>?_) (fun h4=>?_)
 ·
  refine gSR<|Zb Z<|z0j<|z0v<|Ze [] [1001] Z
 ·
  refine Zt<|z0m<|gSR<|Zm Z<|Zq (z3q Z .rd Z tu129)<|Zq (I.gtr Z Z)<|Zj Z (fun h5=>?_) (fun h5=>?_)
  ·
   refine gSR<|Zb Z<|z0j<|z0v<|Ze [] [1001] Z
  ·
   refine Zt<|z0m<|gSR<|Zq (faB 1 Z Z Tryz.underlying70 Z (by exact z5c))<|Zq (ld 1 Z Z (fP (z4e _)) z7y Z)<|Zq (faB 1 Z Z Tryz.underlying70 Z (by exact z5c))<|Zq (ld 1 Z Z (fP (z64 _)) z7y Z)<|Zq (W.max Z Z)<|Zq (W.geq Z Z)<|Zj Z (fun h6=>?_) (fun h6=>?_)
   ·
    refine gSR<|Zb Z<|z0j<|z0v<|Ze [] [1001] Z
   ·
    refine Zt<|gSR<|Zm Z<|Zq (faB 1 Z Z Tryz.underlying70 Z (by exact z5c))<|Zq (ld 1 Z Z (fP (z4e _)) z7y Z)<|Zq (W.toU Z tu65 tu52)<|Zq (U.sub Z Z)<|Zc [] [] Tryz.func161 Z (zlz _ _) fun r7 n8=>Zm Z<|Zq (ext Z Z)<|Zq (ext Z Z)<|Za Z<|Zb Z<|gSR<|Zq (faB 1 Z Z Tryz.underlying70 Z (by exact z5c))<|Zq (ld 1 Z Z (fP (z64 _)) z7y Z)<|Zq (W.toU Z tu65 tu52)<|Zc [] [] Tryz.func106 Z (zjy _) fun r9 n10=>Zm Z<|Zc [] [] Tryz.func162 Z (zl9 _ _) fun r11 n12=>Zm Z<|Zq (ext Z Z)<|Zq (ext Z Z)<|Za Z<|Zb Z<|z0m<|gSR<|Zm Z<|Zm Z<|Zm Z<|Zc [1001] [] Tryz.func114 Z (zgh _ _ _) fun r13 n14=>Zm Z<|Zq (ext Z Z)<|Zq (ext Z Z)<|Za Z<|Zb Z<|gSR<|Zm Z<|Zq (I.neq Z Z)<|Zm Z<|z21 52 Z (fun h15=>?_) (fun h15=>?_)
    ·
     refine lKn 51 Z h15<|Zk Z<|Zk Z<|Zk Z<|Zk Z<|Zq (pkT Z Z)<|Zn<|zc9 Z<|gSR<|Zb Z<|z0j<|z0v<|Ze [] [1001] Z
    ·
     refine lKn 51 Z h15<|z1c Zx Z Z (mv Z)<|z1c Zx Z Z (faB 1 Z Z Tryz.underlying70 Z (by exact z5c))<|z1c Zx Z Z (ld 1 Z Z (fP (z4e _)) z7y Z)<|z1c Zx Z Z (W.neq Z Z)<|Zq (pkF Z Z)<|Zj Z (fun h16=>?_) (fun h16=>?_)
     ·
      refine gKn 56 Z h16<|gSR<|Zb Z<|z0j<|z0v<|Ze [] [1001] Z
     ·
      refine gKn 56 Z h16<|Zt<|gSR<|Zb Z<|z0j<|Ze [] [1001] Z
def zg5 (a0:z12):Option (Int) :=
 zbz a0 >>= fun r2 =>
 if r2 != 0 then
  some r2
 else
  zbw a0 >>= fun r5 =>
  zci a0.Author r5.1 a0.Sig >>= fun r7 =>
  some r7
theorem zlp (a0:z12):z1y Tryz.prog 79 [.rd z0z a0] [zG1] (zg5 a0) (fun r nv=>⟨[.rd z09 r],[(1001,some (.bool true,.glob 1 (z3i 64 z0o) z7v))]⟩):=by
 refine z2l 22 Tryz.func79 Z Z Z fun H w=>?_
 refine gSR<|Eb Z (bx 1 Z) fun v1=>Zb Z<|z0m<|gSR<|Zq (ld 1 Z Z fH ziu Z)<|Zc [] [] Tryz.func107 Z (zea _) fun r2 n3=>Zb Z<|gSR<|Zm Z<|Zq (I.neq Z Z)<|Zj Z (fun h4=>?_) (fun h4=>?_)
 ·
  refine gSR<|Zm Z<|Zb Z<|z0j<|z0v<|Ze [] [1001] Z
 ·
  refine Zt<|gSR<|Zq (ld 1 Z Z fH ziu Z)<|Zc [] [(100,2)] Tryz.func77 Z (zfs _) fun r5 n6=>Zm Z<|Zq (ext Z Z)<|Zq (ext Z Z)<|Za Z<|Zb Z<|gSR<|Zq (faB 1 Z Z Tryz.underlying72 Z (by exact z5c))<|Zq (ld 1 Z Z (fP (z4z _)) z7y Z)<|Zm Z<|Zq (faB 1 Z Z Tryz.underlying72 Z (by exact znt))<|Zq (ld 1 Z Z (fP (z3d _)) ty70 Z)<|zh3 2 [14,4,18] Z (fS Z<|fS Z<|fS Z<|fN)<|Zc [1001] [] Tryz.func117 Z (zjf _ _ _) fun r7 n8=>Zb Z<|z0j<|Ze [] [1001] Z
def z40 (s4:UInt64 × (List UInt8)):Option (Sum ((List UInt8)) (UInt64 × (List UInt8))) :=
 if decide (0<s4.1) then
  app 1 s4.2 [(s4.1 % 256).toUInt8] >>= fun x8 =>
  some (.inr (s4.1 / 256,x8))
 else
  some (.inl s4.2)
def z4a (s3:(List UInt8)) (s15:(List UInt8) × Int):Option (Sum ((List UInt8)) ((List UInt8) × Int)) :=
 if decide (0≤s15.2) then
  idx s3 s15.2 >>= fun x18 =>
  app 1 s15.1 [x18] >>= fun x21 =>
  some (w64 (s15.2 - 1)) >>= fun y24 =>
  some (.inr (x21,y24))
 else
  some (.inl s15.1)
def z1u (a0:UInt64):Option ((List UInt8)) :=
 if decide (a0≤247) then
  some [a0.toUInt8]
 else
  (iter (z40) (a0,[])) >>= fun s3 =>
  (some (w64 ((s3.length:Int) - 1)) >>= fun y14 =>
  iter (z4a s3) ([UInt8.ofInt (w64 (247+(s3.length:Int)))],y14)) >>= fun s13 =>
  some s13
theorem z2d (a0:UInt64):z1y Tryz.prog 150 [.rd z35 a0] [] (z1u a0) (fun r nv=>⟨[.val (nv 0)],[(100,some (nv 0,.list u8R 5 r))]⟩):=by
 refine z2l 41 Tryz.func150 Z Z Z fun H w=>?_
 refine gSR<|Zb Z<|z0m<|gSR<|Zm Z<|Zq (U.leq Z Z)<|Zj Z (fun h1=>?_) (fun h1=>?_)
 ·
  refine gSR<|Zm Z<|Zq (U.toB Z tu52 tu5)<|Ef Z (lit (R:=u8R) ([a0.toUInt8]:List UInt8) 1 (pP Z Z<|pN) Z tu129 ti5 Z Z) fun v2=>Zb Z<|z0j<|z0v<|Ze [v2] [1] Z
 ·
  refine Zt<|gSR<|Zb Z<|z6t (fun (s3:(List UInt8)) aa ww=>∃ nv:Nat→Value,Sta (ctx 41 H [] w) [(3,.val (nv 0))] [(3,some ((nv 0),.list u8R 5 s3))] aa ww) ?_ (fun s3=>?_)
  ·
   refine zs7 u8R 5 6<|z1q (fun (s4:UInt64 × (List UInt8)) aa ww=>∃ nv:Nat→Value,Sta (ctx 41 H [] w) [(0,.rd z35 s4.1),(3,.val (nv 0))] [(5,some ((nv 0),.list u8R 5 s4.2))] aa ww) (fun aa ww h=>⟨nvl [(.slice none 0 0)],Zu h [6]⟩) (fun s4=>?_)
   refine gEx fun n5=>z0m<|gSR<|Zm Z<|Zq (U.gtr Z Z)<|Zj Z (fun h6=>?_) (fun h6=>?_)
   ·
    refine Zt<|z4s<|gSR<|Zm Z<|Zm Z<|Zq (U.rem Z Z (by decide))<|Zq (U.toB Z tu52 tu5)<|Ef Z (lit (R:=u8R) ([(s4.1 % 256).toUInt8]:List UInt8) 7 (pP Z Z<|pN) Z tu129 ti5 Z Z) fun v7=>z0g fun x8 h9=>Ef Z (apn 5 Z Z Z (.own 7 Z) h9 tu129 ti5 Z Z Z) fun v10=>Zb Z<|z1o<|Zm Z<|Zq (U.quo Z Z (by decide))<|Za Z<|z1f<|z2n<|z14 (fun aa ww h=>⟨nvl [v10],Zu h [5]⟩)
   ·
    refine z1d<|z0p<|z0s<|z37 (fun aa ww h=>⟨nvl [(n5 0)],Zu h [5]⟩)
  ·
   refine gEx fun n11=>gSR<|Zm Z<|Zq (z3q Z (.own 3 Z) Z tu129)<|Zq (I.add Z Z)<|Zq (I.toB Z tu3 tu5)<|Ef Z (lit (R:=u8R) ([UInt8.ofInt (w64 (247+(s3.length:Int)))]:List UInt8) 8 (pP Z Z<|pN) Z tu129 ti5 Z Z) fun v12=>Zb Z<|z6t (fun (s13:(List UInt8)) aa ww=>∃ nv:Nat→Value,Sta (ctx 41 H [] w) [(4,.val (nv 0))] [(8,some ((nv 0),.list u8R 5 s13))] aa ww) ?_ (fun s13=>?_)
   ·
    refine gSR<|Zm Z<|Zq (z3q Z (.own 3 Z) Z tu129)<|Zq (I.sub Z Z)<|Za Z<|z1e 5 Z fun y14=>Zn<|z1q (fun (s15:(List UInt8) × Int) aa ww=>∃ nv:Nat→Value,Sta (ctx 41 H [] w) [(3,.val (n11 0)),(4,.val (nv 0)),(5,.rd z09 s15.2)] [(3,some ((n11 0),.list u8R 5 s3)),(8,some ((nv 0),.list u8R 5 s15.1))] aa ww) (fun aa ww h=>⟨nvl [v12],Zu h [3,8]⟩) (fun s15=>?_)
    refine gEx fun n16=>z0m<|gSR<|Zm Z<|Zq (I.geq Z Z)<|Zj Z (fun h17=>?_) (fun h17=>?_)
    ·
     refine Zt<|z0m<|z4s<|z1o<|Zm Z<|Zm Z<|Zm Z<|z0g fun x18 h19=>Zq (ixO 3 Z Z Z h19 tu129 ti5)<|Zq (ld 3 Z Z (Foc.el h19) ty5 Z)<|Ef Z (lit (R:=u8R) ([x18]:List UInt8) 9 (pP Z Z<|pN) Z tu129 ti5 Z Z) fun v20=>z0g fun x21 h22=>Ef Z (apn 8 Z Z Z (.own 9 Z) h22 tu129 ti5 Z Z Z) fun v23=>Za Z<|z1f<|z2n<|z0e<|z1o<|Zm Z<|Zq (I.sub Z Z)<|Za Z<|z1e 5 Z fun y24=>z1f<|z14 (fun aa ww h=>⟨nvl [v23],Zu h [3,8]⟩)
    ·
     refine z1d<|z0p<|z0s<|z37 (fun aa ww h=>⟨nvl [(n16 0)],Zu h [8]⟩)
   ·
    refine gEx fun n25=>gSR<|Zm Z<|Zb Z<|z0j<|Ze [(n25 0)] [8] Z
def z5a (a0:List V3) (s4:(List UInt8) × Int):Option (Sum ((List UInt8)) ((List UInt8) × Int)) :=
 if decide (s4.2<(a0.length:Int)) then
  idx a0 s4.2 >>= fun x7 =>
  app 1 s4.1 x7.toList >>= fun x9 =>
  some (w64 (s4.2+1)) >>= fun y12 =>
  some (.inr (x9,y12))
 else
  some (.inl s4.1)
def z91 (a0:List V3):Option ((List UInt8)) :=
 z1u (UInt64.ofInt (a0.length:Int)) >>= fun r1 =>
 (iter (z5a a0) (r1,0)) >>= fun s3 =>
 some s3
theorem zg0 (a0:List V3):z1y Tryz.prog 190 [.rd (z03 aZ) a0] [] (z91 a0) (fun r nv=>⟨[.val (nv 0)],[(100,some (nv 0,.list u8R 5 r))]⟩):=by
 refine z2l 22 Tryz.func190 Z Z Z fun H w=>?_
 refine gSR<|Zb Z<|gSR<|Zm Z<|Zq (z3q Z .rd Z tu24)<|Zq (I.toU Z tu3 tu52)<|Zc [] [(100,1)] Tryz.func150 Z (z2d _) fun r1 n2=>Zb Z<|z6t (fun (s3:(List UInt8)) aa ww=>∃ nv:Nat→Value,Sta (ctx 22 H [] w) [(3,.val (nv 0))] [(1,some ((nv 0),.list u8R 5 s3))] aa ww) ?_ (fun s3=>?_)
 ·
  refine gSR<|Zb Z<|z1q (fun (s4:(List UInt8) × Int) aa ww=>∃ nv:Nat→Value,Sta (ctx 22 H [] w) [(0,.rd (z03 aZ) a0),(3,.val (nv 0)),(4,.rd z09 s4.2)] [(1,some ((nv 0),.list u8R 5 s4.1))] aa ww) (fun aa ww h=>⟨nvl [(n2 0)],Zu h [1]⟩) (fun s4=>?_)
  refine gEx fun n5=>z0m<|gSR<|Zm Z<|Zm Z<|Zq (z3q Z .rd Z tu24)<|Zq (I.lss Z Z)<|Zj Z (fun h6=>?_) (fun h6=>?_)
  ·
   refine Zt<|z0m<|z4s<|z1o<|Zm Z<|Zm Z<|Zm Z<|z0g fun x7 h8=>Zq (ixR Z Z h8 tu24 z3j Z)<|Zq (cutV Z tu78 ti5 Z Z Z)<|z0g fun x9 h10=>Ef Z (apn 1 Z Z Z .rd h10 tu129 ti5 Z Z Z) fun v11=>Za Z<|z1f<|z2n<|z0e<|z1o<|Zm Z<|Zq (I.add Z Z)<|Za Z<|z1e 4 Z fun y12=>z1f<|z14 (fun aa ww h=>⟨nvl [v11],Zu h [1]⟩)
  ·
   refine z1d<|z0p<|z0s<|z37 (fun aa ww h=>⟨nvl [(n5 0)],Zu h [1]⟩)
 ·
  refine gEx fun n13=>gSR<|Zm Z<|Zb Z<|z0j<|Ze [(n13 0)] [1] Z
def z5s (a0:List UInt8):Option ((List UInt8)) :=
 z1u (UInt64.ofInt (a0.length:Int)) >>= fun r1 =>
 app 1 r1 a0 >>= fun x3 =>
 some x3
theorem zbb (a0:List UInt8):z1y Tryz.prog 191 [.rd (z03 u8R) a0] [] (z5s a0) (fun r nv=>⟨[.val (nv 0)],[(100,some (nv 0,.list u8R 5 r))]⟩):=by
 refine z2l 9 Tryz.func191 Z Z Z fun H w=>?_
 refine gSR<|Zb Z<|gSR<|Zm Z<|Zq (z3q Z .rd Z tu129)<|Zq (I.toU Z tu3 tu52)<|Zc [] [(100,1)] Tryz.func150 Z (z2d _) fun r1 n2=>Zm Z<|z0g fun x3 h4=>Ef Z (apn 1 Z Z Z .rd h4 tu129 ti5 Z Z Z) fun v5=>Zb Z<|z0j<|Ze [v5] [1] Z
def z7m (a0:Int):Option ((List UInt8)) :=
 if decide (0≤a0) then
  z1u (2 * (UInt64.ofInt a0)) >>= fun r2 =>
  some r2
 else
  z1u ((2 * (UInt64.ofInt (w64 (0 - (w64 (a0+1))))))+1) >>= fun r4 =>
  some r4
theorem zdu (a0:Int):z1y Tryz.prog 216 [.rd z09 a0] [] (z7m a0) (fun r nv=>⟨[.val (nv 0)],[(100,some (nv 0,.list u8R 5 r))]⟩):=by
 refine z2l 16 Tryz.func216 Z Z Z fun H w=>?_
 refine gSR<|Zb Z<|z0m<|gSR<|Zm Z<|Zq (I.geq Z Z)<|Zj Z (fun h1=>?_) (fun h1=>?_)
 ·
  refine gSR<|Zm Z<|Zq (I.toU Z Tryz.underlying2 tu52)<|Zq (U.mul Z Z)<|Zc [] [(100,1)] Tryz.func150 Z (z2d _) fun r2 n3=>Zb Z<|z0j<|z0v<|Ze [(n3 0)] [1] Z
 ·
  refine Zt<|gSR<|Zm Z<|Zq (I.add Z Z)<|Zq (I.neg Z)<|Zq (I.toU Z Tryz.underlying2 tu52)<|Zq (U.mul Z Z)<|Zq (U.add Z Z)<|Zc [] [(100,2)] Tryz.func150 Z (z2d _) fun r4 n5=>Zb Z<|z0j<|Ze [(n5 0)] [2] Z
def z4k (a0:z02) (s11:(List UInt8) × Int):Option (Sum ((List UInt8)) ((List UInt8) × Int)) :=
 if decide (0≤s11.2) then
  chk (0≤w64 (8 * s11.2)) >>= fun u14 =>
  app 1 s11.1 [(z61 a0.Bits ((w64 (8 * s11.2):Int).toNat)).toUInt8] >>= fun x17 =>
  some (w64 (s11.2 - 1)) >>= fun y20 =>
  some (.inr (x17,y20))
 else
  some (.inl s11.1)
def z88 (a0:z02):Option ((List UInt8)) :=
 if a0.Kind==1 then
  z7m a0.Num >>= fun r4 =>
  app 1 [a0.Kind] r4 >>= fun x6 =>
  some x6
 else
  if a0.Kind==2 then
   (iter (z4k a0) ([a0.Kind],7)) >>= fun s10 =>
   some s10
  else
   chk (a0.Text.length≤281474976710656) >>= fun u22 =>
   z5s a0.Text >>= fun r24 =>
   app 1 [a0.Kind] r24 >>= fun x26 =>
   some x26
theorem zee (a0:z02):z1y Tryz.prog 192 [.rd z07 a0] [] (z88 a0) (fun r nv=>⟨[.val (nv 0)],[(100,some (nv 0,.list u8R 5 r))]⟩):=by
 refine z2l 39 Tryz.func192 Z Z Z fun H w=>?_
 refine gSR<|Eb Z (bx 1 Z) fun v1=>Zb Z<|gSR<|Zq (faB 1 Z Z Tryz.underlying54 Z (by exact ti5))<|Zq (ld 1 Z Z (fP (z2a _)) ty5 Z)<|Ef Z (lit (R:=u8R) ([a0.Kind]:List UInt8) 2 (pP Z Z<|pN) Z tu129 ti5 Z Z) fun v2=>Zb Z<|z0m<|gSR<|Zq (faB 1 Z Z Tryz.underlying54 Z (by exact ti5))<|Zq (ld 1 Z Z (fP (z2a _)) ty5 Z)<|Zn<|z4s<|gSR<|Zq (B.eql Z Z)<|Zb Z<|gIf Z Z (fun h3=>?_) (fun h3=>?_)
 ·
  refine gKn 11 Z h3<|gSR<|Zm Z<|Zq (faB 1 Z Z Tryz.underlying54 Z (by exact ti2))<|Zq (ld 1 Z Z (fP (z4y _)) ty2 Z)<|Zc [] [(100,3)] Tryz.func216 Z (zdu _) fun r4 n5=>z0g fun x6 h7=>Ef Z (apn 2 Z Z Z (.own 3 Z) h7 tu129 ti5 Z Z Z) fun v8=>Zb Z<|z0j<|z4h<|z0v<|Ze [v8] [2] Z
 ·
  refine gKn 11 Z h3<|gSR<|Zq (B.eql Z Z)<|Zb Z<|gIf Z Z (fun h9=>?_) (fun h9=>?_)
  ·
   refine gKn 18 Z h9<|z6t (fun (s10:(List UInt8)) aa ww=>∃ nv:Nat→Value,Sta (ctx 39 H [] w) [(3,.val (nv 0))] [(2,some ((nv 0),.list u8R 5 s10))] aa ww) ?_ (fun s10=>?_)
   ·
    refine gSR<|Zb Z<|z1q (fun (s11:(List UInt8) × Int) aa ww=>∃ nv:Nat→Value,Sta (ctx 39 H [] w) [(1,.val (z05 v1 0)),(3,.val (nv 0)),(4,.rd z09 s11.2)] [(1,some (v1,.box 54 [.rd z07 a0])),(2,some ((nv 0),.list u8R 5 s11.1))] aa ww) (fun aa ww h=>⟨nvl [v2],Zu h [1,2]⟩) (fun s11=>?_)
    refine gEx fun n12=>z0m<|gSR<|Zm Z<|Zq (I.geq Z Z)<|Zj Z (fun h13=>?_) (fun h13=>?_)
    ·
     refine Zt<|z0m<|z4s<|z1o<|Zm Z<|Zq (faB 1 Z Z Tryz.underlying54 Z (by exact zmg))<|Zq (ld 1 Z Z (fP (z2z _)) zku Z)<|Zm Z<|Zq (I.mul Z Z)<|z0g fun u14 h15=>Zq (U.shr Z Z (z4c h15))<|Zq (U.toB Z tu52 tu5)<|Ef Z (lit (R:=u8R) ([(z61 a0.Bits ((w64 (8 * s11.2):Int).toNat)).toUInt8]:List UInt8) 4 (pP Z Z<|pN) Z tu129 ti5 Z Z) fun v16=>z0g fun x17 h18=>Ef Z (apn 2 Z Z Z (.own 4 Z) h18 tu129 ti5 Z Z Z) fun v19=>Za Z<|z1f<|z2n<|z0e<|z1o<|Zm Z<|Zq (I.sub Z Z)<|Za Z<|z1e 4 Z fun y20=>z1f<|z14 (fun aa ww h=>⟨nvl [v19],Zu h [1,2]⟩)
    ·
     refine z1d<|z0p<|z0s<|z37 (fun aa ww h=>⟨nvl [(n12 0)],Zu h [2]⟩)
   ·
    refine gEx fun n21=>gSR<|Zm Z<|Zb Z<|z0j<|z4h<|z0v<|Ze [(n21 0)] [2] Z
  ·
   refine gKn 18 Z h9<|z2b<|z2n<|z0e<|gSR<|Zm Z<|Zq (faB 1 Z Z Tryz.underlying54 Z (by exact ti9))<|Zq (ld 1 Z Z (fP (z2m _)) ty9 Z)<|z0g fun u22 h23=>zu5 Z Z h23 tu9 tu129 tu5<|Zc [] [(100,5)] Tryz.func191 Z (zbb _) fun r24 n25=>z0g fun x26 h27=>Ef Z (apn 2 Z Z Z (.own 5 Z) h27 tu129 ti5 Z Z Z) fun v28=>Zb Z<|z0j<|Ze [v28] [2] Z
def z7b (a0:z12):Option ((List UInt8)) :=
 z1u a0.Author.toUInt64 >>= fun r3 =>
 app 1 [111] r3 >>= fun x5 =>
 z91 a0.Preds >>= fun r8 =>
 app 1 x5 r8 >>= fun x10 =>
 z1u a0.Stamp >>= fun r13 =>
 app 1 x10 r13 >>= fun x15 =>
 app 1 x15 [a0.Act.Kind] >>= fun x19 =>
 (if a0.Act.Kind != 1 then
  chk (a0.Act.Key.length≤281474976710656) >>= fun u24 =>
  z5s a0.Act.Key >>= fun r26 =>
  app 1 x19 r26 >>= fun x28 =>
  some x28
 else
  some x19) >>= fun s22 =>
 if a0.Act.Kind==4 then
  z88 a0.Act.Value >>= fun r33 =>
  app 1 s22 r33 >>= fun x35 =>
  some x35
 else
  some s22
theorem zb8 (a0:z12):z1y Tryz.prog 145 [.rd z0z a0] [] (z7b a0) (fun r nv=>⟨[.val (nv 0)],[(100,some (nv 0,.list u8R 5 r))]⟩):=by
 refine z2l 47 Tryz.func145 Z Z Z fun H w=>?_
 refine gSR<|Eb Z (bx 1 Z) fun v1=>Zb Z<|gSR<|Ef Z (lit (R:=u8R) ([111]:List UInt8) 2 (pP Z Z<|pN) Z tu129 ti5 Z Z) fun v2=>Zq (faB 1 Z Z Tryz.underlying72 Z (by exact z5c))<|Zq (ld 1 Z Z (fP (z4z _)) z7y Z)<|Zq (W.toU Z tu65 tu52)<|Zc [] [(100,3)] Tryz.func150 Z (z2d _) fun r3 n4=>z0g fun x5 h6=>Ef Z (apn 2 Z Z Z (.own 3 Z) h6 tu129 ti5 Z Z Z) fun v7=>Zb Z<|z0m<|z6p [2,13,25] mixed Z Z<|hTk 0 Z Z (mv Z)<|hTk 1 Z Z (faB 1 Z Z Tryz.underlying72 Z (by exact zby))<|hTk 2 Z Z (ld 1 Z Z (fP (z19 _)) zb1 Z)<|hTk 5 Z Z (faB 1 Z Z Tryz.underlying72 Z (by exact zmg))<|hTk 6 Z Z (ld 1 Z Z (fP (z2t _)) zku Z)<|z3c 3 [] [(100,13)] Z (by kernel_rfl) Z (gd0 Z) Z Tryz.func190 Z Z (zg0 _) (Y1 Z) rN Z (fun _ _=>z2f) fun r8 n9=>z36 fun x10 h11=>Zo 4 Z Z Z (apn 2 Z Z Z (.own 13 Z) h11 tu129 ti5 Z Z Z) fun v12=>z3c 7 [] [(100,25)] Z (by kernel_rfl) Z (gd0 Z) Z Tryz.func150 Z Z (z2d _) (Y1 Z) rN Z (fun _ _=>z2f) fun r13 n14=>z36 fun x15 h16=>Zo 8 Z Z Z (apn 2 Z Z Z (.own 25 Z) h16 tu129 ti5 Z Z Z) fun v17=>Zf 9 Z Z z2f (asg Z)<|z3l (by kernel_rfl)<|z0e<|gSR<|Zm Z<|Zq (faB 1 Z Z Tryz.underlying72 Z (by exact ze6))<|Zq (faB 1 Z Z Tryz.underlying64 Z (by exact ti5))<|Zq (ld 1 Z Z ((fP (z0n _)).part (z13 _)) ty5 Z)<|Ef Z (lit (R:=u8R) ([a0.Act.Kind]:List UInt8) 37 (pP Z Z<|pN) Z tu129 ti5 Z Z) fun v18=>z0g fun x19 h20=>Ef Z (apn 2 Z Z Z (.own 37 Z) h20 tu129 ti5 Z Z Z) fun v21=>Zb Z<|z6t (fun (s22:(List UInt8)) aa ww=>∃ nv:Nat→Value,Sta (ctx 47 H [] w) [(1,.val (z05 v1 0)),(3,.val (nv 0))] [(1,some (v1,.box 72 [.rd z0z a0])),(2,some ((nv 0),.list u8R 5 s22))] aa ww) ?_ (fun s22=>?_)
 ·
  refine gSR<|Zq (faB 1 Z Z Tryz.underlying72 Z (by exact ze6))<|Zq (faB 1 Z Z Tryz.underlying64 Z (by exact ti5))<|Zq (ld 1 Z Z ((fP (z0n _)).part (z13 _)) ty5 Z)<|Zq (B.neq Z Z)<|Zj Z (fun h23=>?_) (fun h23=>?_)
  ·
   refine z1o<|Zm Z<|Zq (faB 1 Z Z Tryz.underlying72 Z (by exact ze6))<|Zq (faB 1 Z Z Tryz.underlying64 Z (by exact ti9))<|Zq (ld 1 Z Z ((fP (z0n _)).part (z1l _)) ty9 Z)<|z0g fun u24 h25=>zu5 Z Z h25 tu9 tu129 tu5<|Zc [] [(100,38)] Tryz.func191 Z (zbb _) fun r26 n27=>z0g fun x28 h29=>Ef Z (apn 2 Z Z Z (.own 38 Z) h29 tu129 ti5 Z Z Z) fun v30=>Za Z<|z1f<|z37 (fun aa ww h=>⟨nvl [v30],Zu h [1,2]⟩)
  ·
   refine z2b<|z37 (fun aa ww h=>⟨nvl [v21],Zu h [1,2]⟩)
 ·
  refine gEx fun n31=>z0m<|gSR<|Zq (faB 1 Z Z Tryz.underlying72 Z (by exact ze6))<|Zq (faB 1 Z Z Tryz.underlying64 Z (by exact ti5))<|Zq (ld 1 Z Z ((fP (z0n _)).part (z13 _)) ty5 Z)<|Zq (B.eql Z Z)<|Zj Z (fun h32=>?_) (fun h32=>?_)
  ·
   refine z1o<|Zm Z<|Zq (faB 1 Z Z Tryz.underlying72 Z (by exact ze6))<|Zq (faB 1 Z Z Tryz.underlying64 Z (by exact z9k))<|Zq (ld 1 Z Z ((fP (z0n _)).part (z2v _)) zey Z)<|Zc [] [(100,39)] Tryz.func192 Z (zee _) fun r33 n34=>z0g fun x35 h36=>Ef Z (apn 2 Z Z Z (.own 39 Z) h36 tu129 ti5 Z Z Z) fun v37=>Zb Z<|gSR<|Zm Z<|Zb Z<|z0j<|Ze [v37] [2] Z
  ·
   refine Zt<|gSR<|Zm Z<|Zb Z<|z0j<|Ze [(n31 0)] [2] Z
def z86 (a0:z12):Option ((List UInt8)) :=
 z7b a0 >>= fun r2 =>
 z1u a0.Sig.E.toUInt64 >>= fun r4 =>
 app 1 r2 r4 >>= fun x6 =>
 z1u a0.Sig.S.toUInt64 >>= fun r9 =>
 app 1 x6 r9 >>= fun x11 =>
 some x11
theorem zeh (a0:z12):z1y Tryz.prog 103 [.rd z0z a0] [] (z86 a0) (fun r nv=>⟨[.val (nv 0)],[(100,some (nv 0,.list u8R 5 r))]⟩):=by
 refine z2l 17 Tryz.func103 Z Z Z fun H w=>?_
 refine gSR<|Eb Z (bx 1 Z) fun v1=>Zb Z<|z0m<|z6p [5,20,38] mixed Z Z<|hTk 0 Z Z (ld 1 Z Z fH ziu Z)<|hTk 2 Z Z (faB 1 Z Z Tryz.underlying72 Z (by exact znt))<|hTk 3 Z Z (faB 1 Z Z Tryz.underlying70 Z (by exact z5c))<|hTk 4 Z Z (ld 1 Z Z ((fP (z3d _)).part (z4e _)) z7y Z)<|hTk 5 Z Z (W.toU Z tu65 tu52)<|hTk 8 Z Z (faB 1 Z Z Tryz.underlying72 Z (by exact znt))<|hTk 9 Z Z (faB 1 Z Z Tryz.underlying70 Z (by exact z5c))<|hTk 10 Z Z (ld 1 Z Z ((fP (z3d _)).part (z64 _)) z7y Z)<|hTk 11 Z Z (W.toU Z tu65 tu52)<|z3c 1 [] [(100,5)] Z (by kernel_rfl) Z (gd0 Z) Z Tryz.func145 Z Z (zb8 _) (Y1 Z) rN Z (fun _ _=>z2f) fun r2 n3=>z3c 6 [] [(100,20)] Z (by kernel_rfl) Z (gd0 Z) Z Tryz.func150 Z Z (z2d _) (Y1 Z) rN Z (fun _ _=>z2f) fun r4 n5=>z36 fun x6 h7=>Zo 7 Z Z Z (apn 5 Z Z Z (.own 20 Z) h7 tu129 ti5 Z Z Z) fun v8=>z3c 12 [] [(100,38)] Z (by kernel_rfl) Z (gd0 Z) Z Tryz.func150 Z Z (z2d _) (Y1 Z) rN Z (fun _ _=>z2f) fun r9 n10=>z36 fun x11 h12=>Zo 13 Z Z Z (apn 5 Z Z Z (.own 38 Z) h12 tu129 ti5 Z Z Z) fun v13=>Zf 14 Z Z z2f (asg Z)<|z3l (by kernel_rfl)<|z0e<|z0j<|Ze [v13] [5] Z
def z9v  : Option ((Vector UInt32 8)) :=
 some (#v[1779033703,3144134277,1013904242,2773480762,1359893119,2600822924,528734635,1541459225]:Vector UInt32 8)
theorem zej  : z1y Tryz.prog 148 [] [] (z9v) (fun r nv=>⟨[.rd (z3i 8 z0o) r],[]⟩):=by
 refine z2l 2 Tryz.func148 Z Z Z fun H w=>?_
 refine gSR<|Eb Z (z9b 1 zdt (.zr (R:=(z3i 8 z0o)) (x:=(Vector.replicate 8 0)) zmc)) fun v1=>Zn<|gSR<|Zq (litA (R:=z0o) [1779033703,3144134277,1013904242,2773480762,1359893119,2600822924,528734635,1541459225] (#v[1779033703,3144134277,1013904242,2773480762,1359893119,2600822924,528734635,1541459225]:Vector UInt32 8) (pP Z Z<|pP Z Z<|pP Z Z<|pP Z Z<|pP Z Z<|pP Z Z<|pP Z Z<|pP Z Z<|pN) Z tu194 zdt Z z5c)<|Es (sto 1 Z Z fH Z zdt)<|Zn<|z0j<|zdj [] [] Z (eC 1 Z Z zm8<|eN) (rN)
def z52 (a0:Int) (s3:(List UInt8)):Option (Sum ((List UInt8)) ((List UInt8))) :=
 if (Int.tmod (w64 ((w64 (a0+(s3.length:Int)))+8)) 64) != 0 then
  app 1 s3 [0] >>= fun x7 =>
  some (.inr x7)
 else
  some (.inl s3)
def z59 (a0:Int) (s12:(List UInt8) × Int):Option (Sum ((List UInt8)) ((List UInt8) × Int)) :=
 if decide (0≤s12.2) then
  chk (0≤w64 (8 * s12.2)) >>= fun u15 =>
  app 1 s12.1 [(z61 (8 * (UInt64.ofInt a0)) ((w64 (8 * s12.2):Int).toNat)).toUInt8] >>= fun x18 =>
  some (w64 (s12.2 - 1)) >>= fun y21 =>
  some (.inr (x18,y21))
 else
  some (.inl s12.1)
def z90 (a0:Int):Option ((List UInt8)) :=
 (iter (z52 a0) [128]) >>= fun s2 =>
 (iter (z59 a0) (s2,7)) >>= fun s11 =>
 some s11
theorem zfk (a0:Int):z1y Tryz.prog 149 [.rd z09 a0] [] (z90 a0) (fun r nv=>⟨[.val (nv 0)],[(100,some (nv 0,.list u8R 5 r))]⟩):=by
 refine z2l 31 Tryz.func149 Z Z Z fun H w=>?_
 refine gSR<|Zb Z<|gSR<|Ef Z (lit (R:=u8R) ([128]:List UInt8) 1 (pP Z Z<|pN) Z tu129 ti5 Z Z) fun v1=>Zb Z<|z6t (fun (s2:(List UInt8)) aa ww=>∃ nv:Nat→Value,Sta (ctx 31 H [] w) [(0,.rd z09 a0),(3,.val (nv 0))] [(1,some ((nv 0),.list u8R 5 s2))] aa ww) ?_ (fun s2=>?_)
 ·
  refine z1q (fun (s3:(List UInt8)) aa ww=>∃ nv:Nat→Value,Sta (ctx 31 H [] w) [(0,.rd z09 a0),(3,.val (nv 0))] [(1,some ((nv 0),.list u8R 5 s3))] aa ww) (fun aa ww h=>⟨nvl [v1],Zu h [1]⟩) (fun s3=>?_)
  refine gEx fun n4=>z0m<|gSR<|Zm Z<|Zm Z<|Zq (z3q Z (.own 1 Z) Z tu129)<|Zq (I.add Z Z)<|Zq (I.add Z Z)<|Zq (I.rem Z Z (by decide))<|Zq (I.neq Z Z)<|Zj Z (fun h5=>?_) (fun h5=>?_)
  ·
   refine Zt<|z4s<|z1o<|Zm Z<|Ef Z (lit (R:=u8R) ([0]:List UInt8) 2 (pP Z Z<|pN) Z tu129 ti5 Z Z) fun v6=>z0g fun x7 h8=>Ef Z (apn 1 Z Z Z (.own 2 Z) h8 tu129 ti5 Z Z Z) fun v9=>Za Z<|z1f<|z2n<|z14 (fun aa ww h=>⟨nvl [v9],Zu h [1]⟩)
  ·
   refine z1d<|z0p<|z0s<|z37 (fun aa ww h=>⟨nvl [(n4 0)],Zu h [1]⟩)
 ·
  refine gEx fun n10=>z6t (fun (s11:(List UInt8)) aa ww=>∃ nv:Nat→Value,Sta (ctx 31 H [] w) [(3,.val (nv 0))] [(1,some ((nv 0),.list u8R 5 s11))] aa ww) ?_ (fun s11=>?_)
  ·
   refine gSR<|Zb Z<|z1q (fun (s12:(List UInt8) × Int) aa ww=>∃ nv:Nat→Value,Sta (ctx 31 H [] w) [(0,.rd z09 a0),(3,.val (nv 0)),(4,.rd z09 s12.2)] [(1,some ((nv 0),.list u8R 5 s12.1))] aa ww) (fun aa ww h=>⟨nvl [(n10 0)],Zu h [1]⟩) (fun s12=>?_)
   refine gEx fun n13=>z0m<|gSR<|Zm Z<|Zq (I.geq Z Z)<|Zj Z (fun h14=>?_) (fun h14=>?_)
   ·
    refine Zt<|z0m<|z4s<|z1o<|Zm Z<|Zm Z<|Zq (I.toU Z tu3 tu52)<|Zq (U.mul Z Z)<|Zm Z<|Zq (I.mul Z Z)<|z0g fun u15 h16=>Zq (U.shr Z Z (z4c h16))<|Zq (U.toB Z tu52 tu5)<|Ef Z (lit (R:=u8R) ([(z61 (8 * (UInt64.ofInt a0)) ((w64 (8 * s12.2):Int).toNat)).toUInt8]:List UInt8) 3 (pP Z Z<|pN) Z tu129 ti5 Z Z) fun v17=>z0g fun x18 h19=>Ef Z (apn 1 Z Z Z (.own 3 Z) h19 tu129 ti5 Z Z Z) fun v20=>Za Z<|z1f<|z2n<|z0e<|z1o<|Zm Z<|Zq (I.sub Z Z)<|Za Z<|z1e 4 Z fun y21=>z1f<|z14 (fun aa ww h=>⟨nvl [v20],Zu h [1]⟩)
   ·
    refine z1d<|z0p<|z0s<|z37 (fun aa ww h=>⟨nvl [(n13 0)],Zu h [1]⟩)
  ·
   refine gEx fun n22=>gSR<|Zm Z<|Zb Z<|z0j<|Ze [(n22 0)] [1] Z
def z1x (a0:UInt32) (a1:Int):Option (UInt32) :=
 chk (0≤a1) >>= fun u1 =>
 chk (0≤w64 (32 - a1)) >>= fun u3 =>
 some ((z3y a0 ((a1:Int).toNat)) ||| (zki a0 ((w64 (32 - a1):Int).toNat))) >>= fun y5 =>
 some y5
theorem z20 (a0:UInt32) (a1:Int):z1y Tryz.prog 217 [.rd z0o a0,.rd z09 a1] [] (z1x a0 a1) (fun r nv=>⟨[.rd z0o r],[]⟩):=by
 refine z2l 13 Tryz.func217 Z Z Z fun H w=>?_
 refine gSR<|Zb Z<|z0m<|zdz mixed (by kernel_rfl)<|Rq Z (mv Z)<|Rq Z (mv Z)<|z55 fun u1 h2=>Rq Z (W.shr Z Z (z4c h2))<|Rq Z (mv Z)<|Rq Z (mv Z)<|Rq Z (I.sub Z Z)<|z55 fun u3 h4=>Rq Z (W.shl Z Z (z4c h4))<|Rq Z (W.or Z Z)<|Rq Z (asg Z)<|z10c 4 Z fun y5=>zks<|z0e<|z0j<|Ze [] [] Z
def z7t  : Option ((List UInt32)) :=
 some [1116352408,1899447441,3049323471,3921009573,961987163,1508970993,2453635748,2870763221,3624381080,310598401,607225278,1426881987,1925078388,2162078206,2614888103,3248222580,3835390401,4022224774,264347078,604807628,770255983,1249150122,1555081692,1996064986,2554220882,2821834349,2952996808,3210313671,3336571891,3584528711,113926993,338241895,666307205,773529912,1294757372,1396182291,1695183700,1986661051,2177026350,2456956037,2730485921,2820302411,3259730800,3345764771,3516065817,3600352804,4094571909,275423344,430227734,506948616,659060556,883997877,958139571,1322822218,1537002063,1747873779,1955562222,2024104815,2227730452,2361852424,2428436474,2756734187,3204031479,3329325298]
theorem zc7  : z1y Tryz.prog 218 [] [] (z7t) (fun r nv=>⟨[.val (nv 0)],[(100,some (nv 0,.list z0o 65 r))]⟩):=by
 refine z2l 2 Tryz.func218 Z Z Z fun H w=>?_
 refine gSR<|Zb Z<|gSR<|Ef Z (lit (R:=z0o) ([1116352408,1899447441,3049323471,3921009573,961987163,1508970993,2453635748,2870763221,3624381080,310598401,607225278,1426881987,1925078388,2162078206,2614888103,3248222580,3835390401,4022224774,264347078,604807628,770255983,1249150122,1555081692,1996064986,2554220882,2821834349,2952996808,3210313671,3336571891,3584528711,113926993,338241895,666307205,773529912,1294757372,1396182291,1695183700,1986661051,2177026350,2456956037,2730485921,2820302411,3259730800,3345764771,3516065817,3600352804,4094571909,275423344,430227734,506948616,659060556,883997877,958139571,1322822218,1537002063,1747873779,1955562222,2024104815,2227730452,2361852424,2428436474,2756734187,3204031479,3329325298]:List UInt32) 1 (pP Z Z<|pP Z Z<|pP Z Z<|pP Z Z<|pP Z Z<|pP Z Z<|pP Z Z<|pP Z Z<|pP Z Z<|pP Z Z<|pP Z Z<|pP Z Z<|pP Z Z<|pP Z Z<|pP Z Z<|pP Z Z<|pP Z Z<|pP Z Z<|pP Z Z<|pP Z Z<|pP Z Z<|pP Z Z<|pP Z Z<|pP Z Z<|pP Z Z<|pP Z Z<|pP Z Z<|pP Z Z<|pP Z Z<|pP Z Z<|pP Z Z<|pP Z Z<|pP Z Z<|pP Z Z<|pP Z Z<|pP Z Z<|pP Z Z<|pP Z Z<|pP Z Z<|pP Z Z<|pP Z Z<|pP Z Z<|pP Z Z<|pP Z Z<|pP Z Z<|pP Z Z<|pP Z Z<|pP Z Z<|pP Z Z<|pP Z Z<|pP Z Z<|pP Z Z<|pP Z Z<|pP Z Z<|pP Z Z<|pP Z Z<|pP Z Z<|pP Z Z<|pP Z Z<|pP Z Z<|pP Z Z<|pP Z Z<|pP Z Z<|pP Z Z<|pN) Z tu236 z5c Z Z) fun v1=>Zb Z<|z0j<|Ze [v1] [1] Z
def z47 (a1:List UInt8) (s4:(List UInt32) × Int):Option (Sum ((List UInt32)) ((List UInt32) × Int)) :=
 if decide (s4.2<16) then
  idx a1 (w64 (4 * s4.2)) >>= fun x7 =>
  idx a1 (w64 ((w64 (4 * s4.2))+1)) >>= fun x9 =>
  idx a1 (w64 ((w64 (4 * s4.2))+2)) >>= fun x11 =>
  idx a1 (w64 ((w64 (4 * s4.2))+3)) >>= fun x13 =>
  app 4 s4.1 [(((((x7.toUInt32 * 256)+x9.toUInt32) * 256)+x11.toUInt32) * 256)+x13.toUInt32] >>= fun x16 =>
  some (w64 (s4.2+1)) >>= fun y19 =>
  some (.inr (x16,y19))
 else
  some (.inl s4.1)
def z45 (s22:(List UInt32) × Int):Option (Sum ((List UInt32)) ((List UInt32) × Int)) :=
 if decide (s22.2<64) then
  idx s22.1 (w64 (s22.2 - 15)) >>= fun x25 =>
  idx s22.1 (w64 (s22.2 - 2)) >>= fun x27 =>
  idx s22.1 (w64 (s22.2 - 16)) >>= fun x29 =>
  idx s22.1 (w64 (s22.2 - 7)) >>= fun x31 =>
  z1x x25 7 >>= fun r33 =>
  z1x x25 18 >>= fun r36 =>
  z1x x27 17 >>= fun r39 =>
  z1x x27 19 >>= fun r42 =>
  app 4 s22.1 [((x29+x31)+((r33 ^^^ r36) ^^^ (z3y x25 3)))+((r39 ^^^ r42) ^^^ (z3y x27 10))] >>= fun x45 =>
  some (w64 (s22.2+1)) >>= fun y48 =>
  some (.inr (x45,y48))
 else
  some (.inl s22.1)
def z2q (s21:(List UInt32)) (r50:(List UInt32)) (s54:(Vector UInt32 8) × Int):Option (Sum ((Vector UInt32 8)) ((Vector UInt32 8) × Int)) :=
 if decide (s54.2<64) then
  z62 s54.1 0 >>= fun x56 =>
  z62 s54.1 1 >>= fun x58 =>
  z62 s54.1 2 >>= fun x60 =>
  z62 s54.1 4 >>= fun x62 =>
  z62 s54.1 5 >>= fun x64 =>
  z62 s54.1 6 >>= fun x66 =>
  z62 s54.1 7 >>= fun x68 =>
  idx r50 s54.2 >>= fun x70 =>
  idx s21 s54.2 >>= fun x72 =>
  z1x x62 6 >>= fun r74 =>
  z1x x62 11 >>= fun r76 =>
  z1x x62 25 >>= fun r78 =>
  some ((((x68+((r74 ^^^ r76) ^^^ r78))+((x62 &&& x64) ^^^ ((~~~x62) &&& x66)))+x70)+x72) >>= fun y80 =>
  z1x x56 2 >>= fun r81 =>
  z1x x56 13 >>= fun r83 =>
  z1x x56 22 >>= fun r85 =>
  some (((r81 ^^^ r83) ^^^ r85)+(((x56 &&& x58) ^^^ (x56 &&& x60)) ^^^ (x58 &&& x60))) >>= fun y87 =>
  z62 s54.1 3 >>= fun x88 =>
  some (w64 (s54.2+1)) >>= fun y90 =>
  some (.inr ((#v[y80+y87,x56,x58,x60,x88+y80,x62,x64,x66]:Vector UInt32 8),y90))
 else
  some (.inl s54.1)
def z2e (s53:(Vector UInt32 8)) (s92:(Vector UInt32 8) × Int):Option (Sum ((Vector UInt32 8)) ((Vector UInt32 8) × Int)) :=
 if decide (s92.2<8) then
  z62 s92.1 s92.2 >>= fun x94 =>
  z62 s53 s92.2 >>= fun x96 =>
  z62 s92.1 s92.2 >>= fun x98 =>
  some (w64 (s92.2+1)) >>= fun y100 =>
  some (.inr (zex s92.1 s92.2 (x94+x96),y100))
 else
  some (.inl s92.1)
def z7k (a0:Vector UInt32 8) (a1:List UInt8):Option ((Vector UInt32 8)) :=
 (iter (z47 a1) ([],0)) >>= fun s3 =>
 (iter (z45) (s3,16)) >>= fun s21 =>
 z7t >>= fun r50 =>
 (iter (z2q s21 r50) (a0,0)) >>= fun s53 =>
 (iter (z2e s53) (a0,0)) >>= fun s91 =>
 some s91
set_option maxHeartbeats 4000000 in
theorem zdo (a0:Vector UInt32 8) (a1:List UInt8):z1y Tryz.prog 193 [.rd (z3i 8 z0o) a0,.rd (z03 u8R) a1] [] (z7k a0 a1) (fun r nv=>⟨[.rd (z3i 8 z0o) r],[]⟩):=by
 refine z2l 203 Tryz.func193 Z Z Z fun H w=>?_
 refine gSR<|Eb Z (bx 1 Z) fun v1=>Eb Z (z9b 2 zdt (.zr (R:=(z3i 8 z0o)) (x:=(Vector.replicate 8 0)) zmc)) fun v2=>Zn<|gSR<|Zb Z<|z6t (fun (s3:(List UInt32)) aa ww=>∃ nv:Nat→Value,Sta (ctx 203 H [] w) [(2,.val (z05 v1 0)),(4,.val (z05 v2 0)),(5,.val (nv 0))] [(1,some (v1,.box 194 [.rd (z3i 8 z0o) a0])),(2,some (v2,.box 194 [.rd (z3i 8 z0o) (Vector.replicate 8 0)])),(108,some ((nv 0),.list z0o 65 s3))] aa ww) ?_ (fun s3=>?_)
 ·
  refine gSR<|Zb Z<|zs7 z0o 65 215<|z1q (fun (s4:(List UInt32) × Int) aa ww=>∃ nv:Nat→Value,Sta (ctx 203 H [] w) [(1,.rd (z03 u8R) a1),(2,.val (z05 v1 0)),(4,.val (z05 v2 0)),(5,.val (nv 0)),(6,.rd z09 s4.2)] [(1,some (v1,.box 194 [.rd (z3i 8 z0o) a0])),(2,some (v2,.box 194 [.rd (z3i 8 z0o) (Vector.replicate 8 0)])),(214,some ((nv 0),.list z0o 65 s4.1))] aa ww) (fun aa ww h=>⟨nvl [(.slice none 0 0)],Zu h [1,2,215]⟩) (fun s4=>?_)
  refine gEx fun n5=>z0m<|gSR<|Zm Z<|Zq (I.lss Z Z)<|Zj Z (fun h6=>?_) (fun h6=>?_)
  ·
   refine Zt<|z0m<|z4s<|z6p [214,318] mixed Z Z<|hTk 0 Z Z (mv Z)<|hTk 1 Z Z (mv Z)<|hTk 2 Z Z (mv Z)<|hTk 3 Z Z (I.mul Z Z)<|z36 fun x7 h8=>hTk 4 Z Z (ixR Z Z h8 tu129 ti5 Z)<|hTk 5 Z Z (ldR Z ty5)<|hTk 6 Z Z (B.toW Z tu5 tu65)<|hTk 7 Z Z (W.mul Z Z)<|hTk 8 Z Z (mv Z)<|hTk 9 Z Z (mv Z)<|hTk 10 Z Z (I.mul Z Z)<|hTk 11 Z Z (I.add Z Z)<|z36 fun x9 h10=>hTk 12 Z Z (ixR Z Z h10 tu129 ti5 Z)<|hTk 13 Z Z (ldR Z ty5)<|hTk 14 Z Z (B.toW Z tu5 tu65)<|hTk 15 Z Z (W.add Z Z)<|hTk 16 Z Z (W.mul Z Z)<|hTk 17 Z Z (mv Z)<|hTk 18 Z Z (mv Z)<|hTk 19 Z Z (I.mul Z Z)<|hTk 20 Z Z (I.add Z Z)<|z36 fun x11 h12=>hTk 21 Z Z (ixR Z Z h12 tu129 ti5 Z)<|hTk 22 Z Z (ldR Z ty5)<|hTk 23 Z Z (B.toW Z tu5 tu65)<|hTk 24 Z Z (W.add Z Z)<|hTk 25 Z Z (W.mul Z Z)<|hTk 26 Z Z (mv Z)<|hTk 27 Z Z (mv Z)<|hTk 28 Z Z (I.mul Z Z)<|hTk 29 Z Z (I.add Z Z)<|z36 fun x13 h14=>hTk 30 Z Z (ixR Z Z h14 tu129 ti5 Z)<|hTk 31 Z Z (ldR Z ty5)<|hTk 32 Z Z (B.toW Z tu5 tu65)<|hTk 33 Z Z (W.add Z Z)<|Zo 34 Z Z Z (lit (R:=z0o) ([(((((x7.toUInt32 * 256)+x9.toUInt32) * 256)+x11.toUInt32) * 256)+x13.toUInt32]:List UInt32) 318 (pP Z Z<|pN) Z tu236 z5c Z Z) fun v15=>z36 fun x16 h17=>Zo 35 Z Z Z (apn 214 Z Z Z (.own 318 Z) h17 tu236 z5c Z Z Z) fun v18=>Zf 36 Z Z z2f (asg Z)<|z3l (by kernel_rfl)<|z2n<|z0e<|z1o<|Zm Z<|Zq (I.add Z Z)<|Za Z<|z1e 6 Z fun y19=>z1f<|z14 (fun aa ww h=>⟨nvl [v18],Zu h [1,2,214]⟩)
  ·
   refine z1d<|z0p<|z0s<|z37 (fun aa ww h=>⟨nvl [(n5 0)],Zu h [1,2,214]⟩)
 ·
  refine gEx fun n20=>z6t (fun (s21:(List UInt32)) aa ww=>∃ nv:Nat→Value,Sta (ctx 203 H [] w) [(2,.val (z05 v1 0)),(4,.val (z05 v2 0)),(5,.val (nv 0))] [(1,some (v1,.box 194 [.rd (z3i 8 z0o) a0])),(2,some (v2,.box 194 [.rd (z3i 8 z0o) (Vector.replicate 8 0)])),(108,some ((nv 0),.list z0o 65 s21))] aa ww) ?_ (fun s21=>?_)
  ·
   refine gSR<|Zb Z<|z1q (fun (s22:(List UInt32) × Int) aa ww=>∃ nv:Nat→Value,Sta (ctx 203 H [] w) [(2,.val (z05 v1 0)),(4,.val (z05 v2 0)),(5,.val (nv 0)),(7,.rd z09 s22.2)] [(1,some (v1,.box 194 [.rd (z3i 8 z0o) a0])),(2,some (v2,.box 194 [.rd (z3i 8 z0o) (Vector.replicate 8 0)])),(108,some ((nv 0),.list z0o 65 s22.1))] aa ww) (fun aa ww h=>⟨nvl [(n20 0)],Zu h [1,2,108]⟩) (fun s22=>?_)
   refine gEx fun n23=>z0m<|gSR<|Zm Z<|Zq (I.lss Z Z)<|Zj Z (fun h24=>?_) (fun h24=>?_)
   ·
    refine Zt<|z0m<|z4s<|z0m<|zdz mixed (by kernel_rfl)<|Rq Z (mv Z)<|Rq Z (mv Z)<|Rq Z (I.sub Z Z)<|z55 fun x25 h26=>Rq Z (ixO 108 Z Z Z h26 tu236 z5c)<|Rq Z (ld 108 Z Z (Foc.el h26) z7y Z)<|Rq Z (mv Z)<|Rq Z (mv Z)<|Rq Z (I.sub Z Z)<|z55 fun x27 h28=>Rq Z (ixO 108 Z Z Z h28 tu236 z5c)<|Rq Z (ld 108 Z Z (Foc.el h28) z7y Z)<|Rq Z (asg Z)<|Rq Z (asg Z)<|zks<|z0e<|zxj [(5,.val (n23 0)),(2,.val (z05 v1 0)),(4,.val (z05 v2 0)),(7,.rd z09 s22.2),(8,.rd z0o x25),(9,.rd z0o x27)] [(1,some (v1,.box 194 [.rd (z3i 8 z0o) a0])),(2,some (v2,.box 194 [.rd (z3i 8 z0o) (Vector.replicate 8 0)])),(108,some ((n23 0),.list z0o 65 s22.1))] [1,2,108] (Zs Z Z Z Z<|sS Z<|sS Z<|sN) (Zi Z<|Zi Z<|Zi Z<|rN)<|z9q fun x29 h30=>z9q fun x31 h32=>z9q fun r33 h35=>z9q fun r36 h38=>z9q fun r39 h41=>z9q fun r42 h44=>z9q fun x45 h46=>gOr [(5,.val (n23 0),32)] [⟨108,some ([], fun nv=>((n23 0),.list z0o 65 s22.1)),[(31,some ([2], fun nv=>((nv 2),.list z0o 65 x45)))]⟩,⟨330,none,[(30,some ([1], fun nv=>((nv 1),.list z0o 65 [((x29+x31)+((r33 ^^^ r36) ^^^ (z3y x25 3)))+((r39 ^^^ r42) ^^^ (z3y x27 10))])))]⟩] [⟨some (76,[], fun nv=>.val (n23 0)),[],[],[0]⟩,⟨some (77,[], fun nv=>.val (n23 0)),[],[],[0]⟩,pd 78 (.rd z09 s22.2),pd 79 (.rd z09 (w64 (s22.2 - 16))),pk 80 (.val (z05 (n23 0) ((w64 (s22.2 - 16):Int).toNat * 1))) [(0,0,false)],pk 81 (.rd z0o x29) [(0,0,false)],⟨some (82,[], fun nv=>.val (n23 0)),[],[],[0]⟩,pd 83 (.rd z09 s22.2),pd 84 (.rd z09 (w64 (s22.2 - 7))),pk 85 (.val (z05 (n23 0) ((w64 (s22.2 - 7):Int).toNat * 1))) [(0,0,false)],pk 86 (.rd z0o x31) [(0,0,false)],pd 87 (.rd z0o (x29+x31)),pd 88 (.rd z0o x25),pd 89 (.rd z0o r33),pd 90 (.rd z0o x25),pd 91 (.rd z0o r36),pd 92 (.rd z0o (r33 ^^^ r36)),pd 93 (.rd z0o x25),pd 94 (.rd z0o (z3y x25 3)),pd 95 (.rd z0o ((r33 ^^^ r36) ^^^ (z3y x25 3))),pd 96 (.rd z0o ((x29+x31)+((r33 ^^^ r36) ^^^ (z3y x25 3)))),pd 97 (.rd z0o x27),pd 98 (.rd z0o r39),pd 99 (.rd z0o x27),pd 100 (.rd z0o r42),pd 101 (.rd z0o (r39 ^^^ r42)),pd 102 (.rd z0o x27),pd 103 (.rd z0o (z3y x27 10)),pd 104 (.rd z0o ((r39 ^^^ r42) ^^^ (z3y x27 10))),pd 105 (.rd z0o (((x29+x31)+((r33 ^^^ r36) ^^^ (z3y x25 3)))+((r39 ^^^ r42) ^^^ (z3y x27 10)))),⟨some (106,[1], fun nv=>.val (nv 1)),[(1,0,true)],[1],[]⟩,⟨some (107,[2], fun nv=>.val (nv 2)),[(1,1,false),(0,0,true)],[2],[]⟩,⟨some (5,[2], fun nv=>.val (nv 2)),[],[],[]⟩] mixed (oC (oRn (fun nv E=>mv Z))<|oC (oRn (fun nv E=>mv Z))<|oC (oRn (fun nv E=>mv Z))<|oC (oRn (fun nv E=>I.sub Z Z))<|oC (oRn (fun nv E=>ixO 108 Z Z Z h30 tu236 z5c))<|oC (oRn (fun nv E=>ld 108 Z Z (Foc.el h30) z7y Z))<|oC (oRn (fun nv E=>mv Z))<|oC (oRn (fun nv E=>mv Z))<|oC (oRn (fun nv E=>I.sub Z Z))<|oC (oRn (fun nv E=>ixO 108 Z Z Z h32 tu236 z5c))<|oC (oRn (fun nv E=>ld 108 Z Z (Foc.el h32) z7y Z))<|oC (oRn (fun nv E=>W.add Z Z))<|oC (oRn (fun nv E=>mv Z))<|oC (oCl [] [] [] h35 Tryz.func217 Z (fun nv=>(z20 _ _)) (fun nv=>(Y2 Z Z)) (fun nv E=>rN))<|oC (oRn (fun nv E=>mv Z))<|oC (oCl [] [] [] h38 Tryz.func217 Z (fun nv=>(z20 _ _)) (fun nv=>(Y2 Z Z)) (fun nv E=>rN))<|oC (oRn (fun nv E=>W.xor Z Z))<|oC (oRn (fun nv E=>mv Z))<|oC (oRn (fun nv E=>W.shr Z Z (Int.natCast_nonneg _)))<|oC (oRn (fun nv E=>W.xor Z Z))<|oC (oRn (fun nv E=>W.add Z Z))<|oC (oRn (fun nv E=>mv Z))<|oC (oCl [] [] [] h41 Tryz.func217 Z (fun nv=>(z20 _ _)) (fun nv=>(Y2 Z Z)) (fun nv E=>rN))<|oC (oRn (fun nv E=>mv Z))<|oC (oCl [] [] [] h44 Tryz.func217 Z (fun nv=>(z20 _ _)) (fun nv=>(Y2 Z Z)) (fun nv E=>rN))<|oC (oRn (fun nv E=>W.xor Z Z))<|oC (oRn (fun nv E=>mv Z))<|oC (oRn (fun nv E=>W.shr Z Z (Int.natCast_nonneg _)))<|oC (oRn (fun nv E=>W.xor Z Z))<|oC (oRn (fun nv E=>W.add Z Z))<|oC (oEf 330 1 (fun nv E=>lit (R:=z0o) ([((x29+x31)+((r33 ^^^ r36) ^^^ (z3y x25 3)))+((r39 ^^^ r42) ^^^ (z3y x27 10))]:List UInt32) 330 (pP Z Z<|pN) Z tu236 z5c Z Z))<|oC (oEf 108 2 (fun nv E=>apn 108 Z Z Z (.own 330 Z) h46 tu236 z5c Z Z Z))<|oC (oRn (fun nv E=>asg Z))<|oN) fun n47=>z2n<|z0e<|z1o<|Zm Z<|Zq (I.add Z Z)<|Za Z<|z1e 7 Z fun y48=>z1f<|z14 (fun aa ww h=>⟨nvl [(n47 2)],Zu h [1,2,108]⟩)
   ·
    refine z1d<|z0p<|z0s<|z37 (fun aa ww h=>⟨nvl [(n23 0)],Zu h [1,2,108]⟩)
  ·
   refine gEx fun n49=>gSR<|Zc [] [(100,331)] Tryz.func218 Z (zc7) fun r50 n51=>Zb Z<|gSR<|Zq (ld 1 Z Z fH zm8 Z)<|Eb Z (z9b 332 zdt (.zr (R:=(z3i 8 z0o)) (x:=(Vector.replicate 8 0)) zmc)) fun v52=>Es (sto 332 Z Z fH Z zdt)<|Zn<|z6t (fun (s53:(Vector UInt32 8)) aa ww=>Sta (ctx 203 H [] w) [(2,.val (z05 v1 0)),(4,.val (z05 v2 0)),(11,.val (z05 v52 0))] [(1,some (v1,.box 194 [.rd (z3i 8 z0o) a0])),(2,some (v2,.box 194 [.rd (z3i 8 z0o) (Vector.replicate 8 0)])),(332,some (v52,.box 194 [.rd (z3i 8 z0o) s53]))] aa ww) ?_ (fun s53=>?_)
   ·
    refine gSR<|Zb Z<|z1q (fun (s54:(Vector UInt32 8) × Int) aa ww=>Sta (ctx 203 H [] w) [(2,.val (z05 v1 0)),(4,.val (z05 v2 0)),(5,.val (n49 0)),(10,.val (n51 0)),(11,.val (z05 v52 0)),(12,.rd z09 s54.2)] [(1,some (v1,.box 194 [.rd (z3i 8 z0o) a0])),(2,some (v2,.box 194 [.rd (z3i 8 z0o) (Vector.replicate 8 0)])),(108,some ((n49 0),.list z0o 65 s21)),(331,some ((n51 0),.list z0o 65 r50)),(332,some (v52,.box 194 [.rd (z3i 8 z0o) s54.1]))] aa ww) (fun aa ww h=>Zu h [1,2,108,331,332]) (fun s54=>?_)
    refine z0m<|gSR<|Zm Z<|Zq (I.lss Z Z)<|Zj Z (fun h55=>?_) (fun h55=>?_)
    ·
     refine Zt<|z0m<|z4s<|z0m<|zdz mixed (by kernel_rfl)<|z55 fun x56 h57=>Rq Z (ixB 332 Z Z Z h57 tu194 z5c)<|Rq Z (ld 332 Z Z (fP (.el h57)) z7y Z)<|z55 fun x58 h59=>Rq Z (ixB 332 Z Z Z h59 tu194 z5c)<|Rq Z (ld 332 Z Z (fP (.el h59)) z7y Z)<|z55 fun x60 h61=>Rq Z (ixB 332 Z Z Z h61 tu194 z5c)<|Rq Z (ld 332 Z Z (fP (.el h61)) z7y Z)<|z55 fun x62 h63=>Rq Z (ixB 332 Z Z Z h63 tu194 z5c)<|Rq Z (ld 332 Z Z (fP (.el h63)) z7y Z)<|z55 fun x64 h65=>Rq Z (ixB 332 Z Z Z h65 tu194 z5c)<|Rq Z (ld 332 Z Z (fP (.el h65)) z7y Z)<|z55 fun x66 h67=>Rq Z (ixB 332 Z Z Z h67 tu194 z5c)<|Rq Z (ld 332 Z Z (fP (.el h67)) z7y Z)<|Rq Z (asg Z)<|Rq Z (asg Z)<|Rq Z (asg Z)<|Rq Z (asg Z)<|Rq Z (asg Z)<|Rq Z (asg Z)<|zks<|z0e<|z0m<|z6p [] mixed Z Z<|z36 fun x68 h69=>hTk 0 Z Z (ixB 332 Z Z Z h69 tu194 z5c)<|hTk 1 Z Z (ld 332 Z Z (fP (.el h69)) z7y Z)<|hTk 2 Z Z (mv Z)<|hTk 4 Z Z (mv Z)<|hTk 7 Z Z (mv Z)<|hTk 11 Z Z (mv Z)<|hTk 12 Z Z (mv Z)<|hTk 13 Z Z (W.and Z Z)<|hTk 14 Z Z (mv Z)<|hTk 15 Z Z (W.cpl Z)<|hTk 16 Z Z (mv Z)<|hTk 17 Z Z (W.and Z Z)<|hTk 18 Z Z (W.xor Z Z)<|hTk 20 Z Z (mv Z)<|hTk 21 Z Z (mv Z)<|z36 fun x70 h71=>hTk 22 Z Z (ixO 331 Z Z Z h71 tu236 z5c)<|hTk 23 Z Z (ld 331 Z Z (Foc.el h71) z7y Z)<|hTk 25 Z Z (mv Z)<|hTk 26 Z Z (mv Z)<|z36 fun x72 h73=>hTk 27 Z Z (ixO 108 Z Z Z h73 tu236 z5c)<|hTk 28 Z Z (ld 108 Z Z (Foc.el h73) z7y Z)<|z3c 3 [] [] Z (by kernel_rfl) Z (gd0 Z) Z Tryz.func217 Z Z (z20 _ _) (Y2 Z Z) rN Z (fun _ _=>z2j) fun r74 n75=>z3c 5 [] [] Z (by kernel_rfl) Z (gd0 Z) Z Tryz.func217 Z Z (z20 _ _) (Y2 Z Z) rN Z (fun _ _=>z2j) fun r76 n77=>hTk 6 Z Z (W.xor Z Z)<|z3c 8 [] [] Z (by kernel_rfl) Z (gd0 Z) Z Tryz.func217 Z Z (z20 _ _) (Y2 Z Z) rN Z (fun _ _=>z2j) fun r78 n79=>hTk 9 Z Z (W.xor Z Z)<|hTk 10 Z Z (W.add Z Z)<|hTk 19 Z Z (W.add Z Z)<|hTk 24 Z Z (W.add Z Z)<|hTk 29 Z Z (W.add Z Z)<|hTk 30 Z Z (asg Z)<|zqm 19 Z Z fun y80=>z3l (by kernel_rfl)<|z0e<|gSR<|Zm Z<|Zc [] [] Tryz.func217 Z (z20 _ _) fun r81 n82=>Zm Z<|Zc [] [] Tryz.func217 Z (z20 _ _) fun r83 n84=>Zq (W.xor Z Z)<|Zm Z<|Zc [] [] Tryz.func217 Z (z20 _ _) fun r85 n86=>Zq (W.xor Z Z)<|Zm Z<|Zm Z<|Zq (W.and Z Z)<|Zm Z<|Zm Z<|Zq (W.and Z Z)<|Zq (W.xor Z Z)<|Zm Z<|Zm Z<|Zq (W.and Z Z)<|Zq (W.xor Z Z)<|Zq (W.add Z Z)<|Za Z<|z1e 20 Z fun y87=>Zn<|z1o<|Zm Z<|Zm Z<|Zq (W.add Z Z)<|Zm Z<|Zm Z<|Zm Z<|z0g fun x88 h89=>Zq (ixB 332 Z Z Z h89 tu194 z5c)<|Zq (ld 332 Z Z (fP (.el h89)) z7y Z)<|Zm Z<|Zq (W.add Z Z)<|Zm Z<|Zm Z<|Zm Z<|Zq (litA (R:=z0o) [y80+y87,x56,x58,x60,x88+y80,x62,x64,x66] (#v[y80+y87,x56,x58,x60,x88+y80,x62,x64,x66]:Vector UInt32 8) (pP Z Z<|pP Z Z<|pP Z Z<|pP Z Z<|pP Z Z<|pP Z Z<|pP Z Z<|pP Z Z<|pN) Z tu194 zdt Z z5c)<|Es (sto 332 Z Z fH Z zdt)<|z1f<|z2n<|z0e<|z1o<|Zm Z<|Zq (I.add Z Z)<|Za Z<|z1e 12 Z fun y90=>z1f<|z14 (fun aa ww h=>Zu h [1,2,108,331,332])
    ·
     refine z1d<|z0p<|z0s<|z37 (fun aa ww h=>Zu h [1,2,332])
   ·
    refine z6t (fun (s91:(Vector UInt32 8)) aa ww=>Sta (ctx 203 H [] w) [(2,.val (z05 v1 0)),(4,.val (z05 v2 0))] [(1,some (v1,.box 194 [.rd (z3i 8 z0o) s91])),(2,some (v2,.box 194 [.rd (z3i 8 z0o) (Vector.replicate 8 0)]))] aa ww) ?_ (fun s91=>?_)
    ·
     refine gSR<|Zb Z<|z1q (fun (s92:(Vector UInt32 8) × Int) aa ww=>Sta (ctx 203 H [] w) [(2,.val (z05 v1 0)),(4,.val (z05 v2 0)),(11,.val (z05 v52 0)),(21,.rd z09 s92.2)] [(1,some (v1,.box 194 [.rd (z3i 8 z0o) s92.1])),(2,some (v2,.box 194 [.rd (z3i 8 z0o) (Vector.replicate 8 0)])),(332,some (v52,.box 194 [.rd (z3i 8 z0o) s53]))] aa ww) (fun aa ww h=>Zu h [1,2,332]) (fun s92=>?_)
     refine z0m<|gSR<|Zm Z<|Zq (I.lss Z Z)<|Zj Z (fun h93=>?_) (fun h93=>?_)
     ·
      refine Zt<|z0m<|z4s<|z6p [1] mixed Z Z<|hTk 0 Z Z (mv Z)<|z36 fun x94 h95=>hTk 1 Z Z (ixB 1 Z Z Z h95 tu194 z5c)<|hTk 3 Z Z (mv Z)<|z36 fun x96 h97=>hTk 4 Z Z (ixB 332 Z Z Z h97 tu194 z5c)<|hTk 5 Z Z (ld 332 Z Z (fP (.el h97)) z7y Z)<|hRun 2 Z (by kernel_rfl) (gd0 Z) Z Z z2j (ld 1 Z Z (fP (.el h95)) z7y Z)<|hTk 6 Z Z (W.add Z Z)<|z36 fun x98 h99=>hTk 7 Z Z (ixB 1 Z Z Z h99 tu194 z5c)<|Zp 8 Z Z Z Z Z (sto 1 Z Z (fP (.el h99)) Z z5c)<|z3l (by kernel_rfl)<|z2n<|z0e<|z1o<|Zm Z<|Zq (I.add Z Z)<|Za Z<|z1e 21 Z fun y100=>z1f<|z14 (fun aa ww h=>Zu h [1,2,332])
     ·
      refine z1d<|z0p<|z0s<|z37 (fun aa ww h=>Zu h [1,2])
    ·
     refine gSR<|Zq (ld 1 Z Z fH zm8 Z)<|Es (sto 2 Z Z fH Z zdt)<|Zn<|z0j<|zdj [] [] Z (eC 2 Z Z zm8<|eN) (rN)
def z42 (a1:List UInt8) (s4:(Vector UInt32 8) × Int):Option (Sum ((Vector UInt32 8)) ((Vector UInt32 8) × Int)) :=
 if decide ((w64 (s4.2+64))≤(a1.length:Int)) then
  cut a1 s4.2 (w64 (s4.2+64)) >>= fun x6 =>
  z7k s4.1 x6 >>= fun r8 =>
  some (w64 (s4.2+64)) >>= fun y10 =>
  some (.inr (r8,y10))
 else
  some (.inl s4.1)
def z7h (a0:Vector UInt32 8) (a1:List UInt8):Option ((Vector UInt32 8)) :=
 (iter (z42 a1) (a0,0)) >>= fun s3 =>
 some s3
theorem zdw (a0:Vector UInt32 8) (a1:List UInt8):z1y Tryz.prog 147 [.rd (z3i 8 z0o) a0,.rd (z03 u8R) a1] [] (z7h a0 a1) (fun r nv=>⟨[.rd (z3i 8 z0o) r],[]⟩):=by
 refine z2l 21 Tryz.func147 Z Z Z fun H w=>?_
 refine gSR<|Eb Z (bx 1 Z) fun v1=>Eb Z (z9b 2 zdt (.zr (R:=(z3i 8 z0o)) (x:=(Vector.replicate 8 0)) zmc)) fun v2=>Zn<|z6t (fun (s3:(Vector UInt32 8)) aa ww=>Sta (ctx 21 H [] w) [(2,.val (z05 v1 0)),(4,.val (z05 v2 0))] [(1,some (v1,.box 194 [.rd (z3i 8 z0o) s3])),(2,some (v2,.box 194 [.rd (z3i 8 z0o) (Vector.replicate 8 0)]))] aa ww) ?_ (fun s3=>?_)
 ·
  refine gSR<|Zb Z<|z1q (fun (s4:(Vector UInt32 8) × Int) aa ww=>Sta (ctx 21 H [] w) [(1,.rd (z03 u8R) a1),(2,.val (z05 v1 0)),(4,.val (z05 v2 0)),(5,.rd z09 s4.2)] [(1,some (v1,.box 194 [.rd (z3i 8 z0o) s4.1])),(2,some (v2,.box 194 [.rd (z3i 8 z0o) (Vector.replicate 8 0)]))] aa ww) (fun aa ww h=>Zu h [1,2]) (fun s4=>?_)
  refine z0m<|gSR<|Zm Z<|Zq (I.add Z Z)<|Zm Z<|Zq (z3q Z .rd Z tu129)<|Zq (I.leq Z Z)<|Zj Z (fun h5=>?_) (fun h5=>?_)
  ·
   refine Zt<|z0m<|z4s<|z6p [1] mixed Z Z<|hTk 1 Z Z (mv Z)<|hTk 2 Z Z (mv Z)<|hTk 3 Z Z (mv Z)<|hTk 4 Z Z (I.add Z Z)<|z36 fun x6 h7=>hTk 5 Z Z (zwo Z (.to Z) (.to Z) h7 tu129 ti5)<|hRun 0 Z (by kernel_rfl) (gd0 Z) Z Z anyJ (ld 1 Z Z fH zm8 Z)<|zvv 6 [] [] Z (by kernel_rfl) Z (gd0 Z) Z Tryz.func193 Z Z (zdo _ _) (Y2 Z Z) rN Z fun r8 n9=>Zp 7 Z Z Z Z Z (sto 1 Z Z fH Z zdt)<|z3l (by kernel_rfl)<|z2n<|z0e<|z1o<|Zm Z<|Zq (I.add Z Z)<|Za Z<|z1e 5 Z fun y10=>z1f<|z14 (fun aa ww h=>Zu h [1,2])
  ·
   refine z1d<|z0p<|z0s<|z37 (fun aa ww h=>Zu h [1,2])
 ·
  refine gSR<|Zq (ld 1 Z Z fH zm8 Z)<|Es (sto 2 Z Z fH Z zdt)<|Zn<|z0j<|zdj [] [] Z (eC 2 Z Z zm8<|eN) (rN)
def z3w (a0:Vector UInt32 8) (s5:V3 × Int):Option (Sum (V3) (V3 × Int)) :=
 if decide (s5.2<32) then
  z62 a0 (w64 (Int.tdiv s5.2 4)) >>= fun x7 =>
  chk (0≤w64 (24 - (w64 (8 * (Int.tmod s5.2 4))))) >>= fun u9 =>
  z62 s5.1 s5.2 >>= fun x11 =>
  some (w64 (s5.2+1)) >>= fun y13 =>
  some (.inr (zex s5.1 s5.2 ((z3y x7 ((w64 (24 - (w64 (8 * (Int.tmod s5.2 4)))):Int).toNat)).toUInt8),y13))
 else
  some (.inl s5.1)
def z6r (a0:Vector UInt32 8):Option (V3) :=
 (iter (z3w a0) ((Vector.replicate 32 0),0)) >>= fun s4 =>
 some s4
theorem zda (a0:Vector UInt32 8):z1y Tryz.prog 146 [.rd (z3i 8 z0o) a0] [] (z6r a0) (fun r nv=>⟨[.rd aZ r],[]⟩):=by
 refine z2l 22 Tryz.func146 Z Z Z fun H w=>?_
 refine gSR<|Eb Z (bx 1 Z) fun v1=>Eb Z (z9b 2 z3j (.zr (R:=aZ) (x:=(Vector.replicate 32 0)) zje)) fun v2=>Zn<|gSR<|Eb Z (z9b 3 z3j (.zr (R:=aZ) (x:=(Vector.replicate 32 0)) zje)) fun v3=>Zn<|z6t (fun (s4:V3) aa ww=>Sta (ctx 22 H [] w) [(2,.val (z05 v2 0)),(3,.val (z05 v3 0))] [(2,some (v2,.box 78 [.rd aZ (Vector.replicate 32 0)])),(3,some (v3,.box 78 [.rd aZ s4]))] aa ww) ?_ (fun s4=>?_)
 ·
  refine gSR<|Zb Z<|z1q (fun (s5:V3 × Int) aa ww=>Sta (ctx 22 H [] w) [(1,.val (z05 v1 0)),(2,.val (z05 v2 0)),(3,.val (z05 v3 0)),(4,.rd z09 s5.2)] [(1,some (v1,.box 194 [.rd (z3i 8 z0o) a0])),(2,some (v2,.box 78 [.rd aZ (Vector.replicate 32 0)])),(3,some (v3,.box 78 [.rd aZ s5.1]))] aa ww) (fun aa ww h=>Zu h [1,2,3]) (fun s5=>?_)
  refine z0m<|gSR<|Zm Z<|Zq (I.lss Z Z)<|Zj Z (fun h6=>?_) (fun h6=>?_)
  ·
   refine Zt<|z0m<|z4s<|z1o<|Zm Z<|Zm Z<|Zq (I.quo Z Z (by decide))<|z0g fun x7 h8=>Zq (ixB 1 Z Z Z h8 tu194 z5c)<|Zq (ld 1 Z Z (fP (.el h8)) z7y Z)<|Zm Z<|Zq (I.rem Z Z (by decide))<|Zq (I.mul Z Z)<|Zq (I.sub Z Z)<|z0g fun u9 h10=>Zq (W.shr Z Z (z4c h10))<|Zq (W.toB Z tu65 tu5)<|z0g fun x11 h12=>Zq (ixB 3 Z Z Z h12 tu78 ti5)<|Es (sto 3 Z Z (fP (.el h12)) Z ti5)<|z1f<|z2n<|z0e<|z1o<|Zm Z<|Zq (I.add Z Z)<|Za Z<|z1e 4 Z fun y13=>z1f<|z14 (fun aa ww h=>Zu h [1,2,3])
  ·
   refine z1d<|z0p<|z0s<|z37 (fun aa ww h=>Zu h [2,3])
 ·
  refine gSR<|Zq (ld 3 Z Z fH z6z Z)<|Es (sto 2 Z Z fH Z z3j)<|Zn<|z0j<|zdj [] [] Z (eC 2 Z Z z6z<|eN) (rN)
def z95 (a0:List UInt8):Option (V3) :=
 z9v >>= fun r2 =>
 app 1 ([]:List UInt8) a0 >>= fun x5 =>
 z90 (a0.length:Int) >>= fun r8 =>
 app 1 x5 r8 >>= fun x10 =>
 z7h r2 x10 >>= fun r13 =>
 z6r r13 >>= fun r15 =>
 some r15
end
section
open Go Go.RowKit
set_option maxRecDepth 100000
theorem zco (a0:List UInt8):z1y Tryz.prog 102 [.rd (z03 u8R) a0] [] (z95 a0) (fun r nv=>⟨[.rd aZ r],[]⟩):=by
 refine z2l 13 Tryz.func102 Z Z Z fun H w=>?_
 refine gSR<|Eb Z (z9b 1 z3j (.zr (R:=aZ) (x:=(Vector.replicate 32 0)) zje)) fun v1=>Zn<|gSR<|Zc [] [] Tryz.func148 Z (zej) fun r2 n3=>Ef Z (lit (R:=u8R) (([]:List UInt8):List UInt8) 2 (pN) Z tu129 ti5 Z Z) fun v4=>Zm Z<|z0g fun x5 h6=>Ef Z (apn 2 Z Z Z .rd h6 tu129 ti5 Z Z Z) fun v7=>Zm Z<|Zq (z3q Z .rd Z tu129)<|Zc [] [(100,3)] Tryz.func149 Z (zfk _) fun r8 n9=>z0g fun x10 h11=>Ef Z (apn 2 Z Z Z (.own 3 Z) h11 tu129 ti5 Z Z Z) fun v12=>zh3 2 [10] Z (fS Z<|fN)<|Zc [] [] Tryz.func147 Z (zdw _ _) fun r13 n14=>Zc [] [] Tryz.func146 Z (zda _) fun r15 n16=>Es (sto 1 Z Z fH Z z3j)<|Zn<|z0j<|zdj [] [] Z (eC 1 Z Z z6z<|eN) (rN)
def zae (a0:z12):Option (V3) :=
 z86 a0 >>= fun r3 =>
 z95 r3 >>= fun r5 =>
 some r5
theorem zh4 (a0:z12):z1y Tryz.prog 72 [.rd z0z a0] [] (zae a0) (fun r nv=>⟨[.rd aZ r],[]⟩):=by
 refine z2l 6 Tryz.func72 Z Z Z fun H w=>?_
 refine gSR<|Eb Z (bx 1 Z) fun v1=>Eb Z (z9b 2 z3j (.zr (R:=aZ) (x:=(Vector.replicate 32 0)) zje)) fun v2=>Zn<|gSR<|Zq (ld 1 Z Z fH ziu Z)<|Zc [] [(100,3)] Tryz.func103 Z (zeh _) fun r3 n4=>zh3 3 [4] Z (fS Z<|fN)<|Zc [] [] Tryz.func102 Z (zco _) fun r5 n6=>Es (sto 2 Z Z fH Z z3j)<|Zn<|z0j<|zdj [] [] Z (eC 2 Z Z z6z<|eN) (rN)
def z60 (a0:V3) (a1:V3) (s4:Int):Option (Sum (Sum Int Unit) Int) :=
 if decide (s4<32) then
  z62 a0 s4 >>= fun x6 =>
  z62 a1 s4 >>= fun x8 =>
  if decide (x6<x8) then
   some (.inl (.inl (-1)))
  else
   z62 a0 s4 >>= fun x11 =>
   z62 a1 s4 >>= fun x13 =>
   if decide (x13<x11) then
    some (.inl (.inl 1))
   else
    some (.inr (w64 (s4+1)))
 else
  some (.inl (.inr ()))
def z6m (a0:V3) (a1:V3):Option (Int) :=
 z6w (iter (z60 a0 a1) 0) fun s3 =>
 some 0
theorem zbr (a0:V3) (a1:V3):z1y Tryz.prog 85 [.rd aZ a0,.rd aZ a1] [] (z6m a0 a1) (fun r nv=>⟨[.rd z09 r],[]⟩):=by
 refine z2l 24 Tryz.func85 Z Z Z fun H w=>?_
 refine gSR<|Eb Z (bx 1 Z) fun v1=>Eb Z (bx 2 Z) fun v2=>Zb Z<|z8j (fun (s3:Unit) aa ww=>Sta (ctx 24 H [] w) [] [] aa ww) ?_ (fun s3=>?_)
 ·
  refine gSR<|Zb Z<|z1q (fun (s4:Int) aa ww=>Sta (ctx 24 H [] w) [(2,.val (z05 v1 0)),(3,.val (z05 v2 0)),(5,.rd z09 s4)] [(1,some (v1,.box 78 [.rd aZ a0])),(2,some (v2,.box 78 [.rd aZ a1]))] aa ww) (fun aa ww h=>Zu h [1,2]) (fun s4=>?_)
  refine z0m<|gSR<|Zm Z<|Zq (I.lss Z Z)<|Zj Z (fun h5=>?_) (fun h5=>?_)
  ·
   refine Zt<|z0m<|z4s<|z0m<|z0m<|zdz mixed (by kernel_rfl)<|Rq Z (mv Z)<|z55 fun x6 h7=>Rq Z (ixB 1 Z Z Z h7 tu78 ti5)<|Rq Z (ld 1 Z Z (fP (.el h7)) ty5 Z)<|Rq Z (mv Z)<|z55 fun x8 h9=>Rq Z (ixB 2 Z Z Z h9 tu78 ti5)<|Rq Z (ld 2 Z Z (fP (.el h9)) ty5 Z)<|Rq Z (B.lss Z Z)<|zks<|z0e<|gIf Z Z (fun h10=>?_) (fun h10=>?_)
   ·
    refine gSR<|Zb Z<|z0j<|z0v<|z4h<|z0v<|z7x<|z6y<|Ze [] [] Z
   ·
    refine Zt<|z0m<|zdz mixed (by kernel_rfl)<|Rq Z (mv Z)<|z55 fun x11 h12=>Rq Z (ixB 1 Z Z Z h12 tu78 ti5)<|Rq Z (ld 1 Z Z (fP (.el h12)) ty5 Z)<|Rq Z (mv Z)<|z55 fun x13 h14=>Rq Z (ixB 2 Z Z Z h14 tu78 ti5)<|Rq Z (ld 2 Z Z (fP (.el h14)) ty5 Z)<|Rq Z (B.gtr Z Z)<|zks<|z0e<|gIf Z Z (fun h15=>?_) (fun h15=>?_)
    ·
     refine gSR<|Zb Z<|z0j<|z4h<|z0v<|z7x<|z6y<|Ze [] [] Z
    ·
     refine z2b<|z2n<|z0e<|z1o<|Zm Z<|Zq (I.add Z Z)<|Za Z<|z1f<|z14 (fun aa ww h=>Zu h [1,2])
  ·
   refine z1d<|z0p<|z0s<|z6n (fun aa ww h=>Zu h [])
 ·
  refine gSR<|Zb Z<|z0j<|Ze [] [] Z
def z3h (a0:List V3) (s2:Int):Option (Sum (Sum Bool Unit) Int) :=
 if decide (s2<(a0.length:Int)) then
  idx a0 (w64 (s2 - 1)) >>= fun x4 =>
  idx a0 s2 >>= fun x6 =>
  z6m x4 x6 >>= fun r8 =>
  if decide (0≤r8) then
   some (.inl (.inl false))
  else
   some (.inr (w64 (s2+1)))
 else
  some (.inl (.inr ()))
def z5u (a0:List V3):Option (Bool) :=
 z6w (iter (z3h a0) 1) fun s1 =>
 some true
theorem za8 (a0:List V3):z1y Tryz.prog 38 [.rd (z03 aZ) a0] [] (z5u a0) (fun r nv=>⟨[.rd z08 r],[]⟩):=by
 refine z2l 21 Tryz.func38 Z Z Z fun H w=>?_
 refine gSR<|Zb Z<|z8j (fun (s1:Unit) aa ww=>Sta (ctx 21 H [] w) [] [] aa ww) ?_ (fun s1=>?_)
 ·
  refine gSR<|Zb Z<|z1q (fun (s2:Int) aa ww=>Sta (ctx 21 H [] w) [(0,.rd (z03 aZ) a0),(3,.rd z09 s2)] [] aa ww) (fun aa ww h=>Zu h []) (fun s2=>?_)
  refine z0m<|gSR<|Zm Z<|Zm Z<|Zq (z3q Z .rd Z tu24)<|Zq (I.lss Z Z)<|Zj Z (fun h3=>?_) (fun h3=>?_)
  ·
   refine Zt<|z0m<|z4s<|z0m<|z6p [] mixed Z Z<|hTk 0 Z Z (mv Z)<|hTk 1 Z Z (mv Z)<|hTk 2 Z Z (I.sub Z Z)<|z36 fun x4 h5=>hTk 3 Z Z (ixR Z Z h5 tu24 z3j Z)<|hTk 4 Z Z (ldR Z z6z)<|hTk 5 Z Z (mv Z)<|hTk 6 Z Z (mv Z)<|z36 fun x6 h7=>hTk 7 Z Z (ixR Z Z h7 tu24 z3j Z)<|hTk 8 Z Z (ldR Z z6z)<|z3c 9 [] [] Z (by kernel_rfl) Z (gd0 Z) Z Tryz.func85 Z Z (zbr _ _) (Y2 Z Z) rN Z (fun _ _=>z2j) fun r8 n9=>hTk 10 Z Z (I.geq Z Z)<|z3l (by kernel_rfl)<|z0e<|gIf Z Z (fun h10=>?_) (fun h10=>?_)
   ·
    refine gSR<|Zb Z<|z0j<|z4h<|z0v<|z7x<|z6y<|Ze [] [] Z
   ·
    refine z2b<|z2n<|z0e<|z1o<|Zm Z<|Zq (I.add Z Z)<|Za Z<|z1f<|z14 (fun aa ww h=>Zu h [])
  ·
   refine z1d<|z0p<|z0s<|z6n (fun aa ww h=>Zu h [])
 ·
  refine gSR<|Zb Z<|z0j<|Ze [] [] Z
def z4l (a2:UInt64) (s2:UInt64 × UInt64 × UInt64):Option (Sum UInt64 (UInt64 × UInt64 × UInt64)) :=
 if decide (0<s2.2.1) then
  (if (s2.2.1 % 2)==1 then
   chk (a2≠0) >>= fun u6 =>
   some ((s2.2.2 * s2.1) % a2) >>= fun y8 =>
   some y8
  else
   some s2.2.2) >>= fun s4 =>
  chk (a2≠0) >>= fun u9 =>
  some ((s2.1 * s2.1) % a2) >>= fun y11 =>
  some (.inr (y11,s2.2.1 / 2,s4))
 else
  some (.inl s2.2.2)
def z6g (a0:UInt64) (a1:UInt64) (a2:UInt64):Option (UInt64) :=
 (iter (z4l a2) (a0,a1,1)) >>= fun s1 =>
 some s1
theorem zan (a0:UInt64) (a1:UInt64) (a2:UInt64):z1y Tryz.prog 182 [.rd z35 a0,.rd z35 a1,.rd z35 a2] [] (z6g a0 a1 a2) (fun r nv=>⟨[.rd z35 r],[]⟩):=by
 refine z2l 26 Tryz.func182 Z Z Z fun H w=>?_
 refine gSR<|Zb Z<|gSR<|Zb Z<|z6t (fun (s1:UInt64) aa ww=>Sta (ctx 26 H [] w) [(7,.rd z35 s1)] [] aa ww) ?_ (fun s1=>?_)
 ·
  refine z1q (fun (s2:UInt64 × UInt64 × UInt64) aa ww=>Sta (ctx 26 H [] w) [(0,.rd z35 s2.1),(1,.rd z35 s2.2.1),(2,.rd z35 a2),(7,.rd z35 s2.2.2)] [] aa ww) (fun aa ww h=>Zu h []) (fun s2=>?_)
  refine z0m<|gSR<|Zm Z<|Zq (U.gtr Z Z)<|Zj Z (fun h3=>?_) (fun h3=>?_)
  ·
   refine Zt<|z4s<|z6t (fun (s4:UInt64) aa ww=>Sta (ctx 26 H [] w) [(0,.rd z35 s2.1),(1,.rd z35 s2.2.1),(2,.rd z35 a2),(7,.rd z35 s4)] [] aa ww) ?_ (fun s4=>?_)
   ·
    refine gSR<|Zm Z<|Zq (U.rem Z Z (by decide))<|Zq (U.eql Z Z)<|Zj Z (fun h5=>?_) (fun h5=>?_)
    ·
     refine z1o<|Zm Z<|Zm Z<|Zq (U.mul Z Z)<|Zm Z<|z0g fun u6 h7=>Zq (U.rem Z Z (z4c h7))<|Za Z<|z1e 7 Z fun y8=>z1f<|z37 (fun aa ww h=>Zu h [])
    ·
     refine z2b<|z37 (fun aa ww h=>Zu h [])
   ·
    refine gSR<|Zm Z<|Zm Z<|Zq (U.mul Z Z)<|Zm Z<|z0g fun u9 h10=>Zq (U.rem Z Z (z4c h10))<|Za Z<|z1e 0 Z fun y11=>Zn<|z1o<|Zm Z<|Zq (U.quo Z Z (by decide))<|Za Z<|z1f<|z2n<|z14 (fun aa ww h=>Zu h [])
  ·
   refine z1d<|z0p<|z0s<|z37 (fun aa ww h=>Zu h [])
 ·
  refine gSR<|Zm Z<|Zb Z<|z0j<|Ze [] [] Z
def z8x (a0:UInt32):Option (Bool) :=
 if decide (1≤a0) then
  if decide (a0<1000000007) then
   z6g a0.toUInt64 500000003 1000000007 >>= fun r3 =>
   some (r3==1)
  else
   some false
 else
  some false
theorem zcn (a0:UInt32):z1y Tryz.prog 141 [.rd z0o a0] [] (z8x a0) (fun r nv=>⟨[.rd z08 r],[]⟩):=by
 refine z2l 15 Tryz.func141 Z Z Z fun H w=>?_
 refine gSR<|Zb Z<|gSR<|Zm Z<|Zq (W.geq Z Z)<|Zm Z<|z21 5 Z (fun h1=>?_) (fun h1=>?_)
 ·
  refine lKn 4 Z h1<|z1c Zx Z Z (mv Z)<|z1c Zx Z Z (W.lss Z Z)<|Zq (pkT Z Z)<|Zm Z<|z21 9 Z (fun h2=>?_) (fun h2=>?_)
  ·
   refine lKn 7 Z h2<|lKn 8 Z h2<|z1c Zx Z Z (mv Z)<|z1c Zx Z Z (W.toU Z tu65 tu52)<|zgg [] [] Zx Z Tryz.func182 Z Z (zan _ _ _) (aQ Z<|aQ Z<|aQ Z<|aN) rN fun r3 n4=>z1c Zx Z Z (U.eql Z Z)<|Zq (pkT Z Z)<|Zb Z<|z0j<|Ze [] [] Z
  ·
   refine lKn 7 Z h2<|lKn 8 Z h2<|Zk Z<|Zk Z<|Zk Z<|Zk Z<|Zq (pkF Z Z)<|Zb Z<|z0j<|Ze [] [] Z
 ·
  refine lKn 4 Z h1<|Zk Z<|Zk Z<|Zq (pkF Z Z)<|Zm Z<|Zk Z<|Zk Z<|Zk Z<|Zk Z<|Zq (pkF Z Z)<|Zb Z<|z0j<|Ze [] [] Z
def z58 (a0:List UInt8) (s4:Int):Option (Sum (Sum Bool Unit) Int) :=
 if decide (s4<(a0.length:Int)) then
  idx a0 s4 >>= fun x6 =>
  if decide (x6<33) then
   some (.inl (.inl false))
  else
   idx a0 s4 >>= fun x9 =>
   if decide (126<x9) then
    some (.inl (.inl false))
   else
    some (.inr (w64 (s4+1)))
 else
  some (.inl (.inr ()))
def z74 (a0:List UInt8):Option (Bool) :=
 if decide ((a0.length:Int)<1) then
  some false
 else
  if decide (20<(a0.length:Int)) then
   some false
  else
   z6w (iter (z58 a0) 0) fun s3 =>
   some true
theorem zbc (a0:List UInt8):z1y Tryz.prog 183 [.rd z29 a0] [] (z74 a0) (fun r nv=>⟨[.rd z08 r],[]⟩):=by
 refine z2l 28 Tryz.func183 Z Z Z fun H w=>?_
 refine gSR<|Zb Z<|z0m<|gSR<|Zm Z<|Zq (zsy Z Z tu9)<|Zq (I.lss Z Z)<|Zm Z<|z21 7 Z (fun h1=>?_) (fun h1=>?_)
 ·
  refine lKn 6 Z h1<|Zk Z<|Zk Z<|Zk Z<|Zq (pkT Z Z)<|Zn<|zc9 Z<|gSR<|Zb Z<|z0j<|z0v<|Ze [] [] Z
 ·
  refine lKn 6 Z h1<|z1c Zx Z Z (mv Z)<|z1c Zx Z Z (zsy Z Z tu9)<|z1c Zx Z Z (I.gtr Z Z)<|Zq (pkF Z Z)<|Zj Z (fun h2=>?_) (fun h2=>?_)
  ·
   refine gKn 10 Z h2<|gSR<|Zb Z<|z0j<|z0v<|Ze [] [] Z
  ·
   refine gKn 10 Z h2<|Zt<|z8j (fun (s3:Unit) aa ww=>Sta (ctx 28 H [] w) [] [] aa ww) ?_ (fun s3=>?_)
   ·
    refine gSR<|Zb Z<|z1q (fun (s4:Int) aa ww=>Sta (ctx 28 H [] w) [(0,.rd z29 a0),(3,.rd z09 s4)] [] aa ww) (fun aa ww h=>Zu h []) (fun s4=>?_)
    refine z0m<|gSR<|Zm Z<|Zm Z<|Zq (zsy Z Z tu9)<|Zq (I.lss Z Z)<|Zj Z (fun h5=>?_) (fun h5=>?_)
    ·
     refine Zt<|z0m<|z4s<|gSR<|Zm Z<|Zm Z<|z0g fun x6 h7=>Zq (zya Z Z tu9 (z4b h7).1 (z4b h7).2.1)<|Zq (B.lss Z Z)<|Zm Z<|z21 22 Z (fun h8=>?_) (fun h8=>?_)
     ·
      refine lKn 21 Z h8<|Zk Z<|Zk Z<|Zk Z<|Zk Z<|Zq (pkT Z Z)<|Zn<|zc9 Z<|gSR<|Zb Z<|z0j<|z4h<|z0v<|z7x<|z6y<|Ze [] [] Z
     ·
      refine lKn 21 Z h8<|z1c Zx Z Z (mv Z)<|z1c Zx Z Z (mv Z)<|z0g fun x9 h10=>z1c Zx Z Z (zya Z Z tu9 (z4b h10).1 (z4b h10).2.1)<|z1c Zx Z Z (B.gtr Z Z)<|Zq (pkF Z Z)<|Zj Z (fun h11=>?_) (fun h11=>?_)
      ·
       refine gKn 26 Z h11<|gSR<|Zb Z<|z0j<|z4h<|z0v<|z7x<|z6y<|Ze [] [] Z
      ·
       refine gKn 26 Z h11<|z2b<|z2n<|z0e<|z1o<|Zm Z<|Zq (I.add Z Z)<|Za Z<|z1f<|z14 (fun aa ww h=>Zu h [])
    ·
     refine z1d<|z0p<|z0s<|z6n (fun aa ww h=>Zu h [])
   ·
    refine gSR<|Zb Z<|z0j<|Ze [] [] Z
def z6c (a0:UInt64):Option (Int) :=
 some (w64 (((a0 % 9223372036854775808) / 4503599627370496).toNat:Int)) >>= fun y1 =>
 some y1
theorem zcq (a0:UInt64):z1y Tryz.prog 233 [.rd z35 a0] [] (z6c a0) (fun r nv=>⟨[.rd z09 r],[]⟩):=by
 refine z2l 7 Tryz.func233 Z Z Z fun H w=>?_
 refine gSR<|Zb Z<|gSR<|Zm Z<|Zq (U.rem Z Z (by decide))<|Zq (U.quo Z Z (by decide))<|Zq (U.toI Z tu52 tu3)<|Za Z<|z1e 2 Z fun y1=>Zn<|z0j<|Ze [] [] Z
def z8h (a0:UInt64):Option (UInt64) :=
 some (a0 % 4503599627370496) >>= fun y1 =>
 some y1
theorem zcs (a0:UInt64):z1y Tryz.prog 234 [.rd z35 a0] [] (z8h a0) (fun r nv=>⟨[.rd z35 r],[]⟩):=by
 refine z2l 5 Tryz.func234 Z Z Z fun H w=>?_
 refine gSR<|Zb Z<|gSR<|Zm Z<|Zq (U.rem Z Z (by decide))<|Za Z<|z1e 2 Z fun y1=>Zn<|z0j<|Ze [] [] Z
def z8f (a0:UInt64):Option (UInt8) :=
 z6c a0 >>= fun r1 =>
 z8h a0 >>= fun r3 =>
 z6w (if r1==0 then
  if r3==0 then
   some (.inl 1)
  else
   some (.inr ())
 else
  some (.inr ())) fun s5 =>
 if r1==0 then
  some 2
 else
  if decide (r1<2047) then
   some 3
  else
   if r3==0 then
    some 4
   else
    some 5
theorem zec (a0:UInt64):z1y Tryz.prog 228 [.rd z35 a0] [] (z8f a0) (fun r nv=>⟨[.rd u8R r],[]⟩):=by
 refine z2l 21 Tryz.func228 Z Z Z fun H w=>?_
 refine gSR<|Zb Z<|gSR<|Zm Z<|Zc [] [] Tryz.func233 Z (zcq _) fun r1 n2=>Zm Z<|Zc [] [] Tryz.func234 Z (zcs _) fun r3 n4=>Za Z<|Zb Z<|z8j (fun (s5:Unit) aa ww=>Sta (ctx 21 H [] w) [(3,.rd z09 r1),(4,.rd z35 r3)] [] aa ww) ?_ (fun s5=>?_)
 ·
  refine gSR<|Zm Z<|Zq (I.eql Z Z)<|Zm Z<|z21 11 Z (fun h6=>?_) (fun h6=>?_)
  ·
   refine lKn 10 Z h6<|z1c Zx Z Z (mv Z)<|z1c Zx Z Z (U.eql Z Z)<|Zq (pkT Z Z)<|Zj Z (fun h7=>?_) (fun h7=>?_)
   ·
    refine gKn 13 Z h7<|gSR<|Zb Z<|z0j<|z6y<|Ze [] [] Z
   ·
    refine gKn 13 Z h7<|z2b<|z6n (fun aa ww h=>Zu h [])
  ·
   refine lKn 10 Z h6<|Zk Z<|Zk Z<|Zq (pkF Z Z)<|Zn<|z9o Z<|z2b<|z6n (fun aa ww h=>Zu h [])
 ·
  refine z0m<|gSR<|Zm Z<|Zq (I.eql Z Z)<|Zj Z (fun h8=>?_) (fun h8=>?_)
  ·
   refine gSR<|Zb Z<|z0j<|z0v<|Ze [] [] Z
  ·
   refine Zt<|z0m<|gSR<|Zm Z<|Zq (I.lss Z Z)<|Zj Z (fun h9=>?_) (fun h9=>?_)
   ·
    refine gSR<|Zb Z<|z0j<|z0v<|Ze [] [] Z
   ·
    refine Zt<|z0m<|gSR<|Zm Z<|Zq (U.eql Z Z)<|Zj Z (fun h10=>?_) (fun h10=>?_)
    ·
     refine gSR<|Zb Z<|z0j<|z0v<|Ze [] [] Z
    ·
     refine Zt<|gSR<|Zb Z<|z0j<|Ze [] [] Z
def z8g (a0:UInt64):Option (UInt64) :=
 z8f a0 >>= fun r1 =>
 if r1==5 then
  some 9221120237041090560
 else
  some a0
theorem zeg (a0:UInt64):z1y Tryz.prog 211 [.rd z35 a0] [] (z8g a0) (fun r nv=>⟨[.rd z35 r],[]⟩):=by
 refine z2l 7 Tryz.func211 Z Z Z fun H w=>?_
 refine gSR<|Zb Z<|z0m<|gSR<|Zm Z<|Zc [] [] Tryz.func228 Z (zec _) fun r1 n2=>Zq (B.eql Z Z)<|Zj Z (fun h3=>?_) (fun h3=>?_)
 ·
  refine gSR<|Zb Z<|z0j<|z0v<|Ze [] [] Z
 ·
  refine Zt<|gSR<|Zm Z<|Zb Z<|z0j<|Ze [] [] Z
def z3f (a0:List UInt8) (s2:Int):Option (Sum (Sum Bool Unit) Int) :=
 if decide (s2<(a0.length:Int)) then
  idx a0 s2 >>= fun x4 =>
  if decide (x4<32) then
   some (.inl (.inl false))
  else
   idx a0 s2 >>= fun x7 =>
   if decide (126<x7) then
    some (.inl (.inl false))
   else
    some (.inr (w64 (s2+1)))
 else
  some (.inl (.inr ()))
def z5q (a0:List UInt8):Option (Bool) :=
 z6w (iter (z3f a0) 0) fun s1 =>
 some true
theorem zc1 (a0:List UInt8):z1y Tryz.prog 212 [.rd z29 a0] [] (z5q a0) (fun r nv=>⟨[.rd z08 r],[]⟩):=by
 refine z2l 20 Tryz.func212 Z Z Z fun H w=>?_
 refine gSR<|Zb Z<|z8j (fun (s1:Unit) aa ww=>Sta (ctx 20 H [] w) [] [] aa ww) ?_ (fun s1=>?_)
 ·
  refine gSR<|Zb Z<|z1q (fun (s2:Int) aa ww=>Sta (ctx 20 H [] w) [(0,.rd z29 a0),(3,.rd z09 s2)] [] aa ww) (fun aa ww h=>Zu h []) (fun s2=>?_)
  refine z0m<|gSR<|Zm Z<|Zm Z<|Zq (zsy Z Z tu9)<|Zq (I.lss Z Z)<|Zj Z (fun h3=>?_) (fun h3=>?_)
  ·
   refine Zt<|z0m<|z4s<|gSR<|Zm Z<|Zm Z<|z0g fun x4 h5=>Zq (zya Z Z tu9 (z4b h5).1 (z4b h5).2.1)<|Zq (B.lss Z Z)<|Zm Z<|z21 14 Z (fun h6=>?_) (fun h6=>?_)
   ·
    refine lKn 13 Z h6<|Zk Z<|Zk Z<|Zk Z<|Zk Z<|Zq (pkT Z Z)<|Zn<|zc9 Z<|gSR<|Zb Z<|z0j<|z4h<|z0v<|z7x<|z6y<|Ze [] [] Z
   ·
    refine lKn 13 Z h6<|z1c Zx Z Z (mv Z)<|z1c Zx Z Z (mv Z)<|z0g fun x7 h8=>z1c Zx Z Z (zya Z Z tu9 (z4b h8).1 (z4b h8).2.1)<|z1c Zx Z Z (B.gtr Z Z)<|Zq (pkF Z Z)<|Zj Z (fun h9=>?_) (fun h9=>?_)
    ·
     refine gKn 18 Z h9<|gSR<|Zb Z<|z0j<|z4h<|z0v<|z7x<|z6y<|Ze [] [] Z
    ·
     refine gKn 18 Z h9<|z2b<|z2n<|z0e<|z1o<|Zm Z<|Zq (I.add Z Z)<|Za Z<|z1f<|z14 (fun aa ww h=>Zu h [])
  ·
   refine z1d<|z0p<|z0s<|z6n (fun aa ww h=>Zu h [])
 ·
  refine gSR<|Zb Z<|z0j<|Ze [] [] Z
def z8d (a0:z02):Option (Int) :=
 if a0.Kind==1 then
  if a0.Bits==0 then
   if a0.Text==[] then
    some 0
   else
    some 8
  else
   some 8
 else
  if a0.Kind==2 then
   (if a0.Num==0 then
    if a0.Text==[] then
     z8g a0.Bits >>= fun r9 =>
     some (r9==a0.Bits)
    else
     some false
   else
    some false) >>= fun s6 =>
   if s6 then
    some 0
   else
    some 8
  else
   if a0.Kind==3 then
    (if a0.Num==0 then
     if a0.Bits==0 then
      if decide ((a0.Text.length:Int)≤30) then
       z5q a0.Text >>= fun r17 =>
       some r17
      else
       some false
     else
      some false
    else
     some false) >>= fun s13 =>
    if s13 then
     some 0
    else
     some 8
   else
    some 8
theorem ze8 (a0:z02):z1y Tryz.prog 184 [.rd z07 a0] [] (z8d a0) (fun r nv=>⟨[.rd z09 r],[]⟩):=by
 refine z2l 54 Tryz.func184 Z Z Z fun H w=>?_
 refine gSR<|Eb Z (bx 1 Z) fun v1=>Zb Z<|z0m<|gSR<|Zq (faB 1 Z Z Tryz.underlying54 Z (by exact ti5))<|Zq (ld 1 Z Z (fP (z2a _)) ty5 Z)<|Zn<|z4s<|gSR<|Zq (B.eql Z Z)<|Zb Z<|gIf Z Z (fun h2=>?_) (fun h2=>?_)
 ·
  refine gKn 6 Z h2<|gSR<|Zq (faB 1 Z Z Tryz.underlying54 Z (by exact zmg))<|Zq (ld 1 Z Z (fP (z2z _)) zku Z)<|Zq (U.eql Z Z)<|Zm Z<|z21 10 Z (fun h3=>?_) (fun h3=>?_)
  ·
   refine lKn 9 Z h3<|z1c Zx Z Z (faB 1 Z Z Tryz.underlying54 Z (by exact ti9))<|z1c Zx Z Z (ld 1 Z Z (fP (z2m _)) ty9 Z)<|z1c Zx Z Z (eqS Z Z)<|Zq (pkT Z Z)<|Zj Z (fun h4=>?_) (fun h4=>?_)
   ·
    refine gKn 13 Z h4<|gSR<|Zb Z<|z0j<|z4h<|z0v<|Ze [] [] Z
   ·
    refine gKn 13 Z h4<|z2b<|z2n<|z0e<|gSR<|Zb Z<|z0j<|Ze [] [] Z
  ·
   refine lKn 9 Z h3<|Zk Z<|Zk Z<|Zk Z<|Zq (pkF Z Z)<|Zn<|z9o Z<|z2b<|z2n<|z0e<|gSR<|Zb Z<|z0j<|Ze [] [] Z
 ·
  refine gKn 6 Z h2<|gSR<|Zq (B.eql Z Z)<|Zb Z<|gIf Z Z (fun h5=>?_) (fun h5=>?_)
  ·
   refine gKn 16 Z h5<|z6t (fun (s6:Bool) aa ww=>Sta (ctx 54 H [] w) [(32,.rd z08 s6)] [] aa ww) ?_ (fun s6=>?_)
   ·
    refine z6p [] mixed Z Z<|hTk 0 Z Z (faB 1 Z Z Tryz.underlying54 Z (by exact ti2))<|hTk 1 Z Z (ld 1 Z Z (fP (z4y _)) ty2 Z)<|hTk 2 Z Z (I.eql Z Z)<|hTk 3 Z Z (mv Z)<|hIf 20 Z Z (fun h7=>?_) (fun h7=>?_)
    ·
     refine hKn 19 Z Z h7<|Zg 4 Z Z (faB 1 Z Z Tryz.underlying54 Z (by exact ti9))<|Zg 5 Z Z (ld 1 Z Z (fP (z2m _)) ty9 Z)<|Zg 6 Z Z (eqS Z Z)<|hTk 7 Z Z (pkT Z Z)<|hTk 8 Z Z (mv Z)<|hIf 25 Z Z (fun h8=>?_) (fun h8=>?_)
     ·
      refine hKn 23 Z Z h8<|hKn 24 Z Z h8<|Zg 9 Z Z (faB 1 Z Z Tryz.underlying54 Z (by exact zmg))<|Zg 10 Z Z (ld 1 Z Z (fP (z2z _)) zku Z)<|Zg 12 Z Z (faB 1 Z Z Tryz.underlying54 Z (by exact zmg))<|Zg 13 Z Z (ld 1 Z Z (fP (z2z _)) zku Z)<|z3c 11 [] [] Z (by kernel_rfl) Z Zx Z Tryz.func211 Z Z (zeg _) (Y1 Z) rN Z (fun _ _=>z2j) fun r9 n10=>Zg 14 Z Z (U.eql Z Z)<|hTk 15 Z Z (pkT Z Z)<|z3l (by kernel_rfl)<|z37 (fun aa ww h=>Zu h [])
     ·
      refine hKn 23 Z Z h8<|hKn 24 Z Z h8<|hSk 9 Z Z<|hSk 10 Z Z<|hSk 11 Z Z<|hSk 12 Z Z<|hSk 13 Z Z<|hSk 14 Z Z<|hTk 15 Z Z (pkF Z Z)<|z3l (by kernel_rfl)<|z37 (fun aa ww h=>Zu h [])
    ·
     refine hKn 19 Z Z h7<|hSk 4 Z Z<|hSk 5 Z Z<|hSk 6 Z Z<|hTk 7 Z Z (pkF Z Z)<|hTk 8 Z Z (mv Z)<|hSk 9 Z Z<|hSk 10 Z Z<|hSk 11 Z Z<|hSk 12 Z Z<|hSk 13 Z Z<|hSk 14 Z Z<|hTk 15 Z Z (pkF Z Z)<|z3l (by kernel_rfl)<|z37 (fun aa ww h=>Zu h [])
   ·
    refine gIf Z Z (fun h11=>?_) (fun h11=>?_)
    ·
     refine gSR<|Zb Z<|z0j<|z4h<|z0v<|Ze [] [] Z
    ·
     refine z2b<|z2n<|z0e<|gSR<|Zb Z<|z0j<|Ze [] [] Z
  ·
   refine gKn 16 Z h5<|gSR<|Zq (B.eql Z Z)<|Zb Z<|gIf Z Z (fun h12=>?_) (fun h12=>?_)
   ·
    refine gKn 34 Z h12<|z6t (fun (s13:Bool) aa ww=>Sta (ctx 54 H [] w) [(53,.rd z08 s13)] [] aa ww) ?_ (fun s13=>?_)
    ·
     refine z1o<|Zq (faB 1 Z Z Tryz.underlying54 Z (by exact ti2))<|Zq (ld 1 Z Z (fP (z4y _)) ty2 Z)<|Zq (I.eql Z Z)<|Zm Z<|z21 38 Z (fun h14=>?_) (fun h14=>?_)
     ·
      refine lKn 37 Z h14<|z1c Zx Z Z (faB 1 Z Z Tryz.underlying54 Z (by exact zmg))<|z1c Zx Z Z (ld 1 Z Z (fP (z2z _)) zku Z)<|z1c Zx Z Z (U.eql Z Z)<|Zq (pkT Z Z)<|Zm Z<|z21 43 Z (fun h15=>?_) (fun h15=>?_)
      ·
       refine lKn 41 Z h15<|lKn 42 Z h15<|z1c Zx Z Z (faB 1 Z Z Tryz.underlying54 Z (by exact ti9))<|z1c Zx Z Z (ld 1 Z Z (fP (z2m _)) ty9 Z)<|z1c Zx Z Z (zsy Z Z tu9)<|z1c Zx Z Z (I.leq Z Z)<|Zq (pkT Z Z)<|Zm Z<|z21 49 Z (fun h16=>?_) (fun h16=>?_)
       ·
        refine lKn 47 Z h16<|lKn 48 Z h16<|z1c Zx Z Z (faB 1 Z Z Tryz.underlying54 Z (by exact ti9))<|z1c Zx Z Z (ld 1 Z Z (fP (z2m _)) ty9 Z)<|zgg [] [] Zx Z Tryz.func212 Z Z (zc1 _) (Y1 Z) rN fun r17 n18=>Zq (pkT Z Z)<|z1f<|z37 (fun aa ww h=>Zu h [])
       ·
        refine lKn 47 Z h16<|lKn 48 Z h16<|Zk Z<|Zk Z<|Zk Z<|Zq (pkF Z Z)<|z1f<|z37 (fun aa ww h=>Zu h [])
      ·
       refine lKn 41 Z h15<|lKn 42 Z h15<|Zk Z<|Zk Z<|Zk Z<|Zk Z<|Zq (pkF Z Z)<|Zm Z<|Zk Z<|Zk Z<|Zk Z<|Zq (pkF Z Z)<|z1f<|z37 (fun aa ww h=>Zu h [])
     ·
      refine lKn 37 Z h14<|Zk Z<|Zk Z<|Zk Z<|Zq (pkF Z Z)<|Zm Z<|Zk Z<|Zk Z<|Zk Z<|Zk Z<|Zq (pkF Z Z)<|Zm Z<|Zk Z<|Zk Z<|Zk Z<|Zq (pkF Z Z)<|z1f<|z37 (fun aa ww h=>Zu h [])
    ·
     refine gIf Z Z (fun h19=>?_) (fun h19=>?_)
     ·
      refine gSR<|Zb Z<|z0j<|z4h<|z0v<|Ze [] [] Z
     ·
      refine z2b<|z2n<|z0e<|gSR<|Zb Z<|z0j<|Ze [] [] Z
   ·
    refine gKn 34 Z h12<|z2b<|z2n<|z0e<|gSR<|Zb Z<|z0j<|Ze [] [] Z
def z68 (a0:z1v):Option (Int) :=
 some (decide (a0.Value=(⟨0,0,0,[]⟩:z02))) >>= fun y2 =>
 if a0.Kind==1 then
  if a0.Key==[] then
   if y2 then
    some 0
   else
    some 8
  else
   some 8
 else
  (if a0.Kind==2 then
   some true
  else
   some (a0.Kind==3)) >>= fun s6 =>
  if s6 then
   z74 a0.Key >>= fun r9 =>
   if r9 then
    if y2 then
     some 0
    else
     some 8
   else
    some 8
  else
   if a0.Kind==4 then
    z74 a0.Key >>= fun r14 =>
    if r14 then
     z8d a0.Value >>= fun r17 =>
     if r17==0 then
      some 0
     else
      some 8
    else
     some 8
   else
    some 8
theorem zcr (a0:z1v):z1y Tryz.prog 142 [.rd z1n a0] [] (z68 a0) (fun r nv=>⟨[.rd z09 r],[]⟩):=by
 refine z2l 38 Tryz.func142 Z Z Z fun H w=>?_
 refine gSR<|Eb Z (bx 1 Z) fun v1=>Zb Z<|gSR<|Zq (faB 1 Z Z Tryz.underlying64 Z (by exact z9k))<|Zq (ld 1 Z Z (fP (z2v _)) zey Z)<|Zq (bld (x':=(⟨0,0,0,[]⟩:z02)) [(0,1),(1,1),(2,1),(3,1)] Tryz.underlying54 z9k Z zhi Z (Bld.done Z))<|Zq (eqA Z Z zw9 Z Z zzo)<|Za Z<|z1e 3 Z fun y2=>Zn<|z0m<|gSR<|Zq (faB 1 Z Z Tryz.underlying64 Z (by exact ti5))<|Zq (ld 1 Z Z (fP (z13 _)) ty5 Z)<|Zn<|z4s<|gSR<|Zq (B.eql Z Z)<|Zb Z<|gIf Z Z (fun h3=>?_) (fun h3=>?_)
 ·
  refine gKn 11 Z h3<|gSR<|Zq (faB 1 Z Z Tryz.underlying64 Z (by exact ti9))<|Zq (ld 1 Z Z (fP (z1l _)) ty9 Z)<|Zq (eqS Z Z)<|Zm Z<|z21 15 Z (fun h4=>?_) (fun h4=>?_)
  ·
   refine lKn 14 Z h4<|z1c Zx Z Z (mv Z)<|Zq (pkT Z Z)<|Zj Z (fun h5=>?_) (fun h5=>?_)
   ·
    refine gKn 3 Z h5<|gKn 16 Z h5<|gSR<|Zb Z<|z0j<|z4h<|z0v<|Ze [] [] Z
   ·
    refine gKn 3 Z h5<|gKn 16 Z h5<|z2b<|z2n<|z0e<|gSR<|Zb Z<|z0j<|Ze [] [] Z
  ·
   refine lKn 14 Z h4<|Zk Z<|Zq (pkF Z Z)<|Zn<|z9o Z<|z2b<|z2n<|z0e<|gSR<|Zb Z<|z0j<|Ze [] [] Z
 ·
  refine gKn 11 Z h3<|z6t (fun (s6:Bool) aa ww=>Sta (ctx 38 H [] w) [(1,.val (z05 v1 0)),(3,.rd z08 y2),(9,.rd u8R a0.Kind),(18,.rd z08 s6)] [(1,some (v1,.box 64 [.rd z1n a0]))] aa ww) ?_ (fun s6=>?_)
  ·
   refine gSR<|Zq (B.eql Z Z)<|Zb Z<|gIf Z Z (fun h7=>?_) (fun h7=>?_)
   ·
    refine gKn 19 Z h7<|z2b<|z37 (fun aa ww h=>Zu h [1])
   ·
    refine gKn 19 Z h7<|z1o<|Zq (B.eql Z Z)<|Za Z<|z1f<|z37 (fun aa ww h=>Zu h [1])
  ·
   refine gIf Z Z (fun h8=>?_) (fun h8=>?_)
   ·
    refine gSR<|Zq (faB 1 Z Z Tryz.underlying64 Z (by exact ti9))<|Zq (ld 1 Z Z (fP (z1l _)) ty9 Z)<|Zc [] [] Tryz.func183 Z (zbc _) fun r9 n10=>Zm Z<|z21 24 Z (fun h11=>?_) (fun h11=>?_)
    ·
     refine lKn 23 Z h11<|z1c Zx Z Z (mv Z)<|Zq (pkT Z Z)<|Zj Z (fun h12=>?_) (fun h12=>?_)
     ·
      refine gKn 3 Z h12<|gKn 25 Z h12<|gSR<|Zb Z<|z0j<|z4h<|z0v<|Ze [] [] Z
     ·
      refine gKn 3 Z h12<|gKn 25 Z h12<|z2b<|z2n<|z0e<|gSR<|Zb Z<|z0j<|Ze [] [] Z
    ·
     refine lKn 23 Z h11<|Zk Z<|Zq (pkF Z Z)<|Zn<|z9o Z<|z2b<|z2n<|z0e<|gSR<|Zb Z<|z0j<|Ze [] [] Z
   ·
    refine gSR<|Zq (B.eql Z Z)<|Zb Z<|gIf Z Z (fun h13=>?_) (fun h13=>?_)
    ·
     refine gKn 28 Z h13<|gSR<|Zq (faB 1 Z Z Tryz.underlying64 Z (by exact ti9))<|Zq (ld 1 Z Z (fP (z1l _)) ty9 Z)<|Zc [] [] Tryz.func183 Z (zbc _) fun r14 n15=>Zm Z<|z21 32 Z (fun h16=>?_) (fun h16=>?_)
     ·
      refine lKn 31 Z h16<|z1c Zx Z Z (faB 1 Z Z Tryz.underlying64 Z (by exact z9k))<|z1c Zx Z Z (ld 1 Z Z (fP (z2v _)) zey Z)<|zgg [] [] Zx Z Tryz.func184 Z Z (ze8 _) (Y1 Z) rN fun r17 n18=>z1c Zx Z Z (I.eql Z Z)<|Zq (pkT Z Z)<|Zj Z (fun h19=>?_) (fun h19=>?_)
      ·
       refine gKn 36 Z h19<|gSR<|Zb Z<|z0j<|z4h<|z0v<|Ze [] [] Z
      ·
       refine gKn 36 Z h19<|z2b<|z2n<|z0e<|gSR<|Zb Z<|z0j<|Ze [] [] Z
     ·
      refine lKn 31 Z h16<|Zk Z<|Zk Z<|Zk Z<|Zk Z<|Zq (pkF Z Z)<|Zn<|z9o Z<|z2b<|z2n<|z0e<|gSR<|Zb Z<|z0j<|Ze [] [] Z
    ·
     refine gKn 28 Z h13<|z2b<|z2n<|z0e<|gSR<|Zb Z<|z0j<|Ze [] [] Z
def z2w (a0:UInt32):Option (Bool) :=
 some (decide (a0.toUInt64<500000003)) >>= fun y1 =>
 some y1
theorem z4q (a0:UInt32):z1y Tryz.prog 143 [.rd z0o a0] [] (z2w a0) (fun r nv=>⟨[.rd z08 r],[]⟩):=by
 refine z2l 6 Tryz.func143 Z Z Z fun H w=>?_
 refine gSR<|Zb Z<|gSR<|Zm Z<|Zq (W.toU Z tu65 tu52)<|Zq (U.lss Z Z)<|Za Z<|z1e 2 Z fun y1=>Zn<|z0j<|Ze [] [] Z
def z6e (a0:z12):Option (Int) :=
 if decide (4<(a0.Preds.length:Int)) then
  some 4
 else
  z5u a0.Preds >>= fun r3 =>
  if !r3 then
   some 32
  else
   (z8x a0.Author >>= fun r7 =>
   if !r7 then
    some true
   else
    if decide (1000000000000<a0.Stamp) then
     some true
    else
     z68 a0.Act >>= fun r11 =>
     if r11 != 0 then
      some true
     else
      z2w a0.Sig.E >>= fun r14 =>
      if !r14 then
       some true
      else
       z2w a0.Sig.S >>= fun r17 =>
       some (!r17)) >>= fun s6 =>
   if s6 then
    some 8
   else
    some 0
theorem zao (a0:z12):z1y Tryz.prog 100 [.rd z0z a0] [] (z6e a0) (fun r nv=>⟨[.rd z09 r],[]⟩):=by
 refine z2l 40 Tryz.func100 Z Z Z fun H w=>?_
 refine gSR<|Eb Z (bx 1 Z) fun v1=>Zb Z<|z0m<|gSR<|Zq (faB 1 Z Z Tryz.underlying72 Z (by exact zby))<|Zq (ld 1 Z Z (fP (z19 _)) zb1 Z)<|Zq (z3q Z .rd Z tu24)<|Zq (I.gtr Z Z)<|Zj Z (fun h2=>?_) (fun h2=>?_)
 ·
  refine gSR<|Zb Z<|z0j<|z0v<|Ze [] [] Z
 ·
  refine Zt<|z0m<|gSR<|Zq (faB 1 Z Z Tryz.underlying72 Z (by exact zby))<|Zq (ld 1 Z Z (fP (z19 _)) zb1 Z)<|Zc [] [] Tryz.func38 Z (za8 _) fun r3 n4=>Zq (zf6 Z)<|Zj Z (fun h5=>?_) (fun h5=>?_)
  ·
   refine gSR<|Zb Z<|z0j<|z0v<|Ze [] [] Z
  ·
   refine Zt<|z0m<|z6t (fun (s6:Bool) aa ww=>Sta (ctx 40 H [] w) [(39,.rd z08 s6)] [] aa ww) ?_ (fun s6=>?_)
   ·
    refine z1o<|Zq (faB 1 Z Z Tryz.underlying72 Z (by exact z5c))<|Zq (ld 1 Z Z (fP (z4z _)) z7y Z)<|Zc [] [] Tryz.func141 Z (zcn _) fun r7 n8=>Zq (zf6 Z)<|Zm Z<|z21 15 Z (fun h9=>?_) (fun h9=>?_)
    ·
     refine lKn 14 Z h9<|Zk Z<|Zk Z<|Zk Z<|Zq (pkT Z Z)<|Zm Z<|Zk Z<|Zk Z<|Zk Z<|Zk Z<|Zq (pkT Z Z)<|Zm Z<|Zk Z<|Zk Z<|Zk Z<|Zk Z<|Zk Z<|Zq (pkT Z Z)<|Zm Z<|Zk Z<|Zk Z<|Zk Z<|Zk Z<|Zk Z<|Zq (pkT Z Z)<|z1f<|z37 (fun aa ww h=>Zu h [])
    ·
     refine lKn 14 Z h9<|z1c Zx Z Z (faB 1 Z Z Tryz.underlying72 Z (by exact zmg))<|z1c Zx Z Z (ld 1 Z Z (fP (z2t _)) zku Z)<|z1c Zx Z Z (U.gtr Z Z)<|Zq (pkF Z Z)<|Zm Z<|z21 20 Z (fun h10=>?_) (fun h10=>?_)
     ·
      refine lKn 18 Z h10<|lKn 19 Z h10<|Zk Z<|Zk Z<|Zk Z<|Zk Z<|Zq (pkT Z Z)<|Zm Z<|Zk Z<|Zk Z<|Zk Z<|Zk Z<|Zk Z<|Zq (pkT Z Z)<|Zm Z<|Zk Z<|Zk Z<|Zk Z<|Zk Z<|Zk Z<|Zq (pkT Z Z)<|z1f<|z37 (fun aa ww h=>Zu h [])
     ·
      refine lKn 18 Z h10<|lKn 19 Z h10<|z1c Zx Z Z (faB 1 Z Z Tryz.underlying72 Z (by exact ze6))<|z1c Zx Z Z (ld 1 Z Z (fP (z0n _)) ty64 Z)<|zgg [] [] Zx Z Tryz.func142 Z Z (zcr _) (Y1 Z) rN fun r11 n12=>z1c Zx Z Z (I.neq Z Z)<|Zq (pkF Z Z)<|Zm Z<|z21 26 Z (fun h13=>?_) (fun h13=>?_)
      ·
       refine lKn 24 Z h13<|lKn 25 Z h13<|Zk Z<|Zk Z<|Zk Z<|Zk Z<|Zk Z<|Zq (pkT Z Z)<|Zm Z<|Zk Z<|Zk Z<|Zk Z<|Zk Z<|Zk Z<|Zq (pkT Z Z)<|z1f<|z37 (fun aa ww h=>Zu h [])
      ·
       refine lKn 24 Z h13<|lKn 25 Z h13<|z1c Zx Z Z (faB 1 Z Z Tryz.underlying72 Z (by exact znt))<|z1c Zx Z Z (faB 1 Z Z Tryz.underlying70 Z (by exact z5c))<|z1c Zx Z Z (ld 1 Z Z ((fP (z3d _)).part (z4e _)) z7y Z)<|zgg [] [] Zx Z Tryz.func143 Z Z (z4q _) (Y1 Z) rN fun r14 n15=>z1c Zx Z Z (zf6 Z)<|Zq (pkF Z Z)<|Zm Z<|z21 33 Z (fun h16=>?_) (fun h16=>?_)
       ·
        refine lKn 31 Z h16<|lKn 32 Z h16<|Zk Z<|Zk Z<|Zk Z<|Zk Z<|Zk Z<|Zq (pkT Z Z)<|z1f<|z37 (fun aa ww h=>Zu h [])
       ·
        refine lKn 31 Z h16<|lKn 32 Z h16<|z1c Zx Z Z (faB 1 Z Z Tryz.underlying72 Z (by exact znt))<|z1c Zx Z Z (faB 1 Z Z Tryz.underlying70 Z (by exact z5c))<|z1c Zx Z Z (ld 1 Z Z ((fP (z3d _)).part (z64 _)) z7y Z)<|zgg [] [] Zx Z Tryz.func143 Z Z (z4q _) (Y1 Z) rN fun r17 n18=>z1c Zx Z Z (zf6 Z)<|Zq (pkF Z Z)<|z1f<|z37 (fun aa ww h=>Zu h [])
   ·
    refine gIf Z Z (fun h19=>?_) (fun h19=>?_)
    ·
     refine gSR<|Zb Z<|z0j<|z0v<|Ze [] [] Z
    ·
     refine Zt<|gSR<|Zb Z<|z0j<|Ze [] [] Z
def z4f (a0:UInt32) (a1:UInt64):Option (UInt32) :=
 z6g a0.toUInt64 a1 1000000007 >>= fun r1 =>
 some r1.toUInt32
theorem z7w (a0:UInt32) (a1:UInt64):z1y Tryz.prog 186 [.rd z0o a0,.rd z35 a1] [] (z4f a0 a1) (fun r nv=>⟨[.rd z0o r],[]⟩):=by
 refine z2l 10 Tryz.func186 Z Z Z fun H w=>?_
 refine gSR<|Zb Z<|gSR<|Zm Z<|Zq (W.toU Z tu65 tu52)<|Zm Z<|Zc [] [] Tryz.func182 Z (zan _ _ _) fun r1 n2=>Zq (U.toW Z tu52 tu65)<|Zb Z<|z0j<|Ze [] [] Z
def zbl (a0:UInt32):Option (UInt32 × Int) :=
 z8x a0 >>= fun r1 =>
 if !r1 then
  some (0,2)
 else
  z4f a0 500000002 >>= fun r4 =>
  some (r4,0)
theorem zgf (a0:UInt32):z1y Tryz.prog 185 [.rd z0o a0] [] (zbl a0) (fun r nv=>⟨[.rd z0o r.1,.rd z09 r.2],[]⟩):=by
 refine z2l 9 Tryz.func185 Z Z Z fun H w=>?_
 refine gSR<|Za Z<|Zb Z<|z0m<|gSR<|Zm Z<|Zc [] [] Tryz.func141 Z (zcn _) fun r1 n2=>Zq (zf6 Z)<|Zj Z (fun h3=>?_) (fun h3=>?_)
 ·
  refine gSR<|Za Z<|Zb Z<|z0j<|z0v<|Ze [] [] Z
 ·
  refine Zt<|gSR<|Zm Z<|Zc [] [] Tryz.func186 Z (z7w _ _) fun r4 n5=>Za Z<|Zb Z<|z0j<|Ze [] [] Z
def zal (a0:UInt64):Option (UInt32) :=
 z4f 4 a0 >>= fun r1 =>
 some r1
theorem zfj (a0:UInt64):z1y Tryz.prog 215 [.rd z35 a0] [] (zal a0) (fun r nv=>⟨[.rd z0o r],[]⟩):=by
 refine z2l 5 Tryz.func215 Z Z Z fun H w=>?_
 refine gSR<|Zb Z<|gSR<|Zm Z<|Zc [] [] Tryz.func186 Z (z7w _ _) fun r1 n2=>Zb Z<|z0j<|Ze [] [] Z
def zbi (a0:UInt32):Option (UInt32) :=
 zal a0.toUInt64 >>= fun r1 =>
 some r1
theorem zgc (a0:UInt32):z1y Tryz.prog 189 [.rd z0o a0] [] (zbi a0) (fun r nv=>⟨[.rd z0o r],[]⟩):=by
 refine z2l 6 Tryz.func189 Z Z Z fun H w=>?_
 refine gSR<|Zb Z<|gSR<|Zm Z<|Zq (W.toU Z tu65 tu52)<|Zc [] [] Tryz.func215 Z (zfj _) fun r1 n2=>Zb Z<|z0j<|Ze [] [] Z
def z8w (a0:UInt32) (a1:UInt32):Option (UInt32) :=
 some (((a0.toUInt64 * a1.toUInt64) % 1000000007).toUInt32) >>= fun y1 =>
 some y1
theorem zcw (a0:UInt32) (a1:UInt32):z1y Tryz.prog 188 [.rd z0o a0,.rd z0o a1] [] (z8w a0 a1) (fun r nv=>⟨[.rd z0o r],[]⟩):=by
 refine z2l 12 Tryz.func188 Z Z Z fun H w=>?_
 refine gSR<|Zb Z<|gSR<|Zm Z<|Zq (W.toU Z tu65 tu52)<|Zm Z<|Zq (W.toU Z tu65 tu52)<|Zq (U.mul Z Z)<|Zq (U.rem Z Z (by decide))<|Zq (U.toW Z tu52 tu65)<|Za Z<|z1e 4 Z fun y1=>Zn<|z0j<|Ze [] [] Z
def z71 (a0:UInt32):Option ((List UInt8)) :=
 some [(a0 / 16777216).toUInt8,((a0 / 65536) % 256).toUInt8,((a0 / 256) % 256).toUInt8,(a0 % 256).toUInt8]
theorem zb7 (a0:UInt32):z1y Tryz.prog 213 [.rd z0o a0] [] (z71 a0) (fun r nv=>⟨[.val (nv 0)],[(100,some (nv 0,.list u8R 5 r))]⟩):=by
 refine z2l 18 Tryz.func213 Z Z Z fun H w=>?_
 refine gSR<|Zb Z<|gSR<|Zm Z<|Zq (W.quo Z Z (by decide))<|Zq (W.toB Z tu65 tu5)<|Zm Z<|Zq (W.quo Z Z (by decide))<|Zq (W.rem Z Z (by decide))<|Zq (W.toB Z tu65 tu5)<|Zm Z<|Zq (W.quo Z Z (by decide))<|Zq (W.rem Z Z (by decide))<|Zq (W.toB Z tu65 tu5)<|Zm Z<|Zq (W.rem Z Z (by decide))<|Zq (W.toB Z tu65 tu5)<|Ef Z (lit (R:=u8R) ([(a0 / 16777216).toUInt8,((a0 / 65536) % 256).toUInt8,((a0 / 256) % 256).toUInt8,(a0 % 256).toUInt8]:List UInt8) 1 (pP Z Z<|pP Z Z<|pP Z Z<|pP Z Z<|pN) Z tu129 ti5 Z Z) fun v1=>Zb Z<|z0j<|Ze [v1] [1] Z
def z44 (r1:V3) (s5:UInt64 × Int):Option (Sum UInt64 (UInt64 × Int)) :=
 if decide (s5.2<8) then
  z62 r1 s5.2 >>= fun x7 =>
  some ((256 * s5.1)+x7.toUInt64) >>= fun y9 =>
  some (w64 (s5.2+1)) >>= fun y10 =>
  some (.inr (y9,y10))
 else
  some (.inl s5.1)
def z7e (a0:List UInt8):Option (UInt64) :=
 z95 a0 >>= fun r1 =>
 (iter (z44 r1) (0,0)) >>= fun s4 =>
 some s4
theorem zdq (a0:List UInt8):z1y Tryz.prog 214 [.rd (z03 u8R) a0] [] (z7e a0) (fun r nv=>⟨[.rd z35 r],[]⟩):=by
 refine z2l 20 Tryz.func214 Z Z Z fun H w=>?_
 refine gSR<|Zb Z<|gSR<|Zm Z<|Zc [] [] Tryz.func102 Z (zco _) fun r1 n2=>Eb Z (z9b 1 z3j (.zr (R:=aZ) (x:=(Vector.replicate 32 0)) zje)) fun v3=>Es (sto 1 Z Z fH Z z3j)<|Zn<|gSR<|Zb Z<|z6t (fun (s4:UInt64) aa ww=>Sta (ctx 20 H [] w) [(4,.rd z35 s4)] [] aa ww) ?_ (fun s4=>?_)
 ·
  refine gSR<|Zb Z<|z1q (fun (s5:UInt64 × Int) aa ww=>Sta (ctx 20 H [] w) [(3,.val (z05 v3 0)),(4,.rd z35 s5.1),(5,.rd z09 s5.2)] [(1,some (v3,.box 78 [.rd aZ r1]))] aa ww) (fun aa ww h=>Zu h [1]) (fun s5=>?_)
  refine z0m<|gSR<|Zm Z<|Zq (I.lss Z Z)<|Zj Z (fun h6=>?_) (fun h6=>?_)
  ·
   refine Zt<|z0m<|z4s<|z1o<|Zm Z<|Zq (U.mul Z Z)<|Zm Z<|z0g fun x7 h8=>Zq (ixB 1 Z Z Z h8 tu78 ti5)<|Zq (ld 1 Z Z (fP (.el h8)) ty5 Z)<|Zq (B.toU Z tu5 tu52)<|Zq (U.add Z Z)<|Za Z<|z1e 4 Z fun y9=>z1f<|z2n<|z0e<|z1o<|Zm Z<|Zq (I.add Z Z)<|Za Z<|z1e 5 Z fun y10=>z1f<|z14 (fun aa ww h=>Zu h [1])
  ·
   refine z1d<|z0p<|z0s<|z37 (fun aa ww h=>Zu h [])
 ·
  refine gSR<|Zm Z<|Zb Z<|z0j<|Ze [] [] Z
def z5p (a0:UInt32) (a1:UInt32) (a2:List UInt8):Option (UInt32) :=
 z71 a0 >>= fun r2 =>
 app 1 [99] r2 >>= fun x4 =>
 z71 a1 >>= fun r7 =>
 app 1 x4 r7 >>= fun x9 =>
 app 1 x9 a2 >>= fun x12 =>
 z7e x12 >>= fun r15 =>
 some ((r15 % 500000003).toUInt32) >>= fun y17 =>
 some y17
theorem zcf (a0:UInt32) (a1:UInt32) (a2:List UInt8):z1y Tryz.prog 187 [.rd z0o a0,.rd z0o a1,.rd (z03 u8R) a2] [] (z5p a0 a1 a2) (fun r nv=>⟨[.rd z0o r],[]⟩):=by
 refine z2l 21 Tryz.func187 Z Z Z fun H w=>?_
 refine gSR<|Zb Z<|gSR<|Ef Z (lit (R:=u8R) ([99]:List UInt8) 1 (pP Z Z<|pN) Z tu129 ti5 Z Z) fun v1=>Zm Z<|Zc [] [(100,2)] Tryz.func213 Z (zb7 _) fun r2 n3=>z0g fun x4 h5=>Ef Z (apn 1 Z Z Z (.own 2 Z) h5 tu129 ti5 Z Z Z) fun v6=>Zm Z<|Zc [] [(100,3)] Tryz.func213 Z (zb7 _) fun r7 n8=>z0g fun x9 h10=>Ef Z (apn 1 Z Z Z (.own 3 Z) h10 tu129 ti5 Z Z Z) fun v11=>Zb Z<|gSR<|Zm Z<|Zm Z<|z0g fun x12 h13=>Ef Z (apn 1 Z Z Z .rd h13 tu129 ti5 Z Z Z) fun v14=>zh3 1 [17] Z (fS Z<|fN)<|Zc [] [] Tryz.func214 Z (zdq _) fun r15 n16=>Zq (U.rem Z Z (by decide))<|Zq (U.toW Z tu52 tu65)<|Za Z<|z1e 6 Z fun y17=>Zn<|z0j<|Ze [] [] Z
def z89 (a0:UInt32) (a1:List UInt8) (a2:z0y):Option (Bool) :=
 z2w a2.E >>= fun r2 =>
 if !r2 then
  some false
 else
  z2w a2.S >>= fun r5 =>
  if !r5 then
   some false
  else
   z4f a0 a2.E.toUInt64 >>= fun r8 =>
   zbl r8 >>= fun r10 =>
   zbi a2.S >>= fun r12 =>
   z8w r12 r10.1 >>= fun r14 =>
   z5p r14 a0 a1 >>= fun r16 =>
   some (r16==a2.E)
theorem zek (a0:UInt32) (a1:List UInt8) (a2:z0y):z1y Tryz.prog 144 [.rd z0o a0,.rd (z03 u8R) a1,.rd z2p a2] [] (z89 a0 a1 a2) (fun r nv=>⟨[.rd z08 r],[]⟩):=by
 refine z2l 39 Tryz.func144 Z Z Z fun H w=>?_
 refine gSR<|Eb Z (bx 1 Z) fun v1=>Zb Z<|z0m<|gSR<|Zq (faB 1 Z Z Tryz.underlying70 Z (by exact z5c))<|Zq (ld 1 Z Z (fP (z4e _)) z7y Z)<|Zc [] [] Tryz.func143 Z (z4q _) fun r2 n3=>Zq (zf6 Z)<|Zm Z<|z21 13 Z (fun h4=>?_) (fun h4=>?_)
 ·
  refine lKn 12 Z h4<|Zk Z<|Zk Z<|Zk Z<|Zk Z<|Zq (pkT Z Z)<|Zn<|zc9 Z<|gSR<|Zb Z<|z0j<|z0v<|Ze [] [] Z
 ·
  refine lKn 12 Z h4<|z1c Zx Z Z (faB 1 Z Z Tryz.underlying70 Z (by exact z5c))<|z1c Zx Z Z (ld 1 Z Z (fP (z64 _)) z7y Z)<|zgg [] [] Zx Z Tryz.func143 Z Z (z4q _) (Y1 Z) rN fun r5 n6=>z1c Zx Z Z (zf6 Z)<|Zq (pkF Z Z)<|Zj Z (fun h7=>?_) (fun h7=>?_)
  ·
   refine gKn 17 Z h7<|gSR<|Zb Z<|z0j<|z0v<|Ze [] [] Z
  ·
   refine gKn 17 Z h7<|Zt<|gSR<|Zm Z<|Zq (faB 1 Z Z Tryz.underlying70 Z (by exact z5c))<|Zq (ld 1 Z Z (fP (z4e _)) z7y Z)<|Zq (W.toU Z tu65 tu52)<|Zc [] [] Tryz.func186 Z (z7w _ _) fun r8 n9=>Zc [] [] Tryz.func185 Z (zgf _) fun r10 n11=>Zm Z<|Zq (ext Z Z)<|Zq (ext Z Z)<|Za Z<|Zb Z<|z0m<|z6p [] mixed Z Z<|hTk 0 Z Z (faB 1 Z Z Tryz.underlying70 Z (by exact z5c))<|hTk 1 Z Z (ld 1 Z Z (fP (z64 _)) z7y Z)<|hTk 3 Z Z (mv Z)<|hTk 5 Z Z (mv Z)<|hTk 6 Z Z (mv Z)<|hTk 8 Z Z (faB 1 Z Z Tryz.underlying70 Z (by exact z5c))<|hTk 9 Z Z (ld 1 Z Z (fP (z4e _)) z7y Z)<|z3c 2 [] [] Z (by kernel_rfl) Z (gd0 Z) Z Tryz.func189 Z Z (zgc _) (Y1 Z) rN Z (fun _ _=>z2j) fun r12 n13=>z3c 4 [] [] Z (by kernel_rfl) Z (gd0 Z) Z Tryz.func188 Z Z (zcw _ _) (Y2 Z Z) rN Z (fun _ _=>z2j) fun r14 n15=>z3c 7 [] [] Z (by kernel_rfl) Z (gd0 Z) Z Tryz.func187 Z Z (zcf _ _ _) (aQ Z<|aQ Z<|aQ Z<|aN) rN Z (fun _ _=>z2j) fun r16 n17=>hTk 10 Z Z (W.eql Z Z)<|hTk 11 Z Z (asg Z)<|z3l (by kernel_rfl)<|z0e<|z0j<|Ze [] [] Z
def z9d (a0:z12):Option (Bool) :=
 z7b a0 >>= fun r2 =>
 z89 a0.Author r2 a0.Sig >>= fun r4 =>
 some r4
theorem zdr (a0:z12):z1y Tryz.prog 101 [.rd z0z a0] [] (z9d a0) (fun r nv=>⟨[.rd z08 r],[]⟩):=by
 refine z2l 10 Tryz.func101 Z Z Z fun H w=>?_
 refine gSR<|Eb Z (bx 1 Z) fun v1=>Zb Z<|z0m<|z6p [11] mixed Z Z<|hTk 0 Z Z (faB 1 Z Z Tryz.underlying72 Z (by exact z5c))<|hTk 1 Z Z (ld 1 Z Z (fP (z4z _)) z7y Z)<|hTk 2 Z Z (ld 1 Z Z fH ziu Z)<|hTk 4 Z Z (faB 1 Z Z Tryz.underlying72 Z (by exact znt))<|hTk 5 Z Z (ld 1 Z Z (fP (z3d _)) ty70 Z)<|z3c 3 [] [(100,11)] Z (by kernel_rfl) Z (gd0 Z) Z Tryz.func145 Z Z (zb8 _) (Y1 Z) rN Z (fun _ _=>z2f) fun r2 n3=>zqr 11 [6] Z (fS Z<|fN)<|z3c 6 [] [] Z (by kernel_rfl) Z (gd0 Z) Z Tryz.func144 Z Z (zek _ _ _) (aQ Z<|aQ Z<|aQ Z<|aN) rN Z (fun _ _=>zd8) fun r4 n5=>hTk 7 Z Z (asg Z)<|z3l (by kernel_rfl)<|z0e<|z0j<|Ze [] [] Z
def z7l (a0:z12):Option (Int) :=
 z6e a0 >>= fun r2 =>
 if r2 != 0 then
  z6e a0 >>= fun r5 =>
  some r5
 else
  z9d a0 >>= fun r7 =>
  if !r7 then
   some 22
  else
   some 0
theorem zdx (a0:z12):z1y Tryz.prog 71 [.rd z0z a0] [] (z7l a0) (fun r nv=>⟨[.rd z09 r],[]⟩):=by
 refine z2l 11 Tryz.func71 Z Z Z fun H w=>?_
 refine gSR<|Eb Z (bx 1 Z) fun v1=>Zb Z<|z0m<|gSR<|Zq (ld 1 Z Z fH ziu Z)<|Zc [] [] Tryz.func100 Z (zao _) fun r2 n3=>Zq (I.neq Z Z)<|Zj Z (fun h4=>?_) (fun h4=>?_)
 ·
  refine gSR<|Zq (ld 1 Z Z fH ziu Z)<|Zc [] [] Tryz.func100 Z (zao _) fun r5 n6=>Zb Z<|z0j<|z0v<|Ze [] [] Z
 ·
  refine Zt<|z0m<|gSR<|Zq (ld 1 Z Z fH ziu Z)<|Zc [] [] Tryz.func101 Z (zdr _) fun r7 n8=>Zq (zf6 Z)<|Zj Z (fun h9=>?_) (fun h9=>?_)
  ·
   refine gSR<|Zb Z<|z0j<|z0v<|Ze [] [] Z
  ·
   refine Zt<|gSR<|Zb Z<|z0j<|Ze [] [] Z
end
section
open Go Go.RowKit
set_option maxRecDepth 100000
def z0a (a0:List V3) (a1:V3) (s4:Int × Int):Option (Sum Int (Int × Int)) :=
 if decide (s4.1<s4.2) then
  some (w64 ((z61 (UInt64.ofInt (w64 (s4.1+s4.2))) 1).toNat:Int)) >>= fun y6 =>
  idx a0 y6 >>= fun x7 =>
  z6l x7 a1 >>= fun r9 =>
  if decide (r9<0) then
   some (.inr (w64 (y6+1),s4.2))
  else
   some (.inr (s4.1,y6))
 else
  some (.inl s4.1)
def z0h (a0:List V3) (a1:V3):Option (Int × Bool) :=
 some (a0.length:Int) >>= fun y2 =>
 (iter (z0a a0 a1) (0,y2)) >>= fun s3 =>
 if decide (s3<y2) then
  idx a0 s3 >>= fun x13 =>
  z6l x13 a1 >>= fun r15 =>
  some (s3,r15==0)
 else
  some (s3,false)
theorem z1z (a0:List V3) (a1:V3):z1y Tryz.prog 122 [.rd (z03 aZ) a0,.rd aZ a1,.val (.func (.func 89) #[] #[])] [] (z0h a0 a1) (fun r nv=>⟨[.rd z09 r.1,.rd z08 r.2],[]⟩):=by
 refine z2l 49 Tryz.func122 Z Z Z fun H w=>?_
 refine gSR<|Eb Z (bx 1 Z) fun v1=>Za Z<|Zb Z<|gSR<|Zm Z<|Zq (z3q Z .rd Z tu24)<|Za Z<|z1e 8 Z fun y2=>Zn<|gSR<|Zm Z<|Za Z<|Zb Z<|z6t (fun (s3:Int) aa ww=>Sta (ctx 49 H [] w) [(0,.rd (z03 aZ) a0),(2,.val (.func (.func 89) #[] #[])),(4,.val (z05 v1 0)),(8,.rd z09 y2),(9,.rd z09 s3)] [(1,some (v1,.box 78 [.rd aZ a1]))] aa ww) ?_ (fun s3=>?_)
 ·
  refine z1q (fun (s4:Int × Int) aa ww=>Sta (ctx 49 H [] w) [(0,.rd (z03 aZ) a0),(2,.val (.func (.func 89) #[] #[])),(4,.val (z05 v1 0)),(8,.rd z09 y2),(9,.rd z09 s4.1),(10,.rd z09 s4.2)] [(1,some (v1,.box 78 [.rd aZ a1]))] aa ww) (fun aa ww h=>Zu h [1]) (fun s4=>?_)
  refine z0m<|gSR<|Zm Z<|Zm Z<|Zq (I.lss Z Z)<|Zj Z (fun h5=>?_) (fun h5=>?_)
  ·
   refine Zt<|z4s<|gSR<|Zm Z<|Zm Z<|Zq (I.add Z Z)<|Zq (I.toU Z tu3 Tryz.underlying149)<|Zq (U.shr Z Z (Int.natCast_nonneg _))<|Zq (U.toI Z Tryz.underlying149 tu3)<|Za Z<|z1e 11 Z fun y6=>Zn<|z0m<|z6p [] mixed Z Z<|hTk 0 Z Z (mv Z)<|hTk 1 Z Z (mv Z)<|hTk 2 Z Z (mv Z)<|z36 fun x7 h8=>hTk 3 Z Z (ixR Z Z h8 tu24 z3j Z)<|hTk 4 Z Z (ldR Z z6z)<|hTk 5 Z Z (ld 1 Z Z fH z6z Z)<|zn4 6 [] [] Z (by kernel_rfl) Z (gd0 Z) Z Tryz.func89 Z Z Z (z7j _ _) (Y2 Z Z) (cN) Z rN Z (fun _ _=>z2j) fun r9 n10=>hTk 7 Z Z (I.lss Z Z)<|z3l (by kernel_rfl)<|z0e<|gIf Z Z (fun h11=>?_) (fun h11=>?_)
   ·
    refine z1o<|Zm Z<|Zq (I.add Z Z)<|Za Z<|z1f<|z2n<|z14 (fun aa ww h=>Zu h [1])
   ·
    refine z1o<|Zm Z<|Za Z<|z1f<|z2n<|z14 (fun aa ww h=>Zu h [1])
  ·
   refine z1d<|z0p<|z0s<|z37 (fun aa ww h=>Zu h [1])
 ·
  refine z0m<|z6p [] mixed Z Z<|hTk 0 Z Z (mv Z)<|hTk 1 Z Z (mv Z)<|hTk 2 Z Z (mv Z)<|hTk 3 Z Z (I.lss Z Z)<|hTk 4 Z Z (mv Z)<|hIf 39 Z Z (fun h12=>?_) (fun h12=>?_)
  ·
   refine hKn 38 Z Z h12<|Zg 5 Z Z (mv Z)<|Zg 6 Z Z (mv Z)<|Zg 7 Z Z (mv Z)<|z36 fun x13 h14=>Zg 8 Z Z (ixR Z Z h14 tu24 z3j Z)<|Zg 9 Z Z (ldR Z z6z)<|Zg 10 Z Z (ld 1 Z Z fH z6z Z)<|zn4 11 [] [] Z (by kernel_rfl) Z Zx Z Tryz.func89 Z Z Z (z7j _ _) (Y2 Z Z) (cN) Z rN Z (fun _ _=>z2j) fun r15 n16=>Zg 12 Z Z (I.eql Z Z)<|hTk 13 Z Z (pkT Z Z)<|hTk 14 Z Z (asg Z)<|hTk 15 Z Z (asg Z)<|z3l (by kernel_rfl)<|z0e<|z0j<|Ze [] [] Z
  ·
   refine hKn 38 Z Z h12<|hSk 5 Z Z<|hSk 6 Z Z<|hSk 7 Z Z<|hSk 8 Z Z<|hSk 9 Z Z<|hSk 10 Z Z<|hSk 11 Z Z<|hSk 12 Z Z<|hTk 13 Z Z (pkF Z Z)<|hTk 14 Z Z (asg Z)<|hTk 15 Z Z (asg Z)<|z3l (by kernel_rfl)<|z0e<|z0j<|Ze [] [] Z
def zhf (a0:z00) (a1:V3):Option (Int × Bool) :=
 z0h a0.IDs a1 >>= fun r3 =>
 some (r3.1,r3.2)
theorem zn6 (a0:z00) (a1:V3):z1y Tryz.prog 84 [.rd z01 a0,.rd aZ a1] [] (zhf a0 a1) (fun r nv=>⟨[.rd z09 r.1,.rd z08 r.2],[]⟩):=by
 refine z2l 12 Tryz.func84 Z Z Z fun H w=>?_
 refine gSR<|Eb Z (bx 1 Z) fun v1=>Eb Z (bx 2 Z) fun v2=>Za Z<|Zb Z<|gSR<|Zq (faB 1 Z Z Tryz.underlying27 Z (by exact zby))<|Zq (ld 1 Z Z (fP (z0f _)) zb1 Z)<|Zq (ld 2 Z Z fH z6z Z)<|Zc [] [] Tryz.func122 Z (z1z _ _) fun r3 n4=>Zq (ext Z Z)<|Zq (ext Z Z)<|Za Z<|Zb Z<|z0j<|Ze [] [] Z
def z7a (a0:z00) (s3:Int):Option (Sum (Sum Int Unit) Int) :=
 if decide (s3<(a0.IDs.length:Int)) then
  idx a0.IDs (w64 (s3 - 1)) >>= fun x5 =>
  idx a0.IDs s3 >>= fun x7 =>
  z6l x5 x7 >>= fun r9 =>
  if decide (0≤r9) then
   some (.inl (.inl 32))
  else
   some (.inr (w64 (s3+1)))
 else
  some (.inl (.inr ()))
def z8o (a0:z00) (s19:(List Int) × (List (List Int)) × (List Int) × Int) (x22:z12) (s26:(List (List Int)) × Int):Option (Sum (Sum (Sum (Sum Int ((List Int) × (List (List Int)) × (List Int))) ((List Int) × (List (List Int)) × (List Int) × Int)) ((List (List Int)))) ((List (List Int)) × Int)) :=
 if decide (s26.2<(x22.Preds.length:Int)) then
  idx x22.Preds s26.2 >>= fun x29 =>
  zhf a0 x29 >>= fun r32 =>
  if !r32.2 then
   some (.inl (.inl (.inl (.inl 40))))
  else
   idx s26.1 r32.1 >>= fun x35 =>
   app 8 x35 [s19.2.2.2] >>= fun x38 =>
   some (.inr (s26.1.set (r32.1:Int).toNat x38,w64 (s26.2+1)))
 else
  some (.inl (.inr s26.1))
def z8n (a0:z00) (s19:(List Int) × (List (List Int)) × (List Int) × Int):Option (Sum (Sum Int ((List Int) × (List (List Int)) × (List Int))) ((List Int) × (List (List Int)) × (List Int) × Int)) :=
 if decide (s19.2.2.2<(a0.Ops.length:Int)) then
  idx a0.Ops s19.2.2.2 >>= fun x22 =>
  z6w (iter (z8o a0 s19 x22) (s19.2.1,0)) fun s25 =>
  idx s19.1 s19.2.2.2 >>= fun x42 =>
  idx (s19.1.set (s19.2.2.2:Int).toNat (x22.Preds.length:Int)) s19.2.2.2 >>= fun x44 =>
  if x44==0 then
   app 8 s19.2.2.1 [s19.2.2.2] >>= fun x48 =>
   some (.inr (s19.1.set (s19.2.2.2:Int).toNat (x22.Preds.length:Int),s25,x48,w64 (s19.2.2.2+1)))
  else
   some (.inr (s19.1.set (s19.2.2.2:Int).toNat (x22.Preds.length:Int),s25,s19.2.2.1,w64 (s19.2.2.2+1)))
 else
  some (.inl (.inr (s19.1,s19.2.1,s19.2.2.1)))
def z8m (x59:List Int) (s61:(List Int) × (List Int) × Int):Option (Sum ((List Int) × (List Int)) ((List Int) × (List Int) × Int)) :=
 if decide (s61.2.2<(x59.length:Int)) then
  idx x59 s61.2.2 >>= fun x64 =>
  idx s61.1 x64 >>= fun x66 =>
  idx s61.1 x64 >>= fun x68 =>
  idx (s61.1.set (x64:Int).toNat (w64 (x66 - 1))) x64 >>= fun x70 =>
  if x70==0 then
   app 8 s61.2.1 [x64] >>= fun x74 =>
   some (.inr (s61.1.set (x64:Int).toNat (w64 (x66 - 1)),x74,w64 (s61.2.2+1)))
  else
   some (.inr (s61.1.set (x64:Int).toNat (w64 (x66 - 1)),s61.2.1,w64 (s61.2.2+1)))
 else
  some (.inl (s61.1,s61.2.1))
def z9r (s18:(List Int) × (List (List Int)) × (List Int)) (s53:(List Int) × (List Int) × Int):Option (Sum Int ((List Int) × (List Int) × Int)) :=
 if decide (s53.2.2<(s53.2.1.length:Int)) then
  (idx s53.2.1 s53.2.2 >>= fun x57 =>
  idx s18.2.1 x57 >>= fun x59 =>
  iter (z8m x59) (s53.1,s53.2.1,0)) >>= fun s56 =>
  some (w64 (s53.2.2+1)) >>= fun y78 =>
  some (.inr (s56.1,s56.2,y78))
 else
  some (.inl s53.2.2)
def zg2 (a0:z00):Option (Int) :=
 z6w (iter (z7a a0) 1) fun s2 =>
 mkn 8 0 (a0.Ops.length:Int) >>= fun x12 =>
 mkn 24 ([]:List Int) (a0.Ops.length:Int) >>= fun x15 =>
 z6w (iter (z8n a0) (x12,x15,[],0)) fun s18 =>
 (iter (z9r s18) (s18.1,s18.2.2,0)) >>= fun s52 =>
 if decide (s52<(a0.Ops.length:Int)) then
  some 36
 else
  some 0
theorem zm7 (a0:z00):z1y Tryz.prog 94 [.rd z01 a0] [] (zg2 a0) (fun r nv=>⟨[.rd z09 r],[]⟩):=by
 refine z2l 133 Tryz.func94 Z Z Z fun H w=>?_
 refine gSR<|Eb Z (bx 1 Z) fun v1=>Zb Z<|z8j (fun (s2:Unit) aa ww=>Sta (ctx 133 H [] w) [(1,.val (z05 v1 0))] [(1,some (v1,.box 27 [.rd z01 a0]))] aa ww) ?_ (fun s2=>?_)
 ·
  refine gSR<|Zb Z<|z1q (fun (s3:Int) aa ww=>Sta (ctx 133 H [] w) [(1,.val (z05 v1 0)),(3,.rd z09 s3)] [(1,some (v1,.box 27 [.rd z01 a0]))] aa ww) (fun aa ww h=>h.sub [1] (sS Z<|sS Z<|sN) (y1 Z)) (fun s3=>?_)
  refine z0m<|gSR<|Zm Z<|Zq (faB 1 Z Z Tryz.underlying27 Z (by exact zby))<|Zq (ld 1 Z Z (fP (z0f _)) zb1 Z)<|Zq (z3q Z .rd Z tu24)<|Zq (I.lss Z Z)<|Zj Z (fun h4=>?_) (fun h4=>?_)
  ·
   refine Zt<|z0m<|z4s<|z0m<|z6p [] mixed Z Z<|hTk 0 Z Z (faB 1 Z Z Tryz.underlying27 Z (by exact zby))<|hTk 1 Z Z (ld 1 Z Z (fP (z0f _)) zb1 Z)<|hTk 2 Z Z (mv Z)<|hTk 3 Z Z (I.sub Z Z)<|z36 fun x5 h6=>hTk 4 Z Z (ixR Z Z h6 tu24 z3j Z)<|hTk 5 Z Z (ldR Z z6z)<|hTk 6 Z Z (faB 1 Z Z Tryz.underlying27 Z (by exact zby))<|hTk 7 Z Z (ld 1 Z Z (fP (z0f _)) zb1 Z)<|hTk 8 Z Z (mv Z)<|z36 fun x7 h8=>hTk 9 Z Z (ixR Z Z h8 tu24 z3j Z)<|hTk 10 Z Z (ldR Z z6z)<|z3c 11 [] [] Z (by kernel_rfl) Z (gd0 Z) Z Tryz.func89 Z Z (z7j _ _) (Y2 Z Z) rN Z (fun _ _=>z2j) fun r9 n10=>hTk 12 Z Z (I.geq Z Z)<|z3l (by kernel_rfl)<|z0e<|gIf Z Z (fun h11=>?_) (fun h11=>?_)
   ·
    refine gSR<|Zb Z<|z0j<|z4h<|z0v<|z7x<|z6y<|zdj [] [] Z (eE Z<|eN) (rN)
   ·
    refine z2b<|z2n<|z0e<|z1o<|Zm Z<|Zq (I.add Z Z)<|Za Z<|z1f<|z14 (fun aa ww h=>h.sub [1] (sS Z<|sS Z<|sN) (y1 Z))
  ·
   refine z1d<|z0p<|z0s<|z6n (fun aa ww h=>h.sub [1] (sS Z<|sN) (y1 Z))
 ·
  refine gSR<|Zq (faB 1 Z Z Tryz.underlying27 Z (by exact zbk))<|Zq (ld 1 Z Z (fP (z04 _)) zbh Z)<|Zq (z3q Z .rd Z tu25)<|z0g fun x12 h13=>Ef Z (mks (R:=z09) 44 Z Z h13 tu157 ti3 (Zr.num Z) Z) fun v14=>Zb Z<|gSR<|Zq (faB 1 Z Z Tryz.underlying27 Z (by exact zbk))<|Zq (ld 1 Z Z (fP (z04 _)) zbh Z)<|Zq (z3q Z .rd Z tu25)<|z0g fun x15 h16=>Ef Z (mksF 45 Z Z h16 Tryz.underlying176 zu3 Z) fun v17=>z10p (base:=100000) (lits:=[(1,some (v1,.box 27 [.rd z01 a0])),(44,some (v14,.list z09 3 x12)),(45,some (v17,.list ze0 157 (z8u (fun _=>Value.slice none 0 0) x15)))]) z09 3 [1,44,45] (zws h16) (Zi Z<|Zi Z<|Zi Z<|rN)<|Zb Z<|gSR<|Zb Z<|z8j (fun (s18:(List Int) × (List (List Int)) × (List Int)) aa ww=>∃ nv:Nat→Value,Sta (ctx 133 H [] w) [(1,.val (z05 v1 0)),(4,.val v14),(5,.val v17),(6,.val (nv 0))] ([(1,some (v1,.box 27 [.rd z01 a0])),(44,some (v14,.list z09 3 s18.1)),(45,some (v17,.list ze0 157 (z8u (fun j=>nv (j+1)) s18.2.1))),(50,some ((nv 0),.list z09 3 s18.2.2))]++zkw 100000 z09 3 (fun j=>nv (j+1)) s18.2.1 0) aa ww) ?_ (fun s18=>?_)
  ·
   refine gSR<|Zq (faB 1 Z Z Tryz.underlying27 Z (by exact zbk))<|Zq (ld 1 Z Z (fP (z04 _)) zbh Z)<|Zq (z3q Z .rd Z tu25)<|Zm Z<|Zn<|zs7 z09 3 56<|z1q (fun (s19:(List Int) × (List (List Int)) × (List Int) × Int) aa ww=>∃ nv:Nat→Value,Sta (ctx 133 H [] w) [(1,.val (z05 v1 0)),(4,.val v14),(5,.val v17),(6,.val (nv 0)),(45,.rd (z03 z0z) a0.Ops),(46,.rd z09 (a0.Ops.length:Int)),(47,.rd z09 s19.2.2.2)] ([(1,some (v1,.box 27 [.rd z01 a0])),(44,some (v14,.list z09 3 s19.1)),(45,some (v17,.list ze0 157 (z8u (fun j=>nv (j+1)) s19.2.1))),(55,some ((nv 0),.list z09 3 s19.2.2.1))]++zkw 100000 z09 3 (fun j=>nv (j+1)) s19.2.1 0) aa ww) (fun aa ww h=>⟨zvb [(.slice none 0 0)] (fun _=>Value.slice none 0 0),h.subF (by repeat (first | refine z5l.cons Z ?_ | exact z5l.tail)) [1,44,45,56] (Zs Z Z Z Z<|sS Z<|sS Z<|sS Z<|sN) (Zi Z<|Zi Z<|Zi Z<|Zi Z<|rN) rfl⟩) (fun s19=>?_)
   refine gEx fun n20=>gSR<|Zq (I.lss Z Z)<|Zn<|z0m<|gIf Z Z (fun h21=>?_) (fun h21=>?_)
   ·
    refine Zt<|z0m<|z4s<|gSR<|Zm Z<|z0g fun x22 h23=>Zq (ixR Z Z h23 tu25 zdg Z)<|Zq (ldR Z ziu)<|Eb Z (z9b 57 zdg (ZrE.rd (R:=z0o) (x:=0) (Zr.num Z) (ZrE.nilS (ZrE.rd (R:=z35) (x:=0) (Zr.num Z) (ZrE.rd (R:=z1n) (x:=(⟨0,[],(⟨0,0,0,[]⟩:z02)⟩:z1v)) zwp (ZrE.rd (R:=z2p) (x:=(⟨0,0⟩:z0y)) zy3 ZrE.nil Z) Z) Z)) Z)) fun v24=>Za Z<|zvl aZ [.rd z0o 0,.rd (z03 aZ) [],.rd z35 0,.rd z1n (⟨0,[],(⟨0,0,0,[]⟩:z02)⟩:z1v),.rd z2p (⟨0,0⟩:z0y)] 57 [.rd z0o 0] [.rd z35 0,.rd z1n (⟨0,[],(⟨0,0,0,[]⟩:z02)⟩:z1v),.rd z2p (⟨0,0⟩:z0y)] Z Z Z<|zt4 (R:=z0z) (⟨0,[],0,(⟨0,[],(⟨0,0,0,[]⟩:z02)⟩:z1v),(⟨0,0⟩:z0y)⟩:z12) 57 Z (Sp.via (Sp.prod (Sp.prod (Sp.prod (Sp.prod (Sp.prod Sp.unit))))))<|Es (sto 57 Z Z fH Z zdg)<|Zn<|z8j (fun (s25:(List (List Int))) aa ww=>∃ nv:Nat→Value,Sta (ctx 133 H [] w) [(1,.val (z05 v1 0)),(4,.val v14),(5,.val v17),(6,.val (n20 0)),(7,.rd z09 s19.2.2.2),(8,.val (z05 v24 0)),(45,.rd (z03 z0z) a0.Ops),(46,.rd z09 (a0.Ops.length:Int)),(47,.rd z09 s19.2.2.2)] ([(1,some (v1,.box 27 [.rd z01 a0])),(44,some (v14,.list z09 3 s19.1)),(45,some (v17,.list ze0 157 (z8u (fun j=>nv (j+0)) s25))),(55,some ((n20 0),.list z09 3 s19.2.2.1)),(57,some (v24,.box 72 [.rd z0z x22]))]++zkw 100000 z09 3 (fun j=>nv (j+0)) s25 0) aa ww) ?_ (fun s25=>?_)
    ·
     refine gSR<|Zq (faB 57 Z Z Tryz.underlying72 Z (by exact zby))<|Zq (ld 57 Z Z (fP (z19 _)) zb1 Z)<|Zq (z3q Z .rd Z tu24)<|Zm Z<|Zn<|z1q (fun (s26:(List (List Int)) × Int) aa ww=>∃ nv:Nat→Value,Sta (ctx 133 H [] w) [(1,.val (z05 v1 0)),(4,.val v14),(5,.val v17),(6,.val (n20 0)),(7,.rd z09 s19.2.2.2),(8,.val (z05 v24 0)),(45,.rd (z03 z0z) a0.Ops),(46,.rd z09 (a0.Ops.length:Int)),(47,.rd z09 s19.2.2.2),(53,.rd (z03 aZ) x22.Preds),(54,.rd z09 (x22.Preds.length:Int)),(55,.rd z09 s26.2)] ([(1,some (v1,.box 27 [.rd z01 a0])),(44,some (v14,.list z09 3 s19.1)),(45,some (v17,.list ze0 157 (z8u (fun j=>nv (j+0)) s26.1))),(55,some ((n20 0),.list z09 3 s19.2.2.1)),(57,some (v24,.box 72 [.rd z0z x22]))]++zkw 100000 z09 3 (fun j=>nv (j+0)) s26.1 0) aa ww) (fun aa ww h=>⟨zvb [] (fun j=>n20 (j+1)),h.subF (by repeat (first | refine z5l.cons Z ?_ | exact z5l.tail)) [1,44,45,55,57] (Zs Z Z Z Z<|Zs Z Z Z Z<|Zs Z Z Z Z<|sN) (Zi Z<|Zi Z<|Zi Z<|Zi Z<|Zi Z<|rN) rfl⟩) (fun s26=>?_)
     refine gEx fun n27=>gSR<|Zq (I.lss Z Z)<|Zn<|z0m<|gIf Z Z (fun h28=>?_) (fun h28=>?_)
     ·
      refine Zt<|z0m<|z4s<|gSR<|z0g fun x29 h30=>Zq (ixR Z Z h30 tu24 z3j Z)<|Zq (ldR Z z6z)<|Eb Z (z9b 58 z3j (.zr (R:=aZ) (x:=(Vector.replicate 32 0)) zje)) fun v31=>Es (sto 58 Z Z fH Z z3j)<|Zn<|gSR<|Zq (ld 1 Z Z fH zbn Z)<|Zq (ld 58 Z Z fH z6z Z)<|call [] [] Z Tryz.func84 Z Z (zn6 _ _) (Y2 Z Z) rN fun r32 n33=>Zm Z<|Zq (ext Z Z)<|Zq (ext Z Z)<|Za Z<|Zb Z<|z0m<|gSR<|Zm Z<|Zq (zf6 Z)<|Zj Z (fun h34=>?_) (fun h34=>?_)
      ·
       refine gSR<|Zb Z<|z0j<|z0v<|z4h<|z0v<|z7x<|z6y<|z4h<|z0v<|z7x<|z6y<|zdj [] [] Z (eE Z<|eN) (rN)
      ·
       refine Zt<|z1o<|Zm Z<|Zm Z<|Zm Z<|Zm Z<|z0g fun x35 h36=>Zq (ixO 45 Z Z Z (zk5 h36) Tryz.underlying176 zu3)<|Zq (ldF 45 Z Z h36 zxg Z)<|Zm Z<|Ef Z (lit (R:=z09) ([s19.2.2.2]:List Int) 59 (pP Z Z<|pN) Z tu157 ti3 Z Z) fun v37=>z0g fun x38 h39=>lApF (base:=100000) (lits:=[(1,some (v1,.box 27 [.rd z01 a0])),(44,some (v14,.list z09 3 s19.1)),(55,some ((n20 0),.list z09 3 s19.2.2.1)),(57,some (v24,.box 72 [.rd z0z x22])),(58,some (v31,.box 78 [.rd aZ x29])),(59,some (v37,.list z09 3 [s19.2.2.2]))]) 45 [1,44,55,57,58,59] (by repeat (first | refine z5l.cons Z ?_ | exact z5l.tail)) Z Z Z h36 Z Z Z Z (.own 59 Z) h39 Z (fun _ h=>by cases h; rfl) (fun _ h=>by cases h; rfl) Z Z tu157 ti3 Z Z Z Tryz.underlying176 zu3 zxg (Zi Z<|Zi Z<|Zi Z<|Zi Z<|Zi Z<|Zi Z<|rN) Z fun v40=>z1f<|z2n<|z0e<|z1o<|Zq (I.add Z Z)<|Zm Z<|z1f<|z14 (fun aa ww h=>⟨zvb [] (zt5 (fun j=>n27 (j+0)) (r32.1:Int).toNat v40),h.subF (by repeat (first | refine z5l.cons Z ?_ | exact z5l.tail)) [1,44,45,55,57] (Zs Z Z Z Z<|Zs Z Z Z Z<|Zs Z Z Z Z<|sN) (Zi Z<|Zi Z<|Zi Z<|Zi Z<|Zi Z<|rN) rfl⟩)
     ·
      refine z1d<|z0p<|z0s<|z6n (fun aa ww h=>⟨zvb [] (fun j=>n27 (j+0)),h.subF (by repeat (first | refine z5l.cons Z ?_ | exact z5l.tail)) [1,44,45,55,57] (Zs Z Z Z Z<|Zs Z Z Z Z<|sS Z<|sN) (Zi Z<|Zi Z<|Zi Z<|Zi Z<|Zi Z<|rN) rfl⟩)
    ·
     refine gEx fun n41=>gSR<|Zm Z<|Zm Z<|Zq (faB 57 Z Z Tryz.underlying72 Z (by exact zby))<|Zq (ld 57 Z Z (fP (z19 _)) zb1 Z)<|Zq (z3q Z .rd Z tu24)<|z0g fun x42 h43=>Zq (ixO 44 Z Z Z h43 tu157 ti3)<|Es (sto 44 Z Z (Foc.el h43) Z ti3)<|Zn<|gSR<|Zm Z<|Zm Z<|z0g fun x44 h45=>Zq (ixO 44 Z Z Z h45 tu157 ti3)<|Zq (ld 44 Z Z (Foc.el h45) ty3 Z)<|Zq (I.eql Z Z)<|Zj Z (fun h46=>?_) (fun h46=>?_)
     ·
      refine z1o<|Zm Z<|Zm Z<|Ef Z (lit (R:=z09) ([s19.2.2.2]:List Int) 60 (pP Z Z<|pN) Z tu157 ti3 Z Z) fun v47=>z0g fun x48 h49=>Ef Z (apn 55 Z Z Z (.own 60 Z) h49 tu157 ti3 Z Z Z) fun v50=>Za Z<|z1f<|z2n<|z0e<|z1o<|Zq (I.add Z Z)<|Zm Z<|z1f<|z14 (fun aa ww h=>⟨zvb [v50] (fun j=>n41 (j+0)),h.subF (by repeat (first | refine z5l.cons Z ?_ | exact z5l.tail)) [1,44,45,55] (Zs Z Z Z Z<|sS Z<|sS Z<|sS Z<|sN) (Zi Z<|Zi Z<|Zi Z<|Zi Z<|rN) rfl⟩)
     ·
      refine z2b<|z2n<|z0e<|z1o<|Zq (I.add Z Z)<|Zm Z<|z1f<|z14 (fun aa ww h=>⟨zvb [(n20 0)] (fun j=>n41 (j+0)),h.subF (by repeat (first | refine z5l.cons Z ?_ | exact z5l.tail)) [1,44,45,55] (Zs Z Z Z Z<|sS Z<|sS Z<|sS Z<|sN) (Zi Z<|Zi Z<|Zi Z<|Zi Z<|rN) rfl⟩)
   ·
    refine z1d<|z0p<|z0s<|z6n (fun aa ww h=>⟨zvb [(n20 0)] (fun j=>n20 (j+1)),h.subF (by repeat (first | refine z5l.cons Z ?_ | exact z5l.tail)) [1,44,45,55] (Zs Z Z Z Z<|sN) (Zi Z<|Zi Z<|Zi Z<|Zi Z<|rN) rfl⟩)
  ·
   refine gEx fun n51=>gSR<|Zb Z<|z6t (fun (s52:Int) aa ww=>Sta (ctx 133 H [] w) [(1,.val (z05 v1 0)),(13,.rd z09 s52)] [(1,some (v1,.box 27 [.rd z01 a0]))] aa ww) ?_ (fun s52=>?_)
   ·
    refine z10w (base:=100000) (T:=3) (lits:=[(1,some (v1,.box 27 [.rd z01 a0])),(44,some (v14,.list z09 3 s18.1)),(50,some ((n51 0),.list z09 3 s18.2.2))]) (by repeat (first | refine z5l.cons Z ?_ | exact z5l.tail)) 45 Z [1,44,50] (Zi Z<|Zi Z<|Zi Z<|rN) Z Z<|z1q (fun (s53:(List Int) × (List Int) × Int) aa ww=>∃ nv:Nat→Value,Sta (ctx 133 H [] w) [(1,.val (z05 v1 0)),(4,.val v14),(5,.val v17),(6,.val (nv 0)),(13,.rd z09 s53.2.2)] [(1,some (v1,.box 27 [.rd z01 a0])),(44,some (v14,.list z09 3 s53.1)),(45,some (v17,.list (z03 z09) 157 s18.2.1)),(50,some ((nv 0),.list z09 3 s53.2.1))] aa ww) (fun aa ww h=>⟨nvl [(n51 0)],h.sub [1,44,45,50] (Zs Z Z Z Z<|sS Z<|sN) (Zi Z<|Zi Z<|Zi Z<|Zi Z<|rN)⟩) (fun s53=>?_)
    refine gEx fun n54=>z0m<|gSR<|Zm Z<|Zm Z<|Zq (z3q Z (.own 50 Z) Z tu157)<|Zq (I.lss Z Z)<|Zj Z (fun h55=>?_) (fun h55=>?_)
    ·
     refine Zt<|z6t (fun (s56:(List Int) × (List Int)) aa ww=>∃ nv:Nat→Value,Sta (ctx 133 H [] w) [(1,.val (z05 v1 0)),(4,.val v14),(5,.val v17),(6,.val (nv 0)),(13,.rd z09 s53.2.2)] [(1,some (v1,.box 27 [.rd z01 a0])),(44,some (v14,.list z09 3 s56.1)),(45,some (v17,.list (z03 z09) 157 s18.2.1)),(50,some ((nv 0),.list z09 3 s56.2))] aa ww) ?_ (fun s56=>?_)
     ·
      refine z4s<|gSR<|Zm Z<|Zm Z<|Zm Z<|z0g fun x57 h58=>Zq (ixO 50 Z Z Z h58 tu157 ti3)<|Zq (ld 50 Z Z (Foc.el h58) ty3 Z)<|z0g fun x59 h60=>Zq (ixO 45 Z Z Z h60 Tryz.underlying176 zu3)<|Zq (ld 45 Z Z (Foc.el h60) zxg Z)<|Zq (z3q Z .rd Z tu157)<|Zm Z<|Zn<|z1q (fun (s61:(List Int) × (List Int) × Int) aa ww=>∃ nv:Nat→Value,Sta (ctx 133 H [] w) [(1,.val (z05 v1 0)),(4,.val v14),(5,.val v17),(6,.val (nv 0)),(13,.rd z09 s53.2.2),(106,.rd (z03 z09) x59),(107,.rd z09 (x59.length:Int)),(108,.rd z09 s61.2.2)] [(1,some (v1,.box 27 [.rd z01 a0])),(44,some (v14,.list z09 3 s61.1)),(45,some (v17,.list (z03 z09) 157 s18.2.1)),(50,some ((nv 0),.list z09 3 s61.2.1))] aa ww) (fun aa ww h=>⟨nvl [(n54 0)],h.sub [1,44,45,50] (Zs Z Z Z Z<|Zs Z Z Z Z<|sN) (Zi Z<|Zi Z<|Zi Z<|Zi Z<|rN)⟩) (fun s61=>?_)
      refine gEx fun n62=>gSR<|Zq (I.lss Z Z)<|Zn<|z0m<|gIf Z Z (fun h63=>?_) (fun h63=>?_)
      ·
       refine Zt<|z0m<|z4s<|gSR<|z0g fun x64 h65=>Zq (ixR Z Z h65 tu157 ti3 Z)<|Zq (ldR Z ty3)<|Zb Z<|gSR<|Zm Z<|Zm Z<|z0g fun x66 h67=>Zq (ixO 44 Z Z Z h67 tu157 ti3)<|Zq (ld 44 Z Z (Foc.el h67) ty3 Z)<|Zq (I.sub Z Z)<|z0g fun x68 h69=>Zq (ixO 44 Z Z Z h69 tu157 ti3)<|Es (sto 44 Z Z (Foc.el h69) Z ti3)<|Zn<|gSR<|Zm Z<|Zm Z<|z0g fun x70 h71=>Zq (ixO 44 Z Z Z h71 tu157 ti3)<|Zq (ld 44 Z Z (Foc.el h71) ty3 Z)<|Zq (I.eql Z Z)<|Zj Z (fun h72=>?_) (fun h72=>?_)
       ·
        refine z1o<|Zm Z<|Zm Z<|Ef Z (lit (R:=z09) ([x64]:List Int) 61 (pP Z Z<|pN) Z tu157 ti3 Z Z) fun v73=>z0g fun x74 h75=>Ef Z (apn 50 Z Z Z (.own 61 Z) h75 tu157 ti3 Z Z Z) fun v76=>Za Z<|z1f<|z2n<|z0e<|z1o<|Zq (I.add Z Z)<|Zm Z<|z1f<|z14 (fun aa ww h=>⟨nvl [v76],h.sub [1,44,45,50] (Zs Z Z Z Z<|Zs Z Z Z Z<|sN) (Zi Z<|Zi Z<|Zi Z<|Zi Z<|rN)⟩)
       ·
        refine z2b<|z2n<|z0e<|z1o<|Zq (I.add Z Z)<|Zm Z<|z1f<|z14 (fun aa ww h=>⟨nvl [(n62 0)],h.sub [1,44,45,50] (Zs Z Z Z Z<|Zs Z Z Z Z<|sN) (Zi Z<|Zi Z<|Zi Z<|Zi Z<|rN)⟩)
      ·
       refine z1d<|z0p<|z0s<|z2n<|z37 (fun aa ww h=>⟨nvl [(n62 0)],h.sub [1,44,45,50] (Zs Z Z Z Z<|sS Z<|sN) (Zi Z<|Zi Z<|Zi Z<|Zi Z<|rN)⟩)
     ·
      refine gEx fun n77=>z1o<|Zm Z<|Zq (I.add Z Z)<|Za Z<|z1e 13 Z fun y78=>z1f<|z14 (fun aa ww h=>⟨nvl [(n77 0)],h.sub [1,44,45,50] (Zs Z Z Z Z<|sS Z<|sN) (Zi Z<|Zi Z<|Zi Z<|Zi Z<|rN)⟩)
    ·
     refine z1d<|z0p<|z0s<|z37 (fun aa ww h=>h.sub [1] (sS Z<|sS Z<|sN) (y1 Z))
   ·
    refine z0m<|gSR<|Zm Z<|Zq (faB 1 Z Z Tryz.underlying27 Z (by exact zbk))<|Zq (ld 1 Z Z (fP (z04 _)) zbh Z)<|Zq (z3q Z .rd Z tu25)<|Zq (I.lss Z Z)<|Zj Z (fun h79=>?_) (fun h79=>?_)
    ·
     refine gSR<|Zb Z<|z0j<|z0v<|zdj [] [] Z (eE Z<|eN) (rN)
    ·
     refine Zt<|gSR<|Zb Z<|z0j<|zdj [] [] Z (eE Z<|eN) (rN)
def z9s (a0:z00) (s5:Int):Option (Sum (Sum Int Unit) Int) :=
 if decide (s5<(a0.Ops.length:Int)) then
  idx a0.Ops s5 >>= fun x7 =>
  zuc x7 >>= fun r10 =>
  (if r10.2 != 0 then
   some true
  else
   idx a0.IDs s5 >>= fun x15 =>
   if !decide (r10.1=x15) then
    some true
   else
    zg5 x7 >>= fun r18 =>
    some (r18 != 0)) >>= fun s13 =>
  if s13 then
   some (.inl (.inl 8))
  else
   some (.inr (w64 (s5+1)))
 else
  some (.inl (.inr ()))
def z57 (a0:z00):Option (Int) :=
 if decide (60<(a0.Ops.length:Int)) then
  some 4
 else
  if (a0.IDs.length:Int) != (a0.Ops.length:Int) then
   some 8
  else
   z6w (iter (z9s a0) 0) fun s4 =>
   zg2 a0 >>= fun r21 =>
   some r21
theorem zd3 (a0:z00):z1y Tryz.prog 60 [.rd z01 a0] [zG1] (z57 a0) (fun r nv=>⟨[.rd z09 r],[(1001,some (.bool true,.glob 1 (z3i 64 z0o) z7v))]⟩):=by
 refine z2l 50 Tryz.func60 Z Z Z fun H w=>?_
 refine gSR<|Eb Z (bx 1 Z) fun v1=>Zb Z<|z0m<|gSR<|Zq (faB 1 Z Z Tryz.underlying27 Z (by exact zbk))<|Zq (ld 1 Z Z (fP (z04 _)) zbh Z)<|Zq (z3q Z .rd Z tu25)<|Zq (I.gtr Z Z)<|Zj Z (fun h2=>?_) (fun h2=>?_)
 ·
  refine gSR<|Zb Z<|z0j<|z0v<|Ze [] [1001] Z
 ·
  refine Zt<|z0m<|gSR<|Zq (faB 1 Z Z Tryz.underlying27 Z (by exact zby))<|Zq (ld 1 Z Z (fP (z0f _)) zb1 Z)<|Zq (z3q Z .rd Z tu24)<|Zq (faB 1 Z Z Tryz.underlying27 Z (by exact zbk))<|Zq (ld 1 Z Z (fP (z04 _)) zbh Z)<|Zq (z3q Z .rd Z tu25)<|Zq (I.neq Z Z)<|Zj Z (fun h3=>?_) (fun h3=>?_)
  ·
   refine gSR<|Zb Z<|z0j<|z0v<|Ze [] [1001] Z
  ·
   refine Zt<|z8j (fun (s4:Unit) aa ww=>Sta (ctx 50 H [zG1] w) [(1,.val (z05 v1 0))] [(1,some (v1,.box 27 [.rd z01 a0])),zG1] aa ww) ?_ (fun s4=>?_)
   ·
    refine gSR<|Zq (faB 1 Z Z Tryz.underlying27 Z (by exact zbk))<|Zq (ld 1 Z Z (fP (z04 _)) zbh Z)<|Zq (z3q Z .rd Z tu25)<|Zm Z<|Zn<|z1q (fun (s5:Int) aa ww=>Sta (ctx 50 H [zG1] w) [(1,.val (z05 v1 0)),(19,.rd (z03 z0z) a0.Ops),(20,.rd z09 (a0.Ops.length:Int)),(21,.rd z09 s5)] [(1,some (v1,.box 27 [.rd z01 a0])),zG1] aa ww) (fun aa ww h=>Zu h [1,1001]) (fun s5=>?_)
    refine gSR<|Zq (I.lss Z Z)<|Zn<|z0m<|gIf Z Z (fun h6=>?_) (fun h6=>?_)
    ·
     refine Zt<|z0m<|z4s<|gSR<|Zm Z<|z0g fun x7 h8=>Zq (ixR Z Z h8 tu25 zdg Z)<|Zq (ldR Z ziu)<|Eb Z (z9b 1100 zdg (ZrE.rd (R:=z0o) (x:=0) (Zr.num Z) (ZrE.nilS (ZrE.rd (R:=z35) (x:=0) (Zr.num Z) (ZrE.rd (R:=z1n) (x:=(⟨0,[],(⟨0,0,0,[]⟩:z02)⟩:z1v)) zwp (ZrE.rd (R:=z2p) (x:=(⟨0,0⟩:z0y)) zy3 ZrE.nil Z) Z) Z)) Z)) fun v9=>Za Z<|zvl aZ [.rd z0o 0,.rd (z03 aZ) [],.rd z35 0,.rd z1n (⟨0,[],(⟨0,0,0,[]⟩:z02)⟩:z1v),.rd z2p (⟨0,0⟩:z0y)] 1100 [.rd z0o 0] [.rd z35 0,.rd z1n (⟨0,[],(⟨0,0,0,[]⟩:z02)⟩:z1v),.rd z2p (⟨0,0⟩:z0y)] Z Z Z<|zt4 (R:=z0z) (⟨0,[],0,(⟨0,[],(⟨0,0,0,[]⟩:z02)⟩:z1v),(⟨0,0⟩:z0y)⟩:z12) 1100 Z (Sp.via (Sp.prod (Sp.prod (Sp.prod (Sp.prod (Sp.prod Sp.unit))))))<|Es (sto 1100 Z Z fH Z zdg)<|Zn<|gSR<|Zq (ld 1100 Z Z fH ziu Z)<|Zc [1001] [] Tryz.func80 Z (zty _) fun r10 n11=>Zm Z<|Zq (ext Z Z)<|Zq (ext Z Z)<|Eb Z (z9b 1101 z3j (.zr (R:=aZ) (x:=(Vector.replicate 32 0)) zje)) fun v12=>Es (sto 1101 Z Z fH Z z3j)<|Zb Z<|z6t (fun (s13:Bool) aa ww=>Sta (ctx 50 H [zG1] w) [(1,.val (z05 v1 0)),(19,.rd (z03 z0z) a0.Ops),(20,.rd z09 (a0.Ops.length:Int)),(21,.rd z09 s5),(46,.rd z08 s13)] [(1,some (v1,.box 27 [.rd z01 a0])),zG1] aa ww) ?_ (fun s13=>?_)
     ·
      refine z6p [1001] mixed Z Z<|hTk 0 Z Z (mv Z)<|hTk 1 Z Z (I.neq Z Z)<|hTk 2 Z Z (mv Z)<|hIf 33 Z Z (fun h14=>?_) (fun h14=>?_)
      ·
       refine hKn 32 Z Z h14<|hSk 3 Z Z<|hSk 4 Z Z<|hSk 5 Z Z<|hSk 6 Z Z<|hSk 7 Z Z<|hSk 8 Z Z<|hSk 9 Z Z<|hTk 10 Z Z (pkT Z Z)<|hTk 11 Z Z (mv Z)<|hSk 12 Z Z<|hSk 13 Z Z<|hSk 14 Z Z<|hTk 15 Z Z (pkT Z Z)<|z3l (by kernel_rfl)<|z37 (fun aa ww h=>Zu h [1,1001])
      ·
       refine hKn 32 Z Z h14<|Zg 3 Z Z (ld 1101 Z Z fH z6z Z)<|Zg 4 Z Z (faB 1 Z Z Tryz.underlying27 Z (by exact zby))<|Zg 5 Z Z (ld 1 Z Z (fP (z0f _)) zb1 Z)<|Zg 6 Z Z (mv Z)<|z36 fun x15 h16=>Zg 7 Z Z (ixR Z Z h16 tu24 z3j Z)<|Zg 8 Z Z (ldR Z z6z)<|Zg 9 Z Z (neA Z Z zx0 Z Z zx2)<|hTk 10 Z Z (pkF Z Z)<|hTk 11 Z Z (mv Z)<|hIf 42 Z Z (fun h17=>?_) (fun h17=>?_)
       ·
        refine hKn 40 Z Z h17<|hKn 41 Z Z h17<|hSk 12 Z Z<|hSk 13 Z Z<|hSk 14 Z Z<|hTk 15 Z Z (pkT Z Z)<|z3l (by kernel_rfl)<|z37 (fun aa ww h=>Zu h [1,1001])
       ·
        refine hKn 40 Z Z h17<|hKn 41 Z Z h17<|Zg 12 Z Z (ld 1100 Z Z fH ziu Z)<|z3c 13 [1001] [] Z (by kernel_rfl) Z Zx Z Tryz.func79 Z Z (zlp _) (Y1 Z) (y1 Z) Z (fun _ _=>z2j) fun r18 n19=>Zg 14 Z Z (I.neq Z Z)<|hTk 15 Z Z (pkF Z Z)<|z3l (by kernel_rfl)<|z37 (fun aa ww h=>Zu h [1,1001])
     ·
      refine gIf Z Z (fun h20=>?_) (fun h20=>?_)
      ·
       refine gSR<|Zb Z<|z0j<|z4h<|z0v<|z7x<|z6y<|Ze [] [1001] Z
      ·
       refine z2b<|z2n<|z0e<|z1o<|Zq (I.add Z Z)<|Zm Z<|z1f<|z14 (fun aa ww h=>Zu h [1,1001])
    ·
     refine z1d<|z0p<|z0s<|z6n (fun aa ww h=>Zu h [1,1001])
   ·
    refine gSR<|Zq (ld 1 Z Z fH zbn Z)<|Zc [] [] Tryz.func94 Z (zm7 _) fun r21 n22=>Zb Z<|z0j<|Ze [] [1001] Z
def z6j (a0:List V3) (a1:V3) (s3:Int):Option (Sum (Sum Int Unit) Int) :=
 if decide (s3<(a0.length:Int)) then
  idx a0 s3 >>= fun x5 =>
  if decide (x5=a1) then
   some (.inl (.inl s3))
  else
   some (.inr (w64 (s3+1)))
 else
  some (.inl (.inr ()))
def z4d (a0:List V3) (a1:V3):Option (Int) :=
 z6w (iter (z6j a0 a1) 0) fun s2 =>
 some (-1)
theorem za2 (a0:List V3) (a1:V3):z1y Tryz.prog 39 [.rd (z03 aZ) a0,.rd aZ a1] [] (z4d a0 a1) (fun r nv=>⟨[.rd z09 r],[]⟩):=by
 refine z2l 19 Tryz.func39 Z Z Z fun H w=>?_
 refine gSR<|Eb Z (bx 1 Z) fun v1=>Zb Z<|z8j (fun (s2:Unit) aa ww=>Sta (ctx 19 H [] w) [] [] aa ww) ?_ (fun s2=>?_)
 ·
  refine gSR<|Zb Z<|z1q (fun (s3:Int) aa ww=>Sta (ctx 19 H [] w) [(0,.rd (z03 aZ) a0),(3,.val (z05 v1 0)),(5,.rd z09 s3)] [(1,some (v1,.box 78 [.rd aZ a1]))] aa ww) (fun aa ww h=>Zu h [1]) (fun s3=>?_)
  refine z0m<|gSR<|Zm Z<|Zm Z<|Zq (z3q Z .rd Z tu24)<|Zq (I.lss Z Z)<|Zj Z (fun h4=>?_) (fun h4=>?_)
  ·
   refine Zt<|z0m<|z4s<|z0m<|zdz mixed (by kernel_rfl)<|Rq Z (mv Z)<|Rq Z (mv Z)<|z55 fun x5 h6=>Rq Z (ixR Z Z h6 tu24 z3j Z)<|Rq Z (ldR Z z6z)<|Rq Z (ld 1 Z Z fH z6z Z)<|Rq Z (eqA Z Z zx0 Z Z zx2)<|zks<|z0e<|gIf Z Z (fun h7=>?_) (fun h7=>?_)
   ·
    refine gSR<|Zm Z<|Zb Z<|z0j<|z4h<|z0v<|z7x<|z6y<|Ze [] [] Z
   ·
    refine z2b<|z2n<|z0e<|z1o<|Zm Z<|Zq (I.add Z Z)<|Za Z<|z1f<|z14 (fun aa ww h=>Zu h [1])
  ·
   refine z1d<|z0p<|z0s<|z6n (fun aa ww h=>Zu h [])
 ·
  refine gSR<|Zb Z<|z0j<|Ze [] [] Z
def z5t (a0:List V3) (a1:List V3) (s2:Int):Option (Sum (Sum Bool Unit) Int) :=
 if decide (s2<(a1.length:Int)) then
  idx a1 s2 >>= fun x4 =>
  z4d a0 x4 >>= fun r6 =>
  if decide (r6<0) then
   some (.inl (.inl false))
  else
   some (.inr (w64 (s2+1)))
 else
  some (.inl (.inr ()))
def z39 (a0:List V3) (a1:List V3):Option (Bool) :=
 z6w (iter (z5t a0 a1) 0) fun s1 =>
 some true
theorem zgd (a0:List V3) (a1:List V3):z1y Tryz.prog 37 [.rd (z03 aZ) a0,.rd (z03 aZ) a1] [] (z39 a0 a1) (fun r nv=>⟨[.rd z08 r],[]⟩):=by
 refine z2l 19 Tryz.func37 Z Z Z fun H w=>?_
 refine gSR<|Zb Z<|z8j (fun (s1:Unit) aa ww=>Sta (ctx 19 H [] w) [] [] aa ww) ?_ (fun s1=>?_)
 ·
  refine gSR<|Zb Z<|z1q (fun (s2:Int) aa ww=>Sta (ctx 19 H [] w) [(0,.rd (z03 aZ) a0),(1,.rd (z03 aZ) a1),(5,.rd z09 s2)] [] aa ww) (fun aa ww h=>Zu h []) (fun s2=>?_)
  refine z0m<|gSR<|Zm Z<|Zm Z<|Zq (z3q Z .rd Z tu24)<|Zq (I.lss Z Z)<|Zj Z (fun h3=>?_) (fun h3=>?_)
  ·
   refine Zt<|z0m<|z4s<|gSR<|Zm Z<|Zm Z<|Zm Z<|z0g fun x4 h5=>Zq (ixR Z Z h5 tu24 z3j Z)<|Zq (ldR Z z6z)<|Zc [] [] Tryz.func39 Z (za2 _ _) fun r6 n7=>Zq (I.lss Z Z)<|Zj Z (fun h8=>?_) (fun h8=>?_)
   ·
    refine gSR<|Zb Z<|z0j<|z4h<|z0v<|z7x<|z6y<|Ze [] [] Z
   ·
    refine z2b<|z2n<|z0e<|z1o<|Zm Z<|Zq (I.add Z Z)<|Za Z<|z1f<|z14 (fun aa ww h=>Zu h [])
  ·
   refine z1d<|z0p<|z0s<|z6n (fun aa ww h=>Zu h [])
 ·
  refine gSR<|Zb Z<|z0j<|Ze [] [] Z
theorem zaw (a0:List V3) (q0:Value) (l0:List V3) (a1:V3):z1y Tryz.prog 39 [.vw aZ q0 l0 a0,.rd aZ a1] [(1,some (q0,.list aZ 78 l0))] (z4d a0 a1) (fun r nv=>⟨[.rd z09 r],[(1,some (q0,.list aZ 78 l0))]⟩):=by
 refine z2l 19 Tryz.func39 Z Z Z fun H w=>?_
 refine gSR<|Eb Z (bx 2 Z) fun v1=>Zb Z<|z8j (fun (s2:Unit) aa ww=>Sta (ctx 19 H [(1,some (q0,.list aZ 78 l0))] w) [] [(1,some (q0,.list aZ 78 l0))] aa ww) ?_ (fun s2=>?_)
 ·
  refine gSR<|Zb Z<|z1q (fun (s3:Int) aa ww=>Sta (ctx 19 H [(1,some (q0,.list aZ 78 l0))] w) [(0,.vw aZ q0 l0 a0),(3,.val (z05 v1 0)),(5,.rd z09 s3)] [(1,some (q0,.list aZ 78 l0)),(2,some (v1,.box 78 [.rd aZ a1]))] aa ww) (fun aa ww h=>Zu h [1,2]) (fun s3=>?_)
  refine z0m<|gSR<|Zm Z<|Zm Z<|Zq (z3q Z (.vw 1 Z) Z tu24)<|Zq (I.lss Z Z)<|Zj Z (fun h4=>?_) (fun h4=>?_)
  ·
   refine Zt<|z0m<|z4s<|z0m<|zdz mixed (by kernel_rfl)<|Rq Z (mv Z)<|Rq Z (mv Z)<|z55 fun x5 h6=>Rq Z (ixQ 1 Z Z Z h6 tu24 z3j)<|Rq Z (ldQ 1 Z Z z6z Z)<|Rq Z (ld 2 Z Z fH z6z Z)<|Rq Z (eqA Z Z zx0 Z Z zx2)<|zks<|z0e<|gIf Z Z (fun h7=>?_) (fun h7=>?_)
   ·
    refine gSR<|Zm Z<|Zb Z<|z0j<|z4h<|z0v<|z7x<|z6y<|Ze [] [1] Z
   ·
    refine z2b<|z2n<|z0e<|z1o<|Zm Z<|Zq (I.add Z Z)<|Za Z<|z1f<|z14 (fun aa ww h=>Zu h [1,2])
  ·
   refine z1d<|z0p<|z0s<|z6n (fun aa ww h=>Zu h [1])
 ·
  refine gSR<|Zb Z<|z0j<|Ze [] [1] Z
theorem zdv (a0:List V3) (q0:Value) (l0:List V3) (a1:List V3):z1y Tryz.prog 37 [.vw aZ q0 l0 a0,.rd (z03 aZ) a1] [(1,some (q0,.list aZ 78 l0))] (z39 a0 a1) (fun r nv=>⟨[.rd z08 r],[(1,some (q0,.list aZ 78 l0))]⟩):=by
 refine z2l 19 Tryz.func37 Z Z Z fun H w=>?_
 refine gSR<|Zb Z<|z8j (fun (s1:Unit) aa ww=>Sta (ctx 19 H [(1,some (q0,.list aZ 78 l0))] w) [] [(1,some (q0,.list aZ 78 l0))] aa ww) ?_ (fun s1=>?_)
 ·
  refine gSR<|Zb Z<|z1q (fun (s2:Int) aa ww=>Sta (ctx 19 H [(1,some (q0,.list aZ 78 l0))] w) [(0,.vw aZ q0 l0 a0),(1,.rd (z03 aZ) a1),(5,.rd z09 s2)] [(1,some (q0,.list aZ 78 l0))] aa ww) (fun aa ww h=>Zu h [1]) (fun s2=>?_)
  refine z0m<|gSR<|Zm Z<|Zm Z<|Zq (z3q Z .rd Z tu24)<|Zq (I.lss Z Z)<|Zj Z (fun h3=>?_) (fun h3=>?_)
  ·
   refine Zt<|z0m<|z4s<|gSR<|Zm Z<|Zm Z<|Zm Z<|z0g fun x4 h5=>Zq (ixR Z Z h5 tu24 z3j Z)<|Zq (ldR Z z6z)<|Zc [1] [(1,1)] Tryz.func39 Z (zaw _ _ _ _) fun r6 n7=>Zq (I.lss Z Z)<|Zj Z (fun h8=>?_) (fun h8=>?_)
   ·
    refine gSR<|Zb Z<|z0j<|z4h<|z0v<|z7x<|z6y<|Ze [] [1] Z
   ·
    refine z2b<|z2n<|z0e<|z1o<|Zm Z<|Zq (I.add Z Z)<|Za Z<|z1f<|z14 (fun aa ww h=>Zu h [1])
  ·
   refine z1d<|z0p<|z0s<|z6n (fun aa ww h=>Zu h [1])
 ·
  refine gSR<|Zb Z<|z0j<|Ze [] [1] Z
def z2x (a0:z00) (s6:(List Int) × (List V3) × (List Bool) × Bool) (s9:Int):Option (Sum (Sum ((List Int)) ((List Int) × (List V3) × (List Bool) × Bool)) Int) :=
 if decide (s9<(a0.Ops.length:Int)) then
  (idx s6.2.2.1 s9 >>= fun x12 =>
  if !x12 then
   idx a0.Ops s9 >>= fun x15 =>
   z39 s6.2.1 x15.Preds >>= fun r17 =>
   some r17
  else
   some false) >>= fun s11 =>
  if s11 then
   app 8 s6.1 [s9] >>= fun x20 =>
   idx a0.IDs s9 >>= fun x22 =>
   app 32 s6.2.1 [x22] >>= fun x24 =>
   idx s6.2.2.1 s9 >>= fun x26 =>
   some (.inl (.inr (x20,x24,s6.2.2.1.set (s9:Int).toNat true,true)))
  else
   some (.inr (w64 (s9+1)))
 else
  some (.inl (.inr (s6.1,s6.2.1,s6.2.2.1,false)))
def z6b (a0:z00) (s6:(List Int) × (List V3) × (List Bool) × Bool):Option (Sum ((List Int)) ((List Int) × (List V3) × (List Bool) × Bool)) :=
 if s6.2.2.2 then
  iter (z2x a0 s6) 0
 else
  some (.inl s6.1)
def z8c (a0:z00):Option ((List Int)) :=
 mkn 1 false (a0.Ops.length:Int) >>= fun x2 =>
 (iter (z6b a0) ([],[],x2,true)) >>= fun s5 =>
 some s5
set_option maxHeartbeats 4000000 in
theorem zer (a0:z00):z1y Tryz.prog 104 [.rd z01 a0] [] (z8c a0) (fun r nv=>⟨[.val (nv 0)],[(100,some (nv 0,.list z09 3 r))]⟩):=by
 refine z2l 51 Tryz.func104 Z Z Z fun H w=>?_
 refine gSR<|Eb Z (bx 1 Z) fun v1=>Zb Z<|gSR<|Zb Z<|gSR<|Zb Z<|gSR<|Zq (faB 1 Z Z Tryz.underlying27 Z (by exact zbk))<|Zq (ld 1 Z Z (fP (z04 _)) zbh Z)<|Zq (z3q Z .rd Z tu25)<|z0g fun x2 h3=>Ef Z (mks (R:=z08) 2 Z Z h3 Tryz.underlying125 ti4 Zr.bool Z) fun v4=>Zb Z<|z6t (fun (s5:(List Int)) aa ww=>∃ nv:Nat→Value,Sta (ctx 51 H [] w) [(3,.val (nv 0))] [(3,some ((nv 0),.list z09 3 s5))] aa ww) ?_ (fun s5=>?_)
 ·
  refine gSR<|Zb Z<|zs7 z09 3 6<|zs7 aZ 78 7<|z1q (fun (s6:(List Int) × (List V3) × (List Bool) × Bool) aa ww=>∃ nv:Nat→Value,Sta (ctx 51 H [] w) [(1,.val (z05 v1 0)),(3,.val (nv 0)),(4,.val (nv 1)),(5,.val v4),(6,.rd z08 s6.2.2.2)] [(1,some (v1,.box 27 [.rd z01 a0])),(4,some ((nv 0),.list z09 3 s6.1)),(5,some ((nv 1),.list aZ 78 s6.2.1)),(2,some (v4,.list z08 4 s6.2.2.1))] aa ww) (fun aa ww h=>⟨nvl [(.slice none 0 0),(.slice none 0 0)],Zu h [1,6,7,2]⟩) (fun s6=>?_)
  refine gEx fun n7=>z0m<|gSR<|Zm Z<|Zj Z (fun h8=>?_) (fun h8=>?_)
  ·
   refine gKn 6 Z h8<|Zt<|z4s<|gSR<|Zb Z<|gSR<|Zb Z<|z1q (fun (s9:Int) aa ww=>Sta (ctx 51 H [] w) [(1,.val (z05 v1 0)),(3,.val (n7 0)),(4,.val (n7 1)),(5,.val v4),(6,.rd z08 false),(7,.rd z09 s9)] [(1,some (v1,.box 27 [.rd z01 a0])),(4,some ((n7 0),.list z09 3 s6.1)),(5,some ((n7 1),.list aZ 78 s6.2.1)),(2,some (v4,.list z08 4 s6.2.2.1))] aa ww) (fun aa ww h=>Zu h [1,4,5,2]) (fun s9=>?_)
   refine z0m<|gSR<|Zm Z<|Zq (faB 1 Z Z Tryz.underlying27 Z (by exact zbk))<|Zq (ld 1 Z Z (fP (z04 _)) zbh Z)<|Zq (z3q Z .rd Z tu25)<|Zq (I.lss Z Z)<|Zj Z (fun h10=>?_) (fun h10=>?_)
   ·
    refine Zt<|z0m<|z4s<|z6t (fun (s11:Bool) aa ww=>Sta (ctx 51 H [] w) [(1,.val (z05 v1 0)),(3,.val (n7 0)),(4,.val (n7 1)),(5,.val v4),(6,.rd z08 false),(7,.rd z09 s9),(34,.rd z08 s11)] [(1,some (v1,.box 27 [.rd z01 a0])),(4,some ((n7 0),.list z09 3 s6.1)),(5,some ((n7 1),.list aZ 78 s6.2.1)),(2,some (v4,.list z08 4 s6.2.2.1))] aa ww) ?_ (fun s11=>?_)
    ·
     refine z1o<|Zm Z<|Zm Z<|z0g fun x12 h13=>Zq (ixO 2 Z Z Z h13 Tryz.underlying125 ti4)<|Zq (ld 2 Z Z (Foc.el h13) ty4 Z)<|Zq (zf6 Z)<|Zm Z<|z21 25 Z (fun h14=>?_) (fun h14=>?_)
     ·
      refine lKn 24 Z h14<|z1c Zx Z Z (mv Z)<|z1c Zx Z Z (faB 1 Z Z Tryz.underlying27 Z (by exact zbk))<|z1c Zx Z Z (ld 1 Z Z (fP (z04 _)) zbh Z)<|z1c Zx Z Z (mv Z)<|z0g fun x15 h16=>z1c Zx Z Z (ixR Z Z h16 tu25 zdg Z)<|z1c Zx Z Z (faR Z (z19 _) Tryz.underlying72 Z Z (by exact zby))<|z1c Zx Z Z (ldR Z zb1)<|zgg [5] [(1,5)] Zx Z Tryz.func37 Z Z (zdv _ _ _ _) (aW Z<|aQ Z<|aN) (y1 Z) fun r17 n18=>Zq (pkT Z Z)<|z1f<|z37 (fun aa ww h=>Zu h [1,4,5,2])
     ·
      refine lKn 24 Z h14<|Zk Z<|Zk Z<|Zk Z<|Zk Z<|Zk Z<|Zk Z<|Zk Z<|Zk Z<|Zq (pkF Z Z)<|z1f<|z37 (fun aa ww h=>Zu h [1,4,5,2])
    ·
     refine gIf Z Z (fun h19=>?_) (fun h19=>?_)
     ·
      refine z0m<|zxj [(3,.val (n7 0)),(4,.val (n7 1)),(1,.val (z05 v1 0)),(5,.val v4),(7,.rd z09 s9)] [(1,some (v1,.box 27 [.rd z01 a0])),(4,some ((n7 0),.list z09 3 s6.1)),(5,some ((n7 1),.list aZ 78 s6.2.1)),(2,some (v4,.list z08 4 s6.2.2.1))] [1,4,5,2] (Zs Z Z Z Z<|sS Z<|sN) (Zi Z<|Zi Z<|Zi Z<|Zi Z<|rN)<|z9q fun x20 h21=>z9q fun x22 h23=>z9q fun x24 h25=>z9q fun x26 h27=>gOr [(3,.val (n7 0),14),(4,.val (n7 1),15)] [⟨8,none,[(4,some ([1], fun nv=>((nv 1),.list z09 3 [s9])))]⟩,⟨4,some ([], fun nv=>((n7 0),.list z09 3 s6.1)),[(5,some ([2], fun nv=>((nv 2),.list z09 3 x20)))]⟩,⟨1,some ([], fun nv=>(v1,.box 27 [.rd z01 a0])),[]⟩,⟨9,none,[(12,none)]⟩,⟨5,some ([], fun nv=>((n7 1),.list aZ 78 s6.2.1)),[(13,some ([4], fun nv=>((nv 4),.list aZ 78 x24)))]⟩,⟨2,some ([], fun nv=>(v4,.list z08 4 s6.2.2.1)),[(17,some ([], fun nv=>(v4,.list z08 4 (s6.2.2.1.set (s9:Int).toNat true))))]⟩] [pd 35 (.val v4),pd 36 (.rd z09 s9),⟨some (37,[], fun nv=>.val (n7 0)),[],[],[0]⟩,pd 38 (.rd z09 s9),⟨some (39,[1], fun nv=>.val (nv 1)),[(0,0,true)],[1],[]⟩,⟨some (40,[2], fun nv=>.val (nv 2)),[(1,0,true),(0,1,false)],[2],[]⟩,⟨some (41,[], fun nv=>.val (n7 1)),[],[],[1]⟩,pk 42 (.val (z05 v1 (0+0))) [(2,0,false)],pk 43 (.rd (z03 aZ) a0.IDs) [(2,0,false)],pd 44 (.rd z09 s9),pd 45 (.rp aZ x22),pd 46 (.rd aZ x22),⟨some (47,[], fun nv=>.rd (z03 aZ) [x22]),[(3,0,true)],[3],[]⟩,⟨some (48,[4], fun nv=>.val (nv 4)),[(4,0,true)],[4],[]⟩,⟨some (3,[2], fun nv=>.val (nv 2)),[],[],[]⟩,⟨some (4,[4], fun nv=>.val (nv 4)),[],[],[]⟩,pk 49 (.val (z05 v4 ((s9:Int).toNat * 1))) [(5,0,false)],⟨none,[(5,0,true)],[],[]⟩,pd 6 (.rd z08 true)] mixed (oC (oRn (fun nv E=>mv Z))<|oC (oRn (fun nv E=>mv Z))<|oC (oRn (fun nv E=>mv Z))<|oC (oRn (fun nv E=>mv Z))<|oC (oEf 8 1 (fun nv E=>lit (R:=z09) ([s9]:List Int) 8 (pP Z Z<|pN) Z tu157 ti3 Z Z))<|oC (oEf 4 2 (fun nv E=>apn 4 Z Z Z (.own 8 Z) h21 tu157 ti3 Z Z Z))<|oC (oRn (fun nv E=>mv Z))<|oC (oRn (fun nv E=>faB 1 Z Z Tryz.underlying27 Z (by exact zby)))<|oC (oRn (fun nv E=>ld 1 Z Z (fP (z0f _)) zb1 Z))<|oC (oRn (fun nv E=>mv Z))<|oC (oRn (fun nv E=>ixR Z Z h23 tu24 z3j Z))<|oC (oRn (fun nv E=>ldR Z z6z))<|oC (oFz (A1:=fun nv=>[(9,some ((nv 3),.list aZ 78 [x22]))]) 9 3 (oEf 9 3 (fun nv E=>lit (R:=aZ) ([x22]:List V3) 9 (pP Z Z<|pN) Z tu24 z3j Z Z)))<|oC (oEf 5 4 (fun nv E=>apn 5 Z Z Z .rd h25 tu24 z3j Z Z Z))<|oC (oRn (fun nv E=>asg Z))<|oC (oRn (fun nv E=>asg Z))<|oC (oRn (fun nv E=>ixO 2 Z Z Z h27 Tryz.underlying125 ti4))<|oC (oEs 2 (fun nv E=>sto 2 Z Z (Foc.el h27) Z ti4))<|oC (oRn (fun nv E=>asg Z))<|oN) fun n28=>z0e<|z1d<|zwu Z<|z0p<|z0s<|z2n<|z14 (fun aa ww h=>⟨nvl [(n28 2),(n28 4)],Zu h [1,4,5,2]⟩)
     ·
      refine z2b<|z2n<|z0e<|z1o<|Zm Z<|Zq (I.add Z Z)<|Za Z<|z1f<|z14 (fun aa ww h=>Zu h [1,4,5,2])
   ·
    refine z1d<|z0p<|z0s<|z2n<|z14 (fun aa ww h=>⟨nvl [(n7 0),(n7 1)],Zu h [1,4,5,2]⟩)
  ·
   refine gKn 6 Z h8<|z1d<|z0p<|z0s<|z37 (fun aa ww h=>⟨nvl [(n7 0)],Zu h [4]⟩)
 ·
  refine gEx fun n29=>gSR<|Zm Z<|Zb Z<|z0j<|Ze [(n29 0)] [3] Z
def z4n (a0:z00) (s6:Int):Option (Sum (Sum Int Unit) Int) :=
 if decide (s6<(a0.Ops.length:Int)) then
  idx a0.Ops s6 >>= fun x8 =>
  z39 a0.IDs x8.Preds >>= fun r10 =>
  if !r10 then
   some (.inl (.inl 40))
  else
   some (.inr (w64 (s6+1)))
 else
  some (.inl (.inr ()))
def z8b (a0:z00):Option (Int) :=
 z5u a0.IDs >>= fun r2 =>
 if !r2 then
  some 32
 else
  z6w (iter (z4n a0) 0) fun s5 =>
  z8c a0 >>= fun r13 =>
  if decide ((r13.length:Int)<(a0.Ops.length:Int)) then
   some 36
  else
   some 0
theorem zep (a0:z00):z1y Tryz.prog 73 [.rd z01 a0] [] (z8b a0) (fun r nv=>⟨[.rd z09 r],[]⟩):=by
 refine z2l 32 Tryz.func73 Z Z Z fun H w=>?_
 refine gSR<|Eb Z (bx 1 Z) fun v1=>Zb Z<|z0m<|gSR<|Zq (faB 1 Z Z Tryz.underlying27 Z (by exact zby))<|Zq (ld 1 Z Z (fP (z0f _)) zb1 Z)<|Zc [] [] Tryz.func38 Z (za8 _) fun r2 n3=>Zq (zf6 Z)<|Zj Z (fun h4=>?_) (fun h4=>?_)
 ·
  refine gSR<|Zb Z<|z0j<|z0v<|Ze [] [] Z
 ·
  refine Zt<|z8j (fun (s5:Unit) aa ww=>Sta (ctx 32 H [] w) [(1,.val (z05 v1 0))] [(1,some (v1,.box 27 [.rd z01 a0]))] aa ww) ?_ (fun s5=>?_)
  ·
   refine gSR<|Zb Z<|z1q (fun (s6:Int) aa ww=>Sta (ctx 32 H [] w) [(1,.val (z05 v1 0)),(3,.rd z09 s6)] [(1,some (v1,.box 27 [.rd z01 a0]))] aa ww) (fun aa ww h=>Zu h [1]) (fun s6=>?_)
   refine z0m<|gSR<|Zm Z<|Zq (faB 1 Z Z Tryz.underlying27 Z (by exact zbk))<|Zq (ld 1 Z Z (fP (z04 _)) zbh Z)<|Zq (z3q Z .rd Z tu25)<|Zq (I.lss Z Z)<|Zj Z (fun h7=>?_) (fun h7=>?_)
   ·
    refine Zt<|z0m<|z4s<|z0m<|z6p [] mixed Z Z<|hTk 0 Z Z (faB 1 Z Z Tryz.underlying27 Z (by exact zby))<|hTk 1 Z Z (ld 1 Z Z (fP (z0f _)) zb1 Z)<|hTk 2 Z Z (faB 1 Z Z Tryz.underlying27 Z (by exact zbk))<|hTk 3 Z Z (ld 1 Z Z (fP (z04 _)) zbh Z)<|hTk 4 Z Z (mv Z)<|z36 fun x8 h9=>hTk 5 Z Z (ixR Z Z h9 tu25 zdg Z)<|hTk 6 Z Z (faR Z (z19 _) Tryz.underlying72 Z Z (by exact zby))<|hTk 7 Z Z (ldR Z zb1)<|z3c 8 [] [] Z (by kernel_rfl) Z (gd0 Z) Z Tryz.func37 Z Z (zgd _ _) (Y2 Z Z) rN Z (fun _ _=>zd8) fun r10 n11=>hTk 9 Z Z (zf6 Z)<|z3l (by kernel_rfl)<|z0e<|gIf Z Z (fun h12=>?_) (fun h12=>?_)
    ·
     refine gSR<|Zb Z<|z0j<|z4h<|z0v<|z7x<|z6y<|Ze [] [] Z
    ·
     refine z2b<|z2n<|z0e<|z1o<|Zm Z<|Zq (I.add Z Z)<|Za Z<|z1f<|z14 (fun aa ww h=>Zu h [1])
   ·
    refine z1d<|z0p<|z0s<|z6n (fun aa ww h=>Zu h [1])
  ·
   refine z0m<|z0m<|z6p [38] mixed Z Z<|hTk 0 Z Z (ld 1 Z Z fH zbn Z)<|hTk 3 Z Z (faB 1 Z Z Tryz.underlying27 Z (by exact zbk))<|hTk 4 Z Z (ld 1 Z Z (fP (z04 _)) zbh Z)<|hTk 5 Z Z (z3q Z .rd Z tu25)<|z3c 1 [] [(100,38)] Z (by kernel_rfl) Z (gd0 Z) Z Tryz.func104 Z Z (zer _) (Y1 Z) rN Z (fun _ _=>z2f) fun r13 n14=>Zf 2 Z Z z2j (z3q Z (.own 38 Z) Z tu157)<|hTk 6 Z Z (I.lss Z Z)<|z3l (by kernel_rfl)<|z0e<|gIf Z Z (fun h15=>?_) (fun h15=>?_)
   ·
    refine gSR<|Zb Z<|z0j<|z0v<|Ze [] [] Z
   ·
    refine Zt<|gSR<|Zb Z<|z0j<|Ze [] [] Z
def z4o (a0:z00) (s5:Int):Option (Sum (Sum Int Unit) Int) :=
 if decide (s5<(a0.Ops.length:Int)) then
  idx a0.Ops s5 >>= fun x7 =>
  z7l x7 >>= fun r9 =>
  if r9 != 0 then
   some (.inl (.inl 8))
  else
   idx a0.Ops s5 >>= fun x12 =>
   idx a0.IDs s5 >>= fun x14 =>
   zae x12 >>= fun r16 =>
   if !decide (r16=x14) then
    some (.inl (.inl 8))
   else
    some (.inr (w64 (s5+1)))
 else
  some (.inl (.inr ()))
def z2u (a0:z00):Option (Int) :=
 if decide (60<(a0.Ops.length:Int)) then
  some 4
 else
  if (a0.IDs.length:Int) != (a0.Ops.length:Int) then
   some 8
  else
   z6w (iter (z4o a0) 0) fun s4 =>
   z8b a0 >>= fun r19 =>
   some r19
theorem z6a (a0:z00):z1y Tryz.prog 31 [.rd z01 a0] [] (z2u a0) (fun r nv=>⟨[.rd z09 r],[]⟩):=by
 refine z2l 45 Tryz.func31 Z Z Z fun H w=>?_
 refine gSR<|Eb Z (bx 1 Z) fun v1=>Zb Z<|z0m<|gSR<|Zq (faB 1 Z Z Tryz.underlying27 Z (by exact zbk))<|Zq (ld 1 Z Z (fP (z04 _)) zbh Z)<|Zq (z3q Z .rd Z tu25)<|Zq (I.gtr Z Z)<|Zj Z (fun h2=>?_) (fun h2=>?_)
 ·
  refine gSR<|Zb Z<|z0j<|z0v<|Ze [] [] Z
 ·
  refine Zt<|z0m<|gSR<|Zq (faB 1 Z Z Tryz.underlying27 Z (by exact zby))<|Zq (ld 1 Z Z (fP (z0f _)) zb1 Z)<|Zq (z3q Z .rd Z tu24)<|Zq (faB 1 Z Z Tryz.underlying27 Z (by exact zbk))<|Zq (ld 1 Z Z (fP (z04 _)) zbh Z)<|Zq (z3q Z .rd Z tu25)<|Zq (I.neq Z Z)<|Zj Z (fun h3=>?_) (fun h3=>?_)
  ·
   refine gSR<|Zb Z<|z0j<|z0v<|Ze [] [] Z
  ·
   refine Zt<|z8j (fun (s4:Unit) aa ww=>Sta (ctx 45 H [] w) [(1,.val (z05 v1 0))] [(1,some (v1,.box 27 [.rd z01 a0]))] aa ww) ?_ (fun s4=>?_)
   ·
    refine gSR<|Zb Z<|z1q (fun (s5:Int) aa ww=>Sta (ctx 45 H [] w) [(1,.val (z05 v1 0)),(3,.rd z09 s5)] [(1,some (v1,.box 27 [.rd z01 a0]))] aa ww) (fun aa ww h=>Zu h [1]) (fun s5=>?_)
    refine z0m<|gSR<|Zm Z<|Zq (faB 1 Z Z Tryz.underlying27 Z (by exact zbk))<|Zq (ld 1 Z Z (fP (z04 _)) zbh Z)<|Zq (z3q Z .rd Z tu25)<|Zq (I.lss Z Z)<|Zj Z (fun h6=>?_) (fun h6=>?_)
    ·
     refine Zt<|z0m<|z4s<|z0m<|z6p [] mixed Z Z<|hTk 0 Z Z (faB 1 Z Z Tryz.underlying27 Z (by exact zbk))<|hTk 1 Z Z (ld 1 Z Z (fP (z04 _)) zbh Z)<|hTk 2 Z Z (mv Z)<|z36 fun x7 h8=>hTk 3 Z Z (ixR Z Z h8 tu25 zdg Z)<|hTk 4 Z Z (ldR Z ziu)<|z3c 5 [] [] Z (by kernel_rfl) Z (gd0 Z) Z Tryz.func71 Z Z (zdx _) (Y1 Z) rN Z (fun _ _=>z2j) fun r9 n10=>hTk 6 Z Z (I.neq Z Z)<|hTk 7 Z Z (mv Z)<|hIf 29 Z Z (fun h11=>?_) (fun h11=>?_)
     ·
      refine hKn 28 Z Z h11<|hSk 8 Z Z<|hSk 9 Z Z<|hSk 10 Z Z<|hSk 11 Z Z<|hSk 12 Z Z<|hSk 13 Z Z<|hSk 14 Z Z<|hSk 15 Z Z<|hSk 16 Z Z<|hSk 17 Z Z<|hSk 18 Z Z<|hSk 19 Z Z<|hTk 20 Z Z (pkT Z Z)<|z3l (by kernel_rfl)<|z0e<|zc9 Z<|gSR<|Zb Z<|z0j<|z4h<|z0v<|z7x<|z6y<|Ze [] [] Z
     ·
      refine hKn 28 Z Z h11<|Zg 8 Z Z (faB 1 Z Z Tryz.underlying27 Z (by exact zbk))<|Zg 9 Z Z (ld 1 Z Z (fP (z04 _)) zbh Z)<|Zg 10 Z Z (mv Z)<|z36 fun x12 h13=>Zg 11 Z Z (ixR Z Z h13 tu25 zdg Z)<|Zg 12 Z Z (ldR Z ziu)<|Zg 14 Z Z (faB 1 Z Z Tryz.underlying27 Z (by exact zby))<|Zg 15 Z Z (ld 1 Z Z (fP (z0f _)) zb1 Z)<|Zg 16 Z Z (mv Z)<|z36 fun x14 h15=>Zg 17 Z Z (ixR Z Z h15 tu24 z3j Z)<|Zg 18 Z Z (ldR Z z6z)<|zvv 13 [] [] Z (by kernel_rfl) Z Zx Z Tryz.func72 Z Z (zh4 _) (Y1 Z) rN Z fun r16 n17=>zqk 19 Z (by kernel_rfl) (by kernel_rfl) (by kernel_rfl) Zx Z Z zd8 (neA Z Z zx0 Z Z zx2)<|hTk 20 Z Z (pkF Z Z)<|z3l (by kernel_rfl)<|z0e<|gIf Z Z (fun h18=>?_) (fun h18=>?_)
      ·
       refine gKn 41 Z h18<|gSR<|Zb Z<|z0j<|z4h<|z0v<|z7x<|z6y<|Ze [] [] Z
      ·
       refine gKn 41 Z h18<|z2b<|z2n<|z0e<|z1o<|Zm Z<|Zq (I.add Z Z)<|Za Z<|z1f<|z14 (fun aa ww h=>Zu h [1])
    ·
     refine z1d<|z0p<|z0s<|z6n (fun aa ww h=>Zu h [1])
   ·
    refine gSR<|Zq (ld 1 Z Z fH zbn Z)<|Zc [] [] Tryz.func73 Z (zep _) fun r19 n20=>Zb Z<|z0j<|Ze [] [] Z
end
section
open Go Go.Shelf Go.RowKit Go.Lib Go.Sort
theorem zx3 {w:World} {b j:Nat} {c:Array Value} {T:TypeId} {fr:Nat × Nat} {u:Value} (h:w.heap[b]? = some (.cells c T fr)) (hj:c[j]? = some u):w.cell? ⟨b,0+j,none⟩=some u:=by
 unfold World.cell?
 rw [h]
 simpa using hj
end
section
open Go
section
variable {σ β α ρ τ:Type}
theorem bs (x:α) (f:α→Option β):(some x >>= f)=f x:=rfl
theorem bS (x:α) (f:α→Option β):(some x >>= f)=f x:=Eq.trans (rfl:(some x >>= f)=f x) rfl
theorem zzl (r:ρ) (k:τ→Option ρ):z6w (some (.inl r)) k=some r:=rfl
theorem zom (t:τ) (k:τ→Option ρ):z6w (some (.inr t)) k=k t:=rfl
theorem z1a {F:σ→Option (Sum β σ)} {s:σ} {b:β} (h:F s=some (.inl b)):iter F s=some b:=by rw [iter,h]; rfl
theorem z1g {F:σ→Option (Sum β σ)} {s s':σ} (h:F s=some (.inr s')):iter F s=iter F s':=by rw [iter,h]; rfl
theorem zca {F:σ→Option (Sum β σ)} (I:σ→Prop) (μ:σ→Nat) (Q:β→Prop) (h:∀ s,I s→(∃ b,F s=some (.inl b)∧Q b)∨∃ s',F s=some (.inr s')∧I s'∧μ s'<μ s) (s:σ) (hs:I s):∃ b,iter F s=some b∧Q b:=by
 have key:∀ n s,μ s=n→I s→∃ b,iter F s=some b∧Q b:=by
  intro n
  induction n using Nat.strongRecOn with
  | _ n ih =>
   intro s hn hs
   rcases h s hs with ⟨b,h1,h2⟩ | ⟨s',h1,h2,h3⟩
   ·
    exact ⟨b,z1a h1,h2⟩
   ·
    rw [z1g h1]; exact ih (μ s') (hn ▸ h3) s' rfl h2
 exact key _ s rfl hs
theorem z77 {F:σ→Option (Sum β σ)} (n:Nat) (I:Nat→σ→Prop) (Q:β→Prop) (h1:∀ i s,i<n→I i s→∃ s',F s=some (.inr s')∧I (i+1) s') (h2:∀ s,I n s→∃ b,F s=some (.inl b)∧Q b) (s:σ) (i:Nat) (hi:i≤n) (hs:I i s):∃ b,iter F s=some b∧Q b:=by
 have key:∀ k i s,n - i=k→i≤n→I i s→∃ b,iter F s=some b∧Q b:=by
  intro k
  induction k with
  | zero =>
   intro i s hk hi hs
   have:i=n:=by omega
   subst this
   obtain ⟨b,h3,h4⟩:=h2 s hs
   exact ⟨b,z1a h3,h4⟩
  | succ k ih =>
   intro i s hk hi hs
   obtain ⟨s',h3,h4⟩:=h1 i s (by omega) hs
   rw [z1g h3]; exact ih (i+1) s' (by omega) (by omega) h4
 exact key _ i s rfl hi hs
theorem z3e {F:σ→Option (Sum β σ)} (n:Nat) (g:Nat→σ) {b:β} (h1:∀ i,i<n→F (g i)=some (.inr (g (i+1)))) (h2:F (g n)=some (.inl b)):iter F (g 0)=some b:=by
 obtain ⟨b',h3,rfl⟩:=z77 n (fun i s=>s=g i) (fun x=>x=b) (fun i s hi hs=>⟨_, by rw [hs]; exact h1 i hi,rfl⟩) (fun s hs=>⟨_, by rw [hs]; exact h2,rfl⟩) (g 0) 0 (Nat.zero_le _) rfl
 exact h3
theorem z0c {l:List α} {i:Nat} (h:i<l.length):idx l (i:Int)=some l[i]:=by simp [idx,h]
theorem zwy {l:List α} {i:Int} (h0:0≤i) (h:i.toNat<l.length):idx l i=some l[i.toNat]:=by simp [idx,h0,h]
theorem z8e {n:Nat} {v:Vector α n} {i:Nat} (h:i<n):z62 v (i:Int)=some v[i]:=by unfold z62; rw [z0c (by simpa using h)]; simp
theorem zf4 {n:Nat} {v:Vector α n} {i:Int} {x:α} {j:Nat} (hj:j<n):(zex v i x)[j]=if i.toNat=j then x else v[j]:=by
 unfold zex; rw [Vector.getElem_setIfInBounds hj]
theorem z3a {p:Prop} [Decidable p] (h:p):chk p=some ():=by simp [chk,h]
theorem z1b {by_:Nat} {b c:List α} (h:(b.length+c.length) * by_≤140737488355328):app by_ b c=some (b++c):=by simp [app,h]
theorem zgx {by_:Nat} {x:α} {n:Nat} (h:by_ * n≤281474976710656) (h2:n≤9223372036854775807):mkn by_ x (n:Int)=some (List.replicate n x):=by
 unfold mkn; rw [if_pos ⟨by omega, by simpa using h, by omega⟩]; simp
theorem za7 {b:List α} {i j:Nat} (h:i≤j) (hj:j≤b.length):cut b (i:Int) (j:Int)=some ((b.drop i).take (j - i)):=by
 unfold cut; rw [if_pos ⟨by omega, by omega, by omega⟩]; simp
end
theorem z0r {x:Int} (h1:-9223372036854775808≤x) (h2:x≤9223372036854775807):w64 x=x:=zd9 h1 h2
theorem z0q {n:Nat} (h:n<9223372036854775807):w64 ((n:Int)+1)=((n+1:Nat):Int):=by rw [z0r (by omega) (by omega)]; omega
theorem zax (a:UInt64) (n:Nat):(z61 a n).toNat=a.toNat / 2 ^ (min n 64):=by
 unfold z61
 have h1:=UInt64.toNat_lt a
 have h2:a.toNat / 2 ^ (min n 64)≤a.toNat:=Nat.div_le_self _ _
 simp; omega
theorem zie (a:UInt64) (n:Nat):(zkh a n).toNat=a.toNat * 2 ^ (min n 64) % 18446744073709551616:=by
 unfold zkh; simp
theorem z10o (a:UInt64) (k:Nat) (hk:k<64):((z61 a k &&& 1)==1)=a.toNat.testBit k:=by
 rw [Bool.eq_iff_iff,beq_iff_eq,← UInt64.toNat_inj,UInt64.toNat_and,zax,Nat.min_eq_left (by omega)]
 have:(1:UInt64).toNat=1:=rfl
 rw [this,Nat.and_one_is_mod,Nat.testBit_eq_decide_div_mod_eq]
 simp
end
section
open Go
def z5m (n:Nat):Nat:=if n=0 then 0 else n.log2+1
theorem zbd (n k:Nat) (h:2 ^ k≤n):z5m n=k+z5m (n / 2 ^ k):=by
 have hp:0<2 ^ k:=Nat.pow_pos (by decide)
 have h1:n / 2 ^ k≠0:=by
  have:1≤n / 2 ^ k:=(Nat.le_div_iff_mul_le hp).2 (by rw [Nat.one_mul]; exact h)
  omega
 have h2:n≠0:=by omega
 unfold z5m
 rw [if_neg h1,if_neg h2]
 have h3:n.log2=k+(n / 2 ^ k).log2:=by
  rw [Nat.log2_eq_iff h2]
  have h4:=(Nat.log2_eq_iff h1).1 rfl
  refine ⟨?_,?_⟩
  ·
   rw [Nat.pow_add,Nat.mul_comm]; exact (Nat.le_div_iff_mul_le hp).1 h4.1
  ·
   rw [Nat.add_assoc,Nat.pow_add,Nat.mul_comm]; exact (Nat.div_lt_iff_lt_mul hp).1 h4.2
 omega
theorem zff (n k:Nat) (h:n<2 ^ k):z5m n≤k:=by
 unfold z5m; split
 ·
  omega
 ·
  rename_i h0; have:=(Nat.log2_lt h0).2 h; omega
def zsh:ByteArray:=⟨#[0,1,2,2,3,3,3,3,4,4,4,4,4,4,4,4,5,5,5,5,5,5,5,5,5,5,5,5,5,5,5,5,6,6,6,6,6,6,6,6,6,6,6,6,6,6,6,6,6,6,6,6,6,6,6,6,6,6,6,6,6,6,6,6,7,7,7,7,7,7,7,7,7,7,7,7,7,7,7,7,7,7,7,7,7,7,7,7,7,7,7,7,7,7,7,7,7,7,7,7,7,7,7,7,7,7,7,7,7,7,7,7,7,7,7,7,7,7,7,7,7,7,7,7,7,7,7,7,8,8,8,8,8,8,8,8,8,8,8,8,8,8,8,8,8,8,8,8,8,8,8,8,8,8,8,8,8,8,8,8,8,8,8,8,8,8,8,8,8,8,8,8,8,8,8,8,8,8,8,8,8,8,8,8,8,8,8,8,8,8,8,8,8,8,8,8,8,8,8,8,8,8,8,8,8,8,8,8,8,8,8,8,8,8,8,8,8,8,8,8,8,8,8,8,8,8,8,8,8,8,8,8,8,8,8,8,8,8,8,8,8,8,8,8,8,8,8,8,8,8,8,8,8,8,8,8]⟩
set_option maxRecDepth 100000 in
theorem zut:∀ x:Fin 256,zsh.data[x.val]? = some (UInt8.ofNat (z5m x.val)):=by decide +kernel
def z2k (n:Nat):List UInt8:=if h:n=0 then [] else UInt8.ofNat n::z2k (n / 256)
termination_by n
theorem zeo:z2k 0=[]:=by rw [z2k]; simp
theorem zgk (n:Nat) (h:n≠0):z2k n=UInt8.ofNat n::z2k (n / 256):=by rw [z2k]; simp [h]
def z2h (n:Nat):List UInt8:=if n≤247 then [UInt8.ofNat n] else UInt8.ofNat (247+(z2k n).length)::(z2k n).reverse
theorem zjt (n:Nat):(z2k n).length=(z5m n+7) / 8:=by
 induction n using Nat.strongRecOn with
 | _ n ih =>
  by_cases h:n=0
  ·
   subst h; rw [zeo]; simp [z5m]
  ·
   rw [zgk n h,List.length_cons,ih (n / 256) (by omega)]
   by_cases h2:n<256
   ·
    have:n / 256=0:=by omega
    rw [this]
    have h3:z5m n≤8:=zff n 8 h2
    have h4:1≤z5m n:=by unfold z5m; rw [if_neg h]; omega
    simp [z5m] at h3 h4 ⊢
    rw [if_neg h] at h3 h4 ⊢; omega
   ·
    have:=zbd n 8 (by omega)
    rw [show (2:Nat) ^ 8=256 from rfl] at this
    omega
theorem zpl (n:Nat):∀ (i:Nat),i<(z2k n).length→(z2k n)[i]? = some (UInt8.ofNat (n / 256 ^ i)):=by
 induction n using Nat.strongRecOn with
 | _ n ih =>
  intro i hi
  by_cases h:n=0
  ·
   subst h; rw [zeo] at hi; simp at hi
  ·
   rw [zgk n h] at hi ⊢
   cases i with
   | zero=>simp
   | succ i =>
    simp only [List.length_cons] at hi
    rw [List.getElem?_cons_succ,ih (n / 256) (by omega) i (by omega),Nat.div_div_eq_div_mul]
    congr 3
    rw [Nat.pow_succ,Nat.mul_comm]
theorem zil (n:Nat) (h:n<18446744073709551616):(z2k n).length≤8:=by
 rw [zjt]; have:=zff n 64 (by simpa using h); omega
theorem z0x (n:Nat) (h:n<18446744073709551616):1≤(z2h n).length∧(z2h n).length≤9:=by
 unfold z2h; have:=zil n h; split <;> simp <;> omega
def z9w (n i:Nat):List UInt8:=UInt8.ofNat (247+(z2k n).length)::(List.replicate ((z2k n).length - i) 0++((z2k n).take i).reverse)
theorem zmx (n i:Nat) (h:i≤(z2k n).length):(z9w n i).length=(z2k n).length+1:=by simp [z9w]; omega
theorem zmn (n:Nat):(List.replicate ((z2k n).length+1) (0:UInt8)).set 0 (UInt8.ofNat (247+(z2k n).length))=z9w n 0:=by
 simp [z9w,List.replicate_succ]
theorem zmh (n i:Nat) (h:i<(z2k n).length):(z9w n i).set ((z2k n).length - i) (UInt8.ofNat (n / 2 ^ (8 * i)))=z9w n (i+1):=by
 have hg:=zpl n i h
 have he:n / 2 ^ (8 * i)=n / 256 ^ i:=by rw [Nat.pow_mul]
 rw [he]
 unfold z9w
 obtain ⟨m,hm⟩:∃ m,(z2k n).length - i=m+1:=⟨(z2k n).length - i - 1, by omega⟩
 have hm2:(z2k n).length - (i+1)=m:=by omega
 rw [hm,hm2,List.set_cons_succ,List.take_succ_eq_append_getElem h,List.reverse_append,List.reverse_singleton,List.replicate_succ']
 rw [List.getElem?_eq_getElem h,Option.some.injEq] at hg
 rw [hg,List.append_assoc,List.set_append_right _ _ (by simp)]
 simp
theorem zla (n:Nat) (h:247<n):z9w n (z2k n).length=z2h n:=by
 unfold z9w z2h; rw [if_neg (by omega)]; simp
theorem zmb (n m:Nat) (ds:List UInt8) (hm:m≠0) (h:z2k n=ds++z2k m):z2k n=(ds++[UInt8.ofNat (m % 256)])++z2k (m / 256):=by
 rw [h,zgk m hm,List.append_assoc]
 have:UInt8.ofNat (m % 256)=UInt8.ofNat m:=by
  apply UInt8.toNat_inj.1; simp
 rw [this]; rfl
theorem zj2 {α} {l a b:List α} (h:l=a++b):a.length≤l.length:=by rw [h]; simp
def zig (n:Int):Nat:=if 0≤n then (2 * n).toNat else (-2 * n - 1).toNat
theorem zyu {n:Int} (h1:-9223372036854775808≤n) (h2:n≤9223372036854775807):zig n<18446744073709551616:=by unfold zig; split <;> omega
end
section
open Go Go.RowKit
def zd2 (x:z02):Prop:=(fun _=>True) x.Kind∧inI x.Num∧(fun _=>True) x.Bits∧(fun s:List UInt8=>s.length≤9223372036854775807) x.Text∧True
def zg9 (x:z1v):Prop:=(fun _=>True) x.Kind∧(fun s:List UInt8=>s.length≤9223372036854775807) x.Key∧zd2 x.Value∧True
def zgb (x:z0y):Prop:=(fun _=>True) x.E∧(fun _=>True) x.S∧True
def zir (x:z12):Prop:=(fun _=>True) x.Author∧(fun l:List V3=>(∀ x∈l,(fun v:V3=>∀ x∈v.toList,(fun _=>True) x) x)∧l.length≤9223372036854775807) x.Preds∧(fun _=>True) x.Stamp∧zg9 x.Act∧zgb x.Sig∧True
def z2r (x:z00):Prop:=(fun l:List V3=>(∀ x∈l,(fun v:V3=>∀ x∈v.toList,(fun _=>True) x) x)∧l.length≤9223372036854775807) x.IDs∧(fun l:List z12=>(∀ x∈l,zir x)∧l.length≤9223372036854775807) x.Ops∧True
end
section
open Go
theorem ztn {n k:Nat} (hn:n<9223372036854775808) (hk:k<9223372036854775808):andI (n:Int) (k:Int)=((n &&& k:Nat):Int):=by
 show IntKind.i64.wrap (BitVec.toNat (BitVec.ofInt 64 (n:Int) &&& BitVec.ofInt 64 (k:Int)):Int)=_
 rw [BitVec.ofInt_natCast,BitVec.ofInt_natCast,BitVec.toNat_and,BitVec.toNat_ofNat,BitVec.toNat_ofNat,Nat.mod_eq_of_lt (by omega),Nat.mod_eq_of_lt (by omega)]
 have:=Nat.and_le_left (n:=n) (m:=k)
 exact zd9 (by omega) (by omega)
def okb (c:UInt8):Bool:=decide (32≤c.toNat)&&decide (c.toNat≤126)
theorem zkp {b:List UInt8} {q:Nat} (h:q<b.length) (ha:(b[q]).toNat<128):z7r b q=((b[q]).toNat,1):=by
 unfold z7r
 exact decode_ascii ⟨b.toArray⟩ q (by show q<b.toArray.size; simpa using h) ha
theorem zqi {b:List UInt8} {q:Nat} (h:q<b.length) (ha:128≤(b[q]).toNat):128≤(z7r b q).1:=by
 unfold z7r
 have e:((ByteArray.mk b.toArray).get! (q+0)).toNat=(b[q]).toNat:=by
  show ((ByteArray.mk b.toArray).get! q).toNat=_
  simp [ByteArray.get!,h]
 simp only [Utf8.decode,e]
 rw [if_neg (by omega)]
 repeat' split
 all_goals (first | (simp only [Utf8.runeError]; omega) | (rename_i h1; simp at h1; omega) | omega)
theorem ztj (x:Int):zb9 x=some (decide (x<32) || decide (126<x)):=by
 unfold zb9
 cases decide (x<32) <;> rfl
theorem zp0 (b:List UInt8):∀ (rest pre:List UInt8),b=pre++rest →
  (rest.all okb=true→iter (z15 b true) pre.length=some (.inr ()))∧(rest.all okb=false→∃ i:Nat,iter (z15 b true) pre.length=some (.inl (i:Int)))
 | [],pre,e=>by
  refine ⟨fun _=>z1a ?_, fun h=>by simp at h⟩
  subst e
  unfold z15
  simp
 | c::rest,pre,e=>by
  have hlen:pre.length<b.length:=by rw [e]; simp
  have hget:b[pre.length]'hlen=c:=by subst e; simp
  have hF:z15 b true pre.length=if ((decide (((z7r b pre.length).1:Int)<32) || decide (126<((z7r b pre.length).1:Int)))==true) then some (.inl (.inl (pre.length:Int))) else some (.inr (pre.length+(z7r b pre.length).2)):=by
   unfold z15
   rw [if_pos hlen]
   simp only [bs,ztj]
  cases hc:okb c with
  | false =>
   refine ⟨fun h=>by simp [hc] at h, fun _=>⟨pre.length,z1a ?_⟩⟩
   rw [hF,if_pos]
   by_cases h8:c.toNat<128
   ·
    rw [zkp hlen (by rw [hget]; exact h8),hget]
    simp only [okb,Bool.and_eq_false_iff,decide_eq_false_iff_not] at hc
    simp; omega
   ·
    have:=zqi hlen (by rw [hget]; omega)
    simp; omega
  | true =>
   simp only [okb,Bool.and_eq_true,decide_eq_true_eq] at hc
   rw [zkp hlen (by rw [hget]; omega),hget,if_neg (by simp; omega)] at hF
   have ih:=zp0 b rest (pre++[c]) (by simp [e])
   simp only [List.length_append,List.length_cons,List.length_nil,Nat.zero_add] at ih
   rw [z1g hF]
   have hc':okb c=true:=by simp [okb,hc]
   simpa [hc'] using ih
theorem zgt (b:List UInt8) (hb:b.length≤9223372036854775807):∀ (rest pre:List UInt8),b=pre++rest→iter (z3f b) (pre.length:Int)=some (if rest.all okb then .inr () else .inl false)
 | [],pre,e=>by
  refine z1a ?_
  subst e
  unfold z3f
  simp
 | c::rest,pre,e=>by
  have hlen:pre.length<b.length:=by rw [e]; simp
  have hget:b[pre.length]'hlen=c:=by subst e; simp
  have hF:z3f b (pre.length:Int)=if okb c then some (.inr ((pre.length+1:Nat):Int)) else some (.inl (.inl false)):=by
   unfold z3f
   rw [if_pos (by simp <;> omega)]
   simp only [z0c hlen,hget,bs,z0q (show pre.length<9223372036854775807 by omega)]
   simp only [okb,UInt8.lt_iff_toNat_lt,UInt8.reduceToNat]
   by_cases h1:c.toNat<32
   ·
    have:¬ 32≤c.toNat:=by omega
    simp [h1,this]
   ·
    by_cases h2:126<c.toNat
    ·
     have:¬ c.toNat≤126:=by omega
     simp [h1,h2,this]
    ·
     have h3:32≤c.toNat:=by omega
     have h4:c.toNat≤126:=by omega
     simp [h1,h2,h3,h4]
  cases hc:okb c with
  | false=>rw [hc] at hF; rw [z1a hF]; simp [hc]
  | true =>
   rw [hc] at hF
   rw [z1g hF]
   have ih:=zgt b hb rest (pre++[c]) (by simp [e])
   simp only [List.length_append,List.length_cons,List.length_nil,Nat.zero_add] at ih
   rw [ih]; simp [hc]
theorem zlc (b:List UInt8) (hb:b.length≤9223372036854775807):z5q b=some (b.all okb):=by
 have h:=zgt b hb b [] rfl
 unfold z5q
 rw [show (0:Int)=(([]:List UInt8).length:Int) from rfl,h]
 cases b.all okb <;> rfl
theorem zu1 (b:List UInt8) (hb:b.length≤9223372036854775807):zdc b=some (if decide (30<(b.length:Int)) then (⟨0,0,0,[]⟩,4) else if b.all okb then (⟨3,0,0,b⟩,0) else (⟨0,0,0,[]⟩,8)):=by
 unfold zdc z3t z3u
 cases decide (30<(b.length:Int))
 ·
  simp only [Bool.false_eq_true,if_false]
  obtain ⟨h1,h2⟩:=zp0 b b [] rfl
  simp only [List.length_nil] at h1 h2
  cases h:b.all okb
  ·
   obtain ⟨i,hi⟩:=h2 h
   rw [hi]
   simp only [zzl,bs]
   rw [if_pos (by simp)]; rfl
  ·
   rw [h1 h]; rfl
 ·
  rfl
theorem ztb (a:UInt64):zcg a=some (((a.toNat / 4503599627370496 % 2048:Nat):Int),a % 4503599627370496):=by
 unfold zcg
 simp only [bs]
 have h0:=UInt64.toNat_lt a
 rw [zax]
 have e1:(2:Nat) ^ (min 52 64)=4503599627370496:=by decide
 rw [e1,z0r (by omega) (by omega), show (2047:Int)=((2047:Nat):Int) from rfl,ztn (by omega) (by omega)]
 congr 2
 ·
  congr 1
  exact Nat.and_two_pow_sub_one_eq_mod _ 11
 ·
  apply UInt64.toNat_inj.1
  rw [UInt64.toNat_and,UInt64.toNat_mod]
  exact Nat.and_two_pow_sub_one_eq_mod _ 52
theorem zzr (a:UInt64):z6c a=some ((a.toNat / 4503599627370496 % 2048:Nat):Int):=by
 unfold z6c
 have h0:=UInt64.toNat_lt a
 simp only [bs,UInt64.toNat_div,UInt64.toNat_mod,UInt64.reduceToNat]
 rw [z0r (by omega) (by omega)]
 congr 2
 omega
def zn5 (a:UInt64):Nat:=a.toNat / 4503599627370496 % 2048
def zt2 (a:UInt64):Nat:=a.toNat % 4503599627370496
theorem zxy (a:UInt64):zn5 a<2048:=Nat.mod_lt _ (by omega)
def zwx (a:UInt64):UInt8:=if zn5 a=2047 then (if zt2 a=0 then 4 else 5) else if zn5 a=0 then (if zt2 a=0 then 1 else 2) else 3
theorem zv7 (a:UInt64):(a % 4503599627370496==0)=decide (zt2 a=0):=by
 rw [Bool.eq_iff_iff]
 simp only [beq_iff_eq,decide_eq_true_eq,← UInt64.toNat_inj,UInt64.toNat_mod]
 rfl
theorem zsz (a:UInt64):zcb a=some (zwx a):=by
 unfold zcb zwx
 rw [ztb]
 simp only [bs]
 have hm:=zv7 a
 have hne:(a % 4503599627370496 != 0)=!decide (zt2 a=0):=by rw [← hm]; rfl
 have he:((a.toNat / 4503599627370496 % 2048:Nat):Int)=(zn5 a:Int):=rfl
 rw [hne,he]
 by_cases h1:zn5 a=2047
 ·
  rw [h1]
  by_cases h2:zt2 a=0
  ·
   rw [decide_eq_true h2,if_pos h2]; rfl
  ·
   rw [decide_eq_false h2,if_neg h2]; rfl
 ·
  have e1:((zn5 a:Int)==2047)=false:=by simp; omega
  rw [if_neg h1,e1]
  simp only [Bool.false_eq_true,if_false,bs]
  by_cases h0:zn5 a=0
  ·
   rw [h0]
   by_cases h2:zt2 a=0
   ·
    rw [decide_eq_true h2,if_pos h2]; rfl
   ·
    rw [decide_eq_false h2,if_neg h2]; rfl
  ·
   have e0:((zn5 a:Int) != 0)=true:=by simp; omega
   rw [e0,if_neg h0]; rfl
theorem zsp (a:UInt64):z8f a=some (zwx a):=by
 unfold z8f z8h zwx
 rw [zzr]
 simp only [bs]
 rw [zv7 a]
 have hx:=zxy a
 show z6w (if ((zn5 a:Int)==0)=true then if decide (zt2 a=0)=true then some (.inl 1) else some (.inr ()) else some (.inr ())) (fun s5=>if ((zn5 a:Int)==0)=true then some 2 else if decide ((zn5 a:Int)<2047)=true then some 3 else if decide (zt2 a=0)=true then some 4 else some 5)=_
 by_cases h1:zn5 a=2047
 ·
  rw [h1]
  by_cases h2:zt2 a=0 <;> simp [h2,zom,zzl]
 ·
  by_cases h0:zn5 a=0
  ·
   rw [h0]
   by_cases h2:zt2 a=0 <;> simp [h2,zom,zzl]
  ·
   have e0:((zn5 a:Int)==0)=false:=by simp; omega
   have e2:decide ((zn5 a:Int)<2047)=true:=by simp; omega
   rw [e0,e2,if_neg h1,if_neg h0]; rfl
def zf8 (a:UInt64):UInt64:=if zwx a=5 then 9221120237041090560 else a
theorem zsn (a:UInt64):zck a=some (zf8 a):=by
 unfold zck zf8
 rw [zsz]
 simp only [bs]
 by_cases h:zwx a=5 <;> simp [h]
theorem zsm (a:UInt64):z8g a=some (zf8 a):=by
 unfold z8g zf8
 rw [zsp]
 simp only [bs]
 by_cases h:zwx a=5 <;> simp [h]
theorem zqo (a:UInt64):zcj a=some ⟨2,0,zf8 a,[]⟩:=by
 unfold zcj; rw [zsn]; rfl
def okV (v:z02):Bool :=
 if v.Kind=1 then decide (v.Bits=0)&&decide (v.Text=[])
 else if v.Kind=2 then decide (v.Num=0)&&decide (v.Text=[])&&decide (zf8 v.Bits=v.Bits)
 else if v.Kind=3 then decide (v.Num=0)&&decide (v.Bits=0)&&decide (v.Text.length≤30)&&v.Text.all okb
 else false
theorem zql (v:z02) (hb:v.Text.length≤9223372036854775807):z8d v=some (if okV v then 0 else 8):=by
 obtain ⟨K,n,f,t⟩:=v
 unfold z8d okV
 simp only at hb ⊢
 rw [zsm,zlc t hb]
 by_cases h1:K=1
 ·
  subst h1
  by_cases hf:f=0 <;> by_cases ht:t=[] <;> simp [hf,ht]
 by_cases h2:K=2
 ·
  subst h2
  by_cases hn:n=0 <;> by_cases ht:t=[] <;> by_cases hc:zf8 f=f <;> simp [hn,ht,hc,bs]
 by_cases h3:K=3
 ·
  subst h3
  by_cases hl:t.length≤30
  ·
   have hl':(t.length:Int)≤30:=by omega
   by_cases hn:n=0 <;> by_cases hf:f=0 <;> cases t.all okb <;> simp [hn,hf,hl,hl',bs]
  ·
   have hl':¬ (t.length:Int)≤30:=by omega
   by_cases hn:n=0 <;> by_cases hf:f=0 <;> simp [hn,hf,hl,hl',bs]
 ·
  simp [h1,h2,h3]
theorem zly (v:z02) (hb:v.Text.length≤9223372036854775807):zak v=some (if okV v then 0 else 8):=by
 obtain ⟨K,n,f,t⟩:=v
 unfold zak zd0 okV
 simp only at hb ⊢
 rw [zqo,zu1 t hb]
 by_cases h1:K=1
 ·
  subst h1
  by_cases hf:f=0 <;> by_cases ht:t=[] <;> simp [hf,ht,bs]
 by_cases h2:K=2
 ·
  subst h2
  by_cases hc:zf8 f=f
  ·
   by_cases hn:n=0 <;> by_cases ht:t=[] <;> simp [hn,ht,hc,bs]
  ·
   have hc':¬ f=zf8 f:=fun e=>hc e.symm
   by_cases hn:n=0 <;> by_cases ht:t=[] <;> simp [hn,ht,hc,hc',bs]
 by_cases h3:K=3
 ·
  subst h3
  by_cases hl:30<(t.length:Int)
  ·
   have h4:¬ t.length≤30:=by omega
   rw [decide_eq_true hl,decide_eq_false h4]
   simp [bs]
  ·
   have h4:t.length≤30:=by omega
   rw [decide_eq_false hl,decide_eq_true h4]
   cases t.all okb <;> by_cases hn:n=0 <;> by_cases hf:f=0 <;> simp [hn,hf,bs]
 ·
  have e1:(K==1)=false:=by simpa using h1
  have e2:(K==2)=false:=by simpa using h2
  have e3:(K==3)=false:=by simpa using h3
  simp only [e1,e2,e3,Bool.false_eq_true,if_false,bs,h1,h2,h3]
  by_cases h0:K=0
  ·
   subst h0
   split <;> rfl
  ·
   simp [h0]
end
section
open Go
theorem zqj:∀ (n:Nat) (a:UInt64) (ds:List UInt8) (N:Nat),a.toNat=n→z2k N=ds++z2k n→(z2k N).length≤8→iter z40 (a,ds)=some (z2k N):=by
 intro n
 induction n using Nat.strongRecOn with
 | _ n ih =>
  intro a ds N ha hd hl
  by_cases h0:n=0
  ·
   subst h0
   refine z1a ?_
   unfold z40
   rw [if_neg (by simp [UInt64.lt_iff_toNat_lt,ha])]
   rw [zeo,List.append_nil] at hd
   rw [hd]
  ·
   have hF:z40 (a,ds)=some (.inr (a / 256,ds++[(a % 256).toUInt8])):=by
    unfold z40
    rw [if_pos (by simp [UInt64.lt_iff_toNat_lt,ha]; omega)]
    have:ds.length≤8:=Nat.le_trans (zj2 hd) hl
    simp only [z1b (show (ds.length+[(a % 256).toUInt8].length) * 1≤140737488355328 by simp; omega),bs]
   rw [z1g hF]
   have hd2:=zmb N n ds h0 hd
   refine ih (n / 256) (Nat.div_lt_self (by omega) (by omega)) _ _ N ?_ ?_ hl
   ·
    simp [ha]
   ·
    rw [hd2]
    congr 2
    congr 1
    apply UInt8.toNat_inj.1
    simp [ha]
theorem zl8 (s:List UInt8) (hl:s.length≤8):∀ (i:Nat) (acc:List UInt8),i≤s.length→acc.length+i≤100→iter (z4a s) (acc,(i:Int) - 1)=some (acc++(s.take i).reverse)
 | 0,acc,_,_=>by
  refine z1a ?_
  unfold z4a
  rw [if_neg (by simp)]; simp
 | i+1,acc,hi,ha=>by
  have hlt:i<s.length:=by omega
  have e:((i+1:Nat):Int) - 1=(i:Int):=by omega
  have hF:z4a s (acc,((i+1:Nat):Int) - 1)=some (.inr (acc++[s[i]],(i:Int) - 1)):=by
   unfold z4a
   rw [e,if_pos (by simp)]
   simp only [z0c hlt,bs]
   rw [z1b (by simp; omega)]
   simp only [bs,z0r (show -9223372036854775808≤(i:Int) - 1 by omega) (by omega)]
  rw [z1g hF,zl8 s hl i _ (by omega) (by simp; omega)]
  have:List.take (i+1) s=List.take i s++[s[i]]:=by rw [List.take_add_one,List.getElem?_eq_getElem hlt]; rfl
  rw [this]; simp only [List.reverse_append,List.reverse_cons,List.reverse_nil,List.nil_append,List.append_assoc]
theorem z63 (a:UInt64):z1u a=some (z2h a.toNat):=by
 unfold z1u z2h
 have h0:=UInt64.toNat_lt a
 by_cases h:a.toNat≤247
 ·
  have h':decide (a≤247)=true:=by simpa [UInt64.le_iff_toNat_le] using h
  rw [if_pos h',if_pos h]
  congr 2
 ·
  have h':¬ decide (a≤247)=true:=by simpa [UInt64.le_iff_toNat_le] using h
  rw [if_neg h',if_neg h]
  have hd:=zil a.toNat h0
  rw [zqj a.toNat a [] a.toNat rfl rfl hd]
  simp only [bs]
  rw [z0r (show -9223372036854775808≤((z2k a.toNat).length:Int) - 1 by omega) (by omega),z0r (show -9223372036854775808≤247+((z2k a.toNat).length:Int) by omega) (by omega)]
  rw [zl8 _ hd _ _ (Nat.le_refl _) (by simp; omega)]
  simp only [bs,List.take_length]
  rw [show (247+((z2k a.toNat).length:Int))=((247+(z2k a.toNat).length:Nat):Int) by omega]
  congr 1
  show _::_=_
  congr 1
  apply UInt8.toNat_inj.1
  simp [UInt8.ofInt]
  omega
theorem zpr (a:UInt64) (k:Nat) (hk:k=(z2k a.toNat).length) (hk8:k≤8):iter (z9j a (k:Int)) (z9w a.toNat 0,0)=some (z9w a.toNat k):=by
 refine z3e k (fun i=>(z9w a.toNat i,(i:Int))) (fun i hi=>?_) ?_
 ·
  have hf:=zmx a.toNat i (by omega)
  unfold z9j
  rw [if_pos (by simp; omega)]
  simp only [z0r (show -9223372036854775808≤8 * (i:Int) by omega) (by omega),z3a (show (0:Int)≤8 * (i:Int) by omega),bs,z0r (show -9223372036854775808≤(k:Int) - (i:Int) by omega) (by omega),z0q (show i<9223372036854775807 by omega)]
  rw [zwy (by omega) (by omega)]
  simp only [bs]
  have:=zmh a.toNat i (by omega)
  rw [← this]
  have e1:((k:Int) - (i:Int)).toNat=(z2k a.toNat).length - i:=by omega
  have e2:(z61 a (8 * (i:Int)).toNat).toUInt8=UInt8.ofNat (a.toNat / 2 ^ (8 * i)):=by
   apply UInt8.toNat_inj.1
   have e3:(8 * (i:Int)).toNat=8 * i:=by omega
   rw [e3]
   simp only [UInt64.toNat_toUInt8,zax,Nat.min_eq_left (show 8 * i≤64 by omega)]
   simp
  rw [e1,e2]
 ·
  unfold z9j
  rw [if_neg (by simp)]
theorem zde (a:UInt64) (k:Nat) (hk:k<64):(z61 a k).toNat=a.toNat / 2 ^ k:=by rw [zax,Nat.min_eq_left (by omega)]
set_option maxRecDepth 100000 in
theorem ztm (a:UInt64):z93 a=some (z5m a.toNat:Int):=by
 unfold z93
 have h0:=UInt64.toNat_lt a
 have s1:∃ (y:UInt64) (n:Nat),(if decide (4294967296≤a) then some (z61 a 32,(32:Int)) else some (a,0))=some (y,(n:Int))∧y.toNat<2 ^ 32∧n≤32∧z5m a.toNat=n+z5m y.toNat:=by
  by_cases h:4294967296≤a.toNat
  ·
   refine ⟨z61 a 32,32, by rw [if_pos (by simpa [UInt64.le_iff_toNat_le] using h)]; rfl,?_, by omega,?_⟩
   ·
    rw [zde a 32 (by omega)]; omega
   ·
    rw [zde a 32 (by omega)]; exact zbd _ 32 (by omega)
  ·
   exact ⟨a,0, by rw [if_neg (by simpa [UInt64.le_iff_toNat_le] using h)]; rfl, by omega, by omega, by omega⟩
 obtain ⟨y,n,e1,hy,hn,hb⟩:=s1
 rw [e1]; simp only [bs]
 have s2:∃ (z:UInt64) (k:Nat),(if decide (65536≤y) then some (z61 y 16) >>= fun y5=>some (w64 ((n:Int)+16)) >>= fun y6=>some (y5,y6) else some (y,(n:Int)))=some (z,(k:Int))∧z.toNat<2 ^ 16∧k≤48∧z5m a.toNat=k+z5m z.toNat:=by
  by_cases h:65536≤y.toNat
  ·
   refine ⟨z61 y 16,n+16, by rw [if_pos (by simpa [UInt64.le_iff_toNat_le] using h)]; simp only [bs,z0r (show -9223372036854775808≤(n:Int)+16 by omega) (by omega)]; rfl,?_, by omega,?_⟩
   ·
    rw [zde y 16 (by omega)]; omega
   ·
    rw [zde y 16 (by omega),hb,zbd y.toNat 16 (by omega)]; omega
  ·
   exact ⟨y,n, by rw [if_neg (by simpa [UInt64.le_iff_toNat_le] using h)], by omega, by omega,hb⟩
 obtain ⟨z,k,e2,hz,hk,hb2⟩:=s2
 simp only [bs] at e2
 rw [e2]; simp only [bs]
 have s3:∃ (x:UInt64) (j:Nat),(if decide (256≤z) then some (w64 ((k:Int)+8)) >>= fun y9=>some (z61 z 8,y9) else some (z,(k:Int)))=some (x,(j:Int))∧x.toNat<256∧j≤56∧z5m a.toNat=j+z5m x.toNat:=by
  by_cases h:256≤z.toNat
  ·
   refine ⟨z61 z 8,k+8, by rw [if_pos (by simpa [UInt64.le_iff_toNat_le] using h)]; simp only [bs,z0r (show -9223372036854775808≤(k:Int)+8 by omega) (by omega)]; rfl,?_, by omega,?_⟩
   ·
    rw [zde z 8 (by omega)]; omega
   ·
    rw [zde z 8 (by omega),hb2,zbd z.toNat 8 (by omega)]; omega
  ·
   exact ⟨z,k, by rw [if_neg (by simpa [UInt64.le_iff_toNat_le] using h)], by omega, by omega,hb2⟩
 obtain ⟨x,j,e3,hx,hj,hb3⟩:=s3
 simp only [bs] at e3
 rw [e3]; simp only [bs]
 have ht:=zut ⟨x.toNat,hx⟩
 have hx8:(x.toUInt8.toNat:Int)=((x.toNat:Nat):Int):=by simp; omega
 have hle:z5m x.toNat≤8:=zff _ 8 (by omega)
 rw [hx8]
 have hlist:∀ (l:List UInt8),l=zsh.data.toList→idx l ((x.toNat:Nat):Int)=some (UInt8.ofNat (z5m x.toNat)):=fun l hl=>by
  subst hl
  unfold idx
  rw [if_pos (by omega)]
  simpa using ht
 refine Eq.trans (congrArg (fun o:Option UInt8=>o >>= fun x10=>some (w64 ((j:Int)+(x10.toNat:Int)))) (hlist _ ?hh)) ?_
 case hh=>rfl
 simp only [bs]
 have e4:((UInt8.ofNat (z5m x.toNat)).toNat:Int)=(z5m x.toNat:Int):=by simp; omega
 rw [e4,z0r (by omega) (by omega),hb3]
 simp
theorem z66 (a:UInt64):z5e a=some (z2h a.toNat):=by
 unfold z5e
 have h0:=UInt64.toNat_lt a
 by_cases h:a.toNat≤247
 ·
  have h':decide (a≤247)=true:=by simpa [UInt64.le_iff_toNat_le] using h
  unfold z2h
  rw [if_pos h',if_pos h]
  congr 2
 ·
  have h':¬ decide (a≤247)=true:=by simpa [UInt64.le_iff_toNat_le] using h
  rw [if_neg h',ztm]
  have hd:=zil a.toNat h0
  have hl:=zjt a.toNat
  have hb:z5m a.toNat≤64:=zff _ 64 h0
  simp only [bs]
  rw [z0r (show -9223372036854775808≤(z5m a.toNat:Int)+7 by omega) (by omega)]
  have e1:Int.tdiv ((z5m a.toNat:Int)+7) 8=((z2k a.toNat).length:Int):=by
   rw [hl, show ((z5m a.toNat:Int)+7)=((z5m a.toNat+7:Nat):Int) by omega]
   rfl
  rw [e1,z0r (show -9223372036854775808≤((z2k a.toNat).length:Int) by omega) (by omega),z0q (by omega),zgx (by omega) (by omega)]
  simp only [bs]
  rw [show (0:Int)=((0:Nat):Int) from rfl,z0c (by simp)]
  simp only [bs,Int.toNat_natCast]
  rw [z0r (show -9223372036854775808≤247+((z2k a.toNat).length:Int) by omega) (by omega)]
  have e2:UInt8.ofInt (247+((z2k a.toNat).length:Int))=UInt8.ofNat (247+(z2k a.toNat).length):=by
   apply UInt8.toNat_inj.1
   rw [show (247+((z2k a.toNat).length:Int))=((247+(z2k a.toNat).length:Nat):Int) by omega]
   simp [UInt8.ofInt]
   omega
  have:=zmn a.toNat
  rw [e2,this]
  have:=zpr a (z2k a.toNat).length rfl hd
  rw [show (0:Int)=((0:Nat):Int) from rfl] at this
  rw [this]
  simp only [bs]
  rw [zla a.toNat (by omega)]
end
section
open Go
theorem okV3 {v:z02} (h:okV v=true) (k:v.Kind=3):v.Num=0∧v.Bits=0∧v.Text.length≤30∧v.Text.all okb=true:=by
 unfold okV at h; rw [if_neg (by rw [k]; decide),if_neg (by rw [k]; decide),if_pos k] at h
 simp only [Bool.and_eq_true,decide_eq_true_eq] at h
 exact ⟨h.1.1.1,h.1.1.2,h.1.2,h.2⟩
theorem zkf {v:z02} (h:okV v=true):v.Kind=1∨v.Kind=2∨v.Kind=3:=by
 by_cases h1:v.Kind=1
 ·
  exact .inl h1
 by_cases h2:v.Kind=2
 ·
  exact .inr (.inl h2)
 by_cases h3:v.Kind=3
 ·
  exact .inr (.inr h3)
 ·
  unfold okV at h; simp [h1,h2,h3] at h
theorem ztc (x:UInt64):(x ^^^ 18446744073709551615).toNat=18446744073709551615 - x.toNat:=by
 have e:x ^^^ 18446744073709551615 = ~~~x:=by
  apply UInt64.eq_of_toBitVec_eq
  rw [UInt64.toBitVec_xor,UInt64.toBitVec_not]
  exact BitVec.xor_allOnes
 rw [e,UInt64.toNat_not]; rfl
theorem zas (n:Int):(UInt64.ofInt n).toNat=(n % 18446744073709551616).toNat:=by
 simp [UInt64.ofInt]; omega
theorem z10e (n:Int) (h:inI n):((zkh (UInt64.ofInt n) 1) ^^^ (UInt64.ofInt (zwt n 63))).toNat=zig n:=by
 obtain ⟨h1,h2⟩:=h
 have es:(zkh (UInt64.ofInt n) 1).toNat=(n % 18446744073709551616).toNat * 2 % 18446744073709551616:=by
  rw [zie,zas]; rfl
 by_cases h0:0≤n
 ·
  have e:zwt n 63=0:=by
   unfold zwt
   rw [show (2:Int) ^ (min 63 64)=9223372036854775808 from rfl,Int.fdiv_eq_ediv_of_nonneg _ (by omega)]; omega
  rw [e, show UInt64.ofInt 0=0 from rfl,UInt64.xor_zero,es]
  unfold zig; rw [if_pos h0]; omega
 ·
  have e:zwt n 63 = -1:=by
   unfold zwt
   rw [show (2:Int) ^ (min 63 64)=9223372036854775808 from rfl,Int.fdiv_eq_ediv_of_nonneg _ (by omega)]; omega
  rw [e, show UInt64.ofInt (-1)=18446744073709551615 from rfl,ztc,es]
  unfold zig; rw [if_neg h0]; omega
theorem zqp (n:Int) (h:inI n):zc3 n=some (z2h (zig n)):=by
 unfold zc3
 rw [z66,z10e n h]; rfl
theorem zl3 (s:List UInt8) (h:s.length≤10000):zai s=some (z2h s.length++s,0):=by
 unfold zai
 rw [if_neg (by simp; omega),z66]
 have e:(UInt64.ofInt (s.length:Int)).toNat=s.length:=by rw [zas]; omega
 have:=z0x s.length (by omega)
 simp only [bs,e]
 rw [z1b (by omega)]; rfl
def be8 (b:UInt64):List UInt8:=[(z61 b 56).toUInt8,(z61 b 48).toUInt8,(z61 b 40).toUInt8,(z61 b 32).toUInt8,(z61 b 24).toUInt8,(z61 b 16).toUInt8,(z61 b 8).toUInt8,(z61 b 0).toUInt8]
theorem zr6 (v:z02) (l:List UInt8) (k:Nat) (hl:l.length≤100) (hk:k≤56):z73 v (l,(k:Int))=some (.inr (l++[(z61 v.Bits k).toUInt8],(k:Int) - 8)):=by
 unfold z73
 rw [if_pos (by simp)]
 simp only
 rw [z3a (by omega)]
 simp only [bs,Int.toNat_natCast]
 rw [z1b (by simp; omega)]
 simp only [bs]
 rw [z0r (by omega) (by omega)]
theorem ztv (v:z02):iter (z73 v) ([v.Kind],56)=some (v.Kind::be8 v.Bits):=by
 have hs:=fun l k h1 h2=>zr6 v l k h1 h2
 rw [show (56:Int)=((56:Nat):Int) from rfl,z1g (hs [v.Kind] 56 (by simp) (by omega))]
 simp only [List.cons_append,List.nil_append, show ((56:Nat):Int) - 8=((48:Nat):Int) from rfl]
 rw [z1g (hs _ 48 (by simp) (by omega))]
 simp only [List.cons_append,List.nil_append, show ((48:Nat):Int) - 8=((40:Nat):Int) from rfl]
 rw [z1g (hs _ 40 (by simp) (by omega))]
 simp only [List.cons_append,List.nil_append, show ((40:Nat):Int) - 8=((32:Nat):Int) from rfl]
 rw [z1g (hs _ 32 (by simp) (by omega))]
 simp only [List.cons_append,List.nil_append, show ((32:Nat):Int) - 8=((24:Nat):Int) from rfl]
 rw [z1g (hs _ 24 (by simp) (by omega))]
 simp only [List.cons_append,List.nil_append, show ((24:Nat):Int) - 8=((16:Nat):Int) from rfl]
 rw [z1g (hs _ 16 (by simp) (by omega))]
 simp only [List.cons_append,List.nil_append, show ((16:Nat):Int) - 8=((8:Nat):Int) from rfl]
 rw [z1g (hs _ 8 (by simp) (by omega))]
 simp only [List.cons_append,List.nil_append, show ((8:Nat):Int) - 8=((0:Nat):Int) from rfl]
 rw [z1g (hs _ 0 (by simp) (by omega))]
 simp only [List.cons_append,List.nil_append]
 refine z1a ?_
 unfold z73
 rw [if_neg (by simp)]; rfl
def zw8 (v:z02):List UInt8:=v.Kind::(if v.Kind=1 then z2h (zig v.Num) else if v.Kind=2 then be8 v.Bits else z2h v.Text.length++v.Text)
theorem zq3 {n:Int} (h:inI n):zig n<18446744073709551616:=zyu h.1 h.2
theorem zze (v:z02) (hI:inI v.Num) (hl:v.Text.length≤9223372036854775807):zbe v=some (if okV v then (zw8 v,0) else ([],8)):=by
 unfold zbe
 rw [zly v hl]
 cases hv:okV v
 ·
  rfl
 simp only [bs,if_true]
 rw [if_neg (by simp)]
 unfold zw8
 rcases zkf hv with k | k | k
 ·
  have h1:=z0x (zig v.Num) (zq3 hI)
  rw [k,zqp v.Num hI]
  simp only [bs]
  rw [if_pos (by decide),z1b (by simp; omega)]; simp [bs]
 ·
  rw [k,if_neg (by decide),if_pos (by decide),if_neg (by decide),if_pos rfl,← k,ztv]; rfl
 ·
  have h3:=(okV3 hv k).2.2.1
  have h1:=z0x v.Text.length (by omega)
  rw [k,zl3 v.Text (by omega)]
  rw [if_neg (by decide),if_neg (by decide),if_pos (by decide),if_neg (by decide),if_neg (by decide),z3a (by omega)]
  simp only [bs]
  rw [z1b (by simp; omega)]; rfl
theorem zlt (n:Int) (h:inI n):z7m n=some (z2h (zig n)):=by
 obtain ⟨h1,h2⟩:=h
 unfold z7m
 by_cases h0:0≤n
 ·
  rw [if_pos (by simpa using h0),z63]
  have e:(2 * UInt64.ofInt n).toNat=zig n:=by
   rw [UInt64.toNat_mul,zas, show (2:UInt64).toNat=2 from rfl]
   unfold zig; rw [if_pos h0]; omega
  rw [e]; rfl
 ·
  rw [if_neg (by simpa using h0),z63]
  have e:((2 * UInt64.ofInt (w64 (0 - (w64 (n+1)))))+1).toNat=zig n:=by
   rw [z0r (x:=n+1) (by omega) (by omega),z0r (by omega) (by omega),UInt64.toNat_add,UInt64.toNat_mul,zas, show (2:UInt64).toNat=2 from rfl, show (1:UInt64).toNat=1 from rfl]
   unfold zig; rw [if_neg h0]; omega
  rw [e]; rfl
theorem zjv (s:List UInt8) (h:s.length≤100000):z5s s=some (z2h s.length++s):=by
 unfold z5s
 rw [z63]
 have e:(UInt64.ofInt (s.length:Int)).toNat=s.length:=by rw [zas]; omega
 have:=z0x s.length (by omega)
 rw [e]
 simp only [bs]
 rw [z1b (by omega)]; rfl
theorem zrm (v:z02) (l:List UInt8) (k:Nat) (hl:l.length≤100) (hk:k≤7):z4k v (l,(k:Int))=some (.inr (l++[(z61 v.Bits (8 * k)).toUInt8],(k:Int) - 1)):=by
 unfold z4k
 rw [if_pos (by simp)]
 simp only
 have e:w64 (8 * (k:Int))=((8 * k:Nat):Int):=by rw [z0r (by omega) (by omega)]; omega
 rw [e,z3a (by omega)]
 simp only [bs,Int.toNat_natCast]
 rw [z1b (by simp; omega)]
 simp only [bs]
 rw [z0r (by omega) (by omega)]
theorem zup (v:z02):iter (z4k v) ([v.Kind],7)=some (v.Kind::be8 v.Bits):=by
 have hs:=fun l k h1 h2=>zrm v l k h1 h2
 rw [show (7:Int)=((7:Nat):Int) from rfl,z1g (hs [v.Kind] 7 (by simp) (by omega))]
 simp only [List.cons_append,List.nil_append, show ((7:Nat):Int) - 1=((6:Nat):Int) from rfl]
 rw [z1g (hs _ 6 (by simp) (by omega))]
 simp only [List.cons_append,List.nil_append, show ((6:Nat):Int) - 1=((5:Nat):Int) from rfl]
 rw [z1g (hs _ 5 (by simp) (by omega))]
 simp only [List.cons_append,List.nil_append, show ((5:Nat):Int) - 1=((4:Nat):Int) from rfl]
 rw [z1g (hs _ 4 (by simp) (by omega))]
 simp only [List.cons_append,List.nil_append, show ((4:Nat):Int) - 1=((3:Nat):Int) from rfl]
 rw [z1g (hs _ 3 (by simp) (by omega))]
 simp only [List.cons_append,List.nil_append, show ((3:Nat):Int) - 1=((2:Nat):Int) from rfl]
 rw [z1g (hs _ 2 (by simp) (by omega))]
 simp only [List.cons_append,List.nil_append, show ((2:Nat):Int) - 1=((1:Nat):Int) from rfl]
 rw [z1g (hs _ 1 (by simp) (by omega))]
 simp only [List.cons_append,List.nil_append, show ((1:Nat):Int) - 1=((0:Nat):Int) from rfl]
 rw [z1g (hs _ 0 (by simp) (by omega))]
 simp only [List.cons_append,List.nil_append]
 refine z1a ?_
 unfold z4k
 rw [if_neg (by simp)]; rfl
theorem zqb (v:z02) (hI:inI v.Num) (hv:okV v=true):z88 v=some (zw8 v):=by
 unfold zw8 z88
 rcases zkf hv with k | k | k
 ·
  have h1:=z0x (zig v.Num) (zq3 hI)
  rw [k,zlt v.Num hI]
  simp only [bs]
  rw [if_pos (by decide),z1b (by simp; omega)]; simp [bs]
 ·
  rw [k,if_neg (by decide),if_pos (by decide),if_neg (by decide),if_pos rfl,← k,zup]; rfl
 ·
  have h3:=(okV3 hv k).2.2.1
  have h1:=z0x v.Text.length (by omega)
  rw [k,zjv v.Text (by omega)]
  rw [if_neg (by decide),if_neg (by decide),if_neg (by decide),if_neg (by decide),z3a (by omega)]
  simp only [bs]
  rw [z1b (by simp; omega)]; rfl
end
section
open Go
theorem ztp (a b:V3):∀ (n i:Nat),32 - i=n→i≤32→∃ r:Sum Int Unit,iter (z60 a b) (i:Int)=some r∧(z6w (some r) (fun _=>some 0)=some (Lib.compareBytes (a.toList.drop i) (b.toList.drop i))):=by
 intro n
 induction n with
 | zero =>
  intro i hn hi
  have:i=32:=by omega
  subst this
  refine ⟨.inr (),z1a ?_,?_⟩
  ·
   unfold z60; rw [if_neg (by simp)]
  ·
   rw [List.drop_eq_nil_of_le (by simp),List.drop_eq_nil_of_le (by simp)]; rfl
 | succ n ih =>
  intro i hn hi
  have hlt:i<32:=by omega
  have da:a.toList.drop i=a[i]::a.toList.drop (i+1):=by rw [List.drop_eq_getElem_cons (by simpa using hlt)]; simp
  have db:b.toList.drop i=b[i]::b.toList.drop (i+1):=by rw [List.drop_eq_getElem_cons (by simpa using hlt)]; simp
  have hF:z60 a b (i:Int)=if decide (a[i]<b[i]) then some (.inl (.inl (-1))) else if decide (b[i]<a[i]) then some (.inl (.inl 1)) else some (.inr ((i+1:Nat):Int)):=by
   unfold z60
   rw [if_pos (by simp; omega)]
   simp only [z8e hlt,bs,z0q (show i<9223372036854775807 by omega)]
  rw [da,db,Lib.compareBytes]
  by_cases h1:a[i]<b[i]
  ·
   rw [decide_eq_true h1] at hF
   exact ⟨_,z1a hF, by rw [if_pos h1]; rfl⟩
  ·
   rw [decide_eq_false h1] at hF
   by_cases h2:b[i]<a[i]
   ·
    rw [decide_eq_true h2] at hF
    exact ⟨_,z1a hF, by rw [if_neg h1,if_pos h2]; rfl⟩
   ·
    rw [decide_eq_false h2] at hF
    obtain ⟨r,k1,k2⟩:=ih (i+1) (by omega) (by omega)
    exact ⟨r, by rw [z1g hF]; exact k1, by rw [if_neg h1,if_neg h2]; exact k2⟩
theorem zl2 (a b:V3):z6m a b=some (Lib.compareBytes a.toList b.toList):=by
 obtain ⟨r,h1,h2⟩:=ztp a b 32 0 rfl (by omega)
 unfold z6m
 rw [show (0:Int)=((0:Nat):Int) from rfl,h1]
 simpa using h2
theorem znc (a b:V3):z6l a b=some (Lib.compareBytes a.toList b.toList):=by
 unfold z6l zc2; rfl
def z97:List V3→Bool
 | a::b::l=>!decide (0≤Lib.compareBytes a.toList b.toList)&&z97 (b::l)
 | _=>true
theorem zio (l:List V3) (hl:l.length≤9223372036854775807):∀ (n i:Nat),l.length - i=n→1≤i→i≤l.length→iter (z3h l) (i:Int)=some (if z97 (l.drop (i - 1)) then .inr () else .inl false):=by
 intro n
 induction n with
 | zero =>
  intro i hn h1 hi
  have:i=l.length:=by omega
  refine z1a ?_
  have e:l.drop (i - 1)=[l[i - 1]'(by omega)]:=by
   rw [List.drop_eq_getElem_cons (by omega),List.drop_eq_nil_of_le (by omega)]
  rw [e]
  unfold z3h
  rw [if_neg (by simp; omega)]
  simp [z97]
 | succ n ih =>
  intro i hn h1 hi
  have hlt:i<l.length:=by omega
  have e:l.drop (i - 1)=l[i - 1]::l[i]::l.drop (i+1):=by
   rw [List.drop_eq_getElem_cons (by omega), show i - 1+1=i by omega,List.drop_eq_getElem_cons hlt]
  have e':l.drop (i+1 - 1)=l[i]::l.drop (i+1):=by rw [Nat.add_sub_cancel,List.drop_eq_getElem_cons hlt]
  have hF:z3h l (i:Int)=if decide (0≤Lib.compareBytes (l[i - 1]).toList (l[i]).toList) then some (.inl (.inl false)) else some (.inr ((i+1:Nat):Int)):=by
   unfold z3h
   rw [if_pos (by simp; omega),z0r (by omega) (by omega), show ((i:Int) - 1)=((i - 1:Nat):Int) by omega]
   simp only [z0c hlt,z0c (show i - 1<l.length by omega),bs,zl2,z0q (show i<9223372036854775807 by omega)]
  rw [e,z97]
  cases hc:decide (0≤Lib.compareBytes (l[i - 1]).toList (l[i]).toList) with
  | true=>rw [hc] at hF; rw [z1a hF]; rfl
  | false =>
   rw [hc] at hF
   rw [z1g hF,ih (i+1) (by omega) (by omega) (by omega),e']; simp
theorem zlk (l:List V3) (hl:l.length≤9223372036854775807):z5u l=some (z97 l):=by
 unfold z5u
 cases l with
 | nil =>
  rw [z1a (b:=.inr ()) (by unfold z3h; rw [if_neg (by simp)])]; rfl
 | cons x l =>
  have:=zio (x::l) hl _ 1 rfl (by omega) (by simp)
  rw [show (1:Int)=((1:Nat):Int) from rfl,this]
  simp only [Nat.sub_self,List.drop_zero]
  cases z97 (x::l) <;> rfl
theorem zm0 (l:List V3) (hl:l.length≤9223372036854775806):∀ (n i:Nat),l.length - i=n→i≤l.length→∃ r,iter (z0d l l) ((i:Int),(i:Int))=some r∧(z97 (l.drop i)=true→∃ c,r=.inr c)∧(z97 (l.drop i)=false→∃ (k:Nat) (c:Int),r=.inl ((k:Int),c)):=by
 intro n
 induction n with
 | zero =>
  intro i hn hi
  have:i=l.length:=by omega
  refine ⟨.inr (i:Int),z1a ?_, fun _=>⟨_,rfl⟩, fun h=>?_⟩
  ·
   unfold z0d
   rw [if_neg (by simp; omega)]
  ·
   rw [List.drop_eq_nil_of_le (by omega)] at h; simp [z97] at h
 | succ n ih =>
  intro i hn hi
  have hlt:i<l.length:=by omega
  by_cases h2:i+1<l.length
  ·
   have e:l.drop i=l[i]::l[i+1]::l.drop (i+2):=by rw [List.drop_eq_getElem_cons hlt,List.drop_eq_getElem_cons h2]
   have e':l.drop (i+1)=l[i+1]::l.drop (i+2):=by rw [List.drop_eq_getElem_cons h2]
   have hF:z0d l l ((i:Int),(i:Int))=if decide (0≤Lib.compareBytes (l[i]).toList (l[i+1]).toList) then some (.inl (.inl ((i:Int),((i+1:Nat):Int)))) else some (.inr (((i+1:Nat):Int),((i+1:Nat):Int))):=by
    unfold z0d zaa
    rw [if_pos (by simp; omega)]
    simp only [z0c hlt,bs,z0q (show i<9223372036854775807 by omega)]
    rw [if_pos (by simp; omega),z0r (by omega) (by omega), show ((i+1:Nat):Int) - 1=(i:Int) by omega]
    simp only [z0c hlt,z0c h2,bs,znc]
   rw [e,z97]
   cases hc:decide (0≤Lib.compareBytes (l[i]).toList (l[i+1]).toList) with
   | true =>
    rw [hc] at hF
    exact ⟨_,z1a hF, fun h=>by simp at h, fun _=>⟨i,_,rfl⟩⟩
   | false =>
    rw [hc] at hF
    obtain ⟨r,k1,k2,k3⟩:=ih (i+1) (by omega) (by omega)
    rw [e'] at k2 k3
    exact ⟨r, by rw [z1g hF]; exact k1, fun h=>k2 (by simpa using h), fun h=>k3 (by simpa using h)⟩
  ·
   have e:l.drop i=[l[i]]:=by rw [List.drop_eq_getElem_cons hlt,List.drop_eq_nil_of_le (by omega)]
   have hF:z0d l l ((i:Int),(i:Int))=some (.inr (((i+1:Nat):Int),((i+1:Nat):Int))):=by
    unfold z0d zaa
    rw [if_pos (by simp; omega)]
    simp only [z0c hlt,bs,z0q (show i<9223372036854775807 by omega)]
    rw [if_neg (by simp; omega)]
    simp only [bs]; rfl
   obtain ⟨r,k1,k2,k3⟩:=ih (i+1) (by omega) (by omega)
   rw [List.drop_eq_nil_of_le (by omega)] at k2 k3
   exact ⟨r, by rw [z1g hF]; exact k1, fun _=>k2 rfl, fun h=>by rw [e] at h; simp [z97] at h⟩
theorem zpc (l:List V3) (hl:l.length≤9223372036854775806):zch l=some (z97 l):=by
 obtain ⟨r,k1,k2,k3⟩:=zm0 l hl _ 0 rfl (by omega)
 unfold zch z1j z22
 rw [show ((0:Int),(0:Int))=(((0:Nat):Int),((0:Nat):Int)) from rfl,k1]
 simp only [List.drop_zero] at k2 k3
 cases h:z97 l with
 | true=>obtain ⟨c,rfl⟩:=k2 h; rfl
 | false =>
  obtain ⟨k,c,rfl⟩:=k3 h
  simp only [zzl,bs]
  rw [decide_eq_true (by omega)]; rfl
def zkv (l:List V3):List UInt8:=l.flatMap Vector.toList
theorem zf5 (l:List V3):(zkv l).length=32 * l.length:=by
 induction l with
 | nil=>rfl
 | cons x l ih=>unfold zkv at ih ⊢; rw [List.flatMap_cons,List.length_append,ih]; simp; omega
theorem zlu (l:List V3) (i:Nat) (hi:i<l.length):zkv (l.take (i+1))=zkv (l.take i)++(l[i]).toList:=by
 rw [List.take_add_one,List.getElem?_eq_getElem hi]; unfold zkv; rw [List.flatMap_append,Option.toList_some,List.flatMap_cons,List.flatMap_nil,List.append_nil]
theorem zw4 (l:List V3) (h:l.length≤1000) (s:List UInt8) (hs:s.length≤9):iter (z5a l) (s,0)=some (s++zkv l):=by
 have:=z3e (F:=z5a l) (b:=s++zkv l) l.length (fun i=>(s++zkv (l.take i),(i:Int))) (fun i hi=>?_) ?_
 ·
  simpa [zkv] using this
 ·
  unfold z5a
  have hf:=zf5 (l.take i)
  rw [if_pos (by simp; omega)]
  simp only [z0c hi,bs]
  rw [z1b (by simp at hf ⊢; omega)]
  simp only [bs,z0q (show i<9223372036854775807 by omega),zlu l i hi,List.append_assoc]
 ·
  unfold z5a
  rw [if_neg (by simp)]
  simp
theorem zzs (l:List V3) (h:l.length≤1000) (s:List UInt8) (hs:s.length≤9):iter (zap l) (s,0)=some (s++zkv l):=by
 have:=z3e (F:=zap l) (b:=s++zkv l) l.length (fun i=>(s++zkv (l.take i),(i:Int))) (fun i hi=>?_) ?_
 ·
  simpa [zkv] using this
 ·
  unfold zap
  have hf:=zf5 (l.take i)
  rw [if_pos (by simp; omega)]
  simp only [z0c hi,bs]
  rw [z1b (by simp at hf ⊢; omega)]
  simp only [bs,z0q (show i<9223372036854775807 by omega),zlu l i hi,List.append_assoc]
 ·
  unfold zap
  rw [if_neg (by simp)]
  simp
theorem zif {n:Nat} (h:n<18446744073709551616):(UInt64.ofInt (n:Int)).toNat=n:=by
 simp [UInt64.ofInt]; omega
theorem zud (l:List V3) (h:l.length≤1000):z91 l=some (z2h l.length++zkv l):=by
 unfold z91
 have hn:=z0x l.length (by omega)
 rw [z63,zif (by omega)]
 simp only [bs]
 rw [zw4 l h _ (by omega)]; rfl
theorem zw6 (l:List V3) (h:l.length≤60) (hi:z97 l=true):zhc l=some (z2h l.length++zkv l,0):=by
 unfold zhc
 have hn:=z0x l.length (by omega)
 rw [if_neg (by simp; omega),zpc l (by omega),hi,z66,zif (by omega)]
 simp only [bs,Bool.not_true,Bool.false_eq_true,if_false]
 rw [zzs l (by omega) _ (by omega)]; rfl
end
section
open Go
def nk:List UInt8→Nat
 | []=>0
 | a::l=>a.toNat * 256 ^ l.length+nk l
theorem zww:∀ l:List UInt8,nk l<256 ^ l.length
 | []=>by simp [nk]
 | a::l=>by
  have ih:=zww l
  have ha:=UInt8.toNat_lt a
  simp only [nk,List.length_cons,Nat.pow_succ]
  have h1:(a.toNat+1) * 256 ^ l.length≤256 * 256 ^ l.length:=Nat.mul_le_mul_right _ (by omega)
  rw [Nat.add_mul,Nat.one_mul] at h1
  omega
theorem zs3:∀ a b:List UInt8,a.length=b.length→Lib.compareBytes a b=(if nk a<nk b then -1 else if nk b<nk a then 1 else 0)∧(nk a=nk b→a=b)
 | [],[],_=>by simp [Lib.compareBytes,nk]
 | [],_::_,h=>by simp at h
 | _::_,[],h=>by simp at h
 | a::x,b::y,h=>by
  have hl:x.length=y.length:=by simpa using h
  obtain ⟨i1,i2⟩:=zs3 x y hl
  have lx:=zww x
  have ly:=zww y
  simp only [Lib.compareBytes,nk,hl] at *
  have e:∀ u v:UInt8,u.toNat<v.toNat→u.toNat * 256 ^ y.length+256 ^ y.length≤v.toNat * 256 ^ y.length:=fun u v huv=>by
   have:=Nat.mul_le_mul_right (256 ^ y.length) (show u.toNat+1≤v.toNat from huv)
   rwa [Nat.add_mul,Nat.one_mul] at this
  by_cases h1:a<b
  ·
   have h1':a.toNat<b.toNat:=UInt8.lt_iff_toNat_lt.1 h1
   have:=e a b h1'
   rw [if_pos h1,if_pos (by omega)]
   exact ⟨rfl, fun h=>by omega⟩
  ·
   by_cases h2:b<a
   ·
    have h2':b.toNat<a.toNat:=UInt8.lt_iff_toNat_lt.1 h2
    have:=e b a h2'
    rw [if_neg h1,if_pos h2,if_neg (by omega),if_pos (by omega)]
    exact ⟨rfl, fun h=>by omega⟩
   ·
    have h3:a=b:=UInt8.toNat_inj.1 (by rw [UInt8.lt_iff_toNat_lt] at h1 h2; omega)
    subst h3
    rw [if_neg h1,if_neg h1,i1]
    refine ⟨?_, fun h=>by rw [i2 (by omega)]⟩
    by_cases c1:nk x<nk y
    ·
     rw [if_pos c1,if_pos (by omega)]
    ·
     by_cases c2:nk y<nk x
     ·
      rw [if_neg c1,if_pos c2,if_neg (by omega),if_pos (by omega)]
     ·
      rw [if_neg c1,if_neg c2,if_neg (by omega),if_neg (by omega)]
def kd (d:V3):Nat:=nk d.toList
theorem zuu (a b:V3):Lib.compareBytes a.toList b.toList=if kd a<kd b then -1 else if kd b<kd a then 1 else 0:=(zs3 a.toList b.toList (by simp)).1
theorem zrf {a b:V3} (h:kd a=kd b):a=b:=by
 have:=(zs3 a.toList b.toList (by simp)).2 h
 exact Vector.toList_inj.1 this
theorem zo7 (a b:V3):z6l a b=some (if kd a<kd b then -1 else if kd b<kd a then 1 else 0):=by rw [znc,zuu]
theorem zx5 (a b:V3):z6m a b=some (if kd a<kd b then -1 else if kd b<kd a then 1 else 0):=by rw [zl2,zuu]
theorem zq9 (a b:V3):decide ((if kd a<kd b then (-1:Int) else if kd b<kd a then 1 else 0)<0)=decide (kd a<kd b):=by
 by_cases h:kd a<kd b
 ·
  simp [h]
 ·
  by_cases h2:kd b<kd a <;> simp [h,h2]
theorem zvi (a b:V3):decide (0≤(if kd a<kd b then (-1:Int) else if kd b<kd a then 1 else 0))=decide (kd b≤kd a):=by
 by_cases h:kd a<kd b
 ·
  have:¬ kd b≤kd a:=by omega
  simp [h,this]
 ·
  have h3:kd b≤kd a:=by omega
  by_cases h2:kd b<kd a <;> simp [h,h2,h3]
theorem z110 (a b:V3):((if kd a<kd b then (-1:Int) else if kd b<kd a then 1 else 0)==0)=decide (a=b):=by
 by_cases h:kd a<kd b
 ·
  have:a≠b:=fun e=>by rw [e] at h; omega
  simp [h,this]
 ·
  by_cases h2:kd b<kd a
  ·
   have:a≠b:=fun e=>by rw [e] at h2; omega
   simp [h,h2,this]
  ·
   have:a=b:=zrf (by omega)
   simp [h,h2,this]
theorem zod:∀ l:List V3,z97 l=true↔∀ i (h:i+1<l.length),kd (l[i]'(by omega))<kd l[i+1]
 | []=>by simp [z97]
 | [a]=>by simp [z97]
 | a::b::l=>by
  have ih:=zod (b::l)
  rw [z97,Bool.and_eq_true,ih,zuu,zvi]
  constructor
  ·
   rintro ⟨h1,h2⟩ i hi
   cases i with
   | zero=>simpa using h1
   | succ i=>exact h2 i (by simpa using hi)
  ·
   intro h
   refine ⟨?_, fun i hi=>h (i+1) (by simpa using hi)⟩
   have:=h 0 (by simp)
   simpa using this
theorem zel:∀ l:List V3,z97 l=true↔l.Pairwise (fun a b=>kd a<kd b)
 | []=>by simp [z97]
 | [a]=>by simp [z97]
 | a::b::l=>by
  have ih:=zel (b::l)
  rw [z97,Bool.and_eq_true,ih,zuu,zvi]
  constructor
  ·
   rintro ⟨h1,h2⟩
   have h1':kd a<kd b:=by simpa using h1
   refine List.pairwise_cons.2 ⟨fun c hc=>?_,h2⟩
   rcases List.mem_cons.1 hc with rfl | hc
   ·
    exact h1'
   ·
    have:=(List.pairwise_cons.1 h2).1 c hc; omega
  ·
   intro h
   obtain ⟨h1,h2⟩:=List.pairwise_cons.1 h
   have:=h1 b (by simp)
   exact ⟨by simp; omega,h2⟩
theorem zs8 (l:List V3) (hl:l.length≤9223372036854775807):∃ b,z0w l=some b∧(b=true↔∀ i (h:i+1<l.length),kd (l[i]'(by omega))≤kd l[i+1]):=by
 have key:∀ n,n<l.length→∃ r:Sum Bool Unit,iter (z0i l) (n:Int)=some r∧((r=.inr ()∧∀ i (h:i+1<l.length),i+1≤n→kd (l[i]'(by omega))≤kd l[i+1])∨(r=.inl false∧∃ i,∃ h:i+1<l.length,¬ kd (l[i]'(by omega))≤kd l[i+1])):=by
  intro n
  induction n with
  | zero =>
   intro h
   refine ⟨_,z1a ?_,.inl ⟨rfl, fun i _ h=>by omega⟩⟩
   unfold z0i
   rw [if_neg (by simp)]
  | succ n ih =>
   intro h
   have hF:z0i l ((n+1:Nat):Int)=if decide (kd l[n+1]<kd l[n]) then some (.inl (.inl false)) else some (.inr (n:Int)):=by
    unfold z0i
    rw [if_pos (by simp <;> omega),z0c h,z0r (by omega) (by omega), show (((n+1:Nat):Int) - 1)=(n:Int) by omega,z0c (by omega)]
    simp only [bS]
    rw [zo7]
    simp only [bS]
    rw [zq9]
   by_cases hc:kd l[n+1]<kd l[n]
   ·
    rw [decide_eq_true hc,if_pos rfl] at hF
    exact ⟨_,z1a hF,.inr ⟨rfl,n,h, by omega⟩⟩
   ·
    rw [decide_eq_false hc,if_neg (by simp)] at hF
    obtain ⟨r,h1,h2⟩:=ih (by omega)
    refine ⟨r, by rw [z1g hF]; exact h1,?_⟩
    rcases h2 with ⟨h2,h3⟩ | h2
    ·
     refine .inl ⟨h2, fun i hi hn=>?_⟩
     by_cases hin:i=n
     ·
      subst hin; omega
     ·
      exact h3 i hi (by omega)
    ·
     exact .inr h2
 unfold z0w
 simp only [bS]
 by_cases h0:l.length=0
 ·
  refine ⟨true,?_, by simp; intro i hi; omega⟩
  rw [h0,z0r (by omega) (by omega),z1a (b:=.inr ())]
  ·
   rfl
  ·
   unfold z0i
   rw [if_neg (by simp)]
 ·
  obtain ⟨r,h1,h2⟩:=key (l.length - 1) (by omega)
  rw [z0r (by omega) (by omega), show ((l.length:Int) - 1)=((l.length - 1:Nat):Int) by omega,h1]
  rcases h2 with ⟨rfl,h3⟩ | ⟨rfl,i,hi,h3⟩
  ·
   exact ⟨true,rfl, by simp; exact fun i hi=>h3 i hi (by omega)⟩
  ·
   exact ⟨false,rfl, by simp; exact ⟨i,hi, by omega⟩⟩
theorem zkn {k n j:Nat} (h:j<n):zt6 k n (j:Int)=some (k+j):=by unfold zt6; rw [if_pos (by omega)]; simp
theorem zsl {α:Type} (b:List α) (k n:Nat) (x:α) (h:k+n≤b.length):(clr b k n x).length=b.length:=by
 unfold clr
 simp only [List.length_append,List.length_take,List.length_replicate,List.length_drop]; omega
theorem znj (l:List V3) (s:Nat) (h1:1≤s) (hs:s<l.length) (hl:l.length≤9223372036854775806):∃ b:List V3 × Int,iter (z1s l s) (l,(s:Int),1)=some b∧b.1.length=l.length∧∃ j:Nat,b.2=(j:Int)∧j<l.length:=by
 refine z77 (F:=z1s l s) (l.length - s) (fun i st=>st.1.length=l.length∧st.2.2=(i:Int)∧1≤i∧∃ j:Nat,st.2.1=(j:Int)∧j+1≤s+i) _ ?_ ?_ _ 1 (by omega) ⟨rfl,rfl, by omega,s,rfl, by omega⟩
 ·
  rintro i ⟨c,j',i'⟩ hi ⟨e1,e2,e0,j,e3,e4⟩
  simp only at e1 e2 e3
  subst e2 e3
  unfold z1s
  rw [if_pos (by simp; omega)]
  simp only [Int.toNat_natCast]
  rw [zkn (by omega),z0r (x:=(i:Int) - 1) (by omega) (by omega), show ((i:Int) - 1)=((i - 1:Nat):Int) by omega,zkn (by omega)]
  simp only [bS]
  rw [z0c (by omega),z0c (by omega)]
  simp only [bS]
  by_cases hc:c[s+i]'(by omega)=c[s+(i - 1)]'(by omega)
  ·
   rw [decide_eq_true hc,if_neg (by simp)]
   exact ⟨_,rfl,e1,z0q (by omega), by omega,j,rfl, by omega⟩
  ·
   rw [decide_eq_false hc,if_pos (by simp),z0c (by omega)]
   simp only [bS]
   exact ⟨_,rfl, by simpa using e1,z0q (by omega), by omega,j+1,z0q (by omega), by omega⟩
 ·
  rintro ⟨c,j',i'⟩ ⟨e1,e2,e0,j,e3,e4⟩
  simp only at e1 e2 e3
  subst e2 e3
  unfold z1s
  rw [if_neg (by simp <;> omega)]
  exact ⟨_,rfl,e1,j,rfl, by omega⟩
theorem zps (l:List V3) (hl:l.length≤9223372036854775806):∃ c,z2g l=some c∧(c.length=l.length↔∀ i (h:i+1<l.length),l[i]'(by omega)≠l[i+1]):=by
 have key:∀ k n,l.length - n=k→1≤n→n≤l.length→∃ r:Sum (List V3) Unit,iter (z10 l) (n:Int)=some r∧((r=.inr ()∧∀ i (h:i+1<l.length),n≤i+1→l[i]'(by omega)≠l[i+1])∨(∃ c,r=.inl c∧c.length≠l.length∧∃ i,∃ h:i+1<l.length,l[i]'(by omega)=l[i+1])):=by
  intro k
  induction k with
  | zero =>
   intro n hk h1 hn
   refine ⟨_,z1a ?_,.inl ⟨rfl, fun i _ h=>by omega⟩⟩
   unfold z10
   rw [if_neg (by simp; omega)]
  | succ k ih =>
   intro n hk h1 hn
   have hlt:n<l.length:=by omega
   by_cases hc:l[n]=l[n - 1]
   ·
    obtain ⟨⟨c,j'⟩,e1,e2,j,e3,e4⟩:=znj l n h1 hlt hl
    simp only at e2 e3
    subst e3
    have hF:z10 l (n:Int)=some (.inl (.inl ((clr c j (c.length - j) (Vector.replicate 32 0)).take j))):=by
     unfold z10
     rw [if_pos (by simp; omega),z0c hlt,z0r (by omega) (by omega), show ((n:Int) - 1)=((n - 1:Nat):Int) by omega,z0c (by omega)]
     simp only [bS]
     rw [decide_eq_true hc,if_pos rfl,z3a (by omega)]
     simp only [bS]
     rw [e1]
     simp only [bS]
     rw [z3a (by omega),z3a (by simp; omega)]
     simp only [bS,Int.toNat_natCast]
     rw [show (0:Int)=((0:Nat):Int) from rfl,za7 (by omega) (by rw [zsl _ _ _ _ (by omega)]; omega)]
     simp
    refine ⟨_,z1a hF,.inr ⟨_,rfl,?_,n - 1, by omega,?_⟩⟩
    ·
     rw [List.length_take]; omega
    ·
     have:n - 1+1=n:=by omega
     simp only [this]; exact hc.symm
   ·
    have hF:z10 l (n:Int)=some (.inr ((n+1:Nat):Int)):=by
     unfold z10
     rw [if_pos (by simp; omega),z0c hlt,z0r (x:=(n:Int) - 1) (by omega) (by omega), show ((n:Int) - 1)=((n - 1:Nat):Int) by omega,z0c (by omega)]
     simp only [bS]
     rw [decide_eq_false hc,if_neg (by simp),z0q (by omega)]
    obtain ⟨r,h2,h3⟩:=ih (n+1) (by omega) (by omega) (by omega)
    refine ⟨r, by rw [z1g hF]; exact h2,?_⟩
    rcases h3 with ⟨h3,h4⟩ | h3
    ·
     refine .inl ⟨h3, fun i hi hni=>?_⟩
     by_cases hin:i+1=n
     ·
      subst hin; exact fun e=>hc e.symm
     ·
      exact h4 i hi (by omega)
    ·
     exact .inr h3
 unfold z2g
 by_cases h2:l.length<2
 ·
  rw [if_pos (by simp; omega)]
  exact ⟨l,rfl, by simp; intro i hi; omega⟩
 ·
  rw [if_neg (by simp; omega)]
  obtain ⟨r,e1,e2⟩:=key (l.length - 1) 1 rfl (by omega) (by omega)
  rw [show (1:Int)=((1:Nat):Int) from rfl,e1]
  rcases e2 with ⟨rfl,h3⟩ | ⟨c,rfl,h3,i,hi,h4⟩
  ·
   exact ⟨l,rfl, by simp; exact fun i hi=>h3 i hi (by omega)⟩
  ·
   exact ⟨c,rfl,⟨fun h=>absurd h h3, fun h=>absurd h4 (h i hi)⟩⟩
theorem zuh (l:List V3):z97 l=true↔(∀ i (h:i+1<l.length),kd (l[i]'(by omega))≤kd l[i+1])∧∀ i (h:i+1<l.length),l[i]'(by omega)≠l[i+1]:=by
 rw [zod]
 constructor
 ·
  intro h
  refine ⟨fun i hi=>Nat.le_of_lt (h i hi), fun i hi e=>?_⟩
  have:=h i hi
  rw [e] at this; omega
 ·
  rintro ⟨h1,h2⟩ i hi
  have:=h1 i hi
  rcases Nat.lt_or_eq_of_le this with h | h
  ·
   exact h
  ·
   exact absurd (zrf h) (h2 i hi)
end
section
open Go Go.RowKit
section
variable {ρ:Type} {C:World→World→Prop} {P:Program} {Γ:Ctx} {l:z18} {res:Res} {d:Tmp} {ty:TypeId} {pos:String} {after:Array Edge} {g:Option (Nat × Bool)}
def zwj (b c:List UInt8):Bool:=Op.bytesLess b c
theorem zxa {ρ:Operand→Value} {w:World} {x y:Operand} {T T':TypeId} {s s':ByteArray} (hx:ρ x=(.string s)) (hy:ρ y=(.string s')) :
  (execOp ρ ⟨some d,.binOp .lss T x y T',ty,pos,after,g⟩).run P w=.ok (.value (.bool (Op.bytesLess s.toList s'.toList))) w:=(zb5 (by rw [hx,hy]; rfl) (by rw [hx,hy]; rfl))
theorem ltS {x y:Operand} {T T':TypeId} {b c:List UInt8} (hx:opE l x=some (.rd z29 b)) (hy:opE l y=some (.rd z29 c)):Run C P Γ l res ⟨some d,.binOp .lss T x y T',ty,pos,after,g⟩ (.rd z08 (zwj b c)):=fun _ w ha=>by
 obtain ⟨s,h1,rfl⟩:=ze3 (ha.vl hx)
 obtain ⟨t,h2,rfl⟩:=ze3 (ha.vl hy)
 exact ⟨_, fun w' _=>zxa h1 h2, by rw [z7c,z7c]; exact z8y⟩
end
end
section
open Go Go.RowKit
set_option maxRecDepth 100000
def z6v (a0:z00) (s4:(List (V3 × Int)) × Int):Option (Sum ((List (V3 × Int))) ((List (V3 × Int)) × Int)) :=
 if decide (s4.2<(a0.IDs.length:Int)) then
  idx a0.IDs s4.2 >>= fun x6 =>
  some (.inr (zj0 s4.1 x6 s4.2,w64 (s4.2+1)))
 else
  some (.inl s4.1)
def z8r (a0:z00):Option ((List (V3 × Int))) :=
 (iter (z6v a0) (([]:List (V3 × Int)),0)) >>= fun s3 =>
 some s3
theorem zg1 (a0:z00):z1y Tryz.prog 74 [.rd z01 a0] [] (z8r a0) (fun r nv=>⟨[.val (nv 0)],[(100,some (nv 0,.map aZ z09 r))]⟩):=by
 refine z2l 23 Tryz.func74 Z Z Z fun H w=>?_
 refine gSR<|Eb Z (bx 1 Z) fun v1=>Zb Z<|gSR<|Zq (faB 1 Z Z Tryz.underlying27 Z (by exact zby))<|Zq (ld 1 Z Z (fP (z0f _)) zb1 Z)<|Zq (z3q Z .rd Z tu24)<|Ef Z (mkm aZ z09 2 (Or.inr ⟨_,_,Z,rfl⟩) Tryz.underlying123) fun v2=>Zb Z<|z6t (fun (s3:(List (V3 × Int))) aa ww=>Sta (ctx 23 H [] w) [(3,.val v2)] [(2,some (v2,.map aZ z09 s3))] aa ww) ?_ (fun s3=>?_)
 ·
  refine gSR<|Zq (faB 1 Z Z Tryz.underlying27 Z (by exact zby))<|Zq (ld 1 Z Z (fP (z0f _)) zb1 Z)<|Zq (z3q Z .rd Z tu24)<|Zm Z<|Zn<|z1q (fun (s4:(List (V3 × Int)) × Int) aa ww=>Sta (ctx 23 H [] w) [(3,.val v2),(11,.rd (z03 aZ) a0.IDs),(12,.rd z09 (a0.IDs.length:Int)),(13,.rd z09 s4.2)] [(2,some (v2,.map aZ z09 s4.1))] aa ww) (fun aa ww h=>Zu h [2]) (fun s4=>?_)
  refine gSR<|Zq (I.lss Z Z)<|Zn<|z0m<|gIf Z Z (fun h5=>?_) (fun h5=>?_)
  ·
   refine Zt<|z0m<|z4s<|gSR<|Zm Z<|z0g fun x6 h7=>Zq (ixR Z Z h7 tu24 z3j Z)<|Zq (ldR Z z6z)<|Eb Z (z9b 3 z3j (.zr (R:=aZ) (x:=(Vector.replicate 32 0)) zje)) fun v8=>Za Z<|Es (sto 3 Z Z fH Z z3j)<|Zn<|z1o<|Zm Z<|Zq (ld 3 Z Z fH z6z Z)<|Zm Z<|Es (mup 2 Z Z Z Z ky78 Tryz.underlying123)<|z1f<|z2n<|z0e<|z1o<|Zq (I.add Z Z)<|Zm Z<|z1f<|z14 (fun aa ww h=>Zu h [2])
  ·
   refine z1d<|z0p<|z0s<|z37 (fun aa ww h=>Zu h [2])
 ·
  refine gSR<|Zm Z<|Zb Z<|z0j<|Ze [v2] [2] Z
def z54 (a0:z00) (a1:List Bool) (s3:(List V3) × Int):Option (Sum ((List V3)) ((List V3) × Int)) :=
 if decide (s3.2<(a1.length:Int)) then
  idx a1 s3.2 >>= fun x6 =>
  if x6 then
   idx a0.IDs s3.2 >>= fun x9 =>
   app 32 s3.1 [x9] >>= fun x12 =>
   some (.inr (x12,w64 (s3.2+1)))
  else
   some (.inr (s3.1,w64 (s3.2+1)))
 else
  some (.inl s3.1)
def z70 (a0:z00) (a1:List Bool):Option ((List V3)) :=
 (iter (z54 a0 a1) ([],0)) >>= fun s2 =>
 some s2
theorem zf1 (a0:z00) (a1:List Bool):z1y Tryz.prog 75 [.rd z01 a0,.rd (z03 z08) a1] [] (z70 a0 a1) (fun r nv=>⟨[.val (nv 0)],[(100,some (nv 0,.list aZ 78 r))]⟩):=by
 refine z2l 26 Tryz.func75 Z Z Z fun H w=>?_
 refine gSR<|Eb Z (bx 1 Z) fun v1=>Zb Z<|gSR<|Zb Z<|z6t (fun (s2:(List V3)) aa ww=>∃ nv:Nat→Value,Sta (ctx 26 H [] w) [(5,.val (nv 0))] [(3,some ((nv 0),.list aZ 78 s2))] aa ww) ?_ (fun s2=>?_)
 ·
  refine gSR<|Zm Z<|Zq (z3q Z .rd Z Tryz.underlying125)<|Zm Z<|Zn<|zs7 aZ 78 6<|z1q (fun (s3:(List V3) × Int) aa ww=>∃ nv:Nat→Value,Sta (ctx 26 H [] w) [(1,.rd (z03 z08) a1),(2,.val (z05 v1 0)),(5,.val (nv 0)),(8,.rd z09 (a1.length:Int)),(9,.rd z09 s3.2)] [(1,some (v1,.box 27 [.rd z01 a0])),(5,some ((nv 0),.list aZ 78 s3.1))] aa ww) (fun aa ww h=>⟨nvl [(.slice none 0 0)],Zu h [1,6]⟩) (fun s3=>?_)
  refine gEx fun n4=>gSR<|Zq (I.lss Z Z)<|Zn<|z0m<|gIf Z Z (fun h5=>?_) (fun h5=>?_)
  ·
   refine Zt<|z0m<|z4s<|gSR<|Zm Z<|Zb Z<|gSR<|Zm Z<|Zm Z<|z0g fun x6 h7=>Zq (ixR Z Z h7 Tryz.underlying125 ti4 Z)<|Zq (ldR Z ty4)<|Zj Z (fun h8=>?_) (fun h8=>?_)
   ·
    refine z1o<|Zm Z<|Zq (faB 1 Z Z Tryz.underlying27 Z (by exact zby))<|Zq (ld 1 Z Z (fP (z0f _)) zb1 Z)<|Zm Z<|z0g fun x9 h10=>Zq (ixR Z Z h10 tu24 z3j Z)<|Zq (ldR Z z6z)<|Ef Z (lit (R:=aZ) ([x9]:List V3) 7 (pP Z Z<|pN) Z tu24 z3j Z Z) fun v11=>zh3 7 [22] Z (fS Z<|fN)<|z0g fun x12 h13=>Ef Z (apn 5 Z Z Z .rd h13 tu24 z3j Z Z Z) fun v14=>Za Z<|z1f<|z2n<|z0e<|z1o<|Zq (I.add Z Z)<|Zm Z<|z1f<|z14 (fun aa ww h=>⟨nvl [v14],Zu h [1,5]⟩)
   ·
    refine z2b<|z2n<|z0e<|z1o<|Zq (I.add Z Z)<|Zm Z<|z1f<|z14 (fun aa ww h=>⟨nvl [(n4 0)],Zu h [1,5]⟩)
  ·
   refine z1d<|z0p<|z0s<|z37 (fun aa ww h=>⟨nvl [(n4 0)],Zu h [5]⟩)
 ·
  refine gEx fun n15=>gSR<|Zm Z<|Zb Z<|z0j<|Ze [(n15 0)] [3] Z
def zaf (a0:z00) (a1:V3):Option (Int × Int) :=
 z57 a0 >>= fun r3 =>
 if r3 != 0 then
  some (0,r3)
 else
  z0h a0.IDs a1 >>= fun r6 =>
  if !r6.2 then
   some (0,6)
  else
   some (r6.1,0)
theorem zh6 (a0:z00) (a1:V3):z1y Tryz.prog 139 [.rd z01 a0,.rd aZ a1] [zG1] (zaf a0 a1) (fun r nv=>⟨[.rd z09 r.1,.rd z09 r.2],[(1001,some (.bool true,.glob 1 (z3i 64 z0o) z7v))]⟩):=by
 refine z2l 24 Tryz.func139 Z Z Z fun H w=>?_
 refine gSR<|Eb Z (bx 1 Z) fun v1=>Eb Z (bx 2 Z) fun v2=>Za Z<|Zb Z<|z0m<|gSR<|Zq (ld 1 Z Z fH zbn Z)<|Zc [1001] [] Tryz.func60 Z (zd3 _) fun r3 n4=>Zb Z<|gSR<|Zm Z<|Zq (I.neq Z Z)<|Zj Z (fun h5=>?_) (fun h5=>?_)
 ·
  refine gSR<|Zm Z<|Za Z<|Zb Z<|z0j<|z0v<|Ze [] [1001] Z
 ·
  refine Zt<|gSR<|Zq (faB 1 Z Z Tryz.underlying27 Z (by exact zby))<|Zq (ld 1 Z Z (fP (z0f _)) zb1 Z)<|Zq (ld 2 Z Z fH z6z Z)<|Zc [] [] Tryz.func122 Z (z1z _ _) fun r6 n7=>Zm Z<|Zq (ext Z Z)<|Zq (ext Z Z)<|Za Z<|Zb Z<|z0m<|gSR<|Zm Z<|Zq (zf6 Z)<|Zj Z (fun h8=>?_) (fun h8=>?_)
  ·
   refine gSR<|Za Z<|Zb Z<|z0j<|z0v<|Ze [] [1001] Z
  ·
   refine Zt<|gSR<|Zm Z<|Za Z<|Zb Z<|z0j<|Ze [] [1001] Z
def z67 (c1_0:List (V3 × Int)) (c3_0:z00) (rec:V3→(List (V3 × Int))→(List Bool)→z00→Option ((List Bool))) (x8:z12) (s10:(List Bool) × Int):Option (Sum ((List Bool)) ((List Bool) × Int)) :=
 if decide (s10.2<(x8.Preds.length:Int)) then
  idx x8.Preds s10.2 >>= fun x12 =>
  rec x12 c1_0 s10.1 c3_0 >>= fun r15 =>
  some (.inr (r15,w64 (s10.2+1)))
 else
  some (.inl s10.1)
def z50 (rec:V3→(List (V3 × Int))→(List Bool)→z00→Option ((List Bool))) (a0:V3) (c1_0:List (V3 × Int)) (c2_0:List Bool) (c3_0:z00):Option ((List Bool)) :=
 some ((zcd c1_0 a0).getD 0) >>= fun y2 =>
 idx c2_0 y2 >>= fun x3 =>
 if x3 then
  some c2_0
 else
  idx c2_0 y2 >>= fun x6 =>
  idx c3_0.Ops y2 >>= fun x8 =>
  iter (z67 c1_0 c3_0 rec x8) (c2_0.set (y2:Int).toNat true,0)
def z28:Nat→V3→(List (V3 × Int))→(List Bool)→z00→Option ((List Bool))
 | 0,_,_,_,_=>none
 | N+1,a0,c1_0,c2_0,c3_0=>z50 (z28 N) a0 c1_0 c2_0 c3_0
theorem zeu (rec:V3→(List (V3 × Int))→(List Bool)→z00→Option ((List Bool))) (ih:∀ (a0:V3) (p1_0:Value) (q1_0:Value) (c1_0:List (V3 × Int)) (p2_0:Value) (q2_0:Value) (c2_0:List Bool) (p3_0:Value) (c3_0:z00) (p4_0:Value),z1y Tryz.prog 125 [.rd aZ a0,.val (z05 p1_0 0),.val (z05 p2_0 0),.val (z05 p3_0 0),.val (z05 p4_0 0)] [(1,some (p1_0,.box 123 [.val q1_0])),(2,some (q1_0,.map aZ z09 c1_0)),(3,some (p2_0,.box 125 [.val q2_0])),(4,some (q2_0,.list z08 4 c2_0)),(5,some (p3_0,.box 27 [.rd z01 c3_0])),(6,some (p4_0,.box 173 [.val (.func (.func 125) #[] #[z05 p1_0 0,z05 p2_0 0,z05 p3_0 0,z05 p4_0 0])]))] (rec a0 c1_0 c2_0 c3_0) (fun r nv=>⟨[],[(1,some (p1_0,.box 123 [.val q1_0])),(2,some (q1_0,.map aZ z09 c1_0)),(3,some (p2_0,.box 125 [.val q2_0])),(4,some (q2_0,.list z08 4 r)),(5,some (p3_0,.box 27 [.rd z01 c3_0])),(6,some (p4_0,.box 173 [.val (.func (.func 125) #[] #[z05 p1_0 0,z05 p2_0 0,z05 p3_0 0,z05 p4_0 0])]))]⟩)) (a0:V3) (p1_0:Value) (q1_0:Value) (c1_0:List (V3 × Int)) (p2_0:Value) (q2_0:Value) (c2_0:List Bool) (p3_0:Value) (c3_0:z00) (p4_0:Value):z1y Tryz.prog 125 [.rd aZ a0,.val (z05 p1_0 0),.val (z05 p2_0 0),.val (z05 p3_0 0),.val (z05 p4_0 0)] [(1,some (p1_0,.box 123 [.val q1_0])),(2,some (q1_0,.map aZ z09 c1_0)),(3,some (p2_0,.box 125 [.val q2_0])),(4,some (q2_0,.list z08 4 c2_0)),(5,some (p3_0,.box 27 [.rd z01 c3_0])),(6,some (p4_0,.box 173 [.val (.func (.func 125) #[] #[z05 p1_0 0,z05 p2_0 0,z05 p3_0 0,z05 p4_0 0])]))] (z50 rec a0 c1_0 c2_0 c3_0) (fun r nv=>⟨[],[(1,some (p1_0,.box 123 [.val q1_0])),(2,some (q1_0,.map aZ z09 c1_0)),(3,some (p2_0,.box 125 [.val q2_0])),(4,some (q2_0,.list z08 4 r)),(5,some (p3_0,.box 27 [.rd z01 c3_0])),(6,some (p4_0,.box 173 [.val (.func (.func 125) #[] #[z05 p1_0 0,z05 p2_0 0,z05 p3_0 0,z05 p4_0 0])]))]⟩):=by
 refine z2l 34 Tryz.func125 Z Z Z fun H w=>?_
 refine gSR<|Eb Z (bx 7 Z) fun v1=>Zn<|gSR<|Zq (ldV 1 Z Z .here z10n Z)<|Zq (ld 7 Z Z fH z6z Z)<|Zq (mlk Z (.own 2 Z Z) Z ky78 Tryz.underlying123 ti3 (Zr.num Z) Z)<|Za Z<|z1e 6 Z fun y2=>Zn<|z0m<|gSR<|Zq (ldV 3 Z Z .here zxu Z)<|Zm Z<|z0g fun x3 h4=>Zq (ixO 4 Z Z Z h4 Tryz.underlying125 ti4)<|Zq (ld 4 Z Z (Foc.el h4) ty4 Z)<|Zj Z (fun h5=>?_) (fun h5=>?_)
 ·
  refine z0j<|z0v<|Ze [] [1,2,3,4,5,6] Z
 ·
  refine Zt<|gSR<|Zq (ldV 3 Z Z .here zxu Z)<|Zm Z<|z0g fun x6 h7=>Zq (ixO 4 Z Z Z h7 Tryz.underlying125 ti4)<|Es (sto 4 Z Z (Foc.el h7) Z ti4)<|Zn<|gSR<|Zq (faB 5 Z Z Tryz.underlying27 Z (by exact zbk))<|Zq (ld 5 Z Z (fP (z04 _)) zbh Z)<|Zm Z<|z0g fun x8 h9=>Zq (ixR Z Z h9 tu25 zdg Z)<|Zq (faR Z (z19 _) Tryz.underlying72 Z Z (by exact zby))<|Zq (ldR Z zb1)<|Zq (z3q Z .rd Z tu24)<|Zm Z<|Zn<|z1q (fun (s10:(List Bool) × Int) aa ww=>Sta (ctx 34 H [(1,some (p1_0,.box 123 [.val q1_0])),(2,some (q1_0,.map aZ z09 c1_0)),(3,some (p2_0,.box 125 [.val q2_0])),(4,some (q2_0,.list z08 4 c2_0)),(5,some (p3_0,.box 27 [.rd z01 c3_0])),(6,some (p4_0,.box 173 [.val (.func (.func 125) #[] #[z05 p1_0 0,z05 p2_0 0,z05 p3_0 0,z05 p4_0 0])]))] w) [(4,.val (z05 p4_0 0)),(24,.rd (z03 aZ) x8.Preds),(25,.rd z09 (x8.Preds.length:Int)),(26,.rd z09 s10.2)] [(6,some (p4_0,.box 173 [.val (.func (.func 125) #[] #[z05 p1_0 0,z05 p2_0 0,z05 p3_0 0,z05 p4_0 0])])),(2,some (q1_0,.map aZ z09 c1_0)),(1,some (p1_0,.box 123 [.val q1_0])),(4,some (q2_0,.list z08 4 s10.1)),(3,some (p2_0,.box 125 [.val q2_0])),(5,some (p3_0,.box 27 [.rd z01 c3_0]))] aa ww) (fun aa ww h=>Zu h [6,2,1,4,3,5]) (fun s10=>?_)
  refine gSR<|Zq (I.lss Z Z)<|Zn<|z0m<|gIf Z Z (fun h11=>?_) (fun h11=>?_)
  ·
   refine Zt<|z0m<|z4s<|gSR<|z0g fun x12 h13=>Zq (ixR Z Z h13 tu24 z3j Z)<|Zq (ldR Z z6z)<|Eb Z (z9b 8 z3j (.zr (R:=aZ) (x:=(Vector.replicate 32 0)) zje)) fun v14=>Es (sto 8 Z Z fH Z z3j)<|Zn<|z1o<|Zq (ldV 6 Z Z .here zye Z)<|Zq (ld 8 Z Z fH z6z Z)<|znh [1,2,3,4,5,6] [(1,1),(2,2),(3,3),(4,4),(5,5),(6,6)] (gd0 Z) Z Z Tryz.func125 Z Z (ih _ _ _ _ _ _ _ _ _ _) (Y1 Z) (cQ 1 Z<|cQ 3 Z<|cQ 5 Z<|cQ 6 Z<|cN) (Zi Z<|Zi Z<|Zi Z<|Zi Z<|Zi Z<|Zi Z<|rN) fun r15 n16=>z1f<|z2n<|z0e<|z1o<|Zq (I.add Z Z)<|Zm Z<|z1f<|z14 (fun aa ww h=>Zu h [6,2,1,4,3,5])
  ·
   refine z1d<|z0p<|z0s<|Ze [] [1,2,3,4,5,6] Z
theorem za5:∀ (N:Nat) (a0:V3) (p1_0:Value) (q1_0:Value) (c1_0:List (V3 × Int)) (p2_0:Value) (q2_0:Value) (c2_0:List Bool) (p3_0:Value) (c3_0:z00) (p4_0:Value),z1y Tryz.prog 125 [.rd aZ a0,.val (z05 p1_0 0),.val (z05 p2_0 0),.val (z05 p3_0 0),.val (z05 p4_0 0)] [(1,some (p1_0,.box 123 [.val q1_0])),(2,some (q1_0,.map aZ z09 c1_0)),(3,some (p2_0,.box 125 [.val q2_0])),(4,some (q2_0,.list z08 4 c2_0)),(5,some (p3_0,.box 27 [.rd z01 c3_0])),(6,some (p4_0,.box 173 [.val (.func (.func 125) #[] #[z05 p1_0 0,z05 p2_0 0,z05 p3_0 0,z05 p4_0 0])]))] (z28 N a0 c1_0 c2_0 c3_0) (fun r nv=>⟨[],[(1,some (p1_0,.box 123 [.val q1_0])),(2,some (q1_0,.map aZ z09 c1_0)),(3,some (p2_0,.box 125 [.val q2_0])),(4,some (q2_0,.list z08 4 r)),(5,some (p3_0,.box 27 [.rd z01 c3_0])),(6,some (p4_0,.box 173 [.val (.func (.func 125) #[] #[z05 p1_0 0,z05 p2_0 0,z05 p3_0 0,z05 p4_0 0])]))]⟩)
 | 0,a0,p1_0,q1_0,c1_0,p2_0,q2_0,c2_0,p3_0,c3_0,p4_0=>fun r hr=>absurd hr (by simp [z28])
 | N+1,a0,p1_0,q1_0,c1_0,p2_0,q2_0,c2_0,p3_0,c3_0,p4_0=>zeu (z28 N) (za5 N) a0 p1_0 q1_0 c1_0 p2_0 q2_0 c2_0 p3_0 c3_0 p4_0
theorem zem (a0:V3) (p1_0:Value) (q1_0:Value) (c1_0:List (V3 × Int)) (p2_0:Value) (q2_0:Value) (c2_0:List Bool) (p3_0:Value) (c3_0:z00) (p4_0:Value):z1y Tryz.prog 125 [.rd aZ a0,.val (z05 p1_0 0),.val (z05 p2_0 0),.val (z05 p3_0 0),.val (z05 p4_0 0)] [(1,some (p1_0,.box 123 [.val q1_0])),(2,some (q1_0,.map aZ z09 c1_0)),(3,some (p2_0,.box 125 [.val q2_0])),(4,some (q2_0,.list z08 4 c2_0)),(5,some (p3_0,.box 27 [.rd z01 c3_0])),(6,some (p4_0,.box 173 [.val (.func (.func 125) #[] #[z05 p1_0 0,z05 p2_0 0,z05 p3_0 0,z05 p4_0 0])]))] (z28 1000 a0 c1_0 c2_0 c3_0) (fun r nv=>⟨[],[(1,some (p1_0,.box 123 [.val q1_0])),(2,some (q1_0,.map aZ z09 c1_0)),(3,some (p2_0,.box 125 [.val q2_0])),(4,some (q2_0,.list z08 4 r)),(5,some (p3_0,.box 27 [.rd z01 c3_0])),(6,some (p4_0,.box 173 [.val (.func (.func 125) #[] #[z05 p1_0 0,z05 p2_0 0,z05 p3_0 0,z05 p4_0 0])]))]⟩):=za5 1000 a0 p1_0 q1_0 c1_0 p2_0 q2_0 c2_0 p3_0 c3_0 p4_0
def z7i (a0:z00) (a1:List V3) (r2:(List (V3 × Int))) (s11:(List Bool) × Int):Option (Sum ((List Bool)) ((List Bool) × Int)) :=
 if decide (s11.2<(a1.length:Int)) then
  idx a1 s11.2 >>= fun x13 =>
  (z28 1000) x13 r2 s11.1 a0 >>= fun r16 =>
  some (.inr (r16,w64 (s11.2+1)))
 else
  some (.inl s11.1)
def z84 (a0:z00) (a1:List V3):Option ((List Bool)) :=
 z8r a0 >>= fun r2 =>
 mkn 1 false (a0.IDs.length:Int) >>= fun x5 =>
 (iter (z7i a0 a1 r2) (x5,0)) >>= fun s10 =>
 some s10
theorem zgn (a0:z00) (a1:List V3):z1y Tryz.prog 87 [.rd z01 a0,.rd (z03 aZ) a1] [] (z84 a0 a1) (fun r nv=>⟨[.val (nv 0)],[(100,some (nv 0,.list z08 4 r))]⟩):=by
 refine z2l 28 Tryz.func87 Z Z Z fun H w=>?_
 refine gSR<|Eb Z (bx 1 Z) fun v1=>Zb Z<|gSR<|Zq (ld 1 Z Z fH zbn Z)<|Zc [] [(100,2)] Tryz.func74 Z (zg1 _) fun r2 n3=>Eb Z (z9b 3 zyg (.val Z)) fun v4=>Es (stoE 3 Z Z (.here z7z) Z zdl z7z zyg)<|Zn<|gSR<|Zq (faB 1 Z Z Tryz.underlying27 Z (by exact zby))<|Zq (ld 1 Z Z (fP (z0f _)) zb1 Z)<|Zq (z3q Z .rd Z tu24)<|z0g fun x5 h6=>Ef Z (mks (R:=z08) 4 Z Z h6 Tryz.underlying125 ti4 Zr.bool Z) fun v7=>Eb Z (z9b 5 zzw (.val Z)) fun v8=>Es (stoE 5 Z Z (.here z7z) Z zdl z7z zzw)<|Zn<|gSR<|Eb Z (z9b 6 zzf (.val Z)) fun v9=>Zn<|gSR<|Zq (mkf mp0 (mp4 Z Z Z Z))<|Es (stoE 6 Z Z (.here z7z) Z zdl z7z zzf)<|Zn<|z6t (fun (s10:(List Bool)) aa ww=>Sta (ctx 28 H [] w) [(6,.val (z05 v8 0))] [(4,some (v7,.list z08 4 s10)),(5,some (v8,.box 125 [.val v7]))] aa ww) ?_ (fun s10=>?_)
 ·
  refine gSR<|Zm Z<|Zq (z3q Z .rd Z tu24)<|Zm Z<|Zn<|z1q (fun (s11:(List Bool) × Int) aa ww=>Sta (ctx 28 H [] w) [(6,.val (z05 v8 0)),(7,.val (z05 v9 0)),(17,.rd (z03 aZ) a1),(18,.rd z09 (a1.length:Int)),(19,.rd z09 s11.2)] [(4,some (v7,.list z08 4 s11.1)),(5,some (v8,.box 125 [.val v7])),(6,some (v9,.box 173 [.val (.func (.func 125) #[] #[z05 v4 0,z05 v8 0,z05 v1 0,z05 v9 0])])),(2,some ((n3 0),.map aZ z09 r2)),(3,some (v4,.box 123 [.val (n3 0)])),(1,some (v1,.box 27 [.rd z01 a0]))] aa ww) (fun aa ww h=>Zu h [4,5,6,2,3,1]) (fun s11=>?_)
  refine gSR<|Zq (I.lss Z Z)<|Zn<|z0m<|gIf Z Z (fun h12=>?_) (fun h12=>?_)
  ·
   refine Zt<|z0m<|z4s<|gSR<|z0g fun x13 h14=>Zq (ixR Z Z h14 tu24 z3j Z)<|Zq (ldR Z z6z)<|Eb Z (z9b 7 z3j (.zr (R:=aZ) (x:=(Vector.replicate 32 0)) zje)) fun v15=>Es (sto 7 Z Z fH Z z3j)<|Zn<|z1o<|Zq (ldV 6 Z Z .here zye Z)<|Zq (ld 7 Z Z fH z6z Z)<|znh [3,2,5,4,1,6] [(1,3),(2,2),(3,5),(4,4),(5,1),(6,6)] (gd0 Z) Z Z Tryz.func125 Z Z (zem _ _ _ _ _ _ _ _ _ _) (Y1 Z) (cQ 3 Z<|cQ 5 Z<|cQ 1 Z<|cQ 6 Z<|cN) (Zi Z<|Zi Z<|Zi Z<|Zi Z<|Zi Z<|Zi Z<|rN) fun r16 n17=>z1f<|z2n<|z0e<|z1o<|Zq (I.add Z Z)<|Zm Z<|z1f<|z14 (fun aa ww h=>Zu h [4,5,6,2,3,1])
  ·
   refine z1d<|z0p<|z0s<|z37 (fun aa ww h=>Zu h [4,5])
 ·
  refine gSR<|Zq (ldV 5 Z Z .here zxu Z)<|Zb Z<|z0j<|Ze [v7] [4] Z
def z6s (a0:z00) (a1:V3):Option ((List V3) × Int) :=
 zaf a0 a1 >>= fun r3 =>
 if r3.2 != 0 then
  some ([],r3.2)
 else
  idx a0.Ops r3.1 >>= fun x6 =>
  z84 a0 x6.Preds >>= fun r8 =>
  z70 a0 r8 >>= fun r10 =>
  some (r10,0)
theorem zd7 (a0:z00) (a1:V3):z1y Tryz.prog 97 [.rd z01 a0,.rd aZ a1] [zG1] (z6s a0 a1) (fun r nv=>⟨[.val (nv 0),.rd z09 r.2],[(1001,some (.bool true,.glob 1 (z3i 64 z0o) z7v)),(100,some (nv 0,.list aZ 78 r.1))]⟩):=by
 refine z2l 27 Tryz.func97 Z Z Z fun H w=>?_
 refine gSR<|Eb Z (bx 1 Z) fun v1=>Eb Z (bx 2 Z) fun v2=>Za Z<|Zb Z<|gSR<|Zq (ld 1 Z Z fH zbn Z)<|Zq (ld 2 Z Z fH z6z Z)<|Zc [1001] [] Tryz.func139 Z (zh6 _ _) fun r3 n4=>Zm Z<|Zq (ext Z Z)<|Zq (ext Z Z)<|Za Z<|Zb Z<|z0m<|gSR<|Zm Z<|Zq (I.neq Z Z)<|Zj Z (fun h5=>?_) (fun h5=>?_)
 ·
  refine gSR<|Zm Z<|Za Z<|Zb Z<|z0j<|z0v<|zkt aZ 78 3<|Ze [(.slice none 0 0)] [1001,3] Z
 ·
  refine Zt<|z0m<|z6p [28,31] mixed Z Z<|hTk 0 Z Z (ld 1 Z Z fH zbn Z)<|hTk 1 Z Z (ld 1 Z Z fH zbn Z)<|hTk 2 Z Z (faB 1 Z Z Tryz.underlying27 Z (by exact zbk))<|hTk 3 Z Z (ld 1 Z Z (fP (z04 _)) zbh Z)<|hTk 4 Z Z (mv Z)<|z36 fun x6 h7=>hTk 5 Z Z (ixR Z Z h7 tu25 zdg Z)<|hTk 6 Z Z (faR Z (z19 _) Tryz.underlying72 Z Z (by exact zby))<|hTk 7 Z Z (ldR Z zb1)<|z3c 8 [] [(100,28)] Z (by kernel_rfl) Z (gd0 Z) Z Tryz.func87 Z Z (zgn _ _) (Y2 Z Z) rN Z (fun _ _=>z2f) fun r8 n9=>zqr 28 [25] Z (fS Z<|fN)<|z3c 9 [] [(100,31)] Z (by kernel_rfl) Z (gd0 Z) Z Tryz.func75 Z Z (zf1 _ _) (Y2 Z Z) rN Z (fun _ _=>z2f) fun r10 n11=>Zf 10 Z Z z2f (asg Z)<|hTk 11 Z Z (asg Z)<|z3l (by kernel_rfl)<|z0e<|z0j<|Ze [(n11 0)] [1001,31] Z
def z4x (a0:z12):Option (Bool) :=
 if decide (20<(a0.Preds.length:Int)) then
  some true
 else
  if decide (100<(a0.Act.Key.length:Int)) then
   some true
  else
   some (decide (100<(a0.Act.Value.Text.length:Int))) >>= fun y4 =>
   some y4
theorem zeq (a0:z12):z1y Tryz.prog 32 [.rd z0z a0] [] (z4x a0) (fun r nv=>⟨[.rd z08 r],[]⟩):=by
 refine z2l 22 Tryz.func32 Z Z Z fun H w=>?_
 refine gSR<|Eb Z (bx 1 Z) fun v1=>Zb Z<|gSR<|Zq (faB 1 Z Z Tryz.underlying72 Z (by exact zby))<|Zq (ld 1 Z Z (fP (z19 _)) zb1 Z)<|Zq (z3q Z .rd Z tu24)<|Zq (I.gtr Z Z)<|Zm Z<|z21 7 Z (fun h2=>?_) (fun h2=>?_)
 ·
  refine lKn 6 Z h2<|Zk Z<|Zk Z<|Zk Z<|Zk Z<|Zk Z<|Zq (pkT Z Z)<|Zm Z<|Zk Z<|Zk Z<|Zk Z<|Zk Z<|Zk Z<|Zk Z<|Zq (pkT Z Z)<|Zb Z<|z0j<|Ze [] [] Z
 ·
  refine lKn 6 Z h2<|z1c Zx Z Z (faB 1 Z Z Tryz.underlying72 Z (by exact ze6))<|z1c Zx Z Z (faB 1 Z Z Tryz.underlying64 Z (by exact ti9))<|z1c Zx Z Z (ld 1 Z Z ((fP (z0n _)).part (z1l _)) ty9 Z)<|z1c Zx Z Z (zsy Z Z tu9)<|z1c Zx Z Z (I.gtr Z Z)<|Zq (pkF Z Z)<|Zm Z<|z21 14 Z (fun h3=>?_) (fun h3=>?_)
  ·
   refine lKn 12 Z h3<|lKn 13 Z h3<|Zk Z<|Zk Z<|Zk Z<|Zk Z<|Zk Z<|Zk Z<|Zq (pkT Z Z)<|Zb Z<|z0j<|Ze [] [] Z
  ·
   refine lKn 12 Z h3<|lKn 13 Z h3<|z1c Zx Z Z (faB 1 Z Z Tryz.underlying72 Z (by exact ze6))<|z1c Zx Z Z (faB 1 Z Z Tryz.underlying64 Z (by exact z9k))<|z1c Zx Z Z (faB 1 Z Z Tryz.underlying54 Z (by exact ti9))<|z1c Zx Z Z (ld 1 Z Z (((fP (z0n _)).part (z2v _)).part (z2m _)) ty9 Z)<|z1c Zx Z Z (zsy Z Z tu9)<|z1c Zx Z Z (I.gtr Z Z)<|Zq (pkF Z Z)<|Za Z<|z1e 2 Z fun y4=>Zn<|z0j<|Ze [] [] Z
def z3m (a0:z00) (s3:Int):Option (Sum (Sum Bool Unit) Int) :=
 if decide (s3<(a0.Ops.length:Int)) then
  if decide (s3≤70) then
   idx a0.Ops s3 >>= fun x6 =>
   z4x x6 >>= fun r8 =>
   if r8 then
    some (.inl (.inl true))
   else
    some (.inr (w64 (s3+1)))
  else
   some (.inl (.inr ()))
 else
  some (.inl (.inr ()))
def z8a (a0:z00):Option (Bool) :=
 z6w (iter (z3m a0) 0) fun s2 =>
 if decide (16<(a0.Ops.length:Int)) then
  if decide ((a0.Ops.length:Int)≤60) then
   some true
  else
   if decide (70<(a0.Ops.length:Int)) then
    some true
   else
    some (decide (70<(a0.IDs.length:Int))) >>= fun y14 =>
    some y14
 else
  if decide (70<(a0.Ops.length:Int)) then
   some true
  else
   some (decide (70<(a0.IDs.length:Int))) >>= fun y16 =>
   some y16
theorem zes (a0:z00):z1y Tryz.prog 45 [.rd z01 a0] [] (z8a a0) (fun r nv=>⟨[.rd z08 r],[]⟩):=by
 refine z2l 43 Tryz.func45 Z Z Z fun H w=>?_
 refine gSR<|Eb Z (bx 1 Z) fun v1=>Zb Z<|z8j (fun (s2:Unit) aa ww=>Sta (ctx 43 H [] w) [(1,.val (z05 v1 0))] [(1,some (v1,.box 27 [.rd z01 a0]))] aa ww) ?_ (fun s2=>?_)
 ·
  refine gSR<|Zb Z<|z1q (fun (s3:Int) aa ww=>Sta (ctx 43 H [] w) [(1,.val (z05 v1 0)),(3,.rd z09 s3)] [(1,some (v1,.box 27 [.rd z01 a0]))] aa ww) (fun aa ww h=>Zu h [1]) (fun s3=>?_)
  refine z0m<|gSR<|Zm Z<|Zq (faB 1 Z Z Tryz.underlying27 Z (by exact zbk))<|Zq (ld 1 Z Z (fP (z04 _)) zbh Z)<|Zq (z3q Z .rd Z tu25)<|Zq (I.lss Z Z)<|Zm Z<|z21 9 Z (fun h4=>?_) (fun h4=>?_)
  ·
   refine lKn 8 Z h4<|z1c Zx Z Z (mv Z)<|z1c Zx Z Z (I.leq Z Z)<|Zq (pkT Z Z)<|Zj Z (fun h5=>?_) (fun h5=>?_)
   ·
    refine gKn 11 Z h5<|Zt<|z0m<|z4s<|gSR<|Zq (faB 1 Z Z Tryz.underlying27 Z (by exact zbk))<|Zq (ld 1 Z Z (fP (z04 _)) zbh Z)<|Zm Z<|z0g fun x6 h7=>Zq (ixR Z Z h7 tu25 zdg Z)<|Zq (ldR Z ziu)<|Zc [] [] Tryz.func32 Z (zeq _) fun r8 n9=>Zj Z (fun h10=>?_) (fun h10=>?_)
    ·
     refine gSR<|Zb Z<|z0j<|z4h<|z0v<|z7x<|z6y<|Ze [] [] Z
    ·
     refine z2b<|z2n<|z0e<|z1o<|Zm Z<|Zq (I.add Z Z)<|Za Z<|z1f<|z14 (fun aa ww h=>Zu h [1])
   ·
    refine gKn 11 Z h5<|z1d<|z0p<|z0s<|z6n (fun aa ww h=>Zu h [1])
  ·
   refine lKn 8 Z h4<|Zk Z<|Zk Z<|Zq (pkF Z Z)<|Zn<|z9o Z<|z1d<|z0p<|z0s<|z6n (fun aa ww h=>Zu h [1])
 ·
  refine gSR<|Zq (faB 1 Z Z Tryz.underlying27 Z (by exact zbk))<|Zq (ld 1 Z Z (fP (z04 _)) zbh Z)<|Zq (z3q Z .rd Z tu25)<|Zq (I.gtr Z Z)<|Zm Z<|z21 25 Z (fun h11=>?_) (fun h11=>?_)
  ·
   refine lKn 24 Z h11<|z1c Zx Z Z (faB 1 Z Z Tryz.underlying27 Z (by exact zbk))<|z1c Zx Z Z (ld 1 Z Z (fP (z04 _)) zbh Z)<|z1c Zx Z Z (z3q Z .rd Z tu25)<|z1c Zx Z Z (I.leq Z Z)<|Zq (pkT Z Z)<|Zm Z<|z21 31 Z (fun h12=>?_) (fun h12=>?_)
   ·
    refine lKn 29 Z h12<|lKn 30 Z h12<|Zk Z<|Zk Z<|Zk Z<|Zk Z<|Zq (pkT Z Z)<|Zm Z<|Zk Z<|Zk Z<|Zk Z<|Zk Z<|Zq (pkT Z Z)<|Zb Z<|z0j<|Ze [] [] Z
   ·
    refine lKn 29 Z h12<|lKn 30 Z h12<|z1c Zx Z Z (faB 1 Z Z Tryz.underlying27 Z (by exact zbk))<|z1c Zx Z Z (ld 1 Z Z (fP (z04 _)) zbh Z)<|z1c Zx Z Z (z3q Z .rd Z tu25)<|z1c Zx Z Z (I.gtr Z Z)<|Zq (pkF Z Z)<|Zm Z<|z21 37 Z (fun h13=>?_) (fun h13=>?_)
    ·
     refine lKn 35 Z h13<|lKn 36 Z h13<|Zk Z<|Zk Z<|Zk Z<|Zk Z<|Zq (pkT Z Z)<|Zb Z<|z0j<|Ze [] [] Z
    ·
     refine lKn 35 Z h13<|lKn 36 Z h13<|z1c Zx Z Z (faB 1 Z Z Tryz.underlying27 Z (by exact zby))<|z1c Zx Z Z (ld 1 Z Z (fP (z0f _)) zb1 Z)<|z1c Zx Z Z (z3q Z .rd Z tu24)<|z1c Zx Z Z (I.gtr Z Z)<|Zq (pkF Z Z)<|Za Z<|z1e 2 Z fun y14=>Zn<|z0j<|Ze [] [] Z
  ·
   refine lKn 24 Z h11<|Zk Z<|Zk Z<|Zk Z<|Zk Z<|Zq (pkF Z Z)<|Zm Z<|z1c Zx Z Z (faB 1 Z Z Tryz.underlying27 Z (by exact zbk))<|z1c Zx Z Z (ld 1 Z Z (fP (z04 _)) zbh Z)<|z1c Zx Z Z (z3q Z .rd Z tu25)<|z1c Zx Z Z (I.gtr Z Z)<|Zq (pkF Z Z)<|Zm Z<|z21 37 Z (fun h15=>?_) (fun h15=>?_)
   ·
    refine lKn 35 Z h15<|lKn 36 Z h15<|Zk Z<|Zk Z<|Zk Z<|Zk Z<|Zq (pkT Z Z)<|Zb Z<|z0j<|Ze [] [] Z
   ·
    refine lKn 35 Z h15<|lKn 36 Z h15<|z1c Zx Z Z (faB 1 Z Z Tryz.underlying27 Z (by exact zby))<|z1c Zx Z Z (ld 1 Z Z (fP (z0f _)) zb1 Z)<|z1c Zx Z Z (z3q Z .rd Z tu24)<|z1c Zx Z Z (I.gtr Z Z)<|Zq (pkF Z Z)<|Za Z<|z1e 2 Z fun y16=>Zn<|z0j<|Ze [] [] Z
def z3g (a0:List V3) (s2:(List V3) × Int) (s6:Int):Option (Sum Int Int) :=
 if decide (s6<(s2.1.length:Int)) then
  idx s2.1 s6 >>= fun x8 =>
  idx a0 s2.2 >>= fun x10 =>
  z6m x8 x10 >>= fun r12 =>
  if decide (r12<0) then
   some (.inr (w64 (s6+1)))
  else
   some (.inl s6)
 else
  some (.inl s6)
def z41 (a0:List V3) (s2:(List V3) × Int):Option (Sum ((List V3)) ((List V3) × Int)) :=
 if decide (s2.2<(a0.length:Int)) then
  (iter (z3g a0 s2) 0) >>= fun s5 =>
  (if s5==(s2.1.length:Int) then
   some true
  else
   idx s2.1 s5 >>= fun x17 =>
   idx a0 s2.2 >>= fun x19 =>
   some (!decide (x17=x19))) >>= fun s15 =>
  if s15 then
   cut s2.1 0 s5 >>= fun x22 =>
   idx a0 s2.2 >>= fun x24 =>
   cut s2.1 s5 (s2.1.length:Int) >>= fun x26 =>
   app 32 ([]:List V3) x22 >>= fun x29 =>
   app 32 x29 [x24] >>= fun x33 =>
   app 32 x33 x26 >>= fun x36 =>
   some (w64 (s2.2+1)) >>= fun y39 =>
   some (.inr (x36,y39))
  else
   some (w64 (s2.2+1)) >>= fun y63 =>
   some (.inr (s2.1,y63))
 else
  some (.inl s2.1)
def z7p (a0:List V3):Option ((List V3)) :=
 (iter (z41 a0) ([],0)) >>= fun s1 =>
 some s1
def z6d (a0:z00) (a1:V3):Option ((List V3)) :=
 z4d a0.IDs a1 >>= fun r3 =>
 idx a0.Ops r3 >>= fun x5 =>
 some x5.Preds
theorem zaq (a0:z00) (a1:V3):z1y Tryz.prog 181 [.rd z01 a0,.rd aZ a1] [] (z6d a0 a1) (fun r nv=>⟨[.rd (z03 aZ) r],[]⟩):=by
 refine z2l 14 Tryz.func181 Z Z Z fun H w=>?_
 refine gSR<|Eb Z (bx 1 Z) fun v1=>Eb Z (bx 2 Z) fun v2=>Zb Z<|z0m<|z6p [] mixed Z Z<|hTk 0 Z Z (faB 1 Z Z Tryz.underlying27 Z (by exact zbk))<|hTk 1 Z Z (ld 1 Z Z (fP (z04 _)) zbh Z)<|hTk 2 Z Z (faB 1 Z Z Tryz.underlying27 Z (by exact zby))<|hTk 3 Z Z (ld 1 Z Z (fP (z0f _)) zb1 Z)<|hTk 4 Z Z (ld 2 Z Z fH z6z Z)<|z3c 5 [] [] Z (by kernel_rfl) Z (gd0 Z) Z Tryz.func39 Z Z (za2 _ _) (Y2 Z Z) rN Z (fun _ _=>z2j) fun r3 n4=>z36 fun x5 h6=>hTk 6 Z Z (ixR Z Z h6 tu25 zdg Z)<|hTk 7 Z Z (faR Z (z19 _) Tryz.underlying72 Z Z (by exact zby))<|hTk 8 Z Z (ldR Z zb1)<|hTk 9 Z Z (asg Z)<|z3l (by kernel_rfl)<|z0e<|z0j<|Ze [] [] Z
theorem zc0 (a0:List V3) (q0:Value) (l0:List V3):z1y Tryz.prog 93 [.vw aZ q0 l0 a0] [(1,some (q0,.list aZ 78 l0))] (z7p a0) (fun r nv=>⟨[.val (nv 0)],[(1,some (q0,.list aZ 78 l0)),(100,some (nv 0,.list aZ 78 r))]⟩):=by
 refine z2l 61 Tryz.func93 Z Z Z fun H w=>?_
 refine gSR<|Zb Z<|gSR<|Zb Z<|z6t (fun (s1:(List V3)) aa ww=>∃ nv:Nat→Value,Sta (ctx 61 H [(1,some (q0,.list aZ 78 l0))] w) [(3,.val (nv 0))] [(54,some ((nv 0),.list aZ 78 s1)),(1,some (q0,.list aZ 78 l0))] aa ww) ?_ (fun s1=>?_)
 ·
  refine gSR<|Zb Z<|zs7 aZ 78 108<|z1q (fun (s2:(List V3) × Int) aa ww=>∃ nv:Nat→Value,Sta (ctx 61 H [(1,some (q0,.list aZ 78 l0))] w) [(0,.vw aZ q0 l0 a0),(3,.val (nv 0)),(4,.rd z09 s2.2)] [(1,some (q0,.list aZ 78 l0)),(107,some ((nv 0),.list aZ 78 s2.1))] aa ww) (fun aa ww h=>⟨nvl [(.slice none 0 0)],Zu h [1,108]⟩) (fun s2=>?_)
  refine gEx fun n3=>z0m<|gSR<|Zm Z<|Zm Z<|Zq (z3q Z (.vw 1 Z) Z tu24)<|Zq (I.lss Z Z)<|Zj Z (fun h4=>?_) (fun h4=>?_)
  ·
   refine Zt<|z0m<|z4s<|gSR<|Zb Z<|z6t (fun (s5:Int) aa ww=>Sta (ctx 61 H [(1,some (q0,.list aZ 78 l0))] w) [(0,.vw aZ q0 l0 a0),(3,.val (n3 0)),(4,.rd z09 s2.2),(5,.rd z09 s5)] [(1,some (q0,.list aZ 78 l0)),(107,some ((n3 0),.list aZ 78 s2.1))] aa ww) ?_ (fun s5=>?_)
   ·
    refine z1q (fun (s6:Int) aa ww=>Sta (ctx 61 H [(1,some (q0,.list aZ 78 l0))] w) [(0,.vw aZ q0 l0 a0),(3,.val (n3 0)),(4,.rd z09 s2.2),(5,.rd z09 s6)] [(1,some (q0,.list aZ 78 l0)),(107,some ((n3 0),.list aZ 78 s2.1))] aa ww) (fun aa ww h=>Zu h [1,107]) (fun s6=>?_)
    refine z0m<|z0m<|z6p [] mixed Z Z<|hTk 0 Z Z (mv Z)<|hTk 1 Z Z (mv Z)<|hTk 2 Z Z (z3q Z (.own 107 Z) Z tu24)<|hTk 3 Z Z (I.lss Z Z)<|hTk 4 Z Z (mv Z)<|hIf 16 Z Z (fun h7=>?_) (fun h7=>?_)
    ·
     refine hKn 15 Z Z h7<|Zg 5 Z Z (mv Z)<|Zg 6 Z Z (mv Z)<|z36 fun x8 h9=>Zg 7 Z Z (ixO 107 Z Z Z h9 tu24 z3j)<|Zg 8 Z Z (ld 107 Z Z (Foc.el h9) z6z Z)<|Zg 9 Z Z (mv Z)<|Zg 10 Z Z (mv Z)<|z36 fun x10 h11=>Zg 11 Z Z (ixQ 1 Z Z Z h11 tu24 z3j)<|Zg 12 Z Z (ldQ 1 Z Z z6z Z)<|z3c 13 [] [] Z (by kernel_rfl) Z Zx Z Tryz.func85 Z Z (zbr _ _) (Y2 Z Z) rN Z (fun _ _=>z2j) fun r12 n13=>Zg 14 Z Z (I.lss Z Z)<|hTk 15 Z Z (pkT Z Z)<|z3l (by kernel_rfl)<|z0e<|gIf Z Z (fun h14=>?_) (fun h14=>?_)
     ·
      refine gKn 26 Z h14<|Zt<|z4s<|z1o<|Zm Z<|Zq (I.add Z Z)<|Za Z<|z1f<|z2n<|z14 (fun aa ww h=>Zu h [1,107])
     ·
      refine gKn 26 Z h14<|z1d<|z0p<|z0s<|z37 (fun aa ww h=>Zu h [1,107])
    ·
     refine hKn 15 Z Z h7<|hSk 5 Z Z<|hSk 6 Z Z<|hSk 7 Z Z<|hSk 8 Z Z<|hSk 9 Z Z<|hSk 10 Z Z<|hSk 11 Z Z<|hSk 12 Z Z<|hSk 13 Z Z<|hSk 14 Z Z<|hTk 15 Z Z (pkF Z Z)<|z3l (by kernel_rfl)<|z0e<|z9o Z<|z1d<|z0p<|z0s<|z37 (fun aa ww h=>Zu h [1,107])
   ·
    refine z6t (fun (s15:Bool) aa ww=>Sta (ctx 61 H [(1,some (q0,.list aZ 78 l0))] w) [(0,.vw aZ q0 l0 a0),(3,.val (n3 0)),(4,.rd z09 s2.2),(5,.rd z09 s5),(44,.rd z08 s15)] [(1,some (q0,.list aZ 78 l0)),(107,some ((n3 0),.list aZ 78 s2.1))] aa ww) ?_ (fun s15=>?_)
    ·
     refine zdz mixed (by kernel_rfl)<|Rq Z (mv Z)<|Rq Z (mv Z)<|Rq Z (z3q Z (.own 107 Z) Z tu24)<|Rq Z (I.eql Z Z)<|Rq Z (mv Z)<|zvc 34 Z (fun h16=>?_) (fun h16=>?_)
     ·
      refine qKn 33 Z h16<|zb2 Zx Z Z<|zb2 Zx Z Z<|zb2 Zx Z Z<|zb2 Zx Z Z<|zb2 Zx Z Z<|zb2 Zx Z Z<|zb2 Zx Z Z<|zb2 Zx Z Z<|zb2 Zx Z Z<|Rq Z (pkT Z Z)<|zks<|z37 (fun aa ww h=>Zu h [1,107])
     ·
      refine qKn 33 Z h16<|zi4 Zx Z Z (mv Z)<|zi4 Zx Z Z (mv Z)<|z55 fun x17 h18=>zi4 Zx Z Z (ixO 107 Z Z Z h18 tu24 z3j)<|zi4 Zx Z Z (ld 107 Z Z (Foc.el h18) z6z Z)<|zi4 Zx Z Z (mv Z)<|zi4 Zx Z Z (mv Z)<|z55 fun x19 h20=>zi4 Zx Z Z (ixQ 1 Z Z Z h20 tu24 z3j)<|zi4 Zx Z Z (ldQ 1 Z Z z6z Z)<|zi4 Zx Z Z (neA Z Z zx0 Z Z zx2)<|Rq Z (pkF Z Z)<|zks<|z37 (fun aa ww h=>Zu h [1,107])
    ·
     refine gIf Z Z (fun h21=>?_) (fun h21=>?_)
     ·
      refine z6p [160,187] mixed Z Z<|hTk 1 Z Z (mv Z)<|hTk 2 Z Z (mv Z)<|zqr 107 [3,46] Z (fS Z<|fS Z<|fN)<|z36 fun x22 h23=>zqy 3 Z (by kernel_rfl) (by kernel_rfl) (by kernel_rfl) (gd0 Z) Z Z (zwo Z .no (.to Z) h23 tu24 z3j)<|hTk 5 Z Z (mv Z)<|hTk 6 Z Z (mv Z)<|z36 fun x24 h25=>hTk 7 Z Z (ixQ 1 Z Z Z h25 tu24 z3j)<|hTk 8 Z Z (ldQ 1 Z Z z6z Z)<|zqy 11 Z (by kernel_rfl) (by kernel_rfl) (by kernel_rfl) (gd0 Z) Z Z (mv Z)<|hTk 12 Z Z (mv Z)<|z36 fun x26 h27=>zqy 13 Z (by kernel_rfl) (by kernel_rfl) (by kernel_rfl) (gd0 Z) Z Z (zwo Z (.to Z) .no h27 tu24 z3j)<|hAlt [0,9] (by kernel_rfl) Z ⟨?_,?_,trivial⟩
      ·
       refine oDo 0 Z (gd0 Z) Z Z Z (lit (R:=aZ) (([]:List V3):List V3) 160 (pN) Z tu24 z3j Z Z) (fun _=>rfl) fun v28=>hAlt [4,9] (by kernel_rfl) Z ⟨?_,?_,trivial⟩
       ·
        refine z10b fun x29 h30=>oDo 4 Z (gd0 Z) Z Z Z (apn 160 Z Z Z .rd h30 tu24 z3j Z Z Z) (fun _=>rfl) fun v31=>Zo 9 Z Z Z (lit (R:=aZ) ([x24]:List V3) 187 (pP Z Z<|pN) Z tu24 z3j Z Z) fun v32=>zqr 187 [54] Z (fS Z<|fN)<|z36 fun x33 h34=>Zo 10 Z Z Z (apn 160 Z Z Z .rd h34 tu24 z3j Z Z Z) fun v35=>z36 fun x36 h37=>Zo 14 Z Z Z (apn 160 Z Z Z .rd h37 tu24 z3j Z Z Z) fun v38=>Zf 15 Z Z z2f (asg Z)<|z3l (by kernel_rfl)<|z2n<|z0e<|z1o<|Zm Z<|Zq (I.add Z Z)<|Za Z<|z1e 4 Z fun y39=>z1f<|z14 (fun aa ww h=>⟨nvl [v38],Zu h [1,160]⟩)
       ·
        refine oDo 9 Z (gd0 Z) Z Z Z (lit (R:=aZ) ([x24]:List V3) 187 (pP Z Z<|pN) Z tu24 z3j Z Z) (fun _=>rfl) fun v40=>z36 fun x41 h42=>Zo 4 Z Z Z (apn 160 Z Z Z .rd h42 tu24 z3j Z Z Z) fun v43=>zqr 187 [54] Z (fS Z<|fN)<|z36 fun x44 h45=>Zo 10 Z Z Z (apn 160 Z Z Z .rd h45 tu24 z3j Z Z Z) fun v46=>z36 fun x47 h48=>Zo 14 Z Z Z (apn 160 Z Z Z .rd h48 tu24 z3j Z Z Z) fun v49=>Zf 15 Z Z z2f (asg Z)<|z3l (by kernel_rfl)<|z2n<|z0e<|z1o<|Zm Z<|Zq (I.add Z Z)<|Za Z<|z1e 4 Z fun y50=>z1f<|z14 (fun aa ww h=>⟨nvl [v49],Zu h [1,160]⟩)
      ·
       refine oDo 9 Z (gd0 Z) Z Z Z (lit (R:=aZ) ([x24]:List V3) 187 (pP Z Z<|pN) Z tu24 z3j Z Z) (fun _=>rfl) fun v51=>Zo 0 Z Z Z (lit (R:=aZ) (([]:List V3):List V3) 160 (pN) Z tu24 z3j Z Z) fun v52=>z36 fun x53 h54=>Zo 4 Z Z Z (apn 160 Z Z Z .rd h54 tu24 z3j Z Z Z) fun v55=>zqr 187 [54] Z (fS Z<|fN)<|z36 fun x56 h57=>Zo 10 Z Z Z (apn 160 Z Z Z .rd h57 tu24 z3j Z Z Z) fun v58=>z36 fun x59 h60=>Zo 14 Z Z Z (apn 160 Z Z Z .rd h60 tu24 z3j Z Z Z) fun v61=>Zf 15 Z Z z2f (asg Z)<|z3l (by kernel_rfl)<|z2n<|z0e<|z1o<|Zm Z<|Zq (I.add Z Z)<|Za Z<|z1e 4 Z fun y62=>z1f<|z14 (fun aa ww h=>⟨nvl [v61],Zu h [1,160]⟩)
     ·
      refine z2b<|z2n<|z0e<|z1o<|Zm Z<|Zq (I.add Z Z)<|Za Z<|z1e 4 Z fun y63=>z1f<|z14 (fun aa ww h=>⟨nvl [(n3 0)],Zu h [1,107]⟩)
  ·
   refine z1d<|z0p<|z0s<|z37 (fun aa ww h=>⟨nvl [(n3 0)],Zu h [107,1]⟩)
 ·
  refine gEx fun n64=>gSR<|Zm Z<|Zb Z<|z0j<|Ze [(n64 0)] [1,54] Z
def z43 (a0:z00) (s10:(List V3) × (List V3)):Option (Sum ((List V3)) ((List V3) × (List V3))) :=
 if decide (0<(s10.2.length:Int)) then
  idx s10.2 0 >>= fun x13 =>
  cut s10.2 1 (s10.2.length:Int) >>= fun x16 =>
  z4d s10.1 x13 >>= fun r19 =>
  if decide (r19<0) then
   app 32 s10.1 [x13] >>= fun x23 =>
   z6d a0 x13 >>= fun r26 =>
   app 32 x16 r26 >>= fun x28 =>
   some (.inr (x23,x28))
  else
   some (.inr (s10.1,x16))
 else
  some (.inl s10.1)
def z1t (a0:z00) (a1:V3):Option ((List V3)) :=
 z6d a0 a1 >>= fun r4 =>
 app 32 ([]:List V3) r4 >>= fun x6 =>
 (iter (z43 a0) ([],x6)) >>= fun s9 =>
 z7p s9 >>= fun r32 =>
 some r32
theorem zds (a0:z00) (a1:V3):z1y Tryz.prog 140 [.rd z01 a0,.rd aZ a1] [] (z1t a0 a1) (fun r nv=>⟨[.val (nv 0)],[(100,some (nv 0,.list aZ 78 r))]⟩):=by
 refine z2l 36 Tryz.func140 Z Z Z fun H w=>?_
 refine gSR<|Eb Z (bx 1 Z) fun v1=>Eb Z (bx 2 Z) fun v2=>Zb Z<|gSR<|Zb Z<|gSR<|Ef Z (lit (R:=aZ) (([]:List V3):List V3) 3 (pN) Z tu24 z3j Z Z) fun v3=>Zq (ld 1 Z Z fH zbn Z)<|Zq (ld 2 Z Z fH z6z Z)<|Zc [] [] Tryz.func181 Z (zaq _ _) fun r4 n5=>z0g fun x6 h7=>Ef Z (apn 3 Z Z Z .rd h7 tu24 z3j Z Z Z) fun v8=>Zb Z<|z6t (fun (s9:(List V3)) aa ww=>∃ nv:Nat→Value,Sta (ctx 36 H [] w) [(5,.val (nv 0))] [(6,some ((nv 0),.list aZ 78 s9))] aa ww) ?_ (fun s9=>?_)
 ·
  refine zs7 aZ 78 10<|gSeg 3 Z<|z1q (fun (s10:(List V3) × (List V3)) aa ww=>∃ nv:Nat→Value,Sta (ctx 36 H [] w) [(2,.val (z05 v1 0)),(5,.val (nv 0)),(6,.val (nv 1))] [(1,some (v1,.box 27 [.rd z01 a0])),(9,some ((nv 0),.list aZ 78 s10.1)),(3,some ((nv 1),.seg aZ 78 s10.2))] aa ww) (fun aa ww h=>⟨nvl [(.slice none 0 0),v8],Zu h [1,10,3]⟩) (fun s10=>?_)
  refine gEx fun n11=>z0m<|gSR<|Zm Z<|Zq (z3q Z (.seg 3 Z) Z tu24)<|Zq (I.gtr Z Z)<|Zj Z (fun h12=>?_) (fun h12=>?_)
  ·
   refine Zt<|z4s<|gSR<|Zm Z<|z0g fun x13 h14=>Zq (ixSg 3 Z Z Z h14 tu24 z3j)<|Zq (ldSg 3 Z Z z6z Z)<|Eb Z (z9b 11 z3j (.zr (R:=aZ) (x:=(Vector.replicate 32 0)) zje)) fun v15=>Es (sto 11 Z Z fH Z z3j)<|Zn<|gSR<|Zm Z<|z0g fun x16 h17=>Ef Z (cutS 3 Z Z Z h17 tu24 z3j) fun v18=>Zb Z<|gSR<|Zm Z<|Zq (ld 11 Z Z fH z6z Z)<|call [9] [(1,9)] Z Tryz.func39 Z Z (zaw _ _ _ _) (aW Z<|aQ Z<|aN) (y1 Z) fun r19 n20=>Zq (I.lss Z Z)<|Zj Z (fun h21=>?_) (fun h21=>?_)
   ·
    refine gSR<|Zm Z<|Zq (ld 11 Z Z fH z6z Z)<|Ef Z (lit (R:=aZ) ([x13]:List V3) 12 (pP Z Z<|pN) Z tu24 z3j Z Z) fun v22=>zh3 12 [27] Z (fS Z<|fN)<|z0g fun x23 h24=>Ef Z (apn 9 Z Z Z .rd h24 tu24 z3j Z Z Z) fun v25=>Zb Z<|z1o<|Zm Z<|Zq (ld 1 Z Z fH zbn Z)<|Zq (ld 11 Z Z fH z6z Z)<|Zc [] [] Tryz.func181 Z (zaq _ _) fun r26 n27=>z0g fun x28 h29=>Ef Z (apS 3 Z Z Z .rd h29 tu24 z3j Z Z Z) fun v30=>Za Z<|z1f<|z2n<|z14 (fun aa ww h=>⟨nvl [v25,v30],Zu h [1,9,3]⟩)
   ·
    refine z2b<|z2n<|z14 (fun aa ww h=>⟨nvl [(n11 0),v18],Zu h [1,9,3]⟩)
  ·
   refine z1d<|z0p<|z0s<|z37 (fun aa ww h=>⟨nvl [(n11 0)],Zu h [9]⟩)
 ·
  refine gEx fun n31=>gSR<|Zm Z<|call [6] [(100,13),(1,6)] Z Tryz.func93 Z Z (zc0 _ _ _) (aW Z<|aN) (y1 Z) fun r32 n33=>Zb Z<|z0j<|Ze [(n33 0)] [13] Z
end
end Go.Proofs.YthgpinfkodaefaaGreatDoor
