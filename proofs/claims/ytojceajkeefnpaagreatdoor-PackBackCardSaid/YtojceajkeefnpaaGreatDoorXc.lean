import Derived.Test.YtojceajkeefnpaaGreatDoorXb
set_option linter.unusedSimpArgs false
set_option linter.unusedVariables false
namespace Go.Proofs.YtojceajkeefnpaaGreatDoor
section
open Go Go.RowKit
set_option maxRecDepth 100000
theorem zbl (a1:Int):z2k Tryz.prog 151 [.val (.slice none 0 0),.rd z0i a1] [] (z2y a1) (fun r nv=>⟨[.val (nv 0)],[(100,some (nv 0,.list u8R 5 r))]⟩):=by
 refine z2x 27 Tryz.func151 Z Z Z fun H w=>?_
 refine gSR<|Zb Z<|z12<|gSR<|Zm Z<|Zq (I.lss Z Z)<|Zj Z (fun h1=>?_) (fun h1=>?_)
 ·refine z11e
 ·refine Zt<|z12<|gSR<|Zm Z<|Zm Z<|Zq (capN Z Z tu52)<|Zm Z<|zwc u8R 11 Z<|Zq (z4d Z .rd Z tu52)<|Zq (I.sub Z Z)<|Zq (I.sub Z Z)<|Za Z<|z26 1 Z fun y2=>Zn<|gSR<|Zm Z<|Zq (I.gtr Z Z)<|Zj Z (fun h3=>?_) (fun h3=>?_)
  ·refine z2n<|Zm Z<|Zm Z<|Zq (capN Z Z tu52)<|Zq (cutN Z Z tu52 ti5)<|Zm Z<|z0r fun x4 h5=>Ef Z (apZ 1 Z Z h5 tu52 tu3 ti5 (Zr.num Z) Z) fun v6=>Zm Z<|zwc u8R 23 Z<|Zq (z4d Z .rd Z tu52)<|z0r fun x7 h8=>Ef Z (cutO 1 Z Z Z h8 tu52 ti5) fun v9=>Zb Z<|gSR<|Zm Z<|Zb Z<|z0o<|Ze [v9] [1] Z
  ·refine Zt<|gSR<|Zm Z<|Zb Z<|z0o<|zj2 u8R 5 2<|Ze [(.slice none 0 0)] [2] Z
def z0m (a0:List (List UInt8)) (s2:Int × Int):Option (Sum Int (Int × Int)) :=
 if decide (s2.2<(a0.length:Int)) then
  idx a0 s2.2 >>= fun x4 =>
  some (w64 (s2.1+(x4.length:Int))) >>= fun y6 =>
  if decide (y6<0) then
   none
  else
   some (.inr (y6,w64 (s2.2+1)))
 else
  some (.inl s2.1)
def z0n (a0:List (List UInt8)) (s11:(List UInt8) × Int):Option (Sum ((List UInt8)) ((List UInt8) × Int)) :=
 if decide (s11.2<(a0.length:Int)) then
  idx a0 s11.2 >>= fun x14 =>
  app 1 s11.1 x14 >>= fun x16 =>
  some (.inr (x16,w64 (s11.2+1)))
 else
  some (.inl s11.1)
def z1p (a0:List (List UInt8)):Option ((List UInt8)) :=
 (iter (z0m a0) (0,0)) >>= fun s1 =>
 z2y s1 >>= fun r8 =>
 (iter (z0n a0) (r8,0)) >>= fun s10 =>
 some s10
theorem z4u (a0:List (List UInt8)):z2k Tryz.prog 108 [.rd (z03 (z03 u8R)) a0] [] (z1p a0) (fun r nv=>⟨[.val (nv 0)],[(100,some (nv 0,.list u8R 5 r))]⟩):=by
 refine z2x 36 Tryz.func108 Z Z Z fun H w=>?_
 refine gSR<|Zb Z<|gSR<|Zb Z<|z7r (fun (s1:Int) aa ww=>Sta (ctx 36 H [] w) [(0,.rd (z03 (z03 u8R)) a0),(3,.rd z0i s1)] [] aa ww) ?_ (fun s1=>?_)
 ·refine gSR<|Zm Z<|Zq (z4d Z .rd Z tu193)<|Zm Z<|Zn<|z2t (fun (s2:Int × Int) aa ww=>Sta (ctx 36 H [] w) [(0,.rd (z03 (z03 u8R)) a0),(3,.rd z0i s2.1),(9,.rd (z03 (z03 u8R)) a0),(10,.rd z0i (a0.length:Int)),(11,.rd z0i s2.2)] [] aa ww) (fun aa ww h=>Zu h []) (fun s2=>?_)
  refine gSR<|Zq (I.lss Z Z)<|Zn<|z12<|gIf Z Z (fun h3=>?_) (fun h3=>?_)
  ·refine Zt<|z12<|z6t<|gSR<|z0r fun x4 h5=>Zq (ixR Z Z h5 tu193 zbr Z)<|Zq (ldR Z zib)<|Zb Z<|gSR<|Zm Z<|Zm Z<|Zq (z4d Z .rd Z tu52)<|Zq (I.add Z Z)<|Za Z<|z26 3 Z fun y6=>Zn<|gSR<|Zm Z<|Zq (I.lss Z Z)<|Zj Z (fun h7=>?_) (fun h7=>?_)
   ·refine z11e
   ·refine z30<|z3w<|z0z<|z2n<|Zq (I.add Z Z)<|Zm Z<|z1z<|z2j (fun aa ww h=>Zu h [])
  ·refine z2s<|z1h<|z1g<|z3g (fun aa ww h=>Zu h [])
 ·refine gSR<|Zm Z<|Zc [] [(100,1)] Tryz.func151 Z (zbl _) fun r8 n9=>Zb Z<|z7r (fun (s10:(List UInt8)) aa ww=>∃ nv:Nat→Value,Sta (ctx 36 H [] w) [(6,.val (nv 0))] [(1,some ((nv 0),.list u8R 5 s10))] aa ww) ?_ (fun s10=>?_)
  ·refine gSR<|Zm Z<|Zq (z4d Z .rd Z tu193)<|Zm Z<|Zn<|z2t (fun (s11:(List UInt8) × Int) aa ww=>∃ nv:Nat→Value,Sta (ctx 36 H [] w) [(6,.val (nv 0)),(25,.rd (z03 (z03 u8R)) a0),(26,.rd z0i (a0.length:Int)),(27,.rd z0i s11.2)] [(1,some ((nv 0),.list u8R 5 s11.1))] aa ww) (fun aa ww h=>⟨nvl [(n9 0)],Zu h [1]⟩) (fun s11=>?_)
   refine gEx fun n12=>gSR<|Zq (I.lss Z Z)<|Zn<|z12<|gIf Z Z (fun h13=>?_) (fun h13=>?_)
   ·refine Zt<|z12<|z6t<|gSR<|z0r fun x14 h15=>Zq (ixR Z Z h15 tu193 zbr Z)<|Zq (ldR Z zib)<|Zb Z<|z2n<|Zm Z<|Zm Z<|z0r fun x16 h17=>Ef Z (apn 1 Z Z Z .rd h17 tu52 ti5 Z Z Z) fun v18=>Za Z<|z1z<|z3w<|z0z<|z2n<|Zq (I.add Z Z)<|Zm Z<|z1z<|z2j (fun aa ww h=>⟨nvl [v18],Zu h [1]⟩)
   ·refine z2s<|z1h<|z1g<|z3g (fun aa ww h=>⟨nvl [(n12 0)],Zu h [1]⟩)
  ·refine gEx fun n19=>gSR<|Zm Z<|Zb Z<|z0o<|Ze [(n19 0)] [1] Z
def z9c (a0:List UInt8):Option ((List UInt8) × Int) :=
 if decide (10000<(a0.length:Int)) then
  some ([],4)
 else
  z3n (UInt64.ofInt (a0.length:Int)) >>= fun r2 =>
  app 1 r2 a0 >>= fun x4 =>
  some (x4,0)
theorem zc2 (a0:List UInt8):z2k Tryz.prog 59 [.rd (z03 u8R) a0] [] (z9c a0) (fun r nv=>⟨[.val (nv 0),.rd z0i r.2],[(100,some (nv 0,.list u8R 5 r.1))]⟩):=by
 refine z2x 13 Tryz.func59 Z Z Z fun H w=>?_
 refine gSR<|Za Z<|Zb Z<|z12<|gSR<|Zm Z<|Zq (z4d Z .rd Z tu52)<|Zq (I.gtr Z Z)<|Zj Z (fun h1=>?_) (fun h1=>?_)
 ·refine gSR<|Za Z<|Zb Z<|z0o<|z10<|zj2 u8R 5 1<|Ze [(.slice none 0 0)] [1] Z
 ·refine Zt<|gSR<|Zm Z<|Zq (z4d Z .rd Z tu52)<|Zq (I.toU Z tu3 tu35)<|Zc [] [(100,2)] Tryz.func57 Z (z31 _) fun r2 n3=>Zm Z<|z0r fun x4 h5=>Ef Z (apn 2 Z Z Z .rd h5 tu52 ti5 Z Z Z) fun v6=>Za Z<|Zb Z<|z0o<|Ze [v6] [2] Z
def zby (a0:Int):Option ((List UInt8)) :=
 z3n ((zgm (UInt64.ofInt a0) 1) ^^^ (UInt64.ofInt (zy3 a0 63))) >>= fun r1 =>
 some r1
theorem zio (a0:Int):z2k Tryz.prog 193 [.rd z0i a0] [] (zby a0) (fun r nv=>⟨[.val (nv 0)],[(100,some (nv 0,.list u8R 5 r))]⟩):=by
 refine z2x 11 Tryz.func193 Z Z Z fun H w=>?_
 refine gSR<|Zb Z<|gSR<|Zm Z<|Zq (I.toU Z Tryz.underlying2 tu35)<|Zq (U.shl Z Z (Int.natCast_nonneg _))<|Zm Z<|Zq (I.shr Z Z (Int.natCast_nonneg _))<|Zq (I.toU Z Tryz.underlying2 tu35)<|Zq (U.xor Z Z)<|Zc [] [(100,1)] Tryz.func57 Z (z31 _) fun r1 n2=>Zb Z<|z0o<|Ze [(n2 0)] [1] Z
def z6x (a0:z00) (s14:(List UInt8) × Int):Option (Sum ((List UInt8)) ((List UInt8) × Int)) :=
 if decide (0≤s14.2) then
  chk (0≤s14.2) >>= fun u17 =>
  app 1 s14.1 [(z5k a0.Bits ((s14.2:Int).toNat)).toUInt8] >>= fun x20 =>
  some (w64 (s14.2 - 8)) >>= fun y23 =>
  some (.inr (x20,y23))
 else
  some (.inl s14.1)
def zb4 (a0:z00):Option ((List UInt8) × Int) :=
 z7b a0 >>= fun r2 =>
 if r2 != 0 then
  some ([],r2)
 else
  (if a0.Kind==1 then
   zby a0.Num >>= fun r8 =>
   app 1 [a0.Kind] r8 >>= fun x10 =>
   some x10
  else
   if a0.Kind==2 then
    iter (z6x a0) ([a0.Kind],56)
   else
    if a0.Kind==3 then
     chk (a0.Text.length≤281474976710656) >>= fun u25 =>
     z9c a0.Text >>= fun r27 =>
     app 1 [a0.Kind] r27.1 >>= fun x29 =>
     some x29
    else
     some [a0.Kind]) >>= fun s6 =>
  some (s6,0)
theorem zhs (a0:z00):z2k Tryz.prog 150 [.rd z0p a0] [] (zb4 a0) (fun r nv=>⟨[.val (nv 0),.rd z0i r.2],[(100,some (nv 0,.list u8R 5 r.1))]⟩):=by
 refine z2x 53 Tryz.func150 Z Z Z fun H w=>?_
 refine gSR<|Eb Z (bx 1 Z) fun v1=>Za Z<|Zb Z<|z12<|gSR<|Zq (ld 1 Z Z fH zik Z)<|Zc [] [] Tryz.func191 Z (zb6 _) fun r2 n3=>Zb Z<|gSR<|Zm Z<|Zq (I.neq Z Z)<|Zj Z (fun h4=>?_) (fun h4=>?_)
 ·refine gSR<|Zm Z<|Za Z<|Zb Z<|z0o<|z10<|zj2 u8R 5 2<|Ze [(.slice none 0 0)] [2] Z
 ·refine Zt<|gSR<|Zq (faB 1 Z Z Tryz.underlying37 Z (by exact ti5))<|Zq (ld 1 Z Z (fP (z1n _)) ty5 Z)<|Ef Z (lit (R:=u8R) ([a0.Kind]:List UInt8) 3 (pP Z Z<|pN) Z tu52 ti5 Z Z) fun v5=>Zb Z<|z7r (fun (s6:(List UInt8)) aa ww=>∃ nv:Nat→Value,Sta (ctx 53 H [] w) [(5,.val (nv 0))] [(3,some ((nv 0),.list u8R 5 s6))] aa ww) ?_ (fun s6=>?_)
  ·refine gSR<|Zq (faB 1 Z Z Tryz.underlying37 Z (by exact ti5))<|Zq (ld 1 Z Z (fP (z1n _)) ty5 Z)<|Zn<|z6t<|gSR<|Zq (B.eql Z Z)<|Zb Z<|gIf Z Z (fun h7=>?_) (fun h7=>?_)
   ·refine gKn 20 Z h7<|z2n<|Zm Z<|Zq (faB 1 Z Z Tryz.underlying37 Z (by exact ti2))<|Zq (ld 1 Z Z (fP (z44 _)) ty2 Z)<|Zc [] [(100,4)] Tryz.func193 Z (zio _) fun r8 n9=>z0r fun x10 h11=>Ef Z (apn 3 Z Z Z (.own 4 Z) h11 tu52 ti5 Z Z Z) fun v12=>Za Z<|z1z<|z3w<|z3g (fun aa ww h=>⟨nvl [v12],Zu h [3]⟩)
   ·refine gKn 20 Z h7<|gSR<|Zq (B.eql Z Z)<|Zb Z<|gIf Z Z (fun h13=>?_) (fun h13=>?_)
    ·refine gKn 27 Z h13<|gSR<|Zb Z<|z2t (fun (s14:(List UInt8) × Int) aa ww=>∃ nv:Nat→Value,Sta (ctx 53 H [] w) [(1,.val (z0f v1 0)),(5,.val (nv 0)),(6,.rd z0i s14.2)] [(1,some (v1,.box 37 [.rd z0p a0])),(3,some ((nv 0),.list u8R 5 s14.1))] aa ww) (fun aa ww h=>⟨nvl [v5],Zu h [1,3]⟩) (fun s14=>?_)
     refine gEx fun n15=>z12<|gSR<|Zm Z<|Zq (I.geq Z Z)<|Zj Z (fun h16=>?_) (fun h16=>?_)
     ·refine Zt<|z12<|z6t<|z2n<|Zm Z<|Zq (faB 1 Z Z Tryz.underlying37 Z (by exact zl5))<|Zq (ld 1 Z Z (fP (z2e _)) zng Z)<|Zm Z<|z0r fun u17 h18=>Zq (U.shr Z Z (z4p h18))<|Zq (U.toB Z tu35 tu5)<|Ef Z (lit (R:=u8R) ([(z5k a0.Bits ((s14.2:Int).toNat)).toUInt8]:List UInt8) 5 (pP Z Z<|pN) Z tu52 ti5 Z Z) fun v19=>z0r fun x20 h21=>Ef Z (apn 3 Z Z Z (.own 5 Z) h21 tu52 ti5 Z Z Z) fun v22=>Za Z<|z1z<|z3w<|z0z<|z2n<|Zm Z<|Zq (I.sub Z Z)<|Za Z<|z26 6 Z fun y23=>z1z<|z2j (fun aa ww h=>⟨nvl [v22],Zu h [1,3]⟩)
     ·refine z2s<|z1h<|z1g<|z3w<|z3g (fun aa ww h=>⟨nvl [(n15 0)],Zu h [3]⟩)
    ·refine gKn 27 Z h13<|gSR<|Zq (B.eql Z Z)<|Zb Z<|gIf Z Z (fun h24=>?_) (fun h24=>?_)
     ·refine gKn 41 Z h24<|gSR<|Zq (faB 1 Z Z Tryz.underlying37 Z (by exact ti9))<|Zq (ld 1 Z Z (fP (z2f _)) ty9 Z)<|z0r fun u25 h26=>zv2 Z Z h26 tu9 tu52 tu5<|Zc [] [(100,6)] Tryz.func59 Z (zc2 _) fun r27 n28=>Zm Z<|Zq (ext Z Z)<|Zq (ext Z Z)<|Za Z<|Zb Z<|z2n<|Zm Z<|Zm Z<|z0r fun x29 h30=>Ef Z (apn 3 Z Z Z (.own 6 Z) h30 tu52 ti5 Z Z Z) fun v31=>Za Z<|z1z<|z3w<|z3g (fun aa ww h=>⟨nvl [v31],Zu h [3]⟩)
     ·refine gKn 41 Z h24<|z30<|z3w<|z3g (fun aa ww h=>⟨nvl [v5],Zu h [3]⟩)
  ·refine gEx fun n32=>gSR<|Zm Z<|Za Z<|Zb Z<|z0o<|Ze [(n32 0)] [3] Z
def zdh (a0:z01):Option ((List UInt8) × Int) :=
 zc4 ({ a0 with Sig:=(⟨0,0⟩:z08) }) >>= fun r2 =>
 if r2 != 0 then
  some ([],r2)
 else
  zgy (({ a0 with Sig:=(⟨0,0⟩:z08) }).Preds) >>= fun r5 =>
  z3n ((({ a0 with Sig:=(⟨0,0⟩:z08) }).Author).toUInt64) >>= fun r7 =>
  z3n (({ a0 with Sig:=(⟨0,0⟩:z08) }).Stamp) >>= fun r10 =>
  z1p [[111],r7,r5.1,r10,[(({ a0 with Sig:=(⟨0,0⟩:z08) }).Act).Kind]] >>= fun r13 =>
  if ((({ a0 with Sig:=(⟨0,0⟩:z08) }).Act).Kind)==1 then
   some (r13,0)
  else
   chk (((({ a0 with Sig:=(⟨0,0⟩:z08) }).Act).Key).length≤281474976710656) >>= fun u18 =>
   z9c ((({ a0 with Sig:=(⟨0,0⟩:z08) }).Act).Key) >>= fun r20 =>
   app 1 r13 r20.1 >>= fun x22 =>
   if ((({ a0 with Sig:=(⟨0,0⟩:z08) }).Act).Kind)==4 then
    zb4 ((({ a0 with Sig:=(⟨0,0⟩:z08) }).Act).Value) >>= fun r26 =>
    app 1 x22 r26.1 >>= fun x28 =>
    some (x28,0)
   else
    some (x22,0)
set_option maxHeartbeats 4000000 in
theorem zkw (a0:z01):z2k Tryz.prog 107 [.rd z04 a0] [] (zdh a0) (fun r nv=>⟨[.val (nv 0),.rd z0i r.2],[(100,some (nv 0,.list u8R 5 r.1))]⟩):=by
 refine z2x 71 Tryz.func107 Z Z Z fun H w=>?_
 refine gSR<|Eb Z (bx 1 Z) fun v1=>Za Z<|Zb Z<|gSR<|Zq (bld (x':=(⟨0,0⟩:z08)) [(0,1),(1,1)] Tryz.underlying41 zlh Z zj5 Z (Bld.done Z))<|Zq (faB 1 Z Z Tryz.underlying43 Z (by exact zlh))<|Es (sto 1 Z Z (fP (z3a _)) Z zlh)<|Zn<|z12<|gSR<|Zq (ld 1 Z Z fH zbe Z)<|Zc [] [] Tryz.func106 Z (ze5 _) fun r2 n3=>Zb Z<|gSR<|Zm Z<|Zq (I.neq Z Z)<|Zj Z (fun h4=>?_) (fun h4=>?_)
 ·refine gSR<|Zm Z<|Za Z<|Zb Z<|z0o<|z10<|zj2 u8R 5 2<|Ze [(.slice none 0 0)] [2] Z
 ·refine Zt<|gSR<|Zq (faB 1 Z Z Tryz.underlying43 Z (by exact zcr))<|Zq (ld 1 Z Z (fP (z19 _)) zhy Z)<|Zc [] [(100,3)] Tryz.func149 Z (zni _) fun r5 n6=>Zm Z<|Zq (ext Z Z)<|Zq (ext Z Z)<|Za Z<|Zb Z<|z12<|gFrz 3 [23,5] Z (fS Z<|fS Z<|fN)<|zzi [(1,.val (z0f v1 0)),(5,.rd (z03 u8R) r5.1)] [(1,some (v1,.box 43 [.rd z04 ({ a0 with Sig:=(⟨0,0⟩:z08) })]))] [1] (sS Z<|sS Z<|sN) (y1 Z)<|zb8 fun r7 h9=>zb8 fun r10 h12=>zb8 fun r13 h15=>gOr [] [⟨4,none,[(0,none)]⟩,⟨1,some ([], fun nv=>(v1,.box 43 [.rd z04 ({ a0 with Sig:=(⟨0,0⟩:z08) })])),[]⟩,⟨5,none,[(4,none)]⟩,⟨6,none,[(8,none)]⟩,⟨7,none,[(12,none)]⟩,⟨8,none,[(13,none)]⟩,⟨9,none,[(14,some ([6], fun nv=>((nv 6),.list u8R 5 r13)))]⟩] [⟨some (25,[], fun nv=>.rd (z03 u8R) [111]),[(0,0,true)],[1],[]⟩,pk 26 (.val (z0f v1 (0+0))) [(1,0,false)],pk 27 (.rd z0q (({ a0 with Sig:=(⟨0,0⟩:z08) }).Author)) [(1,0,false)],pd 28 (.rd z1t ((({ a0 with Sig:=(⟨0,0⟩:z08) }).Author).toUInt64)),⟨some (29,[], fun nv=>.rd (z03 u8R) r7),[(2,0,true)],[2],[]⟩,pd 30 (.rd (z03 u8R) r5.1),pk 31 (.val (z0f v1 (0+2))) [(1,0,false)],pk 32 (.rd z1t (({ a0 with Sig:=(⟨0,0⟩:z08) }).Stamp)) [(1,0,false)],⟨some (33,[], fun nv=>.rd (z03 u8R) r10),[(3,0,true)],[3],[]⟩,pk 34 (.val (z0f v1 (0+3))) [(1,0,false)],pk 35 (.val (z0f v1 (0+3+0))) [(1,0,false)],pk 36 (.rd u8R ((({ a0 with Sig:=(⟨0,0⟩:z08) }).Act).Kind)) [(1,0,false)],⟨some (37,[], fun nv=>.rd (z03 u8R) [(({ a0 with Sig:=(⟨0,0⟩:z08) }).Act).Kind]),[(4,0,true)],[4],[]⟩,⟨some (38,[], fun nv=>.rd (z03 (z03 u8R)) [[111],r7,r5.1,r10,[(({ a0 with Sig:=(⟨0,0⟩:z08) }).Act).Kind]]),[(5,0,true)],[5],[]⟩,⟨some (39,[6], fun nv=>.val (nv 6)),[(6,0,true)],[6],[]⟩,⟨some (7,[6], fun nv=>.val (nv 6)),[],[],[]⟩] mixed (oC (oFz (A1:=fun nv=>[(4,some ((nv 1),.list u8R 5 [111]))]) 4 1 (oEf 4 1 (fun nv E=>lit (R:=u8R) ([111]:List UInt8) 4 (pP Z Z<|pN) Z tu52 ti5 Z Z)))<|oC (oRn (fun nv E=>faB 1 Z Z Tryz.underlying43 Z (by exact z68)))<|oC (oRn (fun nv E=>ld 1 Z Z (fP (z4y _)) z97 Z))<|oC (oRn (fun nv E=>W.toU Z tu34 tu35))<|oC (oFz (A1:=fun nv=>[(5,some ((nv 2),.list u8R 5 r7))]) 5 2 (oCl [2] [] [(100,5)] h9 Tryz.func57 Z (fun nv=>(z31 _)) (fun nv=>(Y1 Z)) (fun nv E=>rN)))<|oC (oRn (fun nv E=>mv Z))<|oC (oRn (fun nv E=>faB 1 Z Z Tryz.underlying43 Z (by exact zl5)))<|oC (oRn (fun nv E=>ld 1 Z Z (fP (z5v _)) zng Z))<|oC (oFz (A1:=fun nv=>[(6,some ((nv 3),.list u8R 5 r10))]) 6 3 (oCl [3] [] [(100,6)] h12 Tryz.func57 Z (fun nv=>(z31 _)) (fun nv=>(Y1 Z)) (fun nv E=>rN)))<|oC (oRn (fun nv E=>faB 1 Z Z Tryz.underlying43 Z (by exact zhb)))<|oC (oRn (fun nv E=>faB 1 Z Z Tryz.underlying39 Z (by exact ti5)))<|oC (oRn (fun nv E=>ld 1 Z Z ((fP (z1x _)).part (z20 _)) ty5 Z))<|oC (oFz (A1:=fun nv=>[(7,some ((nv 4),.list u8R 5 [(({ a0 with Sig:=(⟨0,0⟩:z08) }).Act).Kind]))]) 7 4 (oEf 7 4 (fun nv E=>lit (R:=u8R) ([(({ a0 with Sig:=(⟨0,0⟩:z08) }).Act).Kind]:List UInt8) 7 (pP Z Z<|pN) Z tu52 ti5 Z Z)))<|oC (oFz (A1:=fun nv=>[(8,some ((nv 5),.list (z03 u8R) 52 [[111],r7,r5.1,r10,[(({ a0 with Sig:=(⟨0,0⟩:z08) }).Act).Kind]]))]) 8 5 (oEf 8 5 (fun nv E=>lit (R:=(z03 u8R)) ([[111],r7,r5.1,r10,[(({ a0 with Sig:=(⟨0,0⟩:z08) }).Act).Kind]]:List (List UInt8)) 8 (pP Z Z<|pP Z Z<|pP Z Z<|pP Z Z<|pP Z Z<|pN) Z tu193 zbr Z Z)))<|oC (oCl [6] [] [(100,9)] h15 Tryz.func108 Z (fun nv=>(z4u _)) (fun nv=>(Y1 Z)) (fun nv E=>rN))<|oC (oRn (fun nv E=>asg Z))<|oN) fun n16=>z0z<|z12<|gSR<|Zq (faB 1 Z Z Tryz.underlying43 Z (by exact zhb))<|Zq (faB 1 Z Z Tryz.underlying39 Z (by exact ti5))<|Zq (ld 1 Z Z ((fP (z1x _)).part (z20 _)) ty5 Z)<|Zq (B.eql Z Z)<|Zj Z (fun h17=>?_) (fun h17=>?_)
  ·refine gSR<|Zm Z<|Za Z<|Zb Z<|z0o<|z10<|Ze [(n16 6)] [9] Z
  ·refine Zt<|gSR<|Zq (faB 1 Z Z Tryz.underlying43 Z (by exact zhb))<|Zq (faB 1 Z Z Tryz.underlying39 Z (by exact ti9))<|Zq (ld 1 Z Z ((fP (z1x _)).part (z34 _)) ty9 Z)<|z0r fun u18 h19=>zv2 Z Z h19 tu9 tu52 tu5<|Zc [] [(100,10)] Tryz.func59 Z (zc2 _) fun r20 n21=>Zm Z<|Zq (ext Z Z)<|Zq (ext Z Z)<|Za Z<|Zb Z<|gSR<|Zm Z<|Zm Z<|z0r fun x22 h23=>Ef Z (apn 9 Z Z Z (.own 10 Z) h23 tu52 ti5 Z Z Z) fun v24=>Zb Z<|z12<|gSR<|Zq (faB 1 Z Z Tryz.underlying43 Z (by exact zhb))<|Zq (faB 1 Z Z Tryz.underlying39 Z (by exact ti5))<|Zq (ld 1 Z Z ((fP (z1x _)).part (z20 _)) ty5 Z)<|Zq (B.eql Z Z)<|Zj Z (fun h25=>?_) (fun h25=>?_)
   ·refine gSR<|Zq (faB 1 Z Z Tryz.underlying43 Z (by exact zhb))<|Zq (faB 1 Z Z Tryz.underlying39 Z (by exact zbb))<|Zq (ld 1 Z Z ((fP (z1x _)).part (z3f _)) zik Z)<|Zc [] [(100,11)] Tryz.func150 Z (zhs _) fun r26 n27=>Zm Z<|Zq (ext Z Z)<|Zq (ext Z Z)<|Za Z<|Zb Z<|z2n<|Zm Z<|Zm Z<|z0r fun x28 h29=>Ef Z (apn 9 Z Z Z (.own 11 Z) h29 tu52 ti5 Z Z Z) fun v30=>Zb Z<|gSR<|Zm Z<|Za Z<|Zb Z<|z0o<|Ze [v30] [9] Z
   ·refine Zt<|gSR<|Zm Z<|Za Z<|Zb Z<|z0o<|Ze [v24] [9] Z
def zaj (a0:z01):Option ((List UInt8) × Int) :=
 zc4 a0 >>= fun r2 =>
 if r2 != 0 then
  some ([],r2)
 else
  zdh a0 >>= fun r5 =>
  z3n a0.Sig.E.toUInt64 >>= fun r7 =>
  z3n a0.Sig.S.toUInt64 >>= fun r9 =>
  z1p [r5.1,r7,r9] >>= fun r12 =>
  some (r12,0)
theorem zgl (a0:z01):z2k Tryz.prog 58 [.rd z04 a0] [] (zaj a0) (fun r nv=>⟨[.val (nv 0),.rd z0i r.2],[(100,some (nv 0,.list u8R 5 r.1))]⟩):=by
 refine z2x 30 Tryz.func58 Z Z Z fun H w=>?_
 refine gSR<|Eb Z (bx 1 Z) fun v1=>Za Z<|Zb Z<|z12<|gSR<|Zq (ld 1 Z Z fH zbe Z)<|Zc [] [] Tryz.func106 Z (ze5 _) fun r2 n3=>Zb Z<|gSR<|Zm Z<|Zq (I.neq Z Z)<|Zj Z (fun h4=>?_) (fun h4=>?_)
 ·refine gSR<|Zm Z<|Za Z<|Zb Z<|z0o<|z10<|zj2 u8R 5 2<|Ze [(.slice none 0 0)] [2] Z
 ·refine Zt<|gSR<|Zq (ld 1 Z Z fH zbe Z)<|Zc [] [(100,3)] Tryz.func107 Z (zkw _) fun r5 n6=>Zm Z<|Zq (ext Z Z)<|Zq (ext Z Z)<|Za Z<|Zb Z<|z12<|z9z [19,34,37,40] mixed Z Z<|hTk 0 Z Z (mv Z)<|hTk 1 Z Z (faB 1 Z Z Tryz.underlying43 Z (by exact zlh))<|hTk 2 Z Z (faB 1 Z Z Tryz.underlying41 Z (by exact z68))<|hTk 3 Z Z (ld 1 Z Z ((fP (z3a _)).part (z8j _)) z97 Z)<|hTk 4 Z Z (W.toU Z tu34 tu35)<|hTk 6 Z Z (faB 1 Z Z Tryz.underlying43 Z (by exact zlh))<|hTk 7 Z Z (faB 1 Z Z Tryz.underlying41 Z (by exact z68))<|hTk 8 Z Z (ld 1 Z Z ((fP (z3a _)).part (z8k _)) z97 Z)<|hTk 9 Z Z (W.toU Z tu34 tu35)<|z5z 5 [] [(100,19)] Z (by kernel_rfl) Z (gd0 Z) Z Tryz.func57 Z Z (z31 _) (Y1 Z) rN Z (fun _ _=>z36) fun r7 n8=>z5z 10 [] [(100,34)] Z (by kernel_rfl) Z (gd0 Z) Z Tryz.func57 Z Z (z31 _) (Y1 Z) rN Z (fun _ _=>z36) fun r9 n10=>zzn 3 [15,5,17] Z (fS Z<|fS Z<|fS Z<|fN)<|zzn 19 [22] Z (fS Z<|fN)<|zzn 34 [27] Z (fS Z<|fN)<|Zo 11 Z Z Z (lit (R:=(z03 u8R)) ([r5.1,r7,r9]:List (List UInt8)) 37 (pP Z Z<|pP Z Z<|pP Z Z<|pN) Z tu193 zbr Z Z) fun v11=>zzn 37 [28] Z (fS Z<|fN)<|z5z 12 [] [(100,40)] Z (by kernel_rfl) Z (gd0 Z) Z Tryz.func108 Z Z (z4u _) (Y1 Z) rN Z (fun _ _=>z36) fun r12 n13=>Zf 13 Z Z z36 (asg Z)<|hTk 14 Z Z (asg Z)<|z6i (by kernel_rfl)<|z0z<|z0o<|Ze [(n13 0)] [40] Z
def zaq (a0:List UInt8):Option (Bool) :=
 some (decide (10000<(a0.length:Int))) >>= fun y1 =>
 some y1
theorem zfl (a0:List UInt8):z2k Tryz.prog 196 [.rd (z03 u8R) a0] [] (zaq a0) (fun r nv=>⟨[.rd z0g r],[]⟩):=by
 refine z2x 6 Tryz.func196 Z Z Z fun H w=>?_
 refine gSR<|Zb Z<|gSR<|Zm Z<|Zq (z4d Z .rd Z tu52)<|Zq (I.gtr Z Z)<|Za Z<|z26 2 Z fun y1=>Zn<|z0o<|Ze [] [] Z
def zav  : Option (z1y) :=
 some (⟨(#v[1779033703,3144134277,1013904242,2773480762,1359893119,2600822924,528734635,1541459225]:Vector UInt32 8),[],0⟩:z1y)
theorem zi9  : z2k Tryz.prog 197 [] [] (zav) (fun r nv=>⟨[.rd z29 r],[]⟩):=by
 refine z2x 3 Tryz.func197 Z Z Z fun H w=>?_
 refine gSR<|Eb Z (z9u 1 zj3 (ZrE.rd (R:=(z3e 8 z0q)) (x:=(Vector.replicate 8 0)) zm1 (ZrE.nilS (ZrE.rd (R:=z0i) (x:=0) (Zr.num Z) ZrE.nil Z)) Z)) fun v1=>Zn<|gSR<|Zq (litA (R:=z0q) [1779033703,3144134277,1013904242,2773480762,1359893119,2600822924,528734635,1541459225] (#v[1779033703,3144134277,1013904242,2773480762,1359893119,2600822924,528734635,1541459225]:Vector UInt32 8) (pP Z Z<|pP Z Z<|pP Z Z<|pP Z Z<|pP Z Z<|pP Z Z<|pP Z Z<|pP Z Z<|pN) Z tu149 zdp Z z68)<|Zq (bldE [(0,8),(8,1),(9,1)] Tryz.underlying243 zj3 (ZrE.rd (R:=(z3e 8 z0q)) (x:=(Vector.replicate 8 0)) zm1 (ZrE.nilS (ZrE.rd (R:=z0i) (x:=0) (Zr.num Z) ZrE.nil Z)) Z) Z (zjq.cons Z Z z02 (z89.cast (z89.here z02) Z)<|zjq.done Z))<|Es (zvd 1 Z Z (z06.cast (z06.cons z02 (z06.cons z0k (z06.cons z02 z06.nil))) Z) Z (z1i.cons z15 (z1i.cons z2v (z1i.cons z15 z1i.nil))) (z06.cast (z06.cons z02 (z06.cons z0k (z06.cons z02 z06.nil))) Z) zj3)<|Zn<|z0o<|ePnl u8R [.rd (z3e 8 z0q) (#v[1779033703,3144134277,1013904242,2773480762,1359893119,2600822924,528734635,1541459225]:Vector UInt32 8),.rd (z03 u8R) [],.rd z0i 0] 1 [.rd (z3e 8 z0q) (#v[1779033703,3144134277,1013904242,2773480762,1359893119,2600822924,528734635,1541459225]:Vector UInt32 8)] [.rd z0i 0] Z Z Z<|eJoi (R:=z29) (⟨(#v[1779033703,3144134277,1013904242,2773480762,1359893119,2600822924,528734635,1541459225]:Vector UInt32 8),[],0⟩:z1y) 1 Z (Sp.via (Sp.prod (Sp.prod (Sp.prod Sp.unit))))<|zch [] [] Z (eC 1 Z Z zl8<|eN) (rN)
def z1d (a0:UInt32) (a1:Int):Option (UInt32) :=
 some ((UInt64.ofInt a1) &&& 31) >>= fun y1 =>
 some ((zkm a0 y1.toNat) ||| (z54 a0 ((32 - y1).toNat))) >>= fun y2 =>
 some y2
theorem z1r (a0:UInt32) (a1:Int):z2k Tryz.prog 238 [.rd z0q a0,.rd z0i a1] [] (z1d a0 a1) (fun r nv=>⟨[.rd z0q r],[]⟩):=by
 refine z2x 17 Tryz.func238 Z Z Z fun H w=>?_
 refine gSR<|Zb Z<|gSR<|Zm Z<|Zq (I.toU Z tu3 Tryz.underlying143)<|Zq (U.and Z Z)<|Za Z<|z26 5 Z fun y1=>Zn<|gSR<|Zm Z<|Zm Z<|Zq (W.shl Z Z (Int.natCast_nonneg _))<|Zm Z<|Zm Z<|Zq (U.sub Z Z)<|Zq (W.shr Z Z (Int.natCast_nonneg _))<|Zq (W.or Z Z)<|Za Z<|z26 4 Z fun y2=>Zn<|z0o<|Ze [] [] Z
def z5a (x3:List UInt8) (s5:(Vector UInt32 64) × Int):Option (Sum ((Vector UInt32 64)) ((Vector UInt32 64) × Int)) :=
 if decide (s5.2<(x3.length:Int)) then
  idx x3 s5.2 >>= fun x7 =>
  z61 s5.1 (w64 (Int.tdiv s5.2 4)) >>= fun x9 =>
  z61 s5.1 (w64 (Int.tdiv s5.2 4)) >>= fun x11 =>
  some (.inr (zeq s5.1 (w64 (Int.tdiv s5.2 4)) ((zkm x9 8) ||| x7.toUInt32),w64 (s5.2+1)))
 else
  some (.inl s5.1)
def z3y (s14:(Vector UInt32 64) × Int):Option (Sum ((Vector UInt32 64)) ((Vector UInt32 64) × Int)) :=
 if decide (s14.2<64) then
  z61 s14.1 (w64 (s14.2 - 15)) >>= fun x16 =>
  z61 s14.1 (w64 (s14.2 - 2)) >>= fun x18 =>
  z1d x16 (-7) >>= fun r20 =>
  z1d x16 (-18) >>= fun r22 =>
  some ((r20 ^^^ r22) ^^^ (z54 x16 3)) >>= fun y24 =>
  z1d x18 (-17) >>= fun r25 =>
  z1d x18 (-19) >>= fun r27 =>
  some ((r25 ^^^ r27) ^^^ (z54 x18 10)) >>= fun y29 =>
  z61 s14.1 (w64 (s14.2 - 16)) >>= fun x30 =>
  z61 s14.1 (w64 (s14.2 - 7)) >>= fun x32 =>
  z61 s14.1 s14.2 >>= fun x34 =>
  some (w64 (s14.2+1)) >>= fun y37 =>
  some (.inr (zeq s14.1 s14.2 (((x30+x32)+y24)+y29),y37))
 else
  some (.inl s14.1)
def zai (a0:List UInt8):Option ((Vector UInt32 64)) :=
 (cut a0 0 64 >>= fun x3 =>
 iter (z5a x3) ((Vector.replicate 64 0),0)) >>= fun s2 =>
 (iter (z3y) (s2,16)) >>= fun s13 =>
 some s13
set_option maxHeartbeats 4000000 in
theorem zf2 (a0:List UInt8):z2k Tryz.prog 235 [.rd (z03 u8R) a0] [] (zai a0) (fun r nv=>⟨[.rd (z3e 64 z0q) r],[]⟩):=by
 refine z2x 74 Tryz.func235 Z Z Z fun H w=>?_
 refine gSR<|Eb Z (z9u 1 ztd (.zr (R:=(z3e 64 z0q)) (x:=(Vector.replicate 64 0)) z11m)) fun v1=>Zn<|z7r (fun (s2:(Vector UInt32 64)) aa ww=>Sta (ctx 74 H [] w) [(2,.val (z0f v1 0))] [(1,some (v1,.box 279 [.rd (z3e 64 z0q) s2]))] aa ww) ?_ (fun s2=>?_)
 ·refine gSR<|Zm Z<|z0r fun x3 h4=>Zq (zn2 Z .no (.to Z) h4 tu52 ti5)<|Zq (z4d Z .rd Z tu52)<|Zm Z<|Zn<|z2t (fun (s5:(Vector UInt32 64) × Int) aa ww=>Sta (ctx 74 H [] w) [(2,.val (z0f v1 0)),(11,.rd (z03 u8R) x3),(12,.rd z0i (x3.length:Int)),(13,.rd z0i s5.2)] [(1,some (v1,.box 279 [.rd (z3e 64 z0q) s5.1]))] aa ww) (fun aa ww h=>Zu h [1]) (fun s5=>?_)
  refine gSR<|Zq (I.lss Z Z)<|Zn<|z12<|gIf Z Z (fun h6=>?_) (fun h6=>?_)
  ·refine Zt<|z12<|z6t<|gSR<|Zm Z<|z0r fun x7 h8=>Zq (ixR Z Z h8 tu52 ti5 Z)<|Zq (ldR Z ty5)<|Za Z<|Zb Z<|z2n<|Zm Z<|Zq (I.quo Z Z (by decide))<|Zm Z<|Zq (I.quo Z Z (by decide))<|z0r fun x9 h10=>Zq (ixB 1 Z Z Z h10 Tryz.underlying279 z68)<|Zq (ld 1 Z Z (fP (.el h10)) z97 Z)<|Zq (W.shl Z Z (Int.natCast_nonneg _))<|Zm Z<|Zq (B.toW Z tu5 tu34)<|Zq (W.or Z Z)<|z0r fun x11 h12=>Zq (ixB 1 Z Z Z h12 Tryz.underlying279 z68)<|Es (sto 1 Z Z (fP (.el h12)) Z z68)<|z1z<|z3w<|z0z<|z2n<|Zq (I.add Z Z)<|Zm Z<|z1z<|z2j (fun aa ww h=>Zu h [1])
  ·refine z2s<|z1h<|z1g<|z3g (fun aa ww h=>Zu h [1])
 ·refine z7r (fun (s13:(Vector UInt32 64)) aa ww=>Sta (ctx 74 H [] w) [(2,.val (z0f v1 0))] [(1,some (v1,.box 279 [.rd (z3e 64 z0q) s13]))] aa ww) ?_ (fun s13=>?_)
  ·refine gSR<|Zb Z<|z2t (fun (s14:(Vector UInt32 64) × Int) aa ww=>Sta (ctx 74 H [] w) [(2,.val (z0f v1 0)),(5,.rd z0i s14.2)] [(1,some (v1,.box 279 [.rd (z3e 64 z0q) s14.1]))] aa ww) (fun aa ww h=>Zu h [1]) (fun s14=>?_)
   refine z12<|gSR<|Zm Z<|Zq (I.lss Z Z)<|Zj Z (fun h15=>?_) (fun h15=>?_)
   ·refine Zt<|z12<|z6t<|z12<|zgo mixed (by kernel_rfl)<|Rq Z (mv Z)<|Rq Z (I.sub Z Z)<|z72 fun x16 h17=>Rq Z (ixB 1 Z Z Z h17 Tryz.underlying279 z68)<|Rq Z (ld 1 Z Z (fP (.el h17)) z97 Z)<|Rq Z (mv Z)<|Rq Z (I.sub Z Z)<|z72 fun x18 h19=>Rq Z (ixB 1 Z Z Z h19 Tryz.underlying279 z68)<|Rq Z (ld 1 Z Z (fP (.el h19)) z97 Z)<|Rq Z (asg Z)<|Rq Z (asg Z)<|zqp<|z0z<|gSR<|Zm Z<|Zc [] [] Tryz.func238 Z (z1r _ _) fun r20 n21=>Zm Z<|Zc [] [] Tryz.func238 Z (z1r _ _) fun r22 n23=>Zq (W.xor Z Z)<|Zm Z<|Zq (W.shr Z Z (Int.natCast_nonneg _))<|Zq (W.xor Z Z)<|Za Z<|z26 8 Z fun y24=>Zn<|gSR<|Zm Z<|Zc [] [] Tryz.func238 Z (z1r _ _) fun r25 n26=>Zm Z<|Zc [] [] Tryz.func238 Z (z1r _ _) fun r27 n28=>Zq (W.xor Z Z)<|Zm Z<|Zq (W.shr Z Z (Int.natCast_nonneg _))<|Zq (W.xor Z Z)<|Za Z<|z26 9 Z fun y29=>Zn<|zzi [(2,.val (z0f v1 0)),(5,.rd z0i s14.2),(8,.rd z0q y24),(9,.rd z0q y29)] [(1,some (v1,.box 279 [.rd (z3e 64 z0q) s14.1]))] [1] (Zs Z Z Z Z<|sN) (y1 Z)<|zb8 fun x30 h31=>zb8 fun x32 h33=>zb8 fun x34 h35=>gOr [] [⟨1,some ([], fun nv=>(v1,.box 279 [.rd (z3e 64 z0q) s14.1])),[(15,some ([], fun nv=>(v1,.box 279 [.rd (z3e 64 z0q) (zeq s14.1 s14.2 (((x30+x32)+y24)+y29))])))]⟩] [pd 58 (.rd z0i s14.2),pd 59 (.rd z0i s14.2),pd 60 (.rd z0i (w64 (s14.2 - 16))),pk 61 (.val (z0f v1 (0+(w64 (s14.2 - 16):Int).toNat * 1))) [(0,0,false)],pk 62 (.rd z0q x30) [(0,0,false)],pd 63 (.rd z0i s14.2),pd 64 (.rd z0i (w64 (s14.2 - 7))),pk 65 (.val (z0f v1 (0+(w64 (s14.2 - 7):Int).toNat * 1))) [(0,0,false)],pk 66 (.rd z0q x32) [(0,0,false)],pd 67 (.rd z0q (x30+x32)),pd 68 (.rd z0q y24),pd 69 (.rd z0q ((x30+x32)+y24)),pd 70 (.rd z0q y29),pd 71 (.rd z0q (((x30+x32)+y24)+y29)),pk 72 (.val (z0f v1 (0+(s14.2:Int).toNat * 1))) [(0,0,false)],⟨none,[(0,0,true)],[],[]⟩] mixed (oC (oRn (fun nv E=>mv Z))<|oC (oRn (fun nv E=>mv Z))<|oC (oRn (fun nv E=>I.sub Z Z))<|oC (oRn (fun nv E=>ixB 1 Z Z Z h31 Tryz.underlying279 z68))<|oC (oRn (fun nv E=>ld 1 Z Z (fP (.el h31)) z97 Z))<|oC (oRn (fun nv E=>mv Z))<|oC (oRn (fun nv E=>I.sub Z Z))<|oC (oRn (fun nv E=>ixB 1 Z Z Z h33 Tryz.underlying279 z68))<|oC (oRn (fun nv E=>ld 1 Z Z (fP (.el h33)) z97 Z))<|oC (oRn (fun nv E=>W.add Z Z))<|oC (oRn (fun nv E=>mv Z))<|oC (oRn (fun nv E=>W.add Z Z))<|oC (oRn (fun nv E=>mv Z))<|oC (oRn (fun nv E=>W.add Z Z))<|oC (oRn (fun nv E=>ixB 1 Z Z Z h35 Tryz.underlying279 z68))<|oC (oEs 1 (fun nv E=>sto 1 Z Z (fP (.el h35)) Z z68))<|oN) fun n36=>z3w<|z0z<|z2n<|Zm Z<|Zq (I.add Z Z)<|Za Z<|z26 5 Z fun y37=>z1z<|z2j (fun aa ww h=>Zu h [1])
   ·refine z2s<|z1h<|z1g<|z3g (fun aa ww h=>Zu h [1])
  ·refine gSR<|Zq (ld 1 Z Z fH z10e Z)<|Es (sto 1 Z Z fH Z ztd)<|Zn<|z0o<|zch [] [] Z (eC 1 Z Z z10e<|eN) (rN)
def zbo (a0:UInt32) (a1:Int) (a2:Int) (a3:Int):Option (UInt32) :=
 z1d a0 (w64 (0 - a1)) >>= fun r1 =>
 z1d a0 (w64 (0 - a2)) >>= fun r3 =>
 z1d a0 (w64 (0 - a3)) >>= fun r5 =>
 some ((r1 ^^^ r3) ^^^ r5) >>= fun y7 =>
 some y7
theorem zf3 (a0:UInt32) (a1:Int) (a2:Int) (a3:Int):z2k Tryz.prog 236 [.rd z0q a0,.rd z0i a1,.rd z0i a2,.rd z0i a3] [] (zbo a0 a1 a2 a3) (fun r nv=>⟨[.rd z0q r],[]⟩):=by
 refine z2x 23 Tryz.func236 Z Z Z fun H w=>?_
 refine gSR<|Zb Z<|gSR<|Zm Z<|Zm Z<|Zq (I.neg Z)<|Zc [] [] Tryz.func238 Z (z1r _ _) fun r1 n2=>Zm Z<|Zm Z<|Zq (I.neg Z)<|Zc [] [] Tryz.func238 Z (z1r _ _) fun r3 n4=>Zq (W.xor Z Z)<|Zm Z<|Zm Z<|Zq (I.neg Z)<|Zc [] [] Tryz.func238 Z (z1r _ _) fun r5 n6=>Zq (W.xor Z Z)<|Za Z<|z26 8 Z fun y7=>Zn<|z0o<|Ze [] [] Z
def z6l (a0:List UInt8):Option ((List UInt8)) :=
 app 1 ([]:List UInt8) a0 >>= fun x3 =>
 some x3
theorem z7s (a0:List UInt8):z2k Tryz.prog 225 [.rd (z03 u8R) a0] [] (z6l a0) (fun r nv=>⟨[.val (nv 0)],[(100,some (nv 0,.list u8R 5 r))]⟩):=by
 refine z2x 8 Tryz.func225 Z Z Z fun H w=>?_
 refine gSR<|Zb Z<|z12<|gSR<|Zm Z<|zz3 Z Z .rd Z tu52 (fun h1=>?_) ?_
 ·subst h1
  refine Zn<|zah Z<|gSR<|Zb Z<|z0o<|z10<|zj2 u8R 5 1<|Ze [(.slice none 0 0)] [1] Z
 ·refine Zn<|zbp Z<|Zt<|gSR<|Ef Z (lit (R:=u8R) (([]:List UInt8):List UInt8) 2 (pN) Z tu52 ti5 Z Z) fun v2=>Zm Z<|z0r fun x3 h4=>Ef Z (apn 2 Z Z Z .rd h4 tu52 ti5 Z Z Z) fun v5=>Zb Z<|z0o<|Ze [v5] [2] Z
def z4o (r1:(Vector UInt32 64)) (s21:UInt32 × UInt32 × UInt32 × UInt32 × UInt32 × UInt32 × UInt32 × UInt32 × Int):Option (Sum (UInt32 × UInt32 × UInt32 × UInt32 × UInt32 × UInt32 × UInt32 × UInt32) (UInt32 × UInt32 × UInt32 × UInt32 × UInt32 × UInt32 × UInt32 × UInt32 × Int)) :=
 if decide (s21.2.2.2.2.2.2.2.2<64) then
  z61 z7w s21.2.2.2.2.2.2.2.2 >>= fun x23 =>
  z61 r1 s21.2.2.2.2.2.2.2.2 >>= fun x25 =>
  zbo s21.2.2.2.2.1 6 11 25 >>= fun r27 =>
  some ((((s21.2.2.2.2.2.2.2.1+r27)+((s21.2.2.2.2.1 &&& s21.2.2.2.2.2.1) ^^^ ((~~~s21.2.2.2.2.1) &&& s21.2.2.2.2.2.2.1)))+x23)+x25) >>= fun y29 =>
  zbo s21.1 2 13 22 >>= fun r30 =>
  some (r30+(((s21.1 &&& s21.2.1) ^^^ (s21.1 &&& s21.2.2.1)) ^^^ (s21.2.1 &&& s21.2.2.1))) >>= fun y32 =>
  some (s21.2.2.2.1+y29) >>= fun y33 =>
  some (.inr (y29+y32,s21.1,s21.2.1,s21.2.2.1,y33,s21.2.2.2.2.1,s21.2.2.2.2.2.1,s21.2.2.2.2.2.2.1,w64 (s21.2.2.2.2.2.2.2.2+1)))
 else
  some (.inl (s21.1,s21.2.1,s21.2.2.1,s21.2.2.2.1,s21.2.2.2.2.1,s21.2.2.2.2.2.1,s21.2.2.2.2.2.2.1,s21.2.2.2.2.2.2.2.1))
def zan (s20:UInt32 × UInt32 × UInt32 × UInt32 × UInt32 × UInt32 × UInt32 × UInt32) (s34:(Vector UInt32 8) × Int):Option (Sum ((Vector UInt32 8)) ((Vector UInt32 8) × Int)) :=
 if decide (s34.2<8) then
  z61 (#v[s20.1,s20.2.1,s20.2.2.1,s20.2.2.2.1,s20.2.2.2.2.1,s20.2.2.2.2.2.1,s20.2.2.2.2.2.2.1,s20.2.2.2.2.2.2.2]:Vector UInt32 8) s34.2 >>= fun x36 =>
  z61 s34.1 s34.2 >>= fun x38 =>
  z61 s34.1 s34.2 >>= fun x40 =>
  some (.inr (zeq s34.1 s34.2 (x38+x36),w64 (s34.2+1)))
 else
  some (.inl s34.1)
def zb2 (c0:Vector UInt32 8) (a1:List UInt8):Option ((Vector UInt32 8)) :=
 zai a1 >>= fun r1 =>
 z61 c0 0 >>= fun x4 =>
 z61 c0 1 >>= fun x6 =>
 z61 c0 2 >>= fun x8 =>
 z61 c0 3 >>= fun x10 =>
 z61 c0 4 >>= fun x12 =>
 z61 c0 5 >>= fun x14 =>
 z61 c0 6 >>= fun x16 =>
 z61 c0 7 >>= fun x18 =>
 (iter (z4o r1) (x4,x6,x8,x10,x12,x14,x16,x18,0)) >>= fun s20 =>
 iter (zan s20) (c0,0)
theorem zie (ph0:Value) (kh0:Nat) (uh0:(Vector UInt32 8)→z3v) (hh0:∀ y,Foc (uh0 y) kh0 (z3e 8 z0q) y uh0) (c0:Vector UInt32 8) (a1:List UInt8):z2k Tryz.prog 224 [.val (z0f ph0 kh0),.rd (z03 u8R) a1] [(1,some (ph0,uh0 c0)),zG1] (zb2 c0 a1) (fun r nv=>⟨[],[(1,some (ph0,uh0 r)),(1001,some (.bool true,.glob 1 (z3e 64 z0q) z7w))]⟩):=by
 refine z2x 126 Tryz.func224 Z Z Z fun H w=>?_
 refine gSR<|Zm Z<|Zc [] [] Tryz.func235 Z (zf2 _) fun r1 n2=>Eb Z (z9u 2 ztd (.zr (R:=(z3e 64 z0q)) (x:=(Vector.replicate 64 0)) z11m)) fun v3=>Es (sto 2 Z Z fH Z ztd)<|Zn<|z12<|zgo mixed (by kernel_rfl)<|Rq Z (mv Z)<|Rq Z (zat 1 Z Z (hh0 _))<|z72 fun x4 h5=>Rq Z (ixH 1 Z Z (hh0 _) Z h5 tu149 z68)<|Rq Z (ld 1 Z Z ((hh0 _).part (.el h5)) z97 Z)<|Rq Z (mv Z)<|Rq Z (zat 1 Z Z (hh0 _))<|z72 fun x6 h7=>Rq Z (ixH 1 Z Z (hh0 _) Z h7 tu149 z68)<|Rq Z (ld 1 Z Z ((hh0 _).part (.el h7)) z97 Z)<|Rq Z (mv Z)<|Rq Z (zat 1 Z Z (hh0 _))<|z72 fun x8 h9=>Rq Z (ixH 1 Z Z (hh0 _) Z h9 tu149 z68)<|Rq Z (ld 1 Z Z ((hh0 _).part (.el h9)) z97 Z)<|Rq Z (mv Z)<|Rq Z (zat 1 Z Z (hh0 _))<|z72 fun x10 h11=>Rq Z (ixH 1 Z Z (hh0 _) Z h11 tu149 z68)<|Rq Z (ld 1 Z Z ((hh0 _).part (.el h11)) z97 Z)<|Rq Z (mv Z)<|Rq Z (zat 1 Z Z (hh0 _))<|z72 fun x12 h13=>Rq Z (ixH 1 Z Z (hh0 _) Z h13 tu149 z68)<|Rq Z (ld 1 Z Z ((hh0 _).part (.el h13)) z97 Z)<|Rq Z (mv Z)<|Rq Z (zat 1 Z Z (hh0 _))<|z72 fun x14 h15=>Rq Z (ixH 1 Z Z (hh0 _) Z h15 tu149 z68)<|Rq Z (ld 1 Z Z ((hh0 _).part (.el h15)) z97 Z)<|Rq Z (mv Z)<|Rq Z (zat 1 Z Z (hh0 _))<|z72 fun x16 h17=>Rq Z (ixH 1 Z Z (hh0 _) Z h17 tu149 z68)<|Rq Z (ld 1 Z Z ((hh0 _).part (.el h17)) z97 Z)<|Rq Z (mv Z)<|Rq Z (zat 1 Z Z (hh0 _))<|z72 fun x18 h19=>Rq Z (ixH 1 Z Z (hh0 _) Z h19 tu149 z68)<|Rq Z (ld 1 Z Z ((hh0 _).part (.el h19)) z97 Z)<|Rq Z (asg Z)<|Rq Z (asg Z)<|Rq Z (asg Z)<|Rq Z (asg Z)<|Rq Z (asg Z)<|Rq Z (asg Z)<|Rq Z (asg Z)<|Rq Z (asg Z)<|zqp<|z0z<|z7r (fun (s20:UInt32 × UInt32 × UInt32 × UInt32 × UInt32 × UInt32 × UInt32 × UInt32) aa ww=>Sta (ctx 126 H [(1,some (ph0,uh0 c0)),zG1] w) [(0,.val (z0f ph0 kh0)),(5,.rd z0q s20.1),(6,.rd z0q s20.2.1),(7,.rd z0q s20.2.2.1),(8,.rd z0q s20.2.2.2.1),(9,.rd z0q s20.2.2.2.2.1),(10,.rd z0q s20.2.2.2.2.2.1),(11,.rd z0q s20.2.2.2.2.2.2.1),(12,.rd z0q s20.2.2.2.2.2.2.2)] [(1,some (ph0,uh0 c0)),zG1] aa ww) ?_ (fun s20=>?_)
 ·refine gSR<|Zm Z<|Zn<|z2t (fun (s21:UInt32 × UInt32 × UInt32 × UInt32 × UInt32 × UInt32 × UInt32 × UInt32 × Int) aa ww=>Sta (ctx 126 H [(1,some (ph0,uh0 c0)),zG1] w) [(0,.val (z0f ph0 kh0)),(4,.val (z0f v3 0)),(5,.rd z0q s21.1),(6,.rd z0q s21.2.1),(7,.rd z0q s21.2.2.1),(8,.rd z0q s21.2.2.2.1),(9,.rd z0q s21.2.2.2.2.1),(10,.rd z0q s21.2.2.2.2.2.1),(11,.rd z0q s21.2.2.2.2.2.2.1),(12,.rd z0q s21.2.2.2.2.2.2.2.1),(52,.rd z0i s21.2.2.2.2.2.2.2.2)] [(1,some (ph0,uh0 c0)),(2,some (v3,.box 279 [.rd (z3e 64 z0q) r1])),zG1] aa ww) (fun aa ww h=>Zu h [1,2,1001]) (fun s21=>?_)
  refine gSR<|Zq (I.lss Z Z)<|Zn<|z12<|gIf Z Z (fun h22=>?_) (fun h22=>?_)
  ·refine Zt<|z12<|z6t<|gSR<|Zm Z<|Zb Z<|z12<|z9z [] mixed Z Z<|hTk 0 Z Z (mv Z)<|hTk 1 Z Z (mv Z)<|hTk 4 Z Z (mv Z)<|hTk 5 Z Z (mv Z)<|hTk 6 Z Z (W.and Z Z)<|hTk 7 Z Z (mv Z)<|hTk 8 Z Z (W.cpl Z)<|hTk 9 Z Z (mv Z)<|hTk 10 Z Z (W.and Z Z)<|hTk 11 Z Z (W.xor Z Z)<|hTk 13 Z Z (mv Z)<|z4x fun x23 h24=>hTk 14 Z Z (ixG 1001 Z Z h24 Tryz.underlying279 z68)<|hTk 15 Z Z (ldR Z z97)<|hTk 17 Z Z (mv Z)<|z4x fun x25 h26=>hTk 18 Z Z (ixB 2 Z Z Z h26 Tryz.underlying279 z68)<|hTk 19 Z Z (ld 2 Z Z (fP (.el h26)) z97 Z)<|z5z 2 [] [] Z (by kernel_rfl) Z (gd0 Z) Z Tryz.func236 Z Z (zf3 _ _ _ _) (aQ Z<|aQ Z<|aQ Z<|aQ Z<|aN) rN Z (fun _ _=>z4r) fun r27 n28=>hTk 3 Z Z (W.add Z Z)<|hTk 12 Z Z (W.add Z Z)<|hTk 16 Z Z (W.add Z Z)<|hTk 20 Z Z (W.add Z Z)<|hTk 21 Z Z (asg Z)<|zv0 14 Z Z fun y29=>z6i (by kernel_rfl)<|z0z<|gSR<|Zm Z<|Zc [] [] Tryz.func236 Z (zf3 _ _ _ _) fun r30 n31=>Zm Z<|Zm Z<|Zq (W.and Z Z)<|Zm Z<|Zm Z<|Zq (W.and Z Z)<|Zq (W.xor Z Z)<|Zm Z<|Zm Z<|Zq (W.and Z Z)<|Zq (W.xor Z Z)<|Zq (W.add Z Z)<|Za Z<|z26 15 Z fun y32=>Zn<|z2n<|Zm Z<|Zm Z<|Zq (W.add Z Z)<|Zm Z<|Zm Z<|Zm Z<|Zm Z<|Zm Z<|Zq (W.add Z Z)<|Zm Z<|Zm Z<|Zm Z<|Za Z<|Za Z<|Za Z<|Za Z<|Za Z<|z26 9 Z fun y33=>Za Z<|Za Z<|Za Z<|z1z<|z3w<|z0z<|z2n<|Zq (I.add Z Z)<|Zm Z<|z1z<|z2j (fun aa ww h=>Zu h [1,2,1001])
  ·refine z2s<|z1h<|z1g<|z3g (fun aa ww h=>Zu h [1,1001])
 ·refine gSR<|Zm Z<|Zm Z<|Zm Z<|Zm Z<|Zm Z<|Zm Z<|Zm Z<|Zm Z<|Zq (litA (R:=z0q) [s20.1,s20.2.1,s20.2.2.1,s20.2.2.2.1,s20.2.2.2.2.1,s20.2.2.2.2.2.1,s20.2.2.2.2.2.2.1,s20.2.2.2.2.2.2.2] (#v[s20.1,s20.2.1,s20.2.2.1,s20.2.2.2.1,s20.2.2.2.2.1,s20.2.2.2.2.2.1,s20.2.2.2.2.2.2.1,s20.2.2.2.2.2.2.2]:Vector UInt32 8) (pP Z Z<|pP Z Z<|pP Z Z<|pP Z Z<|pP Z Z<|pP Z Z<|pP Z Z<|pP Z Z<|pN) Z tu149 zdp Z z68)<|Zm Z<|Zn<|z2t (fun (s34:(Vector UInt32 8) × Int) aa ww=>Sta (ctx 126 H [(1,some (ph0,uh0 c0)),zG1] w) [(0,.val (z0f ph0 kh0)),(111,.rd (z3e 8 z0q) (#v[s20.1,s20.2.1,s20.2.2.1,s20.2.2.2.1,s20.2.2.2.2.1,s20.2.2.2.2.2.1,s20.2.2.2.2.2.2.1,s20.2.2.2.2.2.2.2]:Vector UInt32 8)),(112,.rd z0i s34.2)] [(1,some (ph0,uh0 s34.1)),zG1] aa ww) (fun aa ww h=>Zu h [1,1001]) (fun s34=>?_)
  refine gSR<|Zq (I.lss Z Z)<|Zn<|z12<|gIf Z Z (fun h35=>?_) (fun h35=>?_)
  ·refine Zt<|z12<|z6t<|gSR<|Zm Z<|z0r fun x36 h37=>Zq (idxV Z Z h37 tu149 z68 z97)<|Za Z<|Zb Z<|z9z [1] mixed Z Z<|hTk 0 Z Z (mv Z)<|hTk 1 Z Z (mv Z)<|hTk 2 Z Z (zat 1 Z Z (hh0 _))<|z4x fun x38 h39=>hTk 3 Z Z (ixH 1 Z Z (hh0 _) Z h39 tu149 z68)<|hTk 5 Z Z (mv Z)<|hTk 7 Z Z (zat 1 Z Z (hh0 _))<|zu6 4 Z (by kernel_rfl) (gd0 Z) Z Z z4r (ld 1 Z Z ((hh0 _).part (.el h39)) z97 Z)<|hTk 6 Z Z (W.add Z Z)<|z4x fun x40 h41=>hTk 8 Z Z (ixH 1 Z Z (hh0 _) Z h41 tu149 z68)<|Zp 9 Z Z Z Z Z (sto 1 Z Z ((hh0 _).part (.el h41)) Z z68)<|z6i (by kernel_rfl)<|z3w<|z0z<|z2n<|Zq (I.add Z Z)<|Zm Z<|z1z<|z2j (fun aa ww h=>Zu h [1,1001])
  ·refine z2s<|z1h<|z1g<|Ze [] [1,1001] Z
def z7z (s7:z1y × (List UInt8)):Option (Sum (z1y × (List UInt8)) (z1y × (List UInt8))) :=
 if decide (64≤(s7.2.length:Int)) then
  zb2 s7.1.Words s7.2 >>= fun r10 =>
  cut s7.2 64 (s7.2.length:Int) >>= fun x12 =>
  some (.inr ({ s7.1 with Words:=r10 },x12))
 else
  some (.inl (s7.1,s7.2))
def z9i (a0:z1y) (a1:List UInt8):Option (z1y) :=
 z1p [a0.Rest,a1] >>= fun r4 =>
 (iter (z7z) (a0,r4)) >>= fun s6 =>
 z6l s6.2 >>= fun r14 =>
 some (⟨({ s6.1 with N:=w64 (s6.1.N+(a1.length:Int)) }).Words,r14,({ s6.1 with N:=w64 (s6.1.N+(a1.length:Int)) }).N⟩:z1y)
theorem zdy (a0:z1y) (a1:List UInt8):z2k Tryz.prog 198 [.rd z29 a0,.rd (z03 u8R) a1] [zG1] (z9i a0 a1) (fun r nv=>⟨[.rd z29 r],[(1001,some (.bool true,.glob 1 (z3e 64 z0q) z7w))]⟩):=by
 refine z2x 29 Tryz.func198 Z Z Z fun H w=>?_
 refine gSR<|Eb Z (bx 1 Z) fun v1=>Eb Z (z9u 2 zj3 (ZrE.rd (R:=(z3e 8 z0q)) (x:=(Vector.replicate 8 0)) zm1 (ZrE.nilS (ZrE.rd (R:=z0i) (x:=0) (Zr.num Z) ZrE.nil Z)) Z)) fun v2=>Zn<|gSR<|Zq (faB 1 Z Z Tryz.underlying243 Z (by exact zbr))<|Zq (ld 1 Z Z (fP (zgt _)) zib Z)<|Zm Z<|Ef Z (lit (R:=(z03 u8R)) ([a0.Rest,a1]:List (List UInt8)) 3 (pP Z Z<|pP Z Z<|pN) Z tu193 zbr Z Z) fun v3=>zdr 3 [9] Z (fS Z<|fN)<|Zc [] [(100,4)] Tryz.func108 Z (z4u _) fun r4 n5=>Zb Z<|z7r (fun (s6:z1y × (List UInt8)) aa ww=>Sta (ctx 29 H [zG1] w) [(1,.rd (z03 u8R) a1),(2,.val (z0f v1 0)),(4,.val (z0f v2 0)),(5,.rd (z03 u8R) s6.2)] [(1,some (v1,.box 243 [.rd z29 s6.1])),(2,some (v2,.box 243 [.rd (z3e 8 z0q) (Vector.replicate 8 0),.val (.slice none 0 0),.rd z0i 0])),zG1] aa ww) ?_ (fun s6=>?_)
 ·refine gFrz 4 [10,5] Z (fS Z<|fS Z<|fN)<|z2t (fun (s7:z1y × (List UInt8)) aa ww=>Sta (ctx 29 H [zG1] w) [(1,.rd (z03 u8R) a1),(2,.val (z0f v1 0)),(4,.val (z0f v2 0)),(5,.rd (z03 u8R) s7.2)] [(1,some (v1,.box 243 [.rd z29 s7.1])),(2,some (v2,.box 243 [.rd (z3e 8 z0q) (Vector.replicate 8 0),.val (.slice none 0 0),.rd z0i 0])),zG1] aa ww) (fun aa ww h=>Zu h [1,2,1001]) (fun s7=>?_)
  refine z12<|gSR<|Zm Z<|Zq (z4d Z .rd Z tu52)<|Zq (I.geq Z Z)<|Zj Z (fun h8=>?_) (fun h8=>?_)
  ·refine Zt<|z6t<|gSR<|Zq (faB 1 Z Z Tryz.underlying243 Z (by exact zdp))<|Zm Z<|call [1,1001] [(1,1)] Z Tryz.func224 Z Z (zie _ _ (fun y9=>.box 243 [.rd z29 ({ s7.1 with Words:=y9 })]) (fun _=>(fP (zbn _))) _ _) (Y2 Z Z) (Zi Z<|Zi Z<|rN) fun r10 n11=>Zn<|z2n<|Zm Z<|z0r fun x12 h13=>Zq (zn2 Z (.to Z) .no h13 tu52 ti5)<|Za Z<|z1z<|z3w<|z2j (fun aa ww h=>Zu h [1,2,1001])
  ·refine z2s<|z1h<|z1g<|z3g (fun aa ww h=>Zu h [1,2,1001])
 ·refine z12<|z9z [1,1020] mixed Z Z<|hTk 0 Z Z (faB 1 Z Z Tryz.underlying243 Z (by exact ti3))<|hTk 2 Z Z (mv Z)<|hTk 3 Z Z (z4d Z .rd Z tu52)<|hTk 5 Z Z (mv Z)<|hAlt [1,6] (by kernel_rfl) Z ⟨?_,?_,trivial⟩
  ·refine zyo 1 Z (gd0 Z) Z Z z4r (ld 1 Z Z (fP (z7l _)) ty3 Z)<|hTk 4 Z Z (I.add Z Z)<|z5z 6 [] [(100,1020)] Z (by kernel_rfl) Z (gd0 Z) Z Tryz.func225 Z Z (z7s _) (Y1 Z) rN Z (fun _ _=>z36) fun r14 n15=>hTk 7 Z Z (faB 1 Z Z Tryz.underlying243 Z (by exact ti3))<|Zp 8 Z Z Z Z Z (sto 1 Z Z (fP (z7l _)) Z ti3)<|Zf 9 Z Z z36 (faB 1 Z Z Tryz.underlying243 Z (by exact zbr))<|hSpl (R:=z29) 1 Z (Sp.via (Sp.prod (Sp.prod (Sp.prod Sp.unit))))<|Zp 10 Z Z Z Z Z (zu4 1 Z Z (z89.cast (z89.next z02 (z89.here z02)) Z) Z z2v z0k zbr)<|z6i (by kernel_rfl)<|z0z<|gSR<|lPow [.rd (z3e 8 z0q) (({ s6.1 with N:=w64 (s6.1.N+(a1.length:Int)) }).Words),.rd (z03 u8R) r14,.rd z0i (({ s6.1 with N:=w64 (s6.1.N+(a1.length:Int)) }).N)] 1 1020 [.rd (z3e 8 z0q) (({ s6.1 with N:=w64 (s6.1.N+(a1.length:Int)) }).Words)] [.rd z0i (({ s6.1 with N:=w64 (s6.1.N+(a1.length:Int)) }).N)] Z Z Z Z Z<|zn1 (R:=z29) (⟨({ s6.1 with N:=w64 (s6.1.N+(a1.length:Int)) }).Words,r14,({ s6.1 with N:=w64 (s6.1.N+(a1.length:Int)) }).N⟩:z1y) 1 Z (Sp.via (Sp.prod (Sp.prod (Sp.prod Sp.unit))))<|Zq (ld 1 Z Z fH zl8 Z)<|zqm u8R [.rd (z3e 8 z0q) (Vector.replicate 8 0),.rd (z03 u8R) [],.rd z0i 0] 2 [.rd (z3e 8 z0q) (Vector.replicate 8 0)] [.rd z0i 0] Z Z Z<|zn1 (R:=z29) (⟨(Vector.replicate 8 0),[],0⟩:z1y) 2 Z (Sp.via (Sp.prod (Sp.prod (Sp.prod Sp.unit))))<|Es (sto 2 Z Z fH Z zj3)<|Zn<|z0o<|zch [] [1001] Z (eC 2 Z Z zl8<|eN) (y1 Z)
  ·refine z11n 6 [] [(100,1020)] Z Z (gd0 Z) Z Tryz.func225 Z Z (z7s _) (Y1 Z) rN Z (fun _ _=>z36) fun r16 n17=>zu6 1 Z (by kernel_rfl) (gd0 Z) Z Z z4r (ld 1 Z Z (fP (z7l _)) ty3 Z)<|hTk 4 Z Z (I.add Z Z)<|hTk 7 Z Z (faB 1 Z Z Tryz.underlying243 Z (by exact ti3))<|Zp 8 Z Z Z Z Z (sto 1 Z Z (fP (z7l _)) Z ti3)<|Zf 9 Z Z z36 (faB 1 Z Z Tryz.underlying243 Z (by exact zbr))<|hSpl (R:=z29) 1 Z (Sp.via (Sp.prod (Sp.prod (Sp.prod Sp.unit))))<|Zp 10 Z Z Z Z Z (zu4 1 Z Z (z89.cast (z89.next z02 (z89.here z02)) Z) Z z2v z0k zbr)<|z6i (by kernel_rfl)<|z0z<|gSR<|lPow [.rd (z3e 8 z0q) (({ s6.1 with N:=w64 (s6.1.N+(a1.length:Int)) }).Words),.rd (z03 u8R) r16,.rd z0i (({ s6.1 with N:=w64 (s6.1.N+(a1.length:Int)) }).N)] 1 1020 [.rd (z3e 8 z0q) (({ s6.1 with N:=w64 (s6.1.N+(a1.length:Int)) }).Words)] [.rd z0i (({ s6.1 with N:=w64 (s6.1.N+(a1.length:Int)) }).N)] Z Z Z Z Z<|zn1 (R:=z29) (⟨({ s6.1 with N:=w64 (s6.1.N+(a1.length:Int)) }).Words,r16,({ s6.1 with N:=w64 (s6.1.N+(a1.length:Int)) }).N⟩:z1y) 1 Z (Sp.via (Sp.prod (Sp.prod (Sp.prod Sp.unit))))<|Zq (ld 1 Z Z fH zl8 Z)<|zqm u8R [.rd (z3e 8 z0q) (Vector.replicate 8 0),.rd (z03 u8R) [],.rd z0i 0] 2 [.rd (z3e 8 z0q) (Vector.replicate 8 0)] [.rd z0i 0] Z Z Z<|zn1 (R:=z29) (⟨(Vector.replicate 8 0),[],0⟩:z1y) 2 Z (Sp.via (Sp.prod (Sp.prod (Sp.prod Sp.unit))))<|Es (sto 2 Z Z fH Z zj3)<|Zn<|z0o<|zch [] [1001] Z (eC 2 Z Z zl8<|eN) (y1 Z)
def z8t (y3:UInt64) (s9:(List UInt8) × Int):Option (Sum ((List UInt8)) ((List UInt8) × Int)) :=
 if decide (0≤s9.2) then
  chk (0≤s9.2) >>= fun u12 =>
  app 1 s9.1 [(z5k y3 ((s9.2:Int).toNat)).toUInt8] >>= fun x15 =>
  some (w64 (s9.2 - 8)) >>= fun y18 =>
  some (.inr (x15,y18))
 else
  some (.inl s9.1)
def z7c (r21:z1y) (s23:V3 × Int):Option (Sum (V3) (V3 × Int)) :=
 if decide (s23.2<8) then
  z61 r21.Words s23.2 >>= fun x25 =>
  z61 s23.1 (w64 (4 * s23.2)) >>= fun x27 =>
  z61 (zeq s23.1 (w64 (4 * s23.2)) ((z54 x25 24).toUInt8)) (w64 ((w64 (4 * s23.2))+1)) >>= fun x29 =>
  z61 (zeq (zeq s23.1 (w64 (4 * s23.2)) ((z54 x25 24).toUInt8)) (w64 ((w64 (4 * s23.2))+1)) ((z54 x25 16).toUInt8)) (w64 ((w64 (4 * s23.2))+2)) >>= fun x31 =>
  z61 (zeq (zeq (zeq s23.1 (w64 (4 * s23.2)) ((z54 x25 24).toUInt8)) (w64 ((w64 (4 * s23.2))+1)) ((z54 x25 16).toUInt8)) (w64 ((w64 (4 * s23.2))+2)) ((z54 x25 8).toUInt8)) (w64 ((w64 (4 * s23.2))+3)) >>= fun x33 =>
  some (.inr (zeq (zeq (zeq (zeq s23.1 (w64 (4 * s23.2)) ((z54 x25 24).toUInt8)) (w64 ((w64 (4 * s23.2))+1)) ((z54 x25 16).toUInt8)) (w64 ((w64 (4 * s23.2))+2)) ((z54 x25 8).toUInt8)) (w64 ((w64 (4 * s23.2))+3)) x25.toUInt8,w64 (s23.2+1)))
 else
  some (.inl s23.1)
def zda (a0:z1y):Option (V3) :=
 some ((UInt64.ofInt a0.N) * 8) >>= fun y3 =>
 zzp 1 [128] 0 (Int.tmod (w64 (119 - (Int.tmod a0.N 64))) 64) >>= fun x5 =>
 (iter (z8t y3) (x5,56)) >>= fun s8 =>
 (z9i a0 s8 >>= fun r21 =>
 iter (z7c r21) ((Vector.replicate 32 0),0)) >>= fun s20 =>
 some s20
theorem zkh (a0:z1y):z2k Tryz.prog 199 [.rd z29 a0] [zG1] (zda a0) (fun r nv=>⟨[.rd aZ r],[(1001,some (.bool true,.glob 1 (z3e 64 z0q) z7w))]⟩):=by
 refine z2x 66 Tryz.func199 Z Z Z fun H w=>?_
 refine gSR<|Eb Z (bx 1 Z) fun v1=>Eb Z (z9u 2 z5g (.zr (R:=aZ) (x:=(Vector.replicate 32 0)) zjv)) fun v2=>Zn<|gSR<|Zq (faB 1 Z Z Tryz.underlying243 Z (by exact ti3))<|Zq (ld 1 Z Z (fP (z7l _)) ty3 Z)<|Zq (I.toU Z tu3 tu35)<|Zq (U.mul Z Z)<|Za Z<|z26 3 Z fun y3=>Zn<|gSR<|Ef Z (lit (R:=u8R) ([128]:List UInt8) 3 (pP Z Z<|pN) Z tu52 ti5 Z Z) fun v4=>Zq (faB 1 Z Z Tryz.underlying243 Z (by exact ti3))<|Zq (ld 1 Z Z (fP (z7l _)) ty3 Z)<|Zq (I.rem Z Z (by decide))<|Zq (I.sub Z Z)<|Zq (I.rem Z Z (by decide))<|z0r fun x5 h6=>Ef Z (apZO 3 Z Z Z h6 tu52 tu3 ti5 (Zr.num Z) Z) fun v7=>Zb Z<|z7r (fun (s8:(List UInt8)) aa ww=>∃ nv:Nat→Value,Sta (ctx 66 H [zG1] w) [(1,.val (z0f v1 0)),(2,.val (z0f v2 0)),(4,.val (nv 0))] [(1,some (v1,.box 243 [.rd z29 a0])),(2,some (v2,.box 45 [.rd aZ (Vector.replicate 32 0)])),(3,some ((nv 0),.list u8R 5 s8)),zG1] aa ww) ?_ (fun s8=>?_)
 ·refine gSR<|Zb Z<|z2t (fun (s9:(List UInt8) × Int) aa ww=>∃ nv:Nat→Value,Sta (ctx 66 H [zG1] w) [(1,.val (z0f v1 0)),(2,.val (z0f v2 0)),(3,.rd z1t y3),(4,.val (nv 0)),(5,.rd z0i s9.2)] [(1,some (v1,.box 243 [.rd z29 a0])),(2,some (v2,.box 45 [.rd aZ (Vector.replicate 32 0)])),(3,some ((nv 0),.list u8R 5 s9.1)),zG1] aa ww) (fun aa ww h=>⟨nvl [v7],Zu h [1,2,3,1001]⟩) (fun s9=>?_)
  refine gEx fun n10=>z12<|gSR<|Zm Z<|Zq (I.geq Z Z)<|Zj Z (fun h11=>?_) (fun h11=>?_)
  ·refine Zt<|z12<|z6t<|z2n<|Zm Z<|Zm Z<|Zm Z<|z0r fun u12 h13=>Zq (U.shr Z Z (z4p h13))<|Zq (U.toB Z tu35 tu5)<|Ef Z (lit (R:=u8R) ([(z5k y3 ((s9.2:Int).toNat)).toUInt8]:List UInt8) 1100 (pP Z Z<|pN) Z tu52 ti5 Z Z) fun v14=>z0r fun x15 h16=>Ef Z (apn 3 Z Z Z (.own 1100 Z) h16 tu52 ti5 Z Z Z) fun v17=>Za Z<|z1z<|z3w<|z0z<|z2n<|Zm Z<|Zq (I.sub Z Z)<|Za Z<|z26 5 Z fun y18=>z1z<|z2j (fun aa ww h=>⟨nvl [v17],Zu h [1,2,3,1001]⟩)
  ·refine z2s<|z1h<|z1g<|z3g (fun aa ww h=>⟨nvl [(n10 0)],Zu h [1,2,3,1001]⟩)
 ·refine gEx fun n19=>z7r (fun (s20:V3) aa ww=>Sta (ctx 66 H [zG1] w) [(2,.val (z0f v2 0))] [(2,some (v2,.box 45 [.rd aZ s20])),zG1] aa ww) ?_ (fun s20=>?_)
  ·refine gSR<|Zq (ld 1 Z Z fH zl8 Z)<|Zm Z<|zdr 3 [4,31] Z (fS Z<|fS Z<|fN)<|Zc [1001] [] Tryz.func198 Z (zdy _ _) fun r21 n22=>Zq (fldV Z (zbn _) Z Tryz.underlying243 Z zmp)<|Zm Z<|Zn<|z2t (fun (s23:V3 × Int) aa ww=>Sta (ctx 66 H [zG1] w) [(2,.val (z0f v2 0)),(33,.rd (z3e 8 z0q) r21.Words),(34,.rd z0i s23.2)] [(2,some (v2,.box 45 [.rd aZ s23.1])),zG1] aa ww) (fun aa ww h=>Zu h [2,1001]) (fun s23=>?_)
   refine gSR<|Zq (I.lss Z Z)<|Zn<|z12<|gIf Z Z (fun h24=>?_) (fun h24=>?_)
   ·refine Zt<|z12<|z6t<|gSR<|Zm Z<|z0r fun x25 h26=>Zq (idxV Z Z h26 tu149 z68 z97)<|Za Z<|Zb Z<|z2n<|Zm Z<|Zq (I.mul Z Z)<|Zm Z<|Zq (I.mul Z Z)<|Zq (I.add Z Z)<|Zm Z<|Zq (I.mul Z Z)<|Zq (I.add Z Z)<|Zm Z<|Zq (I.mul Z Z)<|Zq (I.add Z Z)<|Zm Z<|Zq (W.shr Z Z (Int.natCast_nonneg _))<|Zq (W.toB Z tu34 tu5)<|Zm Z<|Zq (W.shr Z Z (Int.natCast_nonneg _))<|Zq (W.toB Z tu34 tu5)<|Zm Z<|Zq (W.shr Z Z (Int.natCast_nonneg _))<|Zq (W.toB Z tu34 tu5)<|Zm Z<|Zq (W.toB Z tu34 tu5)<|z0r fun x27 h28=>Zq (ixB 2 Z Z Z h28 tu45 ti5)<|Es (sto 2 Z Z (fP (.el h28)) Z ti5)<|z0r fun x29 h30=>Zq (ixB 2 Z Z Z h30 tu45 ti5)<|Es (sto 2 Z Z (fP (.el h30)) Z ti5)<|z0r fun x31 h32=>Zq (ixB 2 Z Z Z h32 tu45 ti5)<|Es (sto 2 Z Z (fP (.el h32)) Z ti5)<|z0r fun x33 h34=>Zq (ixB 2 Z Z Z h34 tu45 ti5)<|Es (sto 2 Z Z (fP (.el h34)) Z ti5)<|z1z<|z3w<|z0z<|z2n<|Zq (I.add Z Z)<|Zm Z<|z1z<|z2j (fun aa ww h=>Zu h [2,1001])
   ·refine z2s<|z1h<|z1g<|z3g (fun aa ww h=>Zu h [2,1001])
  ·refine gSR<|Zq (ld 2 Z Z fH z9m Z)<|Es (sto 2 Z Z fH Z z5g)<|Zn<|z0o<|zch [] [1001] Z (eC 2 Z Z z9m<|eN) (y1 Z)
def z0y (a0:List (List UInt8)) (s2:Int):Option (Sum (Sum Int Unit) Int) :=
 if decide (s2<(a0.length:Int)) then
  idx a0 s2 >>= fun x4 =>
  zaq x4 >>= fun r6 =>
  if r6 then
   some (.inl (.inl s2))
  else
   some (.inr (w64 (s2+1)))
 else
  some (.inl (.inr ()))
def z2c (a0:List (List UInt8)):Option (Int) :=
 z6n (iter (z0y a0) 0) fun s1 =>
 some (-1)
theorem z5u (a0:List (List UInt8)):z2k Tryz.prog 223 [.rd (z03 (z03 u8R)) a0,.val (.func (.func 196) #[] #[])] [] (z2c a0) (fun r nv=>⟨[.rd z0i r],[]⟩):=by
 refine z2x 19 Tryz.func223 Z Z Z fun H w=>?_
 refine gSR<|Zb Z<|z90 (fun (s1:Unit) aa ww=>Sta (ctx 19 H [] w) [] [] aa ww) ?_ (fun s1=>?_)
 ·refine gSR<|Zm Z<|Zq (z4d Z .rd Z tu193)<|Zm Z<|Zn<|z2t (fun (s2:Int) aa ww=>Sta (ctx 19 H [] w) [(0,.rd (z03 (z03 u8R)) a0),(1,.val (.func (.func 196) #[] #[])),(7,.rd z0i (a0.length:Int)),(8,.rd z0i s2)] [] aa ww) (fun aa ww h=>Zu h []) (fun s2=>?_)
  refine gSR<|Zq (I.lss Z Z)<|Zn<|z12<|gIf Z Z (fun h3=>?_) (fun h3=>?_)
  ·refine Zt<|z12<|z6t<|gSR<|Zm Z<|Zb Z<|gSR<|Zm Z<|Zm Z<|Zm Z<|z0r fun x4 h5=>Zq (ixR Z Z h5 tu193 zbr Z)<|Zq (ldR Z zib)<|zky [] [] (gd0 Z) Z Z Tryz.func196 Z Z (zfl _) (Y1 Z) (cN) rN fun r6 n7=>Zj Z (fun h8=>?_) (fun h8=>?_)
   ·refine gSR<|Zm Z<|Zb Z<|z0o<|z4h<|z10<|z8g<|z5l<|Ze [] [] Z
   ·refine z30<|z3w<|z0z<|z2n<|Zq (I.add Z Z)<|Zm Z<|z1z<|z2j (fun aa ww h=>Zu h [])
  ·refine z2s<|z1h<|z1g<|z6u (fun aa ww h=>Zu h [])
 ·refine gSR<|Zb Z<|z0o<|Ze [] [] Z
def z1c (a0:List (List UInt8)):Option (Bool) :=
 z2c a0 >>= fun r1 =>
 some (decide (0≤r1)) >>= fun y3 =>
 some y3
theorem z5e (a0:List (List UInt8)):z2k Tryz.prog 195 [.rd (z03 (z03 u8R)) a0,.val (.func (.func 196) #[] #[])] [] (z1c a0) (fun r nv=>⟨[.rd z0g r],[]⟩):=by
 refine z2x 9 Tryz.func195 Z Z Z fun H w=>?_
 refine gSR<|Zb Z<|gSR<|Zm Z<|Zm Z<|Zc [] [] Tryz.func223 Z (z5u _) fun r1 n2=>Zq (I.geq Z Z)<|Za Z<|z26 4 Z fun y3=>Zn<|z0o<|Ze [] [] Z
def z6g (a0:List (List UInt8)) (s11:z1y × Int):Option (Sum z1y (z1y × Int)) :=
 if decide (s11.2<(a0.length:Int)) then
  idx a0 s11.2 >>= fun x13 =>
  z9i s11.1 x13 >>= fun r15 =>
  some (.inr (r15,w64 (s11.2+1)))
 else
  some (.inl s11.1)
def za9 (a0:List (List UInt8)):Option (V3 × Int) :=
 (if decide (20<(a0.length:Int)) then
  some true
 else
  z1c a0 >>= fun r4 =>
  some r4) >>= fun s2 =>
 if s2 then
  some ((Vector.replicate 32 0),4)
 else
  zav >>= fun r7 =>
  (iter (z6g a0) (r7,0)) >>= fun s10 =>
  zda s10 >>= fun r17 =>
  some (r17,0)
theorem zgu (a0:List (List UInt8)):z2k Tryz.prog 160 [.rd (z03 (z03 u8R)) a0] [zG1] (za9 a0) (fun r nv=>⟨[.rd aZ r.1,.rd z0i r.2],[(1001,some (.bool true,.glob 1 (z3e 64 z0q) z7w))]⟩):=by
 refine z2x 28 Tryz.func160 Z Z Z fun H w=>?_
 refine gSR<|Eb Z (z9u 1 z5g (.zr (R:=aZ) (x:=(Vector.replicate 32 0)) zjv)) fun v1=>Zb Z<|z12<|z7r (fun (s2:Bool) aa ww=>Sta (ctx 28 H [zG1] w) [(0,.rd (z03 (z03 u8R)) a0),(2,.val (z0f v1 0)),(13,.rd z0g s2)] [(1,some (v1,.box 45 [.rd aZ (Vector.replicate 32 0)])),zG1] aa ww) ?_ (fun s2=>?_)
 ·refine z2n<|Zm Z<|Zq (z4d Z .rd Z tu193)<|Zq (I.gtr Z Z)<|Zm Z<|z14 10 Z (fun h3=>?_) (fun h3=>?_)
  ·refine lKn 9 Z h3<|Zk Z<|Zk Z<|Zq (pkT Z Z)<|z1z<|z3g (fun aa ww h=>Zu h [1,1001])
  ·refine lKn 9 Z h3<|z0u Zx Z Z (mv Z)<|zb9 [] [] Zx Z Tryz.func195 Z Z (z5e _) (Y2 Z Z) rN fun r4 n5=>Zq (pkF Z Z)<|z1z<|z3g (fun aa ww h=>Zu h [1,1001])
 ·refine gIf Z Z (fun h6=>?_) (fun h6=>?_)
  ·refine gSR<|Zq (bldG (x':=((Vector.replicate 32 0):V3)) tu45 z5g zjv ti5 (Bld.done Z))<|Es (sto 1 Z Z fH Z z5g)<|Zb Z<|z0o<|z10<|zch [] [1001] Z (eC 1 Z Z z9m<|eE Z<|eN) (y1 Z)
  ·refine Zt<|gSR<|Zc [] [] Tryz.func197 Z (zi9) fun r7 n8=>Eb Z (z9u 1100 zj3 (ZrE.rd (R:=(z3e 8 z0q)) (x:=(Vector.replicate 8 0)) zm1 (ZrE.nilS (ZrE.rd (R:=z0i) (x:=0) (Zr.num Z) ZrE.nil Z)) Z)) fun v9=>zqm u8R [.rd (z3e 8 z0q) (Vector.replicate 8 0),.rd (z03 u8R) [],.rd z0i 0] 1100 [.rd (z3e 8 z0q) (Vector.replicate 8 0)] [.rd z0i 0] Z Z Z<|zn1 (R:=z29) (⟨(Vector.replicate 8 0),[],0⟩:z1y) 1100 Z (Sp.via (Sp.prod (Sp.prod (Sp.prod Sp.unit))))<|Es (sto 1100 Z Z fH Z zj3)<|Zn<|z7r (fun (s10:z1y) aa ww=>Sta (ctx 28 H [zG1] w) [(2,.val (z0f v1 0)),(4,.val (z0f v9 0))] [(1,some (v1,.box 45 [.rd aZ (Vector.replicate 32 0)])),(1100,some (v9,.box 243 [.rd z29 s10])),zG1] aa ww) ?_ (fun s10=>?_)
   ·refine gSR<|Zm Z<|Zq (z4d Z .rd Z tu193)<|Zm Z<|Zn<|z2t (fun (s11:z1y × Int) aa ww=>Sta (ctx 28 H [zG1] w) [(2,.val (z0f v1 0)),(4,.val (z0f v9 0)),(16,.rd (z03 (z03 u8R)) a0),(17,.rd z0i (a0.length:Int)),(18,.rd z0i s11.2)] [(1,some (v1,.box 45 [.rd aZ (Vector.replicate 32 0)])),(1100,some (v9,.box 243 [.rd z29 s11.1])),zG1] aa ww) (fun aa ww h=>Zu h [1,1100,1001]) (fun s11=>?_)
    refine gSR<|Zq (I.lss Z Z)<|Zn<|z12<|gIf Z Z (fun h12=>?_) (fun h12=>?_)
    ·refine Zt<|z12<|z6t<|gSR<|z0r fun x13 h14=>Zq (ixR Z Z h14 tu193 zbr Z)<|Zq (ldR Z zib)<|Zb Z<|z2n<|Zq (ld 1100 Z Z fH zl8 Z)<|Zm Z<|Zc [1001] [] Tryz.func198 Z (zdy _ _) fun r15 n16=>Es (sto 1100 Z Z fH Z zj3)<|z1z<|z3w<|z0z<|z2n<|Zq (I.add Z Z)<|Zm Z<|z1z<|z2j (fun aa ww h=>Zu h [1,1100,1001])
    ·refine z2s<|z1h<|z1g<|z3g (fun aa ww h=>Zu h [1,1100,1001])
   ·refine gSR<|Zq (ld 1100 Z Z fH zl8 Z)<|Zc [1001] [] Tryz.func199 Z (zkh _) fun r17 n18=>Es (sto 1 Z Z fH Z z5g)<|Zb Z<|z0o<|zch [] [1001] Z (eC 1 Z Z z9m<|eE Z<|eN) (y1 Z)
def zd7 (a0:List UInt8):Option (V3 × Int) :=
 za9 [a0] >>= fun r3 =>
 some (r3.1,r3.2)
theorem zkt (a0:List UInt8):z2k Tryz.prog 115 [.rd (z03 u8R) a0] [zG1] (zd7 a0) (fun r nv=>⟨[.rd aZ r.1,.rd z0i r.2],[(1001,some (.bool true,.glob 1 (z3e 64 z0q) z7w))]⟩):=by
 refine z2x 9 Tryz.func115 Z Z Z fun H w=>?_
 refine gSR<|Eb Z (z9u 1 z5g (.zr (R:=aZ) (x:=(Vector.replicate 32 0)) zjv)) fun v1=>Zb Z<|gSR<|Zm Z<|Ef Z (lit (R:=(z03 u8R)) ([a0]:List (List UInt8)) 2 (pP Z Z<|pN) Z tu193 zbr Z Z) fun v2=>zdr 2 [5] Z (fS Z<|fN)<|Zc [1001] [] Tryz.func160 Z (zgu _) fun r3 n4=>Zq (ext Z Z)<|Zq (ext Z Z)<|Es (sto 1 Z Z fH Z z5g)<|Zb Z<|z0o<|zch [] [1001] Z (eC 1 Z Z z9m<|eE Z<|eN) (y1 Z)
def zo3 (a0:z01):Option (V3 × Int) :=
 zaj a0 >>= fun r3 =>
 if r3.2 != 0 then
  some ((Vector.replicate 32 0),r3.2)
 else
  zd7 r3.1 >>= fun r6 =>
  some (r6.1,r6.2)
theorem zkv (a0:z01):z2k Tryz.prog 65 [.rd z04 a0] [zG1] (zo3 a0) (fun r nv=>⟨[.rd aZ r.1,.rd z0i r.2],[(1001,some (.bool true,.glob 1 (z3e 64 z0q) z7w))]⟩):=by
 refine z2x 19 Tryz.func65 Z Z Z fun H w=>?_
 refine gSR<|Eb Z (bx 1 Z) fun v1=>Eb Z (z9u 2 z5g (.zr (R:=aZ) (x:=(Vector.replicate 32 0)) zjv)) fun v2=>Zb Z<|gSR<|Zq (ld 1 Z Z fH zbe Z)<|Zc [] [(100,3)] Tryz.func58 Z (zgl _) fun r3 n4=>Zm Z<|Zq (ext Z Z)<|Zq (ext Z Z)<|Za Z<|Zb Z<|z12<|gSR<|Zm Z<|Zq (I.neq Z Z)<|Zj Z (fun h5=>?_) (fun h5=>?_)
 ·refine gSR<|Zq (bldG (x':=((Vector.replicate 32 0):V3)) tu45 z5g zjv ti5 (Bld.done Z))<|Zm Z<|Es (sto 2 Z Z fH Z z5g)<|Zb Z<|z0o<|z10<|zch [] [1001] Z (eC 2 Z Z z9m<|eE Z<|eN) (y1 Z)
 ·refine Zt<|gSR<|Zm Z<|zdr 3 [9,4,15] Z (fS Z<|fS Z<|fS Z<|fN)<|Zc [1001] [] Tryz.func115 Z (zkt _) fun r6 n7=>Zq (ext Z Z)<|Zq (ext Z Z)<|Es (sto 2 Z Z fH Z z5g)<|Zb Z<|z0o<|zch [] [1001] Z (eC 2 Z Z z9m<|eE Z<|eN) (y1 Z)
def z48 (s4:UInt64 × (List UInt8)):Option (Sum ((List UInt8)) (UInt64 × (List UInt8))) :=
 if decide (0<s4.1) then
  app 1 s4.2 [(s4.1 % 256).toUInt8] >>= fun x8 =>
  some (.inr (s4.1 / 256,x8))
 else
  some (.inl s4.2)
def z4a (s3:(List UInt8)) (s15:(List UInt8) × Int):Option (Sum ((List UInt8)) ((List UInt8) × Int)) :=
 if decide (0≤s15.2) then
  idx s3 s15.2 >>= fun x18 =>
  app 1 s15.1 [x18] >>= fun x21 =>
  some (w64 (s15.2 - 1)) >>= fun y24 =>
  some (.inr (x21,y24))
 else
  some (.inl s15.1)
def z24 (a0:UInt64):Option ((List UInt8)) :=
 if decide (a0≤247) then
  some [a0.toUInt8]
 else
  (iter (z48) (a0,[])) >>= fun s3 =>
  (some (w64 ((s3.length:Int) - 1)) >>= fun y14 =>
  iter (z4a s3) ([UInt8.ofInt (w64 (247+(s3.length:Int)))],y14)) >>= fun s13 =>
  some s13
end
section
open Go Go.RowKit
set_option maxRecDepth 100000
theorem z2h (a0:UInt64):z2k Tryz.prog 104 [.rd z1t a0] [] (z24 a0) (fun r nv=>⟨[.val (nv 0)],[(100,some (nv 0,.list u8R 5 r))]⟩):=by
 refine z2x 41 Tryz.func104 Z Z Z fun H w=>?_
 refine gSR<|Zb Z<|z12<|gSR<|Zm Z<|Zq (U.leq Z Z)<|Zj Z (fun h1=>?_) (fun h1=>?_)
 ·refine gSR<|Zm Z<|Zq (U.toB Z tu35 tu5)<|Ef Z (lit (R:=u8R) ([a0.toUInt8]:List UInt8) 1 (pP Z Z<|pN) Z tu52 ti5 Z Z) fun v2=>Zb Z<|z0o<|z10<|Ze [v2] [1] Z
 ·refine Zt<|gSR<|Zb Z<|z7r (fun (s3:(List UInt8)) aa ww=>∃ nv:Nat→Value,Sta (ctx 41 H [] w) [(3,.val (nv 0))] [(3,some ((nv 0),.list u8R 5 s3))] aa ww) ?_ (fun s3=>?_)
  ·refine zu8 u8R 5 6<|z2t (fun (s4:UInt64 × (List UInt8)) aa ww=>∃ nv:Nat→Value,Sta (ctx 41 H [] w) [(0,.rd z1t s4.1),(3,.val (nv 0))] [(5,some ((nv 0),.list u8R 5 s4.2))] aa ww) (fun aa ww h=>⟨nvl [(.slice none 0 0)],Zu h [6]⟩) (fun s4=>?_)
   refine gEx fun n5=>z12<|gSR<|Zm Z<|Zq (U.gtr Z Z)<|Zj Z (fun h6=>?_) (fun h6=>?_)
   ·refine Zt<|z6t<|gSR<|Zm Z<|Zm Z<|Zq (U.rem Z Z (by decide))<|Zq (U.toB Z tu35 tu5)<|Ef Z (lit (R:=u8R) ([(s4.1 % 256).toUInt8]:List UInt8) 7 (pP Z Z<|pN) Z tu52 ti5 Z Z) fun v7=>z0r fun x8 h9=>Ef Z (apn 5 Z Z Z (.own 7 Z) h9 tu52 ti5 Z Z Z) fun v10=>Zb Z<|z2n<|Zm Z<|Zq (U.quo Z Z (by decide))<|Za Z<|z1z<|z3w<|z2j (fun aa ww h=>⟨nvl [v10],Zu h [5]⟩)
   ·refine z2s<|z1h<|z1g<|z3g (fun aa ww h=>⟨nvl [(n5 0)],Zu h [5]⟩)
  ·refine gEx fun n11=>gSR<|Zm Z<|Zq (z4d Z (.own 3 Z) Z tu52)<|Zq (I.add Z Z)<|Zq (I.toB Z tu3 tu5)<|Ef Z (lit (R:=u8R) ([UInt8.ofInt (w64 (247+(s3.length:Int)))]:List UInt8) 8 (pP Z Z<|pN) Z tu52 ti5 Z Z) fun v12=>Zb Z<|z7r (fun (s13:(List UInt8)) aa ww=>∃ nv:Nat→Value,Sta (ctx 41 H [] w) [(4,.val (nv 0))] [(8,some ((nv 0),.list u8R 5 s13))] aa ww) ?_ (fun s13=>?_)
   ·refine gSR<|Zm Z<|Zq (z4d Z (.own 3 Z) Z tu52)<|Zq (I.sub Z Z)<|Za Z<|z26 5 Z fun y14=>Zn<|z2t (fun (s15:(List UInt8) × Int) aa ww=>∃ nv:Nat→Value,Sta (ctx 41 H [] w) [(3,.val (n11 0)),(4,.val (nv 0)),(5,.rd z0i s15.2)] [(3,some ((n11 0),.list u8R 5 s3)),(8,some ((nv 0),.list u8R 5 s15.1))] aa ww) (fun aa ww h=>⟨nvl [v12],Zu h [3,8]⟩) (fun s15=>?_)
    refine gEx fun n16=>z12<|gSR<|Zm Z<|Zq (I.geq Z Z)<|Zj Z (fun h17=>?_) (fun h17=>?_)
    ·refine Zt<|z12<|z6t<|z2n<|Zm Z<|Zm Z<|Zm Z<|z0r fun x18 h19=>Zq (ixO 3 Z Z Z h19 tu52 ti5)<|Zq (ld 3 Z Z (Foc.el h19) ty5 Z)<|Ef Z (lit (R:=u8R) ([x18]:List UInt8) 9 (pP Z Z<|pN) Z tu52 ti5 Z Z) fun v20=>z0r fun x21 h22=>Ef Z (apn 8 Z Z Z (.own 9 Z) h22 tu52 ti5 Z Z Z) fun v23=>Za Z<|z1z<|z3w<|z0z<|z2n<|Zm Z<|Zq (I.sub Z Z)<|Za Z<|z26 5 Z fun y24=>z1z<|z2j (fun aa ww h=>⟨nvl [v23],Zu h [3,8]⟩)
    ·refine z2s<|z1h<|z1g<|z3g (fun aa ww h=>⟨nvl [(n16 0)],Zu h [8]⟩)
   ·refine gEx fun n25=>gSR<|Zm Z<|Zb Z<|z0o<|Ze [(n25 0)] [8] Z
def z59 (a0:List V3) (s4:(List UInt8) × Int):Option (Sum ((List UInt8)) ((List UInt8) × Int)) :=
 if decide (s4.2<(a0.length:Int)) then
  idx a0 s4.2 >>= fun x7 =>
  app 1 s4.1 x7.toList >>= fun x9 =>
  some (w64 (s4.2+1)) >>= fun y12 =>
  some (.inr (x9,y12))
 else
  some (.inl s4.1)
def z8r (a0:List V3):Option ((List UInt8)) :=
 z24 (UInt64.ofInt (a0.length:Int)) >>= fun r1 =>
 (iter (z59 a0) (r1,0)) >>= fun s3 =>
 some s3
theorem zet (a0:List V3):z2k Tryz.prog 144 [.rd (z03 aZ) a0] [] (z8r a0) (fun r nv=>⟨[.val (nv 0)],[(100,some (nv 0,.list u8R 5 r))]⟩):=by
 refine z2x 22 Tryz.func144 Z Z Z fun H w=>?_
 refine gSR<|Zb Z<|gSR<|Zm Z<|Zq (z4d Z .rd Z tu29)<|Zq (I.toU Z tu3 tu35)<|Zc [] [(100,1)] Tryz.func104 Z (z2h _) fun r1 n2=>Zb Z<|z7r (fun (s3:(List UInt8)) aa ww=>∃ nv:Nat→Value,Sta (ctx 22 H [] w) [(3,.val (nv 0))] [(1,some ((nv 0),.list u8R 5 s3))] aa ww) ?_ (fun s3=>?_)
 ·refine gSR<|Zb Z<|z2t (fun (s4:(List UInt8) × Int) aa ww=>∃ nv:Nat→Value,Sta (ctx 22 H [] w) [(0,.rd (z03 aZ) a0),(3,.val (nv 0)),(4,.rd z0i s4.2)] [(1,some ((nv 0),.list u8R 5 s4.1))] aa ww) (fun aa ww h=>⟨nvl [(n2 0)],Zu h [1]⟩) (fun s4=>?_)
  refine gEx fun n5=>z12<|gSR<|Zm Z<|Zm Z<|Zq (z4d Z .rd Z tu29)<|Zq (I.lss Z Z)<|Zj Z (fun h6=>?_) (fun h6=>?_)
  ·refine Zt<|z12<|z6t<|z2n<|Zm Z<|Zm Z<|Zm Z<|z0r fun x7 h8=>Zq (ixR Z Z h8 tu29 z5g Z)<|Zq (zzj Z tu45 ti5 Z Z Z)<|z0r fun x9 h10=>Ef Z (apn 1 Z Z Z .rd h10 tu52 ti5 Z Z Z) fun v11=>Za Z<|z1z<|z3w<|z0z<|z2n<|Zm Z<|Zq (I.add Z Z)<|Za Z<|z26 4 Z fun y12=>z1z<|z2j (fun aa ww h=>⟨nvl [v11],Zu h [1]⟩)
  ·refine z2s<|z1h<|z1g<|z3g (fun aa ww h=>⟨nvl [(n5 0)],Zu h [1]⟩)
 ·refine gEx fun n13=>gSR<|Zm Z<|Zb Z<|z0o<|Ze [(n13 0)] [1] Z
def z5t (a0:List UInt8):Option ((List UInt8)) :=
 z24 (UInt64.ofInt (a0.length:Int)) >>= fun r1 =>
 app 1 r1 a0 >>= fun x3 =>
 some x3
theorem zb1 (a0:List UInt8):z2k Tryz.prog 109 [.rd (z03 u8R) a0] [] (z5t a0) (fun r nv=>⟨[.val (nv 0)],[(100,some (nv 0,.list u8R 5 r))]⟩):=by
 refine z2x 9 Tryz.func109 Z Z Z fun H w=>?_
 refine gSR<|Zb Z<|gSR<|Zm Z<|Zq (z4d Z .rd Z tu52)<|Zq (I.toU Z tu3 tu35)<|Zc [] [(100,1)] Tryz.func104 Z (z2h _) fun r1 n2=>Zm Z<|z0r fun x3 h4=>Ef Z (apn 1 Z Z Z .rd h4 tu52 ti5 Z Z Z) fun v5=>Zb Z<|z0o<|Ze [v5] [1] Z
def z7n (a0:Int):Option ((List UInt8)) :=
 if decide (0≤a0) then
  z24 (2 * (UInt64.ofInt a0)) >>= fun r2 =>
  some r2
 else
  z24 ((2 * (UInt64.ofInt (w64 (0 - (w64 (a0+1))))))+1) >>= fun r4 =>
  some r4
theorem zdn (a0:Int):z2k Tryz.prog 188 [.rd z0i a0] [] (z7n a0) (fun r nv=>⟨[.val (nv 0)],[(100,some (nv 0,.list u8R 5 r))]⟩):=by
 refine z2x 16 Tryz.func188 Z Z Z fun H w=>?_
 refine gSR<|Zb Z<|z12<|gSR<|Zm Z<|Zq (I.geq Z Z)<|Zj Z (fun h1=>?_) (fun h1=>?_)
 ·refine gSR<|Zm Z<|Zq (I.toU Z Tryz.underlying2 tu35)<|Zq (U.mul Z Z)<|Zc [] [(100,1)] Tryz.func104 Z (z2h _) fun r2 n3=>Zb Z<|z0o<|z10<|Ze [(n3 0)] [1] Z
 ·refine Zt<|gSR<|Zm Z<|Zq (I.add Z Z)<|Zq (I.neg Z)<|Zq (I.toU Z Tryz.underlying2 tu35)<|Zq (U.mul Z Z)<|Zq (U.add Z Z)<|Zc [] [(100,2)] Tryz.func104 Z (z2h _) fun r4 n5=>Zb Z<|z0o<|Ze [(n5 0)] [2] Z
def z4k (a0:z00) (s11:(List UInt8) × Int):Option (Sum ((List UInt8)) ((List UInt8) × Int)) :=
 if decide (0≤s11.2) then
  chk (0≤w64 (8 * s11.2)) >>= fun u14 =>
  app 1 s11.1 [(z5k a0.Bits ((w64 (8 * s11.2):Int).toNat)).toUInt8] >>= fun x17 =>
  some (w64 (s11.2 - 1)) >>= fun y20 =>
  some (.inr (x17,y20))
 else
  some (.inl s11.1)
def z88 (a0:z00):Option ((List UInt8)) :=
 if a0.Kind==1 then
  z7n a0.Num >>= fun r4 =>
  app 1 [a0.Kind] r4 >>= fun x6 =>
  some x6
 else
  if a0.Kind==2 then
   (iter (z4k a0) ([a0.Kind],7)) >>= fun s10 =>
   some s10
  else
   chk (a0.Text.length≤281474976710656) >>= fun u22 =>
   z5t a0.Text >>= fun r24 =>
   app 1 [a0.Kind] r24 >>= fun x26 =>
   some x26
theorem ze9 (a0:z00):z2k Tryz.prog 145 [.rd z0p a0] [] (z88 a0) (fun r nv=>⟨[.val (nv 0)],[(100,some (nv 0,.list u8R 5 r))]⟩):=by
 refine z2x 39 Tryz.func145 Z Z Z fun H w=>?_
 refine gSR<|Eb Z (bx 1 Z) fun v1=>Zb Z<|gSR<|Zq (faB 1 Z Z Tryz.underlying37 Z (by exact ti5))<|Zq (ld 1 Z Z (fP (z1n _)) ty5 Z)<|Ef Z (lit (R:=u8R) ([a0.Kind]:List UInt8) 2 (pP Z Z<|pN) Z tu52 ti5 Z Z) fun v2=>Zb Z<|z12<|gSR<|Zq (faB 1 Z Z Tryz.underlying37 Z (by exact ti5))<|Zq (ld 1 Z Z (fP (z1n _)) ty5 Z)<|Zn<|z6t<|gSR<|Zq (B.eql Z Z)<|Zb Z<|gIf Z Z (fun h3=>?_) (fun h3=>?_)
 ·refine gKn 11 Z h3<|gSR<|Zm Z<|Zq (faB 1 Z Z Tryz.underlying37 Z (by exact ti2))<|Zq (ld 1 Z Z (fP (z44 _)) ty2 Z)<|Zc [] [(100,3)] Tryz.func188 Z (zdn _) fun r4 n5=>z0r fun x6 h7=>Ef Z (apn 2 Z Z Z (.own 3 Z) h7 tu52 ti5 Z Z Z) fun v8=>Zb Z<|z0o<|z4h<|z10<|Ze [v8] [2] Z
 ·refine gKn 11 Z h3<|gSR<|Zq (B.eql Z Z)<|Zb Z<|gIf Z Z (fun h9=>?_) (fun h9=>?_)
  ·refine gKn 18 Z h9<|z7r (fun (s10:(List UInt8)) aa ww=>∃ nv:Nat→Value,Sta (ctx 39 H [] w) [(3,.val (nv 0))] [(2,some ((nv 0),.list u8R 5 s10))] aa ww) ?_ (fun s10=>?_)
   ·refine gSR<|Zb Z<|z2t (fun (s11:(List UInt8) × Int) aa ww=>∃ nv:Nat→Value,Sta (ctx 39 H [] w) [(1,.val (z0f v1 0)),(3,.val (nv 0)),(4,.rd z0i s11.2)] [(1,some (v1,.box 37 [.rd z0p a0])),(2,some ((nv 0),.list u8R 5 s11.1))] aa ww) (fun aa ww h=>⟨nvl [v2],Zu h [1,2]⟩) (fun s11=>?_)
    refine gEx fun n12=>z12<|gSR<|Zm Z<|Zq (I.geq Z Z)<|Zj Z (fun h13=>?_) (fun h13=>?_)
    ·refine Zt<|z12<|z6t<|z2n<|Zm Z<|Zq (faB 1 Z Z Tryz.underlying37 Z (by exact zl5))<|Zq (ld 1 Z Z (fP (z2e _)) zng Z)<|Zm Z<|Zq (I.mul Z Z)<|z0r fun u14 h15=>Zq (U.shr Z Z (z4p h15))<|Zq (U.toB Z tu35 tu5)<|Ef Z (lit (R:=u8R) ([(z5k a0.Bits ((w64 (8 * s11.2):Int).toNat)).toUInt8]:List UInt8) 4 (pP Z Z<|pN) Z tu52 ti5 Z Z) fun v16=>z0r fun x17 h18=>Ef Z (apn 2 Z Z Z (.own 4 Z) h18 tu52 ti5 Z Z Z) fun v19=>Za Z<|z1z<|z3w<|z0z<|z2n<|Zm Z<|Zq (I.sub Z Z)<|Za Z<|z26 4 Z fun y20=>z1z<|z2j (fun aa ww h=>⟨nvl [v19],Zu h [1,2]⟩)
    ·refine z2s<|z1h<|z1g<|z3g (fun aa ww h=>⟨nvl [(n12 0)],Zu h [2]⟩)
   ·refine gEx fun n21=>gSR<|Zm Z<|Zb Z<|z0o<|z4h<|z10<|Ze [(n21 0)] [2] Z
  ·refine gKn 18 Z h9<|z30<|z3w<|z0z<|gSR<|Zm Z<|Zq (faB 1 Z Z Tryz.underlying37 Z (by exact ti9))<|Zq (ld 1 Z Z (fP (z2f _)) ty9 Z)<|z0r fun u22 h23=>zv2 Z Z h23 tu9 tu52 tu5<|Zc [] [(100,5)] Tryz.func109 Z (zb1 _) fun r24 n25=>z0r fun x26 h27=>Ef Z (apn 2 Z Z Z (.own 5 Z) h27 tu52 ti5 Z Z Z) fun v28=>Zb Z<|z0o<|Ze [v28] [2] Z
def z8v (a0:z01):Option ((List UInt8)) :=
 z24 a0.Author.toUInt64 >>= fun r3 =>
 app 1 [111] r3 >>= fun x5 =>
 z8r a0.Preds >>= fun r8 =>
 app 1 x5 r8 >>= fun x10 =>
 z24 a0.Stamp >>= fun r13 =>
 app 1 x10 r13 >>= fun x15 =>
 app 1 x15 [a0.Act.Kind] >>= fun x19 =>
 (if a0.Act.Kind != 1 then
  chk (a0.Act.Key.length≤281474976710656) >>= fun u24 =>
  z5t a0.Act.Key >>= fun r26 =>
  app 1 x19 r26 >>= fun x28 =>
  some x28
 else
  some x19) >>= fun s22 =>
 if a0.Act.Kind==4 then
  z88 a0.Act.Value >>= fun r33 =>
  app 1 s22 r33 >>= fun x35 =>
  some x35
 else
  some s22
theorem zfg (a0:z01):z2k Tryz.prog 103 [.rd z04 a0] [] (z8v a0) (fun r nv=>⟨[.val (nv 0)],[(100,some (nv 0,.list u8R 5 r))]⟩):=by
 refine z2x 47 Tryz.func103 Z Z Z fun H w=>?_
 refine gSR<|Eb Z (bx 1 Z) fun v1=>Zb Z<|gSR<|Ef Z (lit (R:=u8R) ([111]:List UInt8) 2 (pP Z Z<|pN) Z tu52 ti5 Z Z) fun v2=>Zq (faB 1 Z Z Tryz.underlying43 Z (by exact z68))<|Zq (ld 1 Z Z (fP (z4y _)) z97 Z)<|Zq (W.toU Z tu34 tu35)<|Zc [] [(100,3)] Tryz.func104 Z (z2h _) fun r3 n4=>z0r fun x5 h6=>Ef Z (apn 2 Z Z Z (.own 3 Z) h6 tu52 ti5 Z Z Z) fun v7=>Zb Z<|z12<|z9z [2,13,25] mixed Z Z<|hTk 0 Z Z (mv Z)<|hTk 1 Z Z (faB 1 Z Z Tryz.underlying43 Z (by exact zcr))<|hTk 2 Z Z (ld 1 Z Z (fP (z19 _)) zhy Z)<|hTk 5 Z Z (faB 1 Z Z Tryz.underlying43 Z (by exact zl5))<|hTk 6 Z Z (ld 1 Z Z (fP (z5v _)) zng Z)<|z5z 3 [] [(100,13)] Z (by kernel_rfl) Z (gd0 Z) Z Tryz.func144 Z Z (zet _) (Y1 Z) rN Z (fun _ _=>z36) fun r8 n9=>z4x fun x10 h11=>Zo 4 Z Z Z (apn 2 Z Z Z (.own 13 Z) h11 tu52 ti5 Z Z Z) fun v12=>z5z 7 [] [(100,25)] Z (by kernel_rfl) Z (gd0 Z) Z Tryz.func104 Z Z (z2h _) (Y1 Z) rN Z (fun _ _=>z36) fun r13 n14=>z4x fun x15 h16=>Zo 8 Z Z Z (apn 2 Z Z Z (.own 25 Z) h16 tu52 ti5 Z Z Z) fun v17=>Zf 9 Z Z z36 (asg Z)<|z6i (by kernel_rfl)<|z0z<|gSR<|Zm Z<|Zq (faB 1 Z Z Tryz.underlying43 Z (by exact zhb))<|Zq (faB 1 Z Z Tryz.underlying39 Z (by exact ti5))<|Zq (ld 1 Z Z ((fP (z1x _)).part (z20 _)) ty5 Z)<|Ef Z (lit (R:=u8R) ([a0.Act.Kind]:List UInt8) 37 (pP Z Z<|pN) Z tu52 ti5 Z Z) fun v18=>z0r fun x19 h20=>Ef Z (apn 2 Z Z Z (.own 37 Z) h20 tu52 ti5 Z Z Z) fun v21=>Zb Z<|z7r (fun (s22:(List UInt8)) aa ww=>∃ nv:Nat→Value,Sta (ctx 47 H [] w) [(1,.val (z0f v1 0)),(3,.val (nv 0))] [(1,some (v1,.box 43 [.rd z04 a0])),(2,some ((nv 0),.list u8R 5 s22))] aa ww) ?_ (fun s22=>?_)
 ·refine gSR<|Zq (faB 1 Z Z Tryz.underlying43 Z (by exact zhb))<|Zq (faB 1 Z Z Tryz.underlying39 Z (by exact ti5))<|Zq (ld 1 Z Z ((fP (z1x _)).part (z20 _)) ty5 Z)<|Zq (B.neq Z Z)<|Zj Z (fun h23=>?_) (fun h23=>?_)
  ·refine z2n<|Zm Z<|Zq (faB 1 Z Z Tryz.underlying43 Z (by exact zhb))<|Zq (faB 1 Z Z Tryz.underlying39 Z (by exact ti9))<|Zq (ld 1 Z Z ((fP (z1x _)).part (z34 _)) ty9 Z)<|z0r fun u24 h25=>zv2 Z Z h25 tu9 tu52 tu5<|Zc [] [(100,38)] Tryz.func109 Z (zb1 _) fun r26 n27=>z0r fun x28 h29=>Ef Z (apn 2 Z Z Z (.own 38 Z) h29 tu52 ti5 Z Z Z) fun v30=>Za Z<|z1z<|z3g (fun aa ww h=>⟨nvl [v30],Zu h [1,2]⟩)
  ·refine z30<|z3g (fun aa ww h=>⟨nvl [v21],Zu h [1,2]⟩)
 ·refine gEx fun n31=>z12<|gSR<|Zq (faB 1 Z Z Tryz.underlying43 Z (by exact zhb))<|Zq (faB 1 Z Z Tryz.underlying39 Z (by exact ti5))<|Zq (ld 1 Z Z ((fP (z1x _)).part (z20 _)) ty5 Z)<|Zq (B.eql Z Z)<|Zj Z (fun h32=>?_) (fun h32=>?_)
  ·refine z2n<|Zm Z<|Zq (faB 1 Z Z Tryz.underlying43 Z (by exact zhb))<|Zq (faB 1 Z Z Tryz.underlying39 Z (by exact zbb))<|Zq (ld 1 Z Z ((fP (z1x _)).part (z3f _)) zik Z)<|Zc [] [(100,39)] Tryz.func145 Z (ze9 _) fun r33 n34=>z0r fun x35 h36=>Ef Z (apn 2 Z Z Z (.own 39 Z) h36 tu52 ti5 Z Z Z) fun v37=>Zb Z<|gSR<|Zm Z<|Zb Z<|z0o<|Ze [v37] [2] Z
  ·refine Zt<|gSR<|Zm Z<|Zb Z<|z0o<|Ze [(n31 0)] [2] Z
def z8d (a0:z01):Option ((List UInt8)) :=
 z8v a0 >>= fun r2 =>
 z24 a0.Sig.E.toUInt64 >>= fun r4 =>
 app 1 r2 r4 >>= fun x6 =>
 z24 a0.Sig.S.toUInt64 >>= fun r9 =>
 app 1 x6 r9 >>= fun x11 =>
 some x11
theorem zeg (a0:z01):z2k Tryz.prog 54 [.rd z04 a0] [] (z8d a0) (fun r nv=>⟨[.val (nv 0)],[(100,some (nv 0,.list u8R 5 r))]⟩):=by
 refine z2x 17 Tryz.func54 Z Z Z fun H w=>?_
 refine gSR<|Eb Z (bx 1 Z) fun v1=>Zb Z<|z12<|z9z [5,20,38] mixed Z Z<|hTk 0 Z Z (ld 1 Z Z fH zbe Z)<|hTk 2 Z Z (faB 1 Z Z Tryz.underlying43 Z (by exact zlh))<|hTk 3 Z Z (faB 1 Z Z Tryz.underlying41 Z (by exact z68))<|hTk 4 Z Z (ld 1 Z Z ((fP (z3a _)).part (z8j _)) z97 Z)<|hTk 5 Z Z (W.toU Z tu34 tu35)<|hTk 8 Z Z (faB 1 Z Z Tryz.underlying43 Z (by exact zlh))<|hTk 9 Z Z (faB 1 Z Z Tryz.underlying41 Z (by exact z68))<|hTk 10 Z Z (ld 1 Z Z ((fP (z3a _)).part (z8k _)) z97 Z)<|hTk 11 Z Z (W.toU Z tu34 tu35)<|z5z 1 [] [(100,5)] Z (by kernel_rfl) Z (gd0 Z) Z Tryz.func103 Z Z (zfg _) (Y1 Z) rN Z (fun _ _=>z36) fun r2 n3=>z5z 6 [] [(100,20)] Z (by kernel_rfl) Z (gd0 Z) Z Tryz.func104 Z Z (z2h _) (Y1 Z) rN Z (fun _ _=>z36) fun r4 n5=>z4x fun x6 h7=>Zo 7 Z Z Z (apn 5 Z Z Z (.own 20 Z) h7 tu52 ti5 Z Z Z) fun v8=>z5z 12 [] [(100,38)] Z (by kernel_rfl) Z (gd0 Z) Z Tryz.func104 Z Z (z2h _) (Y1 Z) rN Z (fun _ _=>z36) fun r9 n10=>z4x fun x11 h12=>Zo 13 Z Z Z (apn 5 Z Z Z (.own 38 Z) h12 tu52 ti5 Z Z Z) fun v13=>Zf 14 Z Z z36 (asg Z)<|z6i (by kernel_rfl)<|z0z<|z0o<|Ze [v13] [5] Z
def z9y  : Option ((Vector UInt32 8)) :=
 some (#v[1779033703,3144134277,1013904242,2773480762,1359893119,2600822924,528734635,1541459225]:Vector UInt32 8)
theorem zel  : z2k Tryz.prog 101 [] [] (z9y) (fun r nv=>⟨[.rd (z3e 8 z0q) r],[]⟩):=by
 refine z2x 2 Tryz.func101 Z Z Z fun H w=>?_
 refine gSR<|Eb Z (z9u 1 zdp (.zr (R:=(z3e 8 z0q)) (x:=(Vector.replicate 8 0)) zm1)) fun v1=>Zn<|gSR<|Zq (litA (R:=z0q) [1779033703,3144134277,1013904242,2773480762,1359893119,2600822924,528734635,1541459225] (#v[1779033703,3144134277,1013904242,2773480762,1359893119,2600822924,528734635,1541459225]:Vector UInt32 8) (pP Z Z<|pP Z Z<|pP Z Z<|pP Z Z<|pP Z Z<|pP Z Z<|pP Z Z<|pP Z Z<|pN) Z tu149 zdp Z z68)<|Es (sto 1 Z Z fH Z zdp)<|Zn<|z0o<|zch [] [] Z (eC 1 Z Z zmp<|eN) (rN)
def z5d (a0:Int) (s3:(List UInt8)):Option (Sum ((List UInt8)) ((List UInt8))) :=
 if (Int.tmod (w64 ((w64 (a0+(s3.length:Int)))+8)) 64) != 0 then
  app 1 s3 [0] >>= fun x7 =>
  some (.inr x7)
 else
  some (.inl s3)
def z58 (a0:Int) (s12:(List UInt8) × Int):Option (Sum ((List UInt8)) ((List UInt8) × Int)) :=
 if decide (0≤s12.2) then
  chk (0≤w64 (8 * s12.2)) >>= fun u15 =>
  app 1 s12.1 [(z5k (8 * (UInt64.ofInt a0)) ((w64 (8 * s12.2):Int).toNat)).toUInt8] >>= fun x18 =>
  some (w64 (s12.2 - 1)) >>= fun y21 =>
  some (.inr (x18,y21))
 else
  some (.inl s12.1)
def z8z (a0:Int):Option ((List UInt8)) :=
 (iter (z5d a0) [128]) >>= fun s2 =>
 (iter (z58 a0) (s2,7)) >>= fun s11 =>
 some s11
theorem zfe (a0:Int):z2k Tryz.prog 102 [.rd z0i a0] [] (z8z a0) (fun r nv=>⟨[.val (nv 0)],[(100,some (nv 0,.list u8R 5 r))]⟩):=by
 refine z2x 31 Tryz.func102 Z Z Z fun H w=>?_
 refine gSR<|Zb Z<|gSR<|Ef Z (lit (R:=u8R) ([128]:List UInt8) 1 (pP Z Z<|pN) Z tu52 ti5 Z Z) fun v1=>Zb Z<|z7r (fun (s2:(List UInt8)) aa ww=>∃ nv:Nat→Value,Sta (ctx 31 H [] w) [(0,.rd z0i a0),(3,.val (nv 0))] [(1,some ((nv 0),.list u8R 5 s2))] aa ww) ?_ (fun s2=>?_)
 ·refine z2t (fun (s3:(List UInt8)) aa ww=>∃ nv:Nat→Value,Sta (ctx 31 H [] w) [(0,.rd z0i a0),(3,.val (nv 0))] [(1,some ((nv 0),.list u8R 5 s3))] aa ww) (fun aa ww h=>⟨nvl [v1],Zu h [1]⟩) (fun s3=>?_)
  refine gEx fun n4=>z12<|gSR<|Zm Z<|Zm Z<|Zq (z4d Z (.own 1 Z) Z tu52)<|Zq (I.add Z Z)<|Zq (I.add Z Z)<|Zq (I.rem Z Z (by decide))<|Zq (I.neq Z Z)<|Zj Z (fun h5=>?_) (fun h5=>?_)
  ·refine Zt<|z6t<|z2n<|Zm Z<|Ef Z (lit (R:=u8R) ([0]:List UInt8) 2 (pP Z Z<|pN) Z tu52 ti5 Z Z) fun v6=>z0r fun x7 h8=>Ef Z (apn 1 Z Z Z (.own 2 Z) h8 tu52 ti5 Z Z Z) fun v9=>Za Z<|z1z<|z3w<|z2j (fun aa ww h=>⟨nvl [v9],Zu h [1]⟩)
  ·refine z2s<|z1h<|z1g<|z3g (fun aa ww h=>⟨nvl [(n4 0)],Zu h [1]⟩)
 ·refine gEx fun n10=>z7r (fun (s11:(List UInt8)) aa ww=>∃ nv:Nat→Value,Sta (ctx 31 H [] w) [(3,.val (nv 0))] [(1,some ((nv 0),.list u8R 5 s11))] aa ww) ?_ (fun s11=>?_)
  ·refine gSR<|Zb Z<|z2t (fun (s12:(List UInt8) × Int) aa ww=>∃ nv:Nat→Value,Sta (ctx 31 H [] w) [(0,.rd z0i a0),(3,.val (nv 0)),(4,.rd z0i s12.2)] [(1,some ((nv 0),.list u8R 5 s12.1))] aa ww) (fun aa ww h=>⟨nvl [(n10 0)],Zu h [1]⟩) (fun s12=>?_)
   refine gEx fun n13=>z12<|gSR<|Zm Z<|Zq (I.geq Z Z)<|Zj Z (fun h14=>?_) (fun h14=>?_)
   ·refine Zt<|z12<|z6t<|z2n<|Zm Z<|Zm Z<|Zq (I.toU Z tu3 tu35)<|Zq (U.mul Z Z)<|Zm Z<|Zq (I.mul Z Z)<|z0r fun u15 h16=>Zq (U.shr Z Z (z4p h16))<|Zq (U.toB Z tu35 tu5)<|Ef Z (lit (R:=u8R) ([(z5k (8 * (UInt64.ofInt a0)) ((w64 (8 * s12.2):Int).toNat)).toUInt8]:List UInt8) 3 (pP Z Z<|pN) Z tu52 ti5 Z Z) fun v17=>z0r fun x18 h19=>Ef Z (apn 1 Z Z Z (.own 3 Z) h19 tu52 ti5 Z Z Z) fun v20=>Za Z<|z1z<|z3w<|z0z<|z2n<|Zm Z<|Zq (I.sub Z Z)<|Za Z<|z26 4 Z fun y21=>z1z<|z2j (fun aa ww h=>⟨nvl [v20],Zu h [1]⟩)
   ·refine z2s<|z1h<|z1g<|z3g (fun aa ww h=>⟨nvl [(n13 0)],Zu h [1]⟩)
  ·refine gEx fun n22=>gSR<|Zm Z<|Zb Z<|z0o<|Ze [(n22 0)] [1] Z
def z21 (a0:UInt32) (a1:Int):Option (UInt32) :=
 chk (0≤a1) >>= fun u1 =>
 chk (0≤w64 (32 - a1)) >>= fun u3 =>
 some ((z54 a0 ((a1:Int).toNat)) ||| (zkm a0 ((w64 (32 - a1):Int).toNat))) >>= fun y5 =>
 some y5
theorem z27 (a0:UInt32) (a1:Int):z2k Tryz.prog 186 [.rd z0q a0,.rd z0i a1] [] (z21 a0 a1) (fun r nv=>⟨[.rd z0q r],[]⟩):=by
 refine z2x 13 Tryz.func186 Z Z Z fun H w=>?_
 refine gSR<|Zb Z<|z12<|zgo mixed (by kernel_rfl)<|Rq Z (mv Z)<|Rq Z (mv Z)<|z72 fun u1 h2=>Rq Z (W.shr Z Z (z4p h2))<|Rq Z (mv Z)<|Rq Z (mv Z)<|Rq Z (I.sub Z Z)<|z72 fun u3 h4=>Rq Z (W.shl Z Z (z4p h4))<|Rq Z (W.or Z Z)<|Rq Z (asg Z)<|z11z 4 Z fun y5=>zqp<|z0z<|z0o<|Ze [] [] Z
def z7q  : Option ((List UInt32)) :=
 some [1116352408,1899447441,3049323471,3921009573,961987163,1508970993,2453635748,2870763221,3624381080,310598401,607225278,1426881987,1925078388,2162078206,2614888103,3248222580,3835390401,4022224774,264347078,604807628,770255983,1249150122,1555081692,1996064986,2554220882,2821834349,2952996808,3210313671,3336571891,3584528711,113926993,338241895,666307205,773529912,1294757372,1396182291,1695183700,1986661051,2177026350,2456956037,2730485921,2820302411,3259730800,3345764771,3516065817,3600352804,4094571909,275423344,430227734,506948616,659060556,883997877,958139571,1322822218,1537002063,1747873779,1955562222,2024104815,2227730452,2361852424,2428436474,2756734187,3204031479,3329325298]
theorem zbx  : z2k Tryz.prog 187 [] [] (z7q) (fun r nv=>⟨[.val (nv 0)],[(100,some (nv 0,.list z0q 34 r))]⟩):=by
 refine z2x 2 Tryz.func187 Z Z Z fun H w=>?_
 refine gSR<|Zb Z<|gSR<|Ef Z (lit (R:=z0q) ([1116352408,1899447441,3049323471,3921009573,961987163,1508970993,2453635748,2870763221,3624381080,310598401,607225278,1426881987,1925078388,2162078206,2614888103,3248222580,3835390401,4022224774,264347078,604807628,770255983,1249150122,1555081692,1996064986,2554220882,2821834349,2952996808,3210313671,3336571891,3584528711,113926993,338241895,666307205,773529912,1294757372,1396182291,1695183700,1986661051,2177026350,2456956037,2730485921,2820302411,3259730800,3345764771,3516065817,3600352804,4094571909,275423344,430227734,506948616,659060556,883997877,958139571,1322822218,1537002063,1747873779,1955562222,2024104815,2227730452,2361852424,2428436474,2756734187,3204031479,3329325298]:List UInt32) 1 (pP Z Z<|pP Z Z<|pP Z Z<|pP Z Z<|pP Z Z<|pP Z Z<|pP Z Z<|pP Z Z<|pP Z Z<|pP Z Z<|pP Z Z<|pP Z Z<|pP Z Z<|pP Z Z<|pP Z Z<|pP Z Z<|pP Z Z<|pP Z Z<|pP Z Z<|pP Z Z<|pP Z Z<|pP Z Z<|pP Z Z<|pP Z Z<|pP Z Z<|pP Z Z<|pP Z Z<|pP Z Z<|pP Z Z<|pP Z Z<|pP Z Z<|pP Z Z<|pP Z Z<|pP Z Z<|pP Z Z<|pP Z Z<|pP Z Z<|pP Z Z<|pP Z Z<|pP Z Z<|pP Z Z<|pP Z Z<|pP Z Z<|pP Z Z<|pP Z Z<|pP Z Z<|pP Z Z<|pP Z Z<|pP Z Z<|pP Z Z<|pP Z Z<|pP Z Z<|pP Z Z<|pP Z Z<|pP Z Z<|pP Z Z<|pP Z Z<|pP Z Z<|pP Z Z<|pP Z Z<|pP Z Z<|pP Z Z<|pP Z Z<|pP Z Z<|pN) Z tu232 z68 Z Z) fun v1=>Zb Z<|z0o<|Ze [v1] [1] Z
def z4c (a1:List UInt8) (s4:(List UInt32) × Int):Option (Sum ((List UInt32)) ((List UInt32) × Int)) :=
 if decide (s4.2<16) then
  idx a1 (w64 (4 * s4.2)) >>= fun x7 =>
  idx a1 (w64 ((w64 (4 * s4.2))+1)) >>= fun x9 =>
  idx a1 (w64 ((w64 (4 * s4.2))+2)) >>= fun x11 =>
  idx a1 (w64 ((w64 (4 * s4.2))+3)) >>= fun x13 =>
  app 4 s4.1 [(((((x7.toUInt32 * 256)+x9.toUInt32) * 256)+x11.toUInt32) * 256)+x13.toUInt32] >>= fun x16 =>
  some (w64 (s4.2+1)) >>= fun y19 =>
  some (.inr (x16,y19))
 else
  some (.inl s4.1)
def z4b (s22:(List UInt32) × Int):Option (Sum ((List UInt32)) ((List UInt32) × Int)) :=
 if decide (s22.2<64) then
  idx s22.1 (w64 (s22.2 - 15)) >>= fun x25 =>
  idx s22.1 (w64 (s22.2 - 2)) >>= fun x27 =>
  idx s22.1 (w64 (s22.2 - 16)) >>= fun x29 =>
  idx s22.1 (w64 (s22.2 - 7)) >>= fun x31 =>
  z21 x25 7 >>= fun r33 =>
  z21 x25 18 >>= fun r36 =>
  z21 x27 17 >>= fun r39 =>
  z21 x27 19 >>= fun r42 =>
  app 4 s22.1 [((x29+x31)+((r33 ^^^ r36) ^^^ (z54 x25 3)))+((r39 ^^^ r42) ^^^ (z54 x27 10))] >>= fun x45 =>
  some (w64 (s22.2+1)) >>= fun y48 =>
  some (.inr (x45,y48))
 else
  some (.inl s22.1)
def z2o (s21:(List UInt32)) (r50:(List UInt32)) (s54:(Vector UInt32 8) × Int):Option (Sum ((Vector UInt32 8)) ((Vector UInt32 8) × Int)) :=
 if decide (s54.2<64) then
  z61 s54.1 0 >>= fun x56 =>
  z61 s54.1 1 >>= fun x58 =>
  z61 s54.1 2 >>= fun x60 =>
  z61 s54.1 4 >>= fun x62 =>
  z61 s54.1 5 >>= fun x64 =>
  z61 s54.1 6 >>= fun x66 =>
  z61 s54.1 7 >>= fun x68 =>
  idx r50 s54.2 >>= fun x70 =>
  idx s21 s54.2 >>= fun x72 =>
  z21 x62 6 >>= fun r74 =>
  z21 x62 11 >>= fun r76 =>
  z21 x62 25 >>= fun r78 =>
  some ((((x68+((r74 ^^^ r76) ^^^ r78))+((x62 &&& x64) ^^^ ((~~~x62) &&& x66)))+x70)+x72) >>= fun y80 =>
  z21 x56 2 >>= fun r81 =>
  z21 x56 13 >>= fun r83 =>
  z21 x56 22 >>= fun r85 =>
  some (((r81 ^^^ r83) ^^^ r85)+(((x56 &&& x58) ^^^ (x56 &&& x60)) ^^^ (x58 &&& x60))) >>= fun y87 =>
  z61 s54.1 3 >>= fun x88 =>
  some (w64 (s54.2+1)) >>= fun y90 =>
  some (.inr ((#v[y80+y87,x56,x58,x60,x88+y80,x62,x64,x66]:Vector UInt32 8),y90))
 else
  some (.inl s54.1)
def z1f (s53:(Vector UInt32 8)) (s92:(Vector UInt32 8) × Int):Option (Sum ((Vector UInt32 8)) ((Vector UInt32 8) × Int)) :=
 if decide (s92.2<8) then
  z61 s92.1 s92.2 >>= fun x94 =>
  z61 s53 s92.2 >>= fun x96 =>
  z61 s92.1 s92.2 >>= fun x98 =>
  some (w64 (s92.2+1)) >>= fun y100 =>
  some (.inr (zeq s92.1 s92.2 (x94+x96),y100))
 else
  some (.inl s92.1)
def z7f (a0:Vector UInt32 8) (a1:List UInt8):Option ((Vector UInt32 8)) :=
 (iter (z4c a1) ([],0)) >>= fun s3 =>
 (iter (z4b) (s3,16)) >>= fun s21 =>
 z7q >>= fun r50 =>
 (iter (z2o s21 r50) (a0,0)) >>= fun s53 =>
 (iter (z1f s53) (a0,0)) >>= fun s91 =>
 some s91
set_option maxHeartbeats 4000000 in
theorem zdu (a0:Vector UInt32 8) (a1:List UInt8):z2k Tryz.prog 143 [.rd (z3e 8 z0q) a0,.rd (z03 u8R) a1] [] (z7f a0 a1) (fun r nv=>⟨[.rd (z3e 8 z0q) r],[]⟩):=by
 refine z2x 203 Tryz.func143 Z Z Z fun H w=>?_
 refine gSR<|Eb Z (bx 1 Z) fun v1=>Eb Z (z9u 2 zdp (.zr (R:=(z3e 8 z0q)) (x:=(Vector.replicate 8 0)) zm1)) fun v2=>Zn<|gSR<|Zb Z<|z7r (fun (s3:(List UInt32)) aa ww=>∃ nv:Nat→Value,Sta (ctx 203 H [] w) [(2,.val (z0f v1 0)),(4,.val (z0f v2 0)),(5,.val (nv 0))] [(1,some (v1,.box 149 [.rd (z3e 8 z0q) a0])),(2,some (v2,.box 149 [.rd (z3e 8 z0q) (Vector.replicate 8 0)])),(108,some ((nv 0),.list z0q 34 s3))] aa ww) ?_ (fun s3=>?_)
 ·refine gSR<|Zb Z<|zu8 z0q 34 215<|z2t (fun (s4:(List UInt32) × Int) aa ww=>∃ nv:Nat→Value,Sta (ctx 203 H [] w) [(1,.rd (z03 u8R) a1),(2,.val (z0f v1 0)),(4,.val (z0f v2 0)),(5,.val (nv 0)),(6,.rd z0i s4.2)] [(1,some (v1,.box 149 [.rd (z3e 8 z0q) a0])),(2,some (v2,.box 149 [.rd (z3e 8 z0q) (Vector.replicate 8 0)])),(214,some ((nv 0),.list z0q 34 s4.1))] aa ww) (fun aa ww h=>⟨nvl [(.slice none 0 0)],Zu h [1,2,215]⟩) (fun s4=>?_)
  refine gEx fun n5=>z12<|gSR<|Zm Z<|Zq (I.lss Z Z)<|Zj Z (fun h6=>?_) (fun h6=>?_)
  ·refine Zt<|z12<|z6t<|z9z [214,318] mixed Z Z<|hTk 0 Z Z (mv Z)<|hTk 1 Z Z (mv Z)<|hTk 2 Z Z (mv Z)<|hTk 3 Z Z (I.mul Z Z)<|z4x fun x7 h8=>hTk 4 Z Z (ixR Z Z h8 tu52 ti5 Z)<|hTk 5 Z Z (ldR Z ty5)<|hTk 6 Z Z (B.toW Z tu5 tu34)<|hTk 7 Z Z (W.mul Z Z)<|hTk 8 Z Z (mv Z)<|hTk 9 Z Z (mv Z)<|hTk 10 Z Z (I.mul Z Z)<|hTk 11 Z Z (I.add Z Z)<|z4x fun x9 h10=>hTk 12 Z Z (ixR Z Z h10 tu52 ti5 Z)<|hTk 13 Z Z (ldR Z ty5)<|hTk 14 Z Z (B.toW Z tu5 tu34)<|hTk 15 Z Z (W.add Z Z)<|hTk 16 Z Z (W.mul Z Z)<|hTk 17 Z Z (mv Z)<|hTk 18 Z Z (mv Z)<|hTk 19 Z Z (I.mul Z Z)<|hTk 20 Z Z (I.add Z Z)<|z4x fun x11 h12=>hTk 21 Z Z (ixR Z Z h12 tu52 ti5 Z)<|hTk 22 Z Z (ldR Z ty5)<|hTk 23 Z Z (B.toW Z tu5 tu34)<|hTk 24 Z Z (W.add Z Z)<|hTk 25 Z Z (W.mul Z Z)<|hTk 26 Z Z (mv Z)<|hTk 27 Z Z (mv Z)<|hTk 28 Z Z (I.mul Z Z)<|hTk 29 Z Z (I.add Z Z)<|z4x fun x13 h14=>hTk 30 Z Z (ixR Z Z h14 tu52 ti5 Z)<|hTk 31 Z Z (ldR Z ty5)<|hTk 32 Z Z (B.toW Z tu5 tu34)<|hTk 33 Z Z (W.add Z Z)<|Zo 34 Z Z Z (lit (R:=z0q) ([(((((x7.toUInt32 * 256)+x9.toUInt32) * 256)+x11.toUInt32) * 256)+x13.toUInt32]:List UInt32) 318 (pP Z Z<|pN) Z tu232 z68 Z Z) fun v15=>z4x fun x16 h17=>Zo 35 Z Z Z (apn 214 Z Z Z (.own 318 Z) h17 tu232 z68 Z Z Z) fun v18=>Zf 36 Z Z z36 (asg Z)<|z6i (by kernel_rfl)<|z3w<|z0z<|z2n<|Zm Z<|Zq (I.add Z Z)<|Za Z<|z26 6 Z fun y19=>z1z<|z2j (fun aa ww h=>⟨nvl [v18],Zu h [1,2,214]⟩)
  ·refine z2s<|z1h<|z1g<|z3g (fun aa ww h=>⟨nvl [(n5 0)],Zu h [1,2,214]⟩)
 ·refine gEx fun n20=>z7r (fun (s21:(List UInt32)) aa ww=>∃ nv:Nat→Value,Sta (ctx 203 H [] w) [(2,.val (z0f v1 0)),(4,.val (z0f v2 0)),(5,.val (nv 0))] [(1,some (v1,.box 149 [.rd (z3e 8 z0q) a0])),(2,some (v2,.box 149 [.rd (z3e 8 z0q) (Vector.replicate 8 0)])),(108,some ((nv 0),.list z0q 34 s21))] aa ww) ?_ (fun s21=>?_)
  ·refine gSR<|Zb Z<|z2t (fun (s22:(List UInt32) × Int) aa ww=>∃ nv:Nat→Value,Sta (ctx 203 H [] w) [(2,.val (z0f v1 0)),(4,.val (z0f v2 0)),(5,.val (nv 0)),(7,.rd z0i s22.2)] [(1,some (v1,.box 149 [.rd (z3e 8 z0q) a0])),(2,some (v2,.box 149 [.rd (z3e 8 z0q) (Vector.replicate 8 0)])),(108,some ((nv 0),.list z0q 34 s22.1))] aa ww) (fun aa ww h=>⟨nvl [(n20 0)],Zu h [1,2,108]⟩) (fun s22=>?_)
   refine gEx fun n23=>z12<|gSR<|Zm Z<|Zq (I.lss Z Z)<|Zj Z (fun h24=>?_) (fun h24=>?_)
   ·refine Zt<|z12<|z6t<|z12<|zgo mixed (by kernel_rfl)<|Rq Z (mv Z)<|Rq Z (mv Z)<|Rq Z (I.sub Z Z)<|z72 fun x25 h26=>Rq Z (ixO 108 Z Z Z h26 tu232 z68)<|Rq Z (ld 108 Z Z (Foc.el h26) z97 Z)<|Rq Z (mv Z)<|Rq Z (mv Z)<|Rq Z (I.sub Z Z)<|z72 fun x27 h28=>Rq Z (ixO 108 Z Z Z h28 tu232 z68)<|Rq Z (ld 108 Z Z (Foc.el h28) z97 Z)<|Rq Z (asg Z)<|Rq Z (asg Z)<|zqp<|z0z<|zzi [(5,.val (n23 0)),(2,.val (z0f v1 0)),(4,.val (z0f v2 0)),(7,.rd z0i s22.2),(8,.rd z0q x25),(9,.rd z0q x27)] [(1,some (v1,.box 149 [.rd (z3e 8 z0q) a0])),(2,some (v2,.box 149 [.rd (z3e 8 z0q) (Vector.replicate 8 0)])),(108,some ((n23 0),.list z0q 34 s22.1))] [1,2,108] (Zs Z Z Z Z<|sS Z<|sS Z<|sN) (Zi Z<|Zi Z<|Zi Z<|rN)<|zb8 fun x29 h30=>zb8 fun x31 h32=>zb8 fun r33 h35=>zb8 fun r36 h38=>zb8 fun r39 h41=>zb8 fun r42 h44=>zb8 fun x45 h46=>gOr [(5,.val (n23 0),32)] [⟨108,some ([], fun nv=>((n23 0),.list z0q 34 s22.1)),[(31,some ([2], fun nv=>((nv 2),.list z0q 34 x45)))]⟩,⟨330,none,[(30,some ([1], fun nv=>((nv 1),.list z0q 34 [((x29+x31)+((r33 ^^^ r36) ^^^ (z54 x25 3)))+((r39 ^^^ r42) ^^^ (z54 x27 10))])))]⟩] [⟨some (76,[], fun nv=>.val (n23 0)),[],[],[0]⟩,⟨some (77,[], fun nv=>.val (n23 0)),[],[],[0]⟩,pd 78 (.rd z0i s22.2),pd 79 (.rd z0i (w64 (s22.2 - 16))),pk 80 (.val (z0f (n23 0) ((w64 (s22.2 - 16):Int).toNat * 1))) [(0,0,false)],pk 81 (.rd z0q x29) [(0,0,false)],⟨some (82,[], fun nv=>.val (n23 0)),[],[],[0]⟩,pd 83 (.rd z0i s22.2),pd 84 (.rd z0i (w64 (s22.2 - 7))),pk 85 (.val (z0f (n23 0) ((w64 (s22.2 - 7):Int).toNat * 1))) [(0,0,false)],pk 86 (.rd z0q x31) [(0,0,false)],pd 87 (.rd z0q (x29+x31)),pd 88 (.rd z0q x25),pd 89 (.rd z0q r33),pd 90 (.rd z0q x25),pd 91 (.rd z0q r36),pd 92 (.rd z0q (r33 ^^^ r36)),pd 93 (.rd z0q x25),pd 94 (.rd z0q (z54 x25 3)),pd 95 (.rd z0q ((r33 ^^^ r36) ^^^ (z54 x25 3))),pd 96 (.rd z0q ((x29+x31)+((r33 ^^^ r36) ^^^ (z54 x25 3)))),pd 97 (.rd z0q x27),pd 98 (.rd z0q r39),pd 99 (.rd z0q x27),pd 100 (.rd z0q r42),pd 101 (.rd z0q (r39 ^^^ r42)),pd 102 (.rd z0q x27),pd 103 (.rd z0q (z54 x27 10)),pd 104 (.rd z0q ((r39 ^^^ r42) ^^^ (z54 x27 10))),pd 105 (.rd z0q (((x29+x31)+((r33 ^^^ r36) ^^^ (z54 x25 3)))+((r39 ^^^ r42) ^^^ (z54 x27 10)))),⟨some (106,[1], fun nv=>.val (nv 1)),[(1,0,true)],[1],[]⟩,⟨some (107,[2], fun nv=>.val (nv 2)),[(1,1,false),(0,0,true)],[2],[]⟩,⟨some (5,[2], fun nv=>.val (nv 2)),[],[],[]⟩] mixed (oC (oRn (fun nv E=>mv Z))<|oC (oRn (fun nv E=>mv Z))<|oC (oRn (fun nv E=>mv Z))<|oC (oRn (fun nv E=>I.sub Z Z))<|oC (oRn (fun nv E=>ixO 108 Z Z Z h30 tu232 z68))<|oC (oRn (fun nv E=>ld 108 Z Z (Foc.el h30) z97 Z))<|oC (oRn (fun nv E=>mv Z))<|oC (oRn (fun nv E=>mv Z))<|oC (oRn (fun nv E=>I.sub Z Z))<|oC (oRn (fun nv E=>ixO 108 Z Z Z h32 tu232 z68))<|oC (oRn (fun nv E=>ld 108 Z Z (Foc.el h32) z97 Z))<|oC (oRn (fun nv E=>W.add Z Z))<|oC (oRn (fun nv E=>mv Z))<|oC (oCl [] [] [] h35 Tryz.func186 Z (fun nv=>(z27 _ _)) (fun nv=>(Y2 Z Z)) (fun nv E=>rN))<|oC (oRn (fun nv E=>mv Z))<|oC (oCl [] [] [] h38 Tryz.func186 Z (fun nv=>(z27 _ _)) (fun nv=>(Y2 Z Z)) (fun nv E=>rN))<|oC (oRn (fun nv E=>W.xor Z Z))<|oC (oRn (fun nv E=>mv Z))<|oC (oRn (fun nv E=>W.shr Z Z (Int.natCast_nonneg _)))<|oC (oRn (fun nv E=>W.xor Z Z))<|oC (oRn (fun nv E=>W.add Z Z))<|oC (oRn (fun nv E=>mv Z))<|oC (oCl [] [] [] h41 Tryz.func186 Z (fun nv=>(z27 _ _)) (fun nv=>(Y2 Z Z)) (fun nv E=>rN))<|oC (oRn (fun nv E=>mv Z))<|oC (oCl [] [] [] h44 Tryz.func186 Z (fun nv=>(z27 _ _)) (fun nv=>(Y2 Z Z)) (fun nv E=>rN))<|oC (oRn (fun nv E=>W.xor Z Z))<|oC (oRn (fun nv E=>mv Z))<|oC (oRn (fun nv E=>W.shr Z Z (Int.natCast_nonneg _)))<|oC (oRn (fun nv E=>W.xor Z Z))<|oC (oRn (fun nv E=>W.add Z Z))<|oC (oEf 330 1 (fun nv E=>lit (R:=z0q) ([((x29+x31)+((r33 ^^^ r36) ^^^ (z54 x25 3)))+((r39 ^^^ r42) ^^^ (z54 x27 10))]:List UInt32) 330 (pP Z Z<|pN) Z tu232 z68 Z Z))<|oC (oEf 108 2 (fun nv E=>apn 108 Z Z Z (.own 330 Z) h46 tu232 z68 Z Z Z))<|oC (oRn (fun nv E=>asg Z))<|oN) fun n47=>z3w<|z0z<|z2n<|Zm Z<|Zq (I.add Z Z)<|Za Z<|z26 7 Z fun y48=>z1z<|z2j (fun aa ww h=>⟨nvl [(n47 2)],Zu h [1,2,108]⟩)
   ·refine z2s<|z1h<|z1g<|z3g (fun aa ww h=>⟨nvl [(n23 0)],Zu h [1,2,108]⟩)
  ·refine gEx fun n49=>gSR<|Zc [] [(100,331)] Tryz.func187 Z (zbx) fun r50 n51=>Zb Z<|gSR<|Zq (ld 1 Z Z fH zmp Z)<|Eb Z (z9u 332 zdp (.zr (R:=(z3e 8 z0q)) (x:=(Vector.replicate 8 0)) zm1)) fun v52=>Es (sto 332 Z Z fH Z zdp)<|Zn<|z7r (fun (s53:(Vector UInt32 8)) aa ww=>Sta (ctx 203 H [] w) [(2,.val (z0f v1 0)),(4,.val (z0f v2 0)),(11,.val (z0f v52 0))] [(1,some (v1,.box 149 [.rd (z3e 8 z0q) a0])),(2,some (v2,.box 149 [.rd (z3e 8 z0q) (Vector.replicate 8 0)])),(332,some (v52,.box 149 [.rd (z3e 8 z0q) s53]))] aa ww) ?_ (fun s53=>?_)
   ·refine gSR<|Zb Z<|z2t (fun (s54:(Vector UInt32 8) × Int) aa ww=>Sta (ctx 203 H [] w) [(2,.val (z0f v1 0)),(4,.val (z0f v2 0)),(5,.val (n49 0)),(10,.val (n51 0)),(11,.val (z0f v52 0)),(12,.rd z0i s54.2)] [(1,some (v1,.box 149 [.rd (z3e 8 z0q) a0])),(2,some (v2,.box 149 [.rd (z3e 8 z0q) (Vector.replicate 8 0)])),(108,some ((n49 0),.list z0q 34 s21)),(331,some ((n51 0),.list z0q 34 r50)),(332,some (v52,.box 149 [.rd (z3e 8 z0q) s54.1]))] aa ww) (fun aa ww h=>Zu h [1,2,108,331,332]) (fun s54=>?_)
    refine z12<|gSR<|Zm Z<|Zq (I.lss Z Z)<|Zj Z (fun h55=>?_) (fun h55=>?_)
    ·refine Zt<|z12<|z6t<|z12<|zgo mixed (by kernel_rfl)<|z72 fun x56 h57=>Rq Z (ixB 332 Z Z Z h57 tu149 z68)<|Rq Z (ld 332 Z Z (fP (.el h57)) z97 Z)<|z72 fun x58 h59=>Rq Z (ixB 332 Z Z Z h59 tu149 z68)<|Rq Z (ld 332 Z Z (fP (.el h59)) z97 Z)<|z72 fun x60 h61=>Rq Z (ixB 332 Z Z Z h61 tu149 z68)<|Rq Z (ld 332 Z Z (fP (.el h61)) z97 Z)<|z72 fun x62 h63=>Rq Z (ixB 332 Z Z Z h63 tu149 z68)<|Rq Z (ld 332 Z Z (fP (.el h63)) z97 Z)<|z72 fun x64 h65=>Rq Z (ixB 332 Z Z Z h65 tu149 z68)<|Rq Z (ld 332 Z Z (fP (.el h65)) z97 Z)<|z72 fun x66 h67=>Rq Z (ixB 332 Z Z Z h67 tu149 z68)<|Rq Z (ld 332 Z Z (fP (.el h67)) z97 Z)<|Rq Z (asg Z)<|Rq Z (asg Z)<|Rq Z (asg Z)<|Rq Z (asg Z)<|Rq Z (asg Z)<|Rq Z (asg Z)<|zqp<|z0z<|z12<|z9z [] mixed Z Z<|z4x fun x68 h69=>hTk 0 Z Z (ixB 332 Z Z Z h69 tu149 z68)<|hTk 1 Z Z (ld 332 Z Z (fP (.el h69)) z97 Z)<|hTk 2 Z Z (mv Z)<|hTk 4 Z Z (mv Z)<|hTk 7 Z Z (mv Z)<|hTk 11 Z Z (mv Z)<|hTk 12 Z Z (mv Z)<|hTk 13 Z Z (W.and Z Z)<|hTk 14 Z Z (mv Z)<|hTk 15 Z Z (W.cpl Z)<|hTk 16 Z Z (mv Z)<|hTk 17 Z Z (W.and Z Z)<|hTk 18 Z Z (W.xor Z Z)<|hTk 20 Z Z (mv Z)<|hTk 21 Z Z (mv Z)<|z4x fun x70 h71=>hTk 22 Z Z (ixO 331 Z Z Z h71 tu232 z68)<|hTk 23 Z Z (ld 331 Z Z (Foc.el h71) z97 Z)<|hTk 25 Z Z (mv Z)<|hTk 26 Z Z (mv Z)<|z4x fun x72 h73=>hTk 27 Z Z (ixO 108 Z Z Z h73 tu232 z68)<|hTk 28 Z Z (ld 108 Z Z (Foc.el h73) z97 Z)<|z5z 3 [] [] Z (by kernel_rfl) Z (gd0 Z) Z Tryz.func186 Z Z (z27 _ _) (Y2 Z Z) rN Z (fun _ _=>z4r) fun r74 n75=>z5z 5 [] [] Z (by kernel_rfl) Z (gd0 Z) Z Tryz.func186 Z Z (z27 _ _) (Y2 Z Z) rN Z (fun _ _=>z4r) fun r76 n77=>hTk 6 Z Z (W.xor Z Z)<|z5z 8 [] [] Z (by kernel_rfl) Z (gd0 Z) Z Tryz.func186 Z Z (z27 _ _) (Y2 Z Z) rN Z (fun _ _=>z4r) fun r78 n79=>hTk 9 Z Z (W.xor Z Z)<|hTk 10 Z Z (W.add Z Z)<|hTk 19 Z Z (W.add Z Z)<|hTk 24 Z Z (W.add Z Z)<|hTk 29 Z Z (W.add Z Z)<|hTk 30 Z Z (asg Z)<|zv0 19 Z Z fun y80=>z6i (by kernel_rfl)<|z0z<|gSR<|Zm Z<|Zc [] [] Tryz.func186 Z (z27 _ _) fun r81 n82=>Zm Z<|Zc [] [] Tryz.func186 Z (z27 _ _) fun r83 n84=>Zq (W.xor Z Z)<|Zm Z<|Zc [] [] Tryz.func186 Z (z27 _ _) fun r85 n86=>Zq (W.xor Z Z)<|Zm Z<|Zm Z<|Zq (W.and Z Z)<|Zm Z<|Zm Z<|Zq (W.and Z Z)<|Zq (W.xor Z Z)<|Zm Z<|Zm Z<|Zq (W.and Z Z)<|Zq (W.xor Z Z)<|Zq (W.add Z Z)<|Za Z<|z26 20 Z fun y87=>Zn<|z2n<|Zm Z<|Zm Z<|Zq (W.add Z Z)<|Zm Z<|Zm Z<|Zm Z<|z0r fun x88 h89=>Zq (ixB 332 Z Z Z h89 tu149 z68)<|Zq (ld 332 Z Z (fP (.el h89)) z97 Z)<|Zm Z<|Zq (W.add Z Z)<|Zm Z<|Zm Z<|Zm Z<|Zq (litA (R:=z0q) [y80+y87,x56,x58,x60,x88+y80,x62,x64,x66] (#v[y80+y87,x56,x58,x60,x88+y80,x62,x64,x66]:Vector UInt32 8) (pP Z Z<|pP Z Z<|pP Z Z<|pP Z Z<|pP Z Z<|pP Z Z<|pP Z Z<|pP Z Z<|pN) Z tu149 zdp Z z68)<|Es (sto 332 Z Z fH Z zdp)<|z1z<|z3w<|z0z<|z2n<|Zm Z<|Zq (I.add Z Z)<|Za Z<|z26 12 Z fun y90=>z1z<|z2j (fun aa ww h=>Zu h [1,2,108,331,332])
    ·refine z2s<|z1h<|z1g<|z3g (fun aa ww h=>Zu h [1,2,332])
   ·refine z7r (fun (s91:(Vector UInt32 8)) aa ww=>Sta (ctx 203 H [] w) [(2,.val (z0f v1 0)),(4,.val (z0f v2 0))] [(1,some (v1,.box 149 [.rd (z3e 8 z0q) s91])),(2,some (v2,.box 149 [.rd (z3e 8 z0q) (Vector.replicate 8 0)]))] aa ww) ?_ (fun s91=>?_)
    ·refine gSR<|Zb Z<|z2t (fun (s92:(Vector UInt32 8) × Int) aa ww=>Sta (ctx 203 H [] w) [(2,.val (z0f v1 0)),(4,.val (z0f v2 0)),(11,.val (z0f v52 0)),(21,.rd z0i s92.2)] [(1,some (v1,.box 149 [.rd (z3e 8 z0q) s92.1])),(2,some (v2,.box 149 [.rd (z3e 8 z0q) (Vector.replicate 8 0)])),(332,some (v52,.box 149 [.rd (z3e 8 z0q) s53]))] aa ww) (fun aa ww h=>Zu h [1,2,332]) (fun s92=>?_)
     refine z12<|gSR<|Zm Z<|Zq (I.lss Z Z)<|Zj Z (fun h93=>?_) (fun h93=>?_)
     ·refine Zt<|z12<|z6t<|z9z [1] mixed Z Z<|hTk 0 Z Z (mv Z)<|z4x fun x94 h95=>hTk 1 Z Z (ixB 1 Z Z Z h95 tu149 z68)<|hTk 3 Z Z (mv Z)<|z4x fun x96 h97=>hTk 4 Z Z (ixB 332 Z Z Z h97 tu149 z68)<|hTk 5 Z Z (ld 332 Z Z (fP (.el h97)) z97 Z)<|zu6 2 Z (by kernel_rfl) (gd0 Z) Z Z z4r (ld 1 Z Z (fP (.el h95)) z97 Z)<|hTk 6 Z Z (W.add Z Z)<|z4x fun x98 h99=>hTk 7 Z Z (ixB 1 Z Z Z h99 tu149 z68)<|Zp 8 Z Z Z Z Z (sto 1 Z Z (fP (.el h99)) Z z68)<|z6i (by kernel_rfl)<|z3w<|z0z<|z2n<|Zm Z<|Zq (I.add Z Z)<|Za Z<|z26 21 Z fun y100=>z1z<|z2j (fun aa ww h=>Zu h [1,2,332])
     ·refine z2s<|z1h<|z1g<|z3g (fun aa ww h=>Zu h [1,2])
    ·refine gSR<|Zq (ld 1 Z Z fH zmp Z)<|Es (sto 2 Z Z fH Z zdp)<|Zn<|z0o<|zch [] [] Z (eC 2 Z Z zmp<|eN) (rN)
def z49 (a1:List UInt8) (s4:(Vector UInt32 8) × Int):Option (Sum ((Vector UInt32 8)) ((Vector UInt32 8) × Int)) :=
 if decide ((w64 (s4.2+64))≤(a1.length:Int)) then
  cut a1 s4.2 (w64 (s4.2+64)) >>= fun x6 =>
  z7f s4.1 x6 >>= fun r8 =>
  some (w64 (s4.2+64)) >>= fun y10 =>
  some (.inr (r8,y10))
 else
  some (.inl s4.1)
def z7h (a0:Vector UInt32 8) (a1:List UInt8):Option ((Vector UInt32 8)) :=
 (iter (z49 a1) (a0,0)) >>= fun s3 =>
 some s3
theorem zdt (a0:Vector UInt32 8) (a1:List UInt8):z2k Tryz.prog 100 [.rd (z3e 8 z0q) a0,.rd (z03 u8R) a1] [] (z7h a0 a1) (fun r nv=>⟨[.rd (z3e 8 z0q) r],[]⟩):=by
 refine z2x 21 Tryz.func100 Z Z Z fun H w=>?_
 refine gSR<|Eb Z (bx 1 Z) fun v1=>Eb Z (z9u 2 zdp (.zr (R:=(z3e 8 z0q)) (x:=(Vector.replicate 8 0)) zm1)) fun v2=>Zn<|z7r (fun (s3:(Vector UInt32 8)) aa ww=>Sta (ctx 21 H [] w) [(2,.val (z0f v1 0)),(4,.val (z0f v2 0))] [(1,some (v1,.box 149 [.rd (z3e 8 z0q) s3])),(2,some (v2,.box 149 [.rd (z3e 8 z0q) (Vector.replicate 8 0)]))] aa ww) ?_ (fun s3=>?_)
 ·refine gSR<|Zb Z<|z2t (fun (s4:(Vector UInt32 8) × Int) aa ww=>Sta (ctx 21 H [] w) [(1,.rd (z03 u8R) a1),(2,.val (z0f v1 0)),(4,.val (z0f v2 0)),(5,.rd z0i s4.2)] [(1,some (v1,.box 149 [.rd (z3e 8 z0q) s4.1])),(2,some (v2,.box 149 [.rd (z3e 8 z0q) (Vector.replicate 8 0)]))] aa ww) (fun aa ww h=>Zu h [1,2]) (fun s4=>?_)
  refine z12<|gSR<|Zm Z<|Zq (I.add Z Z)<|Zm Z<|Zq (z4d Z .rd Z tu52)<|Zq (I.leq Z Z)<|Zj Z (fun h5=>?_) (fun h5=>?_)
  ·refine Zt<|z12<|z6t<|z9z [1] mixed Z Z<|hTk 1 Z Z (mv Z)<|hTk 2 Z Z (mv Z)<|hTk 3 Z Z (mv Z)<|hTk 4 Z Z (I.add Z Z)<|z4x fun x6 h7=>hTk 5 Z Z (zn2 Z (.to Z) (.to Z) h7 tu52 ti5)<|zu6 0 Z (by kernel_rfl) (gd0 Z) Z Z zub (ld 1 Z Z fH zmp Z)<|z10r 6 [] [] Z (by kernel_rfl) Z (gd0 Z) Z Tryz.func143 Z Z (zdu _ _) (Y2 Z Z) rN Z fun r8 n9=>Zp 7 Z Z Z Z Z (sto 1 Z Z fH Z zdp)<|z6i (by kernel_rfl)<|z3w<|z0z<|z2n<|Zm Z<|Zq (I.add Z Z)<|Za Z<|z26 5 Z fun y10=>z1z<|z2j (fun aa ww h=>Zu h [1,2])
  ·refine z2s<|z1h<|z1g<|z3g (fun aa ww h=>Zu h [1,2])
 ·refine gSR<|Zq (ld 1 Z Z fH zmp Z)<|Es (sto 2 Z Z fH Z zdp)<|Zn<|z0o<|zch [] [] Z (eC 2 Z Z zmp<|eN) (rN)
def z3t (a0:Vector UInt32 8) (s5:V3 × Int):Option (Sum (V3) (V3 × Int)) :=
 if decide (s5.2<32) then
  z61 a0 (w64 (Int.tdiv s5.2 4)) >>= fun x7 =>
  chk (0≤w64 (24 - (w64 (8 * (Int.tmod s5.2 4))))) >>= fun u9 =>
  z61 s5.1 s5.2 >>= fun x11 =>
  some (w64 (s5.2+1)) >>= fun y13 =>
  some (.inr (zeq s5.1 s5.2 ((z54 x7 ((w64 (24 - (w64 (8 * (Int.tmod s5.2 4)))):Int).toNat)).toUInt8),y13))
 else
  some (.inl s5.1)
def z6s (a0:Vector UInt32 8):Option (V3) :=
 (iter (z3t a0) ((Vector.replicate 32 0),0)) >>= fun s4 =>
 some s4
theorem zcy (a0:Vector UInt32 8):z2k Tryz.prog 99 [.rd (z3e 8 z0q) a0] [] (z6s a0) (fun r nv=>⟨[.rd aZ r],[]⟩):=by
 refine z2x 22 Tryz.func99 Z Z Z fun H w=>?_
 refine gSR<|Eb Z (bx 1 Z) fun v1=>Eb Z (z9u 2 z5g (.zr (R:=aZ) (x:=(Vector.replicate 32 0)) zjv)) fun v2=>Zn<|gSR<|Eb Z (z9u 3 z5g (.zr (R:=aZ) (x:=(Vector.replicate 32 0)) zjv)) fun v3=>Zn<|z7r (fun (s4:V3) aa ww=>Sta (ctx 22 H [] w) [(2,.val (z0f v2 0)),(3,.val (z0f v3 0))] [(2,some (v2,.box 45 [.rd aZ (Vector.replicate 32 0)])),(3,some (v3,.box 45 [.rd aZ s4]))] aa ww) ?_ (fun s4=>?_)
 ·refine gSR<|Zb Z<|z2t (fun (s5:V3 × Int) aa ww=>Sta (ctx 22 H [] w) [(1,.val (z0f v1 0)),(2,.val (z0f v2 0)),(3,.val (z0f v3 0)),(4,.rd z0i s5.2)] [(1,some (v1,.box 149 [.rd (z3e 8 z0q) a0])),(2,some (v2,.box 45 [.rd aZ (Vector.replicate 32 0)])),(3,some (v3,.box 45 [.rd aZ s5.1]))] aa ww) (fun aa ww h=>Zu h [1,2,3]) (fun s5=>?_)
  refine z12<|gSR<|Zm Z<|Zq (I.lss Z Z)<|Zj Z (fun h6=>?_) (fun h6=>?_)
  ·refine Zt<|z12<|z6t<|z2n<|Zm Z<|Zm Z<|Zq (I.quo Z Z (by decide))<|z0r fun x7 h8=>Zq (ixB 1 Z Z Z h8 tu149 z68)<|Zq (ld 1 Z Z (fP (.el h8)) z97 Z)<|Zm Z<|Zq (I.rem Z Z (by decide))<|Zq (I.mul Z Z)<|Zq (I.sub Z Z)<|z0r fun u9 h10=>Zq (W.shr Z Z (z4p h10))<|Zq (W.toB Z tu34 tu5)<|z0r fun x11 h12=>Zq (ixB 3 Z Z Z h12 tu45 ti5)<|Es (sto 3 Z Z (fP (.el h12)) Z ti5)<|z1z<|z3w<|z0z<|z2n<|Zm Z<|Zq (I.add Z Z)<|Za Z<|z26 4 Z fun y13=>z1z<|z2j (fun aa ww h=>Zu h [1,2,3])
  ·refine z2s<|z1h<|z1g<|z3g (fun aa ww h=>Zu h [2,3])
 ·refine gSR<|Zq (ld 3 Z Z fH z9m Z)<|Es (sto 2 Z Z fH Z z5g)<|Zn<|z0o<|zch [] [] Z (eC 2 Z Z z9m<|eN) (rN)
def za8 (a0:List UInt8):Option (V3) :=
 z9y >>= fun r2 =>
 app 1 ([]:List UInt8) a0 >>= fun x5 =>
 z8z (a0.length:Int) >>= fun r8 =>
 app 1 x5 r8 >>= fun x10 =>
 z7h r2 x10 >>= fun r13 =>
 z6s r13 >>= fun r15 =>
 some r15
theorem zgn (a0:List UInt8):z2k Tryz.prog 53 [.rd (z03 u8R) a0] [] (za8 a0) (fun r nv=>⟨[.rd aZ r],[]⟩):=by
 refine z2x 13 Tryz.func53 Z Z Z fun H w=>?_
 refine gSR<|Eb Z (z9u 1 z5g (.zr (R:=aZ) (x:=(Vector.replicate 32 0)) zjv)) fun v1=>Zn<|gSR<|Zc [] [] Tryz.func101 Z (zel) fun r2 n3=>Ef Z (lit (R:=u8R) (([]:List UInt8):List UInt8) 2 (pN) Z tu52 ti5 Z Z) fun v4=>Zm Z<|z0r fun x5 h6=>Ef Z (apn 2 Z Z Z .rd h6 tu52 ti5 Z Z Z) fun v7=>Zm Z<|Zq (z4d Z .rd Z tu52)<|Zc [] [(100,3)] Tryz.func102 Z (zfe _) fun r8 n9=>z0r fun x10 h11=>Ef Z (apn 2 Z Z Z (.own 3 Z) h11 tu52 ti5 Z Z Z) fun v12=>zdr 2 [10] Z (fS Z<|fN)<|Zc [] [] Tryz.func100 Z (zdt _ _) fun r13 n14=>Zc [] [] Tryz.func99 Z (zcy _) fun r15 n16=>Es (sto 1 Z Z fH Z z5g)<|Zn<|z0o<|zch [] [] Z (eC 1 Z Z z9m<|eN) (rN)
def za6 (a0:z01):Option (V3) :=
 z8d a0 >>= fun r3 =>
 za8 r3 >>= fun r5 =>
 some r5
theorem zgs (a0:z01):z2k Tryz.prog 16 [.rd z04 a0] [] (za6 a0) (fun r nv=>⟨[.rd aZ r],[]⟩):=by
 refine z2x 6 Tryz.func16 Z Z Z fun H w=>?_
 refine gSR<|Eb Z (bx 1 Z) fun v1=>Eb Z (z9u 2 z5g (.zr (R:=aZ) (x:=(Vector.replicate 32 0)) zjv)) fun v2=>Zn<|gSR<|Zq (ld 1 Z Z fH zbe Z)<|Zc [] [(100,3)] Tryz.func54 Z (zeg _) fun r3 n4=>zdr 3 [4] Z (fS Z<|fN)<|Zc [] [] Tryz.func53 Z (zgn _) fun r5 n6=>Es (sto 2 Z Z fH Z z5g)<|Zn<|z0o<|zch [] [] Z (eC 2 Z Z z9m<|eN) (rN)
def z5w (a0:V3) (a1:V3) (s4:Int):Option (Sum (Sum Int Unit) Int) :=
 if decide (s4<32) then
  z61 a0 s4 >>= fun x6 =>
  z61 a1 s4 >>= fun x8 =>
  if decide (x6<x8) then
   some (.inl (.inl (-1)))
  else
   z61 a0 s4 >>= fun x11 =>
   z61 a1 s4 >>= fun x13 =>
   if decide (x13<x11) then
    some (.inl (.inl 1))
   else
    some (.inr (w64 (s4+1)))
 else
  some (.inl (.inr ()))
def z6k (a0:V3) (a1:V3):Option (Int) :=
 z6n (iter (z5w a0 a1) 0) fun s3 =>
 some 0
theorem z9f (a0:V3) (a1:V3):z2k Tryz.prog 18 [.rd aZ a0,.rd aZ a1] [] (z6k a0 a1) (fun r nv=>⟨[.rd z0i r],[]⟩):=by
 refine z2x 24 Tryz.func18 Z Z Z fun H w=>?_
 refine gSR<|Eb Z (bx 1 Z) fun v1=>Eb Z (bx 2 Z) fun v2=>Zb Z<|z90 (fun (s3:Unit) aa ww=>Sta (ctx 24 H [] w) [] [] aa ww) ?_ (fun s3=>?_)
 ·refine gSR<|Zb Z<|z2t (fun (s4:Int) aa ww=>Sta (ctx 24 H [] w) [(2,.val (z0f v1 0)),(3,.val (z0f v2 0)),(5,.rd z0i s4)] [(1,some (v1,.box 45 [.rd aZ a0])),(2,some (v2,.box 45 [.rd aZ a1]))] aa ww) (fun aa ww h=>Zu h [1,2]) (fun s4=>?_)
  refine z12<|gSR<|Zm Z<|Zq (I.lss Z Z)<|Zj Z (fun h5=>?_) (fun h5=>?_)
  ·refine Zt<|z12<|z6t<|z12<|z12<|zgo mixed (by kernel_rfl)<|Rq Z (mv Z)<|z72 fun x6 h7=>Rq Z (ixB 1 Z Z Z h7 tu45 ti5)<|Rq Z (ld 1 Z Z (fP (.el h7)) ty5 Z)<|Rq Z (mv Z)<|z72 fun x8 h9=>Rq Z (ixB 2 Z Z Z h9 tu45 ti5)<|Rq Z (ld 2 Z Z (fP (.el h9)) ty5 Z)<|Rq Z (B.lss Z Z)<|zqp<|z0z<|gIf Z Z (fun h10=>?_) (fun h10=>?_)
   ·refine gSR<|Zb Z<|z0o<|z10<|z4h<|z10<|z8g<|z5l<|Ze [] [] Z
   ·refine Zt<|z12<|zgo mixed (by kernel_rfl)<|Rq Z (mv Z)<|z72 fun x11 h12=>Rq Z (ixB 1 Z Z Z h12 tu45 ti5)<|Rq Z (ld 1 Z Z (fP (.el h12)) ty5 Z)<|Rq Z (mv Z)<|z72 fun x13 h14=>Rq Z (ixB 2 Z Z Z h14 tu45 ti5)<|Rq Z (ld 2 Z Z (fP (.el h14)) ty5 Z)<|Rq Z (B.gtr Z Z)<|zqp<|z0z<|gIf Z Z (fun h15=>?_) (fun h15=>?_)
    ·refine gSR<|Zb Z<|z0o<|z4h<|z10<|z8g<|z5l<|Ze [] [] Z
    ·refine z30<|z3w<|z0z<|z2n<|Zm Z<|Zq (I.add Z Z)<|Za Z<|z1z<|z2j (fun aa ww h=>Zu h [1,2])
  ·refine z2s<|z1h<|z1g<|z6u (fun aa ww h=>Zu h [])
 ·refine gSR<|Zb Z<|z0o<|Ze [] [] Z
def z3d (a0:List V3) (s2:Int):Option (Sum (Sum Bool Unit) Int) :=
 if decide (s2<(a0.length:Int)) then
  idx a0 (w64 (s2 - 1)) >>= fun x4 =>
  idx a0 s2 >>= fun x6 =>
  z6k x4 x6 >>= fun r8 =>
  if decide (0≤r8) then
   some (.inl (.inl false))
  else
   some (.inr (w64 (s2+1)))
 else
  some (.inl (.inr ()))
def z7i (a0:List V3):Option (Bool) :=
 z6n (iter (z3d a0) 1) fun s1 =>
 some true
theorem zds (a0:List V3):z2k Tryz.prog 14 [.rd (z03 aZ) a0] [] (z7i a0) (fun r nv=>⟨[.rd z0g r],[]⟩):=by
 refine z2x 21 Tryz.func14 Z Z Z fun H w=>?_
 refine gSR<|Zb Z<|z90 (fun (s1:Unit) aa ww=>Sta (ctx 21 H [] w) [] [] aa ww) ?_ (fun s1=>?_)
 ·refine gSR<|Zb Z<|z2t (fun (s2:Int) aa ww=>Sta (ctx 21 H [] w) [(0,.rd (z03 aZ) a0),(3,.rd z0i s2)] [] aa ww) (fun aa ww h=>Zu h []) (fun s2=>?_)
  refine z12<|gSR<|Zm Z<|Zm Z<|Zq (z4d Z .rd Z tu29)<|Zq (I.lss Z Z)<|Zj Z (fun h3=>?_) (fun h3=>?_)
  ·refine Zt<|z12<|z6t<|z12<|z9z [] mixed Z Z<|hTk 0 Z Z (mv Z)<|hTk 1 Z Z (mv Z)<|hTk 2 Z Z (I.sub Z Z)<|z4x fun x4 h5=>hTk 3 Z Z (ixR Z Z h5 tu29 z5g Z)<|hTk 4 Z Z (ldR Z z9m)<|hTk 5 Z Z (mv Z)<|hTk 6 Z Z (mv Z)<|z4x fun x6 h7=>hTk 7 Z Z (ixR Z Z h7 tu29 z5g Z)<|hTk 8 Z Z (ldR Z z9m)<|z5z 9 [] [] Z (by kernel_rfl) Z (gd0 Z) Z Tryz.func18 Z Z (z9f _ _) (Y2 Z Z) rN Z (fun _ _=>z4r) fun r8 n9=>hTk 10 Z Z (I.geq Z Z)<|z6i (by kernel_rfl)<|z0z<|gIf Z Z (fun h10=>?_) (fun h10=>?_)
   ·refine gSR<|Zb Z<|z0o<|z4h<|z10<|z8g<|z5l<|Ze [] [] Z
   ·refine z30<|z3w<|z0z<|z2n<|Zm Z<|Zq (I.add Z Z)<|Za Z<|z1z<|z2j (fun aa ww h=>Zu h [])
  ·refine z2s<|z1h<|z1g<|z6u (fun aa ww h=>Zu h [])
 ·refine gSR<|Zb Z<|z0o<|Ze [] [] Z
def z4j (a2:UInt64) (s2:UInt64 × UInt64 × UInt64):Option (Sum UInt64 (UInt64 × UInt64 × UInt64)) :=
 if decide (0<s2.2.1) then
  (if (s2.2.1 % 2)==1 then
   chk (a2≠0) >>= fun u6 =>
   some ((s2.2.2 * s2.1) % a2) >>= fun y8 =>
   some y8
  else
   some s2.2.2) >>= fun s4 =>
  chk (a2≠0) >>= fun u9 =>
  some ((s2.1 * s2.1) % a2) >>= fun y11 =>
  some (.inr (y11,s2.2.1 / 2,s4))
 else
  some (.inl s2.2.2)
def z84 (a0:UInt64) (a1:UInt64) (a2:UInt64):Option (UInt64) :=
 (iter (z4j a2) (a0,a1,1)) >>= fun s1 =>
 some s1
theorem zeb (a0:UInt64) (a1:UInt64) (a2:UInt64):z2k Tryz.prog 96 [.rd z1t a0,.rd z1t a1,.rd z1t a2] [] (z84 a0 a1 a2) (fun r nv=>⟨[.rd z1t r],[]⟩):=by
 refine z2x 26 Tryz.func96 Z Z Z fun H w=>?_
 refine gSR<|Zb Z<|gSR<|Zb Z<|z7r (fun (s1:UInt64) aa ww=>Sta (ctx 26 H [] w) [(7,.rd z1t s1)] [] aa ww) ?_ (fun s1=>?_)
 ·refine z2t (fun (s2:UInt64 × UInt64 × UInt64) aa ww=>Sta (ctx 26 H [] w) [(0,.rd z1t s2.1),(1,.rd z1t s2.2.1),(2,.rd z1t a2),(7,.rd z1t s2.2.2)] [] aa ww) (fun aa ww h=>Zu h []) (fun s2=>?_)
  refine z12<|gSR<|Zm Z<|Zq (U.gtr Z Z)<|Zj Z (fun h3=>?_) (fun h3=>?_)
  ·refine Zt<|z6t<|z7r (fun (s4:UInt64) aa ww=>Sta (ctx 26 H [] w) [(0,.rd z1t s2.1),(1,.rd z1t s2.2.1),(2,.rd z1t a2),(7,.rd z1t s4)] [] aa ww) ?_ (fun s4=>?_)
   ·refine gSR<|Zm Z<|Zq (U.rem Z Z (by decide))<|Zq (U.eql Z Z)<|Zj Z (fun h5=>?_) (fun h5=>?_)
    ·refine z2n<|Zm Z<|Zm Z<|Zq (U.mul Z Z)<|Zm Z<|z0r fun u6 h7=>Zq (U.rem Z Z (z4p h7))<|Za Z<|z26 7 Z fun y8=>z1z<|z3g (fun aa ww h=>Zu h [])
    ·refine z30<|z3g (fun aa ww h=>Zu h [])
   ·refine gSR<|Zm Z<|Zm Z<|Zq (U.mul Z Z)<|Zm Z<|z0r fun u9 h10=>Zq (U.rem Z Z (z4p h10))<|Za Z<|z26 0 Z fun y11=>Zn<|z2n<|Zm Z<|Zq (U.quo Z Z (by decide))<|Za Z<|z1z<|z3w<|z2j (fun aa ww h=>Zu h [])
  ·refine z2s<|z1h<|z1g<|z3g (fun aa ww h=>Zu h [])
 ·refine gSR<|Zm Z<|Zb Z<|z0o<|Ze [] [] Z
def zab (a0:UInt32):Option (Bool) :=
 if decide (1≤a0) then
  if decide (a0<1000000007) then
   z84 a0.toUInt64 500000003 1000000007 >>= fun r3 =>
   some (r3==1)
  else
   some false
 else
  some false
theorem zgw (a0:UInt32):z2k Tryz.prog 50 [.rd z0q a0] [] (zab a0) (fun r nv=>⟨[.rd z0g r],[]⟩):=by
 refine z2x 15 Tryz.func50 Z Z Z fun H w=>?_
 refine gSR<|Zb Z<|gSR<|Zm Z<|Zq (W.geq Z Z)<|Zm Z<|z14 5 Z (fun h1=>?_) (fun h1=>?_)
 ·refine lKn 4 Z h1<|z0u Zx Z Z (mv Z)<|z0u Zx Z Z (W.lss Z Z)<|Zq (pkT Z Z)<|Zm Z<|z14 9 Z (fun h2=>?_) (fun h2=>?_)
  ·refine lKn 7 Z h2<|lKn 8 Z h2<|z0u Zx Z Z (mv Z)<|z0u Zx Z Z (W.toU Z tu34 tu35)<|zb9 [] [] Zx Z Tryz.func96 Z Z (zeb _ _ _) (aQ Z<|aQ Z<|aQ Z<|aN) rN fun r3 n4=>z0u Zx Z Z (U.eql Z Z)<|Zq (pkT Z Z)<|Zb Z<|z0o<|Ze [] [] Z
  ·refine lKn 7 Z h2<|lKn 8 Z h2<|Zk Z<|Zk Z<|Zk Z<|Zk Z<|Zq (pkF Z Z)<|Zb Z<|z0o<|Ze [] [] Z
 ·refine lKn 4 Z h1<|Zk Z<|Zk Z<|Zq (pkF Z Z)<|Zm Z<|Zk Z<|Zk Z<|Zk Z<|Zk Z<|Zq (pkF Z Z)<|Zb Z<|z0o<|Ze [] [] Z
def z5c (a0:List UInt8) (s4:Int):Option (Sum (Sum Bool Unit) Int) :=
 if decide (s4<(a0.length:Int)) then
  idx a0 s4 >>= fun x6 =>
  if decide (x6<33) then
   some (.inl (.inl false))
  else
   idx a0 s4 >>= fun x9 =>
   if decide (126<x9) then
    some (.inl (.inl false))
   else
    some (.inr (w64 (s4+1)))
 else
  some (.inl (.inr ()))
def z75 (a0:List UInt8):Option (Bool) :=
 if decide ((a0.length:Int)<1) then
  some false
 else
  if decide (20<(a0.length:Int)) then
   some false
  else
   z6n (iter (z5c a0) 0) fun s3 =>
   some true
theorem zb3 (a0:List UInt8):z2k Tryz.prog 97 [.rd zev a0] [] (z75 a0) (fun r nv=>⟨[.rd z0g r],[]⟩):=by
 refine z2x 28 Tryz.func97 Z Z Z fun H w=>?_
 refine gSR<|Zb Z<|z12<|gSR<|Zm Z<|Zq (zu5 Z Z tu9)<|Zq (I.lss Z Z)<|Zm Z<|z14 7 Z (fun h1=>?_) (fun h1=>?_)
 ·refine lKn 6 Z h1<|Zk Z<|Zk Z<|Zk Z<|Zq (pkT Z Z)<|Zn<|zah Z<|gSR<|Zb Z<|z0o<|z10<|Ze [] [] Z
 ·refine lKn 6 Z h1<|z0u Zx Z Z (mv Z)<|z0u Zx Z Z (zu5 Z Z tu9)<|z0u Zx Z Z (I.gtr Z Z)<|Zq (pkF Z Z)<|Zj Z (fun h2=>?_) (fun h2=>?_)
  ·refine gKn 10 Z h2<|gSR<|Zb Z<|z0o<|z10<|Ze [] [] Z
  ·refine gKn 10 Z h2<|Zt<|z90 (fun (s3:Unit) aa ww=>Sta (ctx 28 H [] w) [] [] aa ww) ?_ (fun s3=>?_)
   ·refine gSR<|Zb Z<|z2t (fun (s4:Int) aa ww=>Sta (ctx 28 H [] w) [(0,.rd zev a0),(3,.rd z0i s4)] [] aa ww) (fun aa ww h=>Zu h []) (fun s4=>?_)
    refine z12<|gSR<|Zm Z<|Zm Z<|Zq (zu5 Z Z tu9)<|Zq (I.lss Z Z)<|Zj Z (fun h5=>?_) (fun h5=>?_)
    ·refine Zt<|z12<|z6t<|gSR<|Zm Z<|Zm Z<|z0r fun x6 h7=>Zq (idxT Z Z tu9 (z5n h7).1 (z5n h7).2.1)<|Zq (B.lss Z Z)<|Zm Z<|z14 22 Z (fun h8=>?_) (fun h8=>?_)
     ·refine lKn 21 Z h8<|Zk Z<|Zk Z<|Zk Z<|Zk Z<|Zq (pkT Z Z)<|Zn<|zah Z<|gSR<|Zb Z<|z0o<|z4h<|z10<|z8g<|z5l<|Ze [] [] Z
     ·refine lKn 21 Z h8<|z0u Zx Z Z (mv Z)<|z0u Zx Z Z (mv Z)<|z0r fun x9 h10=>z0u Zx Z Z (idxT Z Z tu9 (z5n h10).1 (z5n h10).2.1)<|z0u Zx Z Z (B.gtr Z Z)<|Zq (pkF Z Z)<|Zj Z (fun h11=>?_) (fun h11=>?_)
      ·refine gKn 26 Z h11<|gSR<|Zb Z<|z0o<|z4h<|z10<|z8g<|z5l<|Ze [] [] Z
      ·refine gKn 26 Z h11<|z30<|z3w<|z0z<|z2n<|Zm Z<|Zq (I.add Z Z)<|Za Z<|z1z<|z2j (fun aa ww h=>Zu h [])
    ·refine z2s<|z1h<|z1g<|z6u (fun aa ww h=>Zu h [])
   ·refine gSR<|Zb Z<|z0o<|Ze [] [] Z
def z65 (a0:UInt64):Option (Int) :=
 some (w64 (((a0 % 9223372036854775808) / 4503599627370496).toNat:Int)) >>= fun y1 =>
 some y1
theorem zco (a0:UInt64):z2k Tryz.prog 214 [.rd z1t a0] [] (z65 a0) (fun r nv=>⟨[.rd z0i r],[]⟩):=by
 refine z2x 7 Tryz.func214 Z Z Z fun H w=>?_
 refine gSR<|Zb Z<|gSR<|Zm Z<|Zq (U.rem Z Z (by decide))<|Zq (U.quo Z Z (by decide))<|Zq (U.toI Z tu35 tu3)<|Za Z<|z26 2 Z fun y1=>Zn<|z0o<|Ze [] [] Z
def z8h (a0:UInt64):Option (UInt64) :=
 some (a0 % 4503599627370496) >>= fun y1 =>
 some y1
theorem zcm (a0:UInt64):z2k Tryz.prog 215 [.rd z1t a0] [] (z8h a0) (fun r nv=>⟨[.rd z1t r],[]⟩):=by
 refine z2x 5 Tryz.func215 Z Z Z fun H w=>?_
 refine gSR<|Zb Z<|gSR<|Zm Z<|Zq (U.rem Z Z (by decide))<|Za Z<|z26 2 Z fun y1=>Zn<|z0o<|Ze [] [] Z
def z82 (a0:UInt64):Option (UInt8) :=
 z65 a0 >>= fun r1 =>
 z8h a0 >>= fun r3 =>
 z6n (if r1==0 then
  if r3==0 then
   some (.inl 1)
  else
   some (.inr ())
 else
  some (.inr ())) fun s5 =>
 if r1==0 then
  some 2
 else
  if decide (r1<2047) then
   some 3
  else
   if r3==0 then
    some 4
   else
    some 5
end
section
open Go Go.RowKit
set_option maxRecDepth 100000
theorem ze7 (a0:UInt64):z2k Tryz.prog 185 [.rd z1t a0] [] (z82 a0) (fun r nv=>⟨[.rd u8R r],[]⟩):=by
 refine z2x 21 Tryz.func185 Z Z Z fun H w=>?_
 refine gSR<|Zb Z<|gSR<|Zm Z<|Zc [] [] Tryz.func214 Z (zco _) fun r1 n2=>Zm Z<|Zc [] [] Tryz.func215 Z (zcm _) fun r3 n4=>Za Z<|Zb Z<|z90 (fun (s5:Unit) aa ww=>Sta (ctx 21 H [] w) [(3,.rd z0i r1),(4,.rd z1t r3)] [] aa ww) ?_ (fun s5=>?_)
 ·refine gSR<|Zm Z<|Zq (I.eql Z Z)<|Zm Z<|z14 11 Z (fun h6=>?_) (fun h6=>?_)
  ·refine lKn 10 Z h6<|z0u Zx Z Z (mv Z)<|z0u Zx Z Z (U.eql Z Z)<|Zq (pkT Z Z)<|Zj Z (fun h7=>?_) (fun h7=>?_)
   ·refine gKn 13 Z h7<|gSR<|Zb Z<|z0o<|z5l<|Ze [] [] Z
   ·refine gKn 13 Z h7<|z30<|z6u (fun aa ww h=>Zu h [])
  ·refine lKn 10 Z h6<|Zk Z<|Zk Z<|Zq (pkF Z Z)<|Zn<|zbp Z<|z30<|z6u (fun aa ww h=>Zu h [])
 ·refine z12<|gSR<|Zm Z<|Zq (I.eql Z Z)<|Zj Z (fun h8=>?_) (fun h8=>?_)
  ·refine gSR<|Zb Z<|z0o<|z10<|Ze [] [] Z
  ·refine Zt<|z12<|gSR<|Zm Z<|Zq (I.lss Z Z)<|Zj Z (fun h9=>?_) (fun h9=>?_)
   ·refine gSR<|Zb Z<|z0o<|z10<|Ze [] [] Z
   ·refine Zt<|z12<|gSR<|Zm Z<|Zq (U.eql Z Z)<|Zj Z (fun h10=>?_) (fun h10=>?_)
    ·refine gSR<|Zb Z<|z0o<|z10<|Ze [] [] Z
    ·refine Zt<|gSR<|Zb Z<|z0o<|Ze [] [] Z
def z80 (a0:UInt64):Option (UInt64) :=
 z82 a0 >>= fun r1 =>
 if r1==5 then
  some 9221120237041090560
 else
  some a0
theorem zea (a0:UInt64):z2k Tryz.prog 141 [.rd z1t a0] [] (z80 a0) (fun r nv=>⟨[.rd z1t r],[]⟩):=by
 refine z2x 7 Tryz.func141 Z Z Z fun H w=>?_
 refine gSR<|Zb Z<|z12<|gSR<|Zm Z<|Zc [] [] Tryz.func185 Z (ze7 _) fun r1 n2=>Zq (B.eql Z Z)<|Zj Z (fun h3=>?_) (fun h3=>?_)
 ·refine gSR<|Zb Z<|z0o<|z10<|Ze [] [] Z
 ·refine Zt<|gSR<|Zm Z<|Zb Z<|z0o<|Ze [] [] Z
def z35 (a0:List UInt8) (s2:Int):Option (Sum (Sum Bool Unit) Int) :=
 if decide (s2<(a0.length:Int)) then
  idx a0 s2 >>= fun x4 =>
  if decide (x4<32) then
   some (.inl (.inl false))
  else
   idx a0 s2 >>= fun x7 =>
   if decide (126<x7) then
    some (.inl (.inl false))
   else
    some (.inr (w64 (s2+1)))
 else
  some (.inl (.inr ()))
def z5o (a0:List UInt8):Option (Bool) :=
 z6n (iter (z35 a0) 0) fun s1 =>
 some true
theorem zc0 (a0:List UInt8):z2k Tryz.prog 142 [.rd zev a0] [] (z5o a0) (fun r nv=>⟨[.rd z0g r],[]⟩):=by
 refine z2x 20 Tryz.func142 Z Z Z fun H w=>?_
 refine gSR<|Zb Z<|z90 (fun (s1:Unit) aa ww=>Sta (ctx 20 H [] w) [] [] aa ww) ?_ (fun s1=>?_)
 ·refine gSR<|Zb Z<|z2t (fun (s2:Int) aa ww=>Sta (ctx 20 H [] w) [(0,.rd zev a0),(3,.rd z0i s2)] [] aa ww) (fun aa ww h=>Zu h []) (fun s2=>?_)
  refine z12<|gSR<|Zm Z<|Zm Z<|Zq (zu5 Z Z tu9)<|Zq (I.lss Z Z)<|Zj Z (fun h3=>?_) (fun h3=>?_)
  ·refine Zt<|z12<|z6t<|gSR<|Zm Z<|Zm Z<|z0r fun x4 h5=>Zq (idxT Z Z tu9 (z5n h5).1 (z5n h5).2.1)<|Zq (B.lss Z Z)<|Zm Z<|z14 14 Z (fun h6=>?_) (fun h6=>?_)
   ·refine lKn 13 Z h6<|Zk Z<|Zk Z<|Zk Z<|Zk Z<|Zq (pkT Z Z)<|Zn<|zah Z<|gSR<|Zb Z<|z0o<|z4h<|z10<|z8g<|z5l<|Ze [] [] Z
   ·refine lKn 13 Z h6<|z0u Zx Z Z (mv Z)<|z0u Zx Z Z (mv Z)<|z0r fun x7 h8=>z0u Zx Z Z (idxT Z Z tu9 (z5n h8).1 (z5n h8).2.1)<|z0u Zx Z Z (B.gtr Z Z)<|Zq (pkF Z Z)<|Zj Z (fun h9=>?_) (fun h9=>?_)
    ·refine gKn 18 Z h9<|gSR<|Zb Z<|z0o<|z4h<|z10<|z8g<|z5l<|Ze [] [] Z
    ·refine gKn 18 Z h9<|z30<|z3w<|z0z<|z2n<|Zm Z<|Zq (I.add Z Z)<|Za Z<|z1z<|z2j (fun aa ww h=>Zu h [])
  ·refine z2s<|z1h<|z1g<|z6u (fun aa ww h=>Zu h [])
 ·refine gSR<|Zb Z<|z0o<|Ze [] [] Z
def z85 (a0:z00):Option (Int) :=
 if a0.Kind==1 then
  if a0.Bits==0 then
   if a0.Text==[] then
    some 0
   else
    some 8
  else
   some 8
 else
  if a0.Kind==2 then
   (if a0.Num==0 then
    if a0.Text==[] then
     z80 a0.Bits >>= fun r9 =>
     some (r9==a0.Bits)
    else
     some false
   else
    some false) >>= fun s6 =>
   if s6 then
    some 0
   else
    some 8
  else
   if a0.Kind==3 then
    (if a0.Num==0 then
     if a0.Bits==0 then
      if decide ((a0.Text.length:Int)≤30) then
       z5o a0.Text >>= fun r17 =>
       some r17
      else
       some false
     else
      some false
    else
     some false) >>= fun s13 =>
    if s13 then
     some 0
    else
     some 8
   else
    some 8
theorem ze8 (a0:z00):z2k Tryz.prog 98 [.rd z0p a0] [] (z85 a0) (fun r nv=>⟨[.rd z0i r],[]⟩):=by
 refine z2x 54 Tryz.func98 Z Z Z fun H w=>?_
 refine gSR<|Eb Z (bx 1 Z) fun v1=>Zb Z<|z12<|gSR<|Zq (faB 1 Z Z Tryz.underlying37 Z (by exact ti5))<|Zq (ld 1 Z Z (fP (z1n _)) ty5 Z)<|Zn<|z6t<|gSR<|Zq (B.eql Z Z)<|Zb Z<|gIf Z Z (fun h2=>?_) (fun h2=>?_)
 ·refine gKn 6 Z h2<|gSR<|Zq (faB 1 Z Z Tryz.underlying37 Z (by exact zl5))<|Zq (ld 1 Z Z (fP (z2e _)) zng Z)<|Zq (U.eql Z Z)<|Zm Z<|z14 10 Z (fun h3=>?_) (fun h3=>?_)
  ·refine lKn 9 Z h3<|z0u Zx Z Z (faB 1 Z Z Tryz.underlying37 Z (by exact ti9))<|z0u Zx Z Z (ld 1 Z Z (fP (z2f _)) ty9 Z)<|z0u Zx Z Z (eqS Z Z)<|Zq (pkT Z Z)<|Zj Z (fun h4=>?_) (fun h4=>?_)
   ·refine gKn 13 Z h4<|gSR<|Zb Z<|z0o<|z4h<|z10<|Ze [] [] Z
   ·refine gKn 13 Z h4<|z30<|z3w<|z0z<|gSR<|Zb Z<|z0o<|Ze [] [] Z
  ·refine lKn 9 Z h3<|Zk Z<|Zk Z<|Zk Z<|Zq (pkF Z Z)<|Zn<|zbp Z<|z30<|z3w<|z0z<|gSR<|Zb Z<|z0o<|Ze [] [] Z
 ·refine gKn 6 Z h2<|gSR<|Zq (B.eql Z Z)<|Zb Z<|gIf Z Z (fun h5=>?_) (fun h5=>?_)
  ·refine gKn 16 Z h5<|z7r (fun (s6:Bool) aa ww=>Sta (ctx 54 H [] w) [(32,.rd z0g s6)] [] aa ww) ?_ (fun s6=>?_)
   ·refine z9z [] mixed Z Z<|hTk 0 Z Z (faB 1 Z Z Tryz.underlying37 Z (by exact ti2))<|hTk 1 Z Z (ld 1 Z Z (fP (z44 _)) ty2 Z)<|hTk 2 Z Z (I.eql Z Z)<|hTk 3 Z Z (mv Z)<|hIf 20 Z Z (fun h7=>?_) (fun h7=>?_)
    ·refine hKn 19 Z Z h7<|Zg 4 Z Z (faB 1 Z Z Tryz.underlying37 Z (by exact ti9))<|Zg 5 Z Z (ld 1 Z Z (fP (z2f _)) ty9 Z)<|Zg 6 Z Z (eqS Z Z)<|hTk 7 Z Z (pkT Z Z)<|hTk 8 Z Z (mv Z)<|hIf 25 Z Z (fun h8=>?_) (fun h8=>?_)
     ·refine hKn 23 Z Z h8<|hKn 24 Z Z h8<|Zg 9 Z Z (faB 1 Z Z Tryz.underlying37 Z (by exact zl5))<|Zg 10 Z Z (ld 1 Z Z (fP (z2e _)) zng Z)<|Zg 12 Z Z (faB 1 Z Z Tryz.underlying37 Z (by exact zl5))<|Zg 13 Z Z (ld 1 Z Z (fP (z2e _)) zng Z)<|z5z 11 [] [] Z (by kernel_rfl) Z Zx Z Tryz.func141 Z Z (zea _) (Y1 Z) rN Z (fun _ _=>z4r) fun r9 n10=>Zg 14 Z Z (U.eql Z Z)<|hTk 15 Z Z (pkT Z Z)<|z6i (by kernel_rfl)<|z3g (fun aa ww h=>Zu h [])
     ·refine hKn 23 Z Z h8<|hKn 24 Z Z h8<|hSk 9 Z Z<|hSk 10 Z Z<|hSk 11 Z Z<|hSk 12 Z Z<|hSk 13 Z Z<|hSk 14 Z Z<|hTk 15 Z Z (pkF Z Z)<|z6i (by kernel_rfl)<|z3g (fun aa ww h=>Zu h [])
    ·refine hKn 19 Z Z h7<|hSk 4 Z Z<|hSk 5 Z Z<|hSk 6 Z Z<|hTk 7 Z Z (pkF Z Z)<|hTk 8 Z Z (mv Z)<|hSk 9 Z Z<|hSk 10 Z Z<|hSk 11 Z Z<|hSk 12 Z Z<|hSk 13 Z Z<|hSk 14 Z Z<|hTk 15 Z Z (pkF Z Z)<|z6i (by kernel_rfl)<|z3g (fun aa ww h=>Zu h [])
   ·refine gIf Z Z (fun h11=>?_) (fun h11=>?_)
    ·refine gSR<|Zb Z<|z0o<|z4h<|z10<|Ze [] [] Z
    ·refine z30<|z3w<|z0z<|gSR<|Zb Z<|z0o<|Ze [] [] Z
  ·refine gKn 16 Z h5<|gSR<|Zq (B.eql Z Z)<|Zb Z<|gIf Z Z (fun h12=>?_) (fun h12=>?_)
   ·refine gKn 34 Z h12<|z7r (fun (s13:Bool) aa ww=>Sta (ctx 54 H [] w) [(53,.rd z0g s13)] [] aa ww) ?_ (fun s13=>?_)
    ·refine z2n<|Zq (faB 1 Z Z Tryz.underlying37 Z (by exact ti2))<|Zq (ld 1 Z Z (fP (z44 _)) ty2 Z)<|Zq (I.eql Z Z)<|Zm Z<|z14 38 Z (fun h14=>?_) (fun h14=>?_)
     ·refine lKn 37 Z h14<|z0u Zx Z Z (faB 1 Z Z Tryz.underlying37 Z (by exact zl5))<|z0u Zx Z Z (ld 1 Z Z (fP (z2e _)) zng Z)<|z0u Zx Z Z (U.eql Z Z)<|Zq (pkT Z Z)<|Zm Z<|z14 43 Z (fun h15=>?_) (fun h15=>?_)
      ·refine lKn 41 Z h15<|lKn 42 Z h15<|z0u Zx Z Z (faB 1 Z Z Tryz.underlying37 Z (by exact ti9))<|z0u Zx Z Z (ld 1 Z Z (fP (z2f _)) ty9 Z)<|z0u Zx Z Z (zu5 Z Z tu9)<|z0u Zx Z Z (I.leq Z Z)<|Zq (pkT Z Z)<|Zm Z<|z14 49 Z (fun h16=>?_) (fun h16=>?_)
       ·refine lKn 47 Z h16<|lKn 48 Z h16<|z0u Zx Z Z (faB 1 Z Z Tryz.underlying37 Z (by exact ti9))<|z0u Zx Z Z (ld 1 Z Z (fP (z2f _)) ty9 Z)<|zb9 [] [] Zx Z Tryz.func142 Z Z (zc0 _) (Y1 Z) rN fun r17 n18=>Zq (pkT Z Z)<|z1z<|z3g (fun aa ww h=>Zu h [])
       ·refine lKn 47 Z h16<|lKn 48 Z h16<|Zk Z<|Zk Z<|Zk Z<|Zq (pkF Z Z)<|z1z<|z3g (fun aa ww h=>Zu h [])
      ·refine lKn 41 Z h15<|lKn 42 Z h15<|Zk Z<|Zk Z<|Zk Z<|Zk Z<|Zq (pkF Z Z)<|Zm Z<|Zk Z<|Zk Z<|Zk Z<|Zq (pkF Z Z)<|z1z<|z3g (fun aa ww h=>Zu h [])
     ·refine lKn 37 Z h14<|Zk Z<|Zk Z<|Zk Z<|Zq (pkF Z Z)<|Zm Z<|Zk Z<|Zk Z<|Zk Z<|Zk Z<|Zq (pkF Z Z)<|Zm Z<|Zk Z<|Zk Z<|Zk Z<|Zq (pkF Z Z)<|z1z<|z3g (fun aa ww h=>Zu h [])
    ·refine gIf Z Z (fun h19=>?_) (fun h19=>?_)
     ·refine gSR<|Zb Z<|z0o<|z4h<|z10<|Ze [] [] Z
     ·refine z30<|z3w<|z0z<|gSR<|Zb Z<|z0o<|Ze [] [] Z
   ·refine gKn 34 Z h12<|z30<|z3w<|z0z<|gSR<|Zb Z<|z0o<|Ze [] [] Z
def z63 (a0:z07):Option (Int) :=
 some (decide (a0.Value=(⟨0,0,0,[]⟩:z00))) >>= fun y2 =>
 if a0.Kind==1 then
  if a0.Key==[] then
   if y2 then
    some 0
   else
    some 8
  else
   some 8
 else
  (if a0.Kind==2 then
   some true
  else
   some (a0.Kind==3)) >>= fun s6 =>
  if s6 then
   z75 a0.Key >>= fun r9 =>
   if r9 then
    if y2 then
     some 0
    else
     some 8
   else
    some 8
  else
   if a0.Kind==4 then
    z75 a0.Key >>= fun r14 =>
    if r14 then
     z85 a0.Value >>= fun r17 =>
     if r17==0 then
      some 0
     else
      some 8
    else
     some 8
   else
    some 8
theorem zcl (a0:z07):z2k Tryz.prog 51 [.rd z09 a0] [] (z63 a0) (fun r nv=>⟨[.rd z0i r],[]⟩):=by
 refine z2x 38 Tryz.func51 Z Z Z fun H w=>?_
 refine gSR<|Eb Z (bx 1 Z) fun v1=>Zb Z<|gSR<|Zq (faB 1 Z Z Tryz.underlying39 Z (by exact zbb))<|Zq (ld 1 Z Z (fP (z3f _)) zik Z)<|Zq (bld (x':=(⟨0,0,0,[]⟩:z00)) [(0,1),(1,1),(2,1),(3,1)] Tryz.underlying37 zbb Z zkq Z (Bld.done Z))<|Zq (eqA Z Z eq37 Z Z gq37)<|Za Z<|z26 3 Z fun y2=>Zn<|z12<|gSR<|Zq (faB 1 Z Z Tryz.underlying39 Z (by exact ti5))<|Zq (ld 1 Z Z (fP (z20 _)) ty5 Z)<|Zn<|z6t<|gSR<|Zq (B.eql Z Z)<|Zb Z<|gIf Z Z (fun h3=>?_) (fun h3=>?_)
 ·refine gKn 11 Z h3<|gSR<|Zq (faB 1 Z Z Tryz.underlying39 Z (by exact ti9))<|Zq (ld 1 Z Z (fP (z34 _)) ty9 Z)<|Zq (eqS Z Z)<|Zm Z<|z14 15 Z (fun h4=>?_) (fun h4=>?_)
  ·refine lKn 14 Z h4<|z0u Zx Z Z (mv Z)<|Zq (pkT Z Z)<|Zj Z (fun h5=>?_) (fun h5=>?_)
   ·refine gKn 3 Z h5<|gKn 16 Z h5<|gSR<|Zb Z<|z0o<|z4h<|z10<|Ze [] [] Z
   ·refine gKn 3 Z h5<|gKn 16 Z h5<|z30<|z3w<|z0z<|gSR<|Zb Z<|z0o<|Ze [] [] Z
  ·refine lKn 14 Z h4<|Zk Z<|Zq (pkF Z Z)<|Zn<|zbp Z<|z30<|z3w<|z0z<|gSR<|Zb Z<|z0o<|Ze [] [] Z
 ·refine gKn 11 Z h3<|z7r (fun (s6:Bool) aa ww=>Sta (ctx 38 H [] w) [(1,.val (z0f v1 0)),(3,.rd z0g y2),(9,.rd u8R a0.Kind),(18,.rd z0g s6)] [(1,some (v1,.box 39 [.rd z09 a0]))] aa ww) ?_ (fun s6=>?_)
  ·refine gSR<|Zq (B.eql Z Z)<|Zb Z<|gIf Z Z (fun h7=>?_) (fun h7=>?_)
   ·refine gKn 19 Z h7<|z30<|z3g (fun aa ww h=>Zu h [1])
   ·refine gKn 19 Z h7<|z2n<|Zq (B.eql Z Z)<|Za Z<|z1z<|z3g (fun aa ww h=>Zu h [1])
  ·refine gIf Z Z (fun h8=>?_) (fun h8=>?_)
   ·refine gSR<|Zq (faB 1 Z Z Tryz.underlying39 Z (by exact ti9))<|Zq (ld 1 Z Z (fP (z34 _)) ty9 Z)<|Zc [] [] Tryz.func97 Z (zb3 _) fun r9 n10=>Zm Z<|z14 24 Z (fun h11=>?_) (fun h11=>?_)
    ·refine lKn 23 Z h11<|z0u Zx Z Z (mv Z)<|Zq (pkT Z Z)<|Zj Z (fun h12=>?_) (fun h12=>?_)
     ·refine gKn 3 Z h12<|gKn 25 Z h12<|gSR<|Zb Z<|z0o<|z4h<|z10<|Ze [] [] Z
     ·refine gKn 3 Z h12<|gKn 25 Z h12<|z30<|z3w<|z0z<|gSR<|Zb Z<|z0o<|Ze [] [] Z
    ·refine lKn 23 Z h11<|Zk Z<|Zq (pkF Z Z)<|Zn<|zbp Z<|z30<|z3w<|z0z<|gSR<|Zb Z<|z0o<|Ze [] [] Z
   ·refine gSR<|Zq (B.eql Z Z)<|Zb Z<|gIf Z Z (fun h13=>?_) (fun h13=>?_)
    ·refine gKn 28 Z h13<|gSR<|Zq (faB 1 Z Z Tryz.underlying39 Z (by exact ti9))<|Zq (ld 1 Z Z (fP (z34 _)) ty9 Z)<|Zc [] [] Tryz.func97 Z (zb3 _) fun r14 n15=>Zm Z<|z14 32 Z (fun h16=>?_) (fun h16=>?_)
     ·refine lKn 31 Z h16<|z0u Zx Z Z (faB 1 Z Z Tryz.underlying39 Z (by exact zbb))<|z0u Zx Z Z (ld 1 Z Z (fP (z3f _)) zik Z)<|zb9 [] [] Zx Z Tryz.func98 Z Z (ze8 _) (Y1 Z) rN fun r17 n18=>z0u Zx Z Z (I.eql Z Z)<|Zq (pkT Z Z)<|Zj Z (fun h19=>?_) (fun h19=>?_)
      ·refine gKn 36 Z h19<|gSR<|Zb Z<|z0o<|z4h<|z10<|Ze [] [] Z
      ·refine gKn 36 Z h19<|z30<|z3w<|z0z<|gSR<|Zb Z<|z0o<|Ze [] [] Z
     ·refine lKn 31 Z h16<|Zk Z<|Zk Z<|Zk Z<|Zk Z<|Zq (pkF Z Z)<|Zn<|zbp Z<|z30<|z3w<|z0z<|gSR<|Zb Z<|z0o<|Ze [] [] Z
    ·refine gKn 28 Z h13<|z30<|z3w<|z0z<|gSR<|Zb Z<|z0o<|Ze [] [] Z
def z4f (a0:UInt32):Option (Bool) :=
 some (decide (a0.toUInt64<500000003)) >>= fun y1 =>
 some y1
theorem z98 (a0:UInt32):z2k Tryz.prog 52 [.rd z0q a0] [] (z4f a0) (fun r nv=>⟨[.rd z0g r],[]⟩):=by
 refine z2x 6 Tryz.func52 Z Z Z fun H w=>?_
 refine gSR<|Zb Z<|gSR<|Zm Z<|Zq (W.toU Z tu34 tu35)<|Zq (U.lss Z Z)<|Za Z<|z26 2 Z fun y1=>Zn<|z0o<|Ze [] [] Z
def z8e (a0:z01):Option (Int) :=
 if decide (4<(a0.Preds.length:Int)) then
  some 4
 else
  z7i a0.Preds >>= fun r3 =>
  if !r3 then
   some 32
  else
   (zab a0.Author >>= fun r7 =>
   if !r7 then
    some true
   else
    if decide (1000000000000<a0.Stamp) then
     some true
    else
     z63 a0.Act >>= fun r11 =>
     if r11 != 0 then
      some true
     else
      z4f a0.Sig.E >>= fun r14 =>
      if !r14 then
       some true
      else
       z4f a0.Sig.S >>= fun r17 =>
       some (!r17)) >>= fun s6 =>
   if s6 then
    some 8
   else
    some 0
theorem zee (a0:z01):z2k Tryz.prog 15 [.rd z04 a0] [] (z8e a0) (fun r nv=>⟨[.rd z0i r],[]⟩):=by
 refine z2x 40 Tryz.func15 Z Z Z fun H w=>?_
 refine gSR<|Eb Z (bx 1 Z) fun v1=>Zb Z<|z12<|gSR<|Zq (faB 1 Z Z Tryz.underlying43 Z (by exact zcr))<|Zq (ld 1 Z Z (fP (z19 _)) zhy Z)<|Zq (z4d Z .rd Z tu29)<|Zq (I.gtr Z Z)<|Zj Z (fun h2=>?_) (fun h2=>?_)
 ·refine gSR<|Zb Z<|z0o<|z10<|Ze [] [] Z
 ·refine Zt<|z12<|gSR<|Zq (faB 1 Z Z Tryz.underlying43 Z (by exact zcr))<|Zq (ld 1 Z Z (fP (z19 _)) zhy Z)<|Zc [] [] Tryz.func14 Z (zds _) fun r3 n4=>Zq (zhz Z)<|Zj Z (fun h5=>?_) (fun h5=>?_)
  ·refine gSR<|Zb Z<|z0o<|z10<|Ze [] [] Z
  ·refine Zt<|z12<|z7r (fun (s6:Bool) aa ww=>Sta (ctx 40 H [] w) [(39,.rd z0g s6)] [] aa ww) ?_ (fun s6=>?_)
   ·refine z2n<|Zq (faB 1 Z Z Tryz.underlying43 Z (by exact z68))<|Zq (ld 1 Z Z (fP (z4y _)) z97 Z)<|Zc [] [] Tryz.func50 Z (zgw _) fun r7 n8=>Zq (zhz Z)<|Zm Z<|z14 15 Z (fun h9=>?_) (fun h9=>?_)
    ·refine lKn 14 Z h9<|Zk Z<|Zk Z<|Zk Z<|Zq (pkT Z Z)<|Zm Z<|Zk Z<|Zk Z<|Zk Z<|Zk Z<|Zq (pkT Z Z)<|Zm Z<|Zk Z<|Zk Z<|Zk Z<|Zk Z<|Zk Z<|Zq (pkT Z Z)<|Zm Z<|Zk Z<|Zk Z<|Zk Z<|Zk Z<|Zk Z<|Zq (pkT Z Z)<|z1z<|z3g (fun aa ww h=>Zu h [])
    ·refine lKn 14 Z h9<|z0u Zx Z Z (faB 1 Z Z Tryz.underlying43 Z (by exact zl5))<|z0u Zx Z Z (ld 1 Z Z (fP (z5v _)) zng Z)<|z0u Zx Z Z (U.gtr Z Z)<|Zq (pkF Z Z)<|Zm Z<|z14 20 Z (fun h10=>?_) (fun h10=>?_)
     ·refine lKn 18 Z h10<|lKn 19 Z h10<|Zk Z<|Zk Z<|Zk Z<|Zk Z<|Zq (pkT Z Z)<|Zm Z<|Zk Z<|Zk Z<|Zk Z<|Zk Z<|Zk Z<|Zq (pkT Z Z)<|Zm Z<|Zk Z<|Zk Z<|Zk Z<|Zk Z<|Zk Z<|Zq (pkT Z Z)<|z1z<|z3g (fun aa ww h=>Zu h [])
     ·refine lKn 18 Z h10<|lKn 19 Z h10<|z0u Zx Z Z (faB 1 Z Z Tryz.underlying43 Z (by exact zhb))<|z0u Zx Z Z (ld 1 Z Z (fP (z1x _)) ty39 Z)<|zb9 [] [] Zx Z Tryz.func51 Z Z (zcl _) (Y1 Z) rN fun r11 n12=>z0u Zx Z Z (I.neq Z Z)<|Zq (pkF Z Z)<|Zm Z<|z14 26 Z (fun h13=>?_) (fun h13=>?_)
      ·refine lKn 24 Z h13<|lKn 25 Z h13<|Zk Z<|Zk Z<|Zk Z<|Zk Z<|Zk Z<|Zq (pkT Z Z)<|Zm Z<|Zk Z<|Zk Z<|Zk Z<|Zk Z<|Zk Z<|Zq (pkT Z Z)<|z1z<|z3g (fun aa ww h=>Zu h [])
      ·refine lKn 24 Z h13<|lKn 25 Z h13<|z0u Zx Z Z (faB 1 Z Z Tryz.underlying43 Z (by exact zlh))<|z0u Zx Z Z (faB 1 Z Z Tryz.underlying41 Z (by exact z68))<|z0u Zx Z Z (ld 1 Z Z ((fP (z3a _)).part (z8j _)) z97 Z)<|zb9 [] [] Zx Z Tryz.func52 Z Z (z98 _) (Y1 Z) rN fun r14 n15=>z0u Zx Z Z (zhz Z)<|Zq (pkF Z Z)<|Zm Z<|z14 33 Z (fun h16=>?_) (fun h16=>?_)
       ·refine lKn 31 Z h16<|lKn 32 Z h16<|Zk Z<|Zk Z<|Zk Z<|Zk Z<|Zk Z<|Zq (pkT Z Z)<|z1z<|z3g (fun aa ww h=>Zu h [])
       ·refine lKn 31 Z h16<|lKn 32 Z h16<|z0u Zx Z Z (faB 1 Z Z Tryz.underlying43 Z (by exact zlh))<|z0u Zx Z Z (faB 1 Z Z Tryz.underlying41 Z (by exact z68))<|z0u Zx Z Z (ld 1 Z Z ((fP (z3a _)).part (z8k _)) z97 Z)<|zb9 [] [] Zx Z Tryz.func52 Z Z (z98 _) (Y1 Z) rN fun r17 n18=>z0u Zx Z Z (zhz Z)<|Zq (pkF Z Z)<|z1z<|z3g (fun aa ww h=>Zu h [])
   ·refine gIf Z Z (fun h19=>?_) (fun h19=>?_)
    ·refine gSR<|Zb Z<|z0o<|z10<|Ze [] [] Z
    ·refine Zt<|gSR<|Zb Z<|z0o<|Ze [] [] Z
end
section
open Go Go.RowKit
set_option maxRecDepth 100000
def z6e (a0:List V3) (a1:V3) (s3:Int):Option (Sum (Sum Int Unit) Int) :=
 if decide (s3<(a0.length:Int)) then
  idx a0 s3 >>= fun x5 =>
  if decide (x5=a1) then
   some (.inl (.inl s3))
  else
   some (.inr (w64 (s3+1)))
 else
  some (.inl (.inr ()))
def z91 (a0:List V3) (a1:V3):Option (Int) :=
 z6n (iter (z6e a0 a1) 0) fun s2 =>
 some (-1)
theorem zck (a0:List V3) (a1:V3):z2k Tryz.prog 17 [.rd (z03 aZ) a0,.rd aZ a1] [] (z91 a0 a1) (fun r nv=>⟨[.rd z0i r],[]⟩):=by
 refine z2x 19 Tryz.func17 Z Z Z fun H w=>?_
 refine gSR<|Eb Z (bx 1 Z) fun v1=>Zb Z<|z90 (fun (s2:Unit) aa ww=>Sta (ctx 19 H [] w) [] [] aa ww) ?_ (fun s2=>?_)
 ·refine gSR<|Zb Z<|z2t (fun (s3:Int) aa ww=>Sta (ctx 19 H [] w) [(0,.rd (z03 aZ) a0),(3,.val (z0f v1 0)),(5,.rd z0i s3)] [(1,some (v1,.box 45 [.rd aZ a1]))] aa ww) (fun aa ww h=>Zu h [1]) (fun s3=>?_)
  refine z12<|gSR<|Zm Z<|Zm Z<|Zq (z4d Z .rd Z tu29)<|Zq (I.lss Z Z)<|Zj Z (fun h4=>?_) (fun h4=>?_)
  ·refine Zt<|z12<|z6t<|z12<|zgo mixed (by kernel_rfl)<|Rq Z (mv Z)<|Rq Z (mv Z)<|z72 fun x5 h6=>Rq Z (ixR Z Z h6 tu29 z5g Z)<|Rq Z (ldR Z z9m)<|Rq Z (ld 1 Z Z fH z9m Z)<|Rq Z (eqA Z Z eq45 Z Z gq45)<|zqp<|z0z<|gIf Z Z (fun h7=>?_) (fun h7=>?_)
   ·refine gSR<|Zm Z<|Zb Z<|z0o<|z4h<|z10<|z8g<|z5l<|Ze [] [] Z
   ·refine z30<|z3w<|z0z<|z2n<|Zm Z<|Zq (I.add Z Z)<|Za Z<|z1z<|z2j (fun aa ww h=>Zu h [1])
  ·refine z2s<|z1h<|z1g<|z6u (fun aa ww h=>Zu h [])
 ·refine gSR<|Zb Z<|z0o<|Ze [] [] Z
end
section
open Go Go.Shelf Go.RowKit Go.Lib Go.Sort
def z7j (x:V3):List Value:=x.toList.map fun c=>Value.int .u8 (c.toNat:Int)
theorem zi8 (x:V3):(z7j x).length=32:=by simp [z7j]
theorem zw1 (x y:V3) (b c:Nat) (W:World) (hx:∀ j u,(z7j x)[j]? = some u→W.cell? ⟨b,0+j,none⟩=some u) (hy:∀ j u,(z7j y)[j]? = some u→W.cell? ⟨c,0+j,none⟩=some u) :
  (callFunc 140 #[.slice (some ⟨b,0,none⟩) 32 32,.slice (some ⟨c,0,none⟩) 32 32]).run Tryz.prog W=.ok (.value (.int .i64 (Lib.compareBytes x.toList y.toList))) W:=by
 have lx:x.toList.length=32:=by simp
 have ly:y.toList.length=32:=by simp
 have e:=zga (P:=Tryz.prog) (w:=W) (p:=some ⟨b,0,none⟩) (q:=some ⟨c,0,none⟩) (c:=32) (d:=32) (x:=x.toList) (y:=y.toList) (xs:=z7j x) (ys:=z7j y)
  ⟨by rw [zi8,lx],.inr ⟨b,0,none,32, by rfl, by omega, by decide,.inr rfl,hx⟩⟩ rfl ⟨by rw [zi8,ly],.inr ⟨c,0,none,32, by rfl, by omega, by decide,.inr rfl,hy⟩⟩ rfl
 rw [lx,ly] at e
 rw [run_callFunc_extern Tryz.func140 rfl rfl (by kernel_rfl) (by kernel_rfl),e]
 rfl
set_option maxHeartbeats 1000000 in
set_option maxRecDepth 100000 in
theorem zk7 (x y:V3) (b c:Nat) (W:World) (hx:∀ j u,(z7j x)[j]? = some u→W.cell? ⟨b,0+j,none⟩=some u) (hy:∀ j u,(z7j y)[j]? = some u→W.cell? ⟨c,0+j,none⟩=some u) :
  Calls Tryz.prog 95 #[.slice (some ⟨b,0,none⟩) 32 32,.slice (some ⟨c,0,none⟩) 32 32] W fun e w'=>e=.returned (.int .i64 (Lib.compareBytes x.toList y.toList))∧w'=W:=by
 have e:=zw1 x y b c W hx hy
 go_enter Tryz.func95,Tryz.ntmps95
 go_wp2
 go_ret
 exact ⟨rfl,rfl⟩
theorem zna {w:World} {b j:Nat} {c:Array Value} {T:TypeId} {fr:Nat × Nat} {u:Value} (h:w.heap[b]? = some (.cells c T fr)) (hj:c[j]? = some u):w.cell? ⟨b,0+j,none⟩=some u:=by
 unfold World.cell?
 rw [h]
 simpa using hj
theorem zym (W:World) (xs ys:List Value) (n j:Nat) (u:Value) (h:xs[j]? = some u):(((W.alloc (.cells xs.toArray 45)).alloc (.cells ys.toArray 45)).drewN n).cell? ⟨W.heap.size,0+j,none⟩=some u :=
 zna (c:=xs.toArray) (T:=45) (fr:=(0,0)) (by
  show ((W.heap.push _).push _)[W.heap.size]? = _
  rw [Array.getElem?_push_lt (by simp)]; simp) (by simpa using h)
theorem zxu (W:World) (xs ys:List Value) (n j:Nat) (u:Value) (h:ys[j]? = some u):(((W.alloc (.cells xs.toArray 45)).alloc (.cells ys.toArray 45)).drewN n).cell? ⟨W.heap.size+1,0+j,none⟩=some u :=
 zna (c:=ys.toArray) (T:=45) (fr:=(0,0)) (by
  show ((W.heap.push _).push _)[W.heap.size+1]? = _
  have:W.heap.size+1=(W.heap.push (Obj.cells xs.toArray 45)).size:=by simp
  rw [this,Array.getElem?_push_size]) (by simpa using h)
set_option maxHeartbeats 1000000 in
set_option maxRecDepth 100000 in
theorem zqi (x y:V3) (W:World):Calls Tryz.prog 48 #[.agg (z7j x).toArray,.agg (z7j y).toArray] W fun e w'=>e=.returned (.int .i64 (Lib.compareBytes x.toList y.toList))∧∃ q os',w'=grow (W.drewN q) os':=by
 have c0:=zym W (z7j x) (z7j y)
 have c1:=zxu W (z7j x) (z7j y)
 go_enter Tryz.func48,Tryz.ntmps48
 go_wp2
 go_quiet (first | (go_at_call 95; refine Calls.quiet_of_same (zk7 x y _ _ _ (c0 _) (c1 _))))
 go_wp2
 go_ret
 exact ⟨rfl,nq,#[.cells (z7j x).toArray 45,.cells (z7j y).toArray 45],rfl⟩
end
section
open Go Go.RowKit Go.Sort
theorem zx2 {α:Type} [Inhabited α] (enc:α→List Value) (k:Nat) (hk:∀ x,(enc x).length=k):∀ (l:List α) (t:Nat),t<l.length * k→(l.flatMap enc)[t]! = (enc l[t / k]!)[t % k]!
 | [],t,h=>by simp at h
 | x::l,t,h=>by
  have hx:=hk x
  have k0:0<k:=by
   rcases Nat.eq_zero_or_pos k with e | e
   ·subst e; simp at h
   ·exact e
  rw [List.flatMap_cons]
  by_cases ht:t<k
  ·rw [List.getElem!_eq_getElem?_getD,List.getElem?_append_left (by omega),Nat.div_eq_of_lt ht,Nat.mod_eq_of_lt ht]
   simp
  ·have hl:t - k<l.length * k:=by
    simp only [List.length_cons,Nat.add_mul,Nat.one_mul] at h; omega
   have ih:=zx2 enc k hk l (t - k) hl
   have e1:t / k=(t - k) / k+1:=by
    have h2:=Nat.add_div_right (t - k) k0
    rw [Nat.sub_add_cancel (by omega)] at h2; exact h2
   have e2:t % k=(t - k) % k:=by rw [Nat.mod_eq_sub_mod (by omega)]
   rw [List.getElem!_eq_getElem?_getD,List.getElem?_append_right (by omega),hx,e1,e2,← List.getElem!_eq_getElem?_getD,ih]
   simp
theorem zlj {α:Type} (enc:α→List Value) (k:Nat) (hk:∀ x,(enc x).length=k):∀ l:List α,(l.flatMap enc).length=l.length * k
 | []=>by simp
 | x::l=>by rw [List.flatMap_cons,List.length_append,hk,zlj enc k hk l,List.length_cons,Nat.add_mul,Nat.one_mul,Nat.add_comm]
theorem ztz {α:Type} [Inhabited α] (enc:α→List Value) (k:Nat) (hk:∀ x,(enc x).length=k) (l:List α):flatK enc k l.toArray=(l.flatMap enc).toArray:=by
 refine ext_get! (by rw [size_flatK]; simp only [List.size_toArray,zlj enc k hk]) fun t ht=>?_
 rw [size_flatK,List.size_toArray] at ht
 rw [get_flatK _ _ _ _ (by simpa using ht)]
 have:=zx2 enc k hk l t ht
 simp at this ⊢
 rw [this]
theorem zmo {α:Type} [Inhabited α] (enc:α→List Value) (k:Nat) (hk:∀ x,(enc x).length=k) {w:World} {b:Nat} {C:Array Value} {T:TypeId} (l:List α) (hb:w.heap[b]? = some (.cells C T (0,0))) (hc:C.toList.take (l.length * k)=l.flatMap enc):HoldsK enc k w b 0 l.toArray:=by
 intro j hj
 rw [ztz enc k hk] at hj ⊢
 have hj':j<(l.flatMap enc).length:=by simpa using hj
 constructor
 ·refine zna hb ?_
  have e:(C.toList.take (l.length * k))[j]? = (l.flatMap enc)[j]? := by rw [hc]
  rw [List.getElem?_take_of_lt (by rw [zlj enc k hk] at hj'; exact hj'),List.getElem?_eq_getElem hj'] at e
  rw [← Array.getElem?_toList,e]
  have:((l.flatMap enc).toArray)[j]! = (l.flatMap enc)[j]:=by rw [getElem!_pos _ j (by simpa using hj')]; simp
  rw [this]; rfl
 ·simp [World.frozen?,hb]
theorem zji {α:Type} [Inhabited α] (enc:α→List Value) (k:Nat) (w:World) (b n:Nat) (d:Array α) (os:Array Obj) {i:Nat} (hi:i<w.heap.size) (hne:i≠b):(sortWorldK enc k w b 0 n d os).heap[i]? = w.heap[i]? := by
 show (w.heap.modify b _++os)[i]? = _
 rw [Array.getElem?_append_left (by simpa using hi),Array.getElem?_modify,if_neg (fun e=>hne e.symm)]
theorem zxb {α:Type} [Inhabited α] (enc:α→List Value) (k:Nat) (w:World) {b:Nat} (n:Nat) (d:Array α) (os:Array Obj) {C:Array Value} {T:TypeId} {fr:Nat × Nat} (hb:w.heap[b]? = some (.cells C T fr)):(sortWorldK enc k w b 0 n d os).heap[b]? = some (.cells (putCells id 0 (flatK enc k d) C) T fr):=by
 have hlt:b<w.heap.size:=(Array.getElem?_eq_some_iff.1 hb).1
 show (w.heap.modify b _++os)[b]? = _
 rw [Array.getElem?_append_left (by simpa using hlt),Array.getElem?_modify,if_pos rfl,hb]
 rfl
theorem zuz {α:Type} [Inhabited α] (enc:α→List Value) (k:Nat) (hk:∀ x,(enc x).length=k) (l:List α) (C:Array Value) (hC:l.length * k≤C.size):(putCells id 0 (flatK enc k l.toArray) C).toList.take (l.length * k)=l.flatMap enc:=by
 rw [ztz enc k hk]
 apply List.ext_getElem?
 intro t
 by_cases ht:t<l.length * k
 ·rw [List.getElem?_take_of_lt ht,Array.getElem?_toList]
  have hl:t<(l.flatMap enc).length:=by rw [zlj enc k hk]; exact ht
  simp only [putCells,Array.getElem?_mapIdx,Nat.sub_zero,Nat.zero_add,List.size_toArray,Nat.zero_le,true_and]
  rw [Array.getElem?_eq_getElem (by omega),Option.map_some,if_pos hl,List.getElem?_eq_getElem hl]
  have:((l.flatMap enc).toArray)[t]! = (l.flatMap enc)[t]:=by rw [getElem!_pos _ t (by simpa using hl)]; simp
  rw [this]; rfl
 ·rw [List.getElem?_eq_none (by simp; omega),List.getElem?_eq_none (by rw [zlj enc k hk]; omega)]
end
section
open Go
section
variable {σ β α ρ τ:Type}
theorem bs (x:α) (f:α→Option β):(some x >>= f)=f x:=rfl
theorem bS (x:α) (f:α→Option β):(some x >>= f)=f x:=Eq.trans (rfl:(some x >>= f)=f x) rfl
theorem zy8 (r:ρ) (k:τ→Option ρ):z6n (some (.inl r)) k=some r:=rfl
theorem zmh (t:τ) (k:τ→Option ρ):z6n (some (.inr t)) k=k t:=rfl
theorem z1w {F:σ→Option (Sum β σ)} {s:σ} {b:β} (h:F s=some (.inl b)):iter F s=some b:=by rw [iter,h]; rfl
theorem z2g {F:σ→Option (Sum β σ)} {s s':σ} (h:F s=some (.inr s')):iter F s=iter F s':=by rw [iter,h]; rfl
theorem z9l {F:σ→Option (Sum β σ)} (n:Nat) (I:Nat→σ→Prop) (Q:β→Prop) (h1:∀ i s,i<n→I i s→∃ s',F s=some (.inr s')∧I (i+1) s') (h2:∀ s,I n s→∃ b,F s=some (.inl b)∧Q b) (s:σ) (i:Nat) (hi:i≤n) (hs:I i s):∃ b,iter F s=some b∧Q b:=by
 have key:∀ k i s,n - i=k→i≤n→I i s→∃ b,iter F s=some b∧Q b:=by
  intro k
  induction k with
  | zero =>
   intro i s hk hi hs
   have:i=n:=by omega
   subst this
   obtain ⟨b,h3,h4⟩:=h2 s hs
   exact ⟨b,z1w h3,h4⟩
  | succ k ih =>
   intro i s hk hi hs
   obtain ⟨s',h3,h4⟩:=h1 i s (by omega) hs
   rw [z2g h3]; exact ih (i+1) s' (by omega) (by omega) h4
 exact key _ i s rfl hi hs
theorem z3x {F:σ→Option (Sum β σ)} (n:Nat) (g:Nat→σ) {b:β} (h1:∀ i,i<n→F (g i)=some (.inr (g (i+1)))) (h2:F (g n)=some (.inl b)):iter F (g 0)=some b:=by
 obtain ⟨b',h3,rfl⟩:=z9l n (fun i s=>s=g i) (fun x=>x=b) (fun i s hi hs=>⟨_, by rw [hs]; exact h1 i hi,rfl⟩) (fun s hs=>⟨_, by rw [hs]; exact h2,rfl⟩) (g 0) 0 (Nat.zero_le _) rfl
 exact h3
theorem z0x {l:List α} {i:Nat} (h:i<l.length):idx l (i:Int)=some l[i]:=by simp [idx,h]
theorem zxl {l:List α} {i:Int} (h0:0≤i) (h:i.toNat<l.length):idx l i=some l[i.toNat]:=by simp [idx,h0,h]
theorem z6q {n:Nat} {v:Vector α n} {i:Nat} (h:i<n):z61 v (i:Int)=some v[i]:=by unfold z61; rw [z0x (by simpa using h)]; simp
theorem zdm {n:Nat} {v:Vector α n} {i:Int} {x:α} {j:Nat} (hj:j<n):(zeq v i x)[j]=if i.toNat=j then x else v[j]:=by
 unfold zeq; rw [Vector.getElem_setIfInBounds hj]
theorem z3b {p:Prop} [Decidable p] (h:p):chk p=some ():=by simp [chk,h]
theorem z1m {by_:Nat} {b c:List α} (h:(b.length+c.length) * by_≤140737488355328):app by_ b c=some (b++c):=by simp [app,h]
theorem zme {by_:Nat} {x:α} {n:Nat} (h:by_ * n≤281474976710656) (h2:n≤9223372036854775807):mkn by_ x (n:Int)=some (List.replicate n x):=by
 unfold mkn; rw [if_pos ⟨by omega, by simpa using h, by omega⟩]; simp
theorem z96 {b:List α} {i j:Nat} (h:i≤j) (hj:j≤b.length):cut b (i:Int) (j:Int)=some ((b.drop i).take (j - i)):=by
 unfold cut; rw [if_pos ⟨by omega, by omega, by omega⟩]; simp
end
theorem z0v {x:Int} (h1:-9223372036854775808≤x) (h2:x≤9223372036854775807):w64 x=x:=zd1 h1 h2
theorem z0w {n:Nat} (h:n<9223372036854775807):w64 ((n:Int)+1)=((n+1:Nat):Int):=by rw [z0v (by omega) (by omega)]; omega
theorem z9e (a:UInt64) (n:Nat):(z5k a n).toNat=a.toNat / 2 ^ (min n 64):=by
 unfold z5k
 have h1:=UInt64.toNat_lt a
 have h2:a.toNat / 2 ^ (min n 64)≤a.toNat:=Nat.div_le_self _ _
 simp; omega
theorem zhg (a:UInt64) (n:Nat):(zgm a n).toNat=a.toNat * 2 ^ (min n 64) % 18446744073709551616:=by
 unfold zgm; simp
theorem z126 (a:UInt64) (k:Nat) (hk:k<64):((z5k a k &&& 1)==1)=a.toNat.testBit k:=by
 rw [Bool.eq_iff_iff,beq_iff_eq,← UInt64.toNat_inj,UInt64.toNat_and,z9e,Nat.min_eq_left (by omega)]
 have:(1:UInt64).toNat=1:=rfl
 rw [this,Nat.and_one_is_mod,Nat.testBit_eq_decide_div_mod_eq]
 simp
end
section
open Go
def bitLen (n:Nat):Nat:=if n=0 then 0 else n.log2+1
theorem zb0 (n k:Nat) (h:2 ^ k≤n):bitLen n=k+bitLen (n / 2 ^ k):=by
 have hp:0<2 ^ k:=Nat.pow_pos (by decide)
 have h1:n / 2 ^ k≠0:=by
  have:1≤n / 2 ^ k:=(Nat.le_div_iff_mul_le hp).2 (by rw [Nat.one_mul]; exact h)
  omega
 have h2:n≠0:=by omega
 unfold bitLen
 rw [if_neg h1,if_neg h2]
 have h3:n.log2=k+(n / 2 ^ k).log2:=by
  rw [Nat.log2_eq_iff h2]
  have h4:=(Nat.log2_eq_iff h1).1 rfl
  refine ⟨?_,?_⟩
  ·rw [Nat.pow_add,Nat.mul_comm]; exact (Nat.le_div_iff_mul_le hp).1 h4.1
  ·rw [Nat.add_assoc,Nat.pow_add,Nat.mul_comm]; exact (Nat.div_lt_iff_lt_mul hp).1 h4.2
 omega
theorem zd3 (n k:Nat) (h:n<2 ^ k):bitLen n≤k:=by
 unfold bitLen; split
 ·omega
 ·rename_i h0; have:=(Nat.log2_lt h0).2 h; omega
def zr2:ByteArray:=⟨#[0,1,2,2,3,3,3,3,4,4,4,4,4,4,4,4,5,5,5,5,5,5,5,5,5,5,5,5,5,5,5,5,6,6,6,6,6,6,6,6,6,6,6,6,6,6,6,6,6,6,6,6,6,6,6,6,6,6,6,6,6,6,6,6,7,7,7,7,7,7,7,7,7,7,7,7,7,7,7,7,7,7,7,7,7,7,7,7,7,7,7,7,7,7,7,7,7,7,7,7,7,7,7,7,7,7,7,7,7,7,7,7,7,7,7,7,7,7,7,7,7,7,7,7,7,7,7,7,8,8,8,8,8,8,8,8,8,8,8,8,8,8,8,8,8,8,8,8,8,8,8,8,8,8,8,8,8,8,8,8,8,8,8,8,8,8,8,8,8,8,8,8,8,8,8,8,8,8,8,8,8,8,8,8,8,8,8,8,8,8,8,8,8,8,8,8,8,8,8,8,8,8,8,8,8,8,8,8,8,8,8,8,8,8,8,8,8,8,8,8,8,8,8,8,8,8,8,8,8,8,8,8,8,8,8,8,8,8,8,8,8,8,8,8,8,8,8,8,8,8,8,8,8,8,8,8]⟩
set_option maxRecDepth 100000 in
theorem zuw:∀ x:Fin 256,zr2.data[x.val]? = some (UInt8.ofNat (bitLen x.val)):=by decide +kernel
def z1k (n:Nat):List UInt8:=if h:n=0 then [] else UInt8.ofNat n::z1k (n / 256)
termination_by n
theorem z71:z1k 0=[]:=by rw [z1k]; simp
theorem z51 (n:Nat) (h:n≠0):z1k n=UInt8.ofNat n::z1k (n / 256):=by rw [z1k]; simp [h]
def z0a (n:Nat):List UInt8:=if n≤247 then [UInt8.ofNat n] else UInt8.ofNat (247+(z1k n).length)::(z1k n).reverse
theorem zg6 (n:Nat):(z1k n).length=(bitLen n+7) / 8:=by
 induction n using Nat.strongRecOn with
 | _ n ih =>
  by_cases h:n=0
  ·subst h; rw [z71]; simp [bitLen]
  ·rw [z51 n h,List.length_cons,ih (n / 256) (by omega)]
   by_cases h2:n<256
   ·have:n / 256=0:=by omega
    rw [this]
    have h3:bitLen n≤8:=zd3 n 8 h2
    have h4:1≤bitLen n:=by unfold bitLen; rw [if_neg h]; omega
    simp [bitLen] at h3 h4 ⊢
    rw [if_neg h] at h3 h4 ⊢; omega
   ·have:=zb0 n 8 (by omega)
    rw [show (2:Nat) ^ 8=256 from rfl] at this
    omega
theorem zqh (n:Nat):∀ (i:Nat),i<(z1k n).length→(z1k n)[i]? = some (UInt8.ofNat (n / 256 ^ i)):=by
 induction n using Nat.strongRecOn with
 | _ n ih =>
  intro i hi
  by_cases h:n=0
  ·subst h; rw [z71] at hi; simp at hi
  ·rw [z51 n h] at hi ⊢
   cases i with
   | zero=>simp
   | succ i =>
    simp only [List.length_cons] at hi
    rw [List.getElem?_cons_succ,ih (n / 256) (by omega) i (by omega),Nat.div_div_eq_div_mul]
    congr 3
    rw [Nat.pow_succ,Nat.mul_comm]
theorem zex (n:Nat) (h:n<18446744073709551616):(z1k n).length≤8:=by
 rw [zg6]; have:=zd3 n 64 (by simpa using h); omega
theorem z0c (n:Nat) (h:n<18446744073709551616):1≤(z0a n).length∧(z0a n).length≤9:=by
 unfold z0a; have:=zex n h; split <;> simp <;> omega
def z9w (n i:Nat):List UInt8:=UInt8.ofNat (247+(z1k n).length)::(List.replicate ((z1k n).length - i) 0++((z1k n).take i).reverse)
theorem zo5 (n i:Nat) (h:i≤(z1k n).length):(z9w n i).length=(z1k n).length+1:=by simp [z9w]; omega
theorem zlb (n:Nat):(List.replicate ((z1k n).length+1) (0:UInt8)).set 0 (UInt8.ofNat (247+(z1k n).length))=z9w n 0:=by
 simp [z9w,List.replicate_succ]
theorem zmw (n i:Nat) (h:i<(z1k n).length):(z9w n i).set ((z1k n).length - i) (UInt8.ofNat (n / 2 ^ (8 * i)))=z9w n (i+1):=by
 have hg:=zqh n i h
 have he:n / 2 ^ (8 * i)=n / 256 ^ i:=by rw [Nat.pow_mul]
 rw [he]
 unfold z9w
 obtain ⟨m,hm⟩:∃ m,(z1k n).length - i=m+1:=⟨(z1k n).length - i - 1, by omega⟩
 have hm2:(z1k n).length - (i+1)=m:=by omega
 rw [hm,hm2,List.set_cons_succ,List.take_succ_eq_append_getElem h,List.reverse_append,List.reverse_singleton,List.replicate_succ']
 rw [List.getElem?_eq_getElem h,Option.some.injEq] at hg
 rw [hg,List.append_assoc,List.set_append_right _ _ (by simp)]
 simp
theorem zmj (n:Nat) (h:247<n):z9w n (z1k n).length=z0a n:=by
 unfold z9w z0a; rw [if_neg (by omega)]; simp
theorem zlm (n m:Nat) (ds:List UInt8) (hm:m≠0) (h:z1k n=ds++z1k m):z1k n=(ds++[UInt8.ofNat (m % 256)])++z1k (m / 256):=by
 rw [h,z51 m hm,List.append_assoc]
 have:UInt8.ofNat (m % 256)=UInt8.ofNat m:=by
  apply UInt8.toNat_inj.1; simp
 rw [this]; rfl
theorem ziw {α} {l a b:List α} (h:l=a++b):a.length≤l.length:=by rw [h]; simp
def z62 (l:List UInt8):Nat:=l.foldl (fun n x=>256 * n+x.toNat) 0
theorem zd8 (l:List UInt8) (x:UInt8):z62 (l++[x])=256 * z62 l+x.toNat:=by simp [z62]
theorem zp9 (l:List UInt8):z62 l<256 ^ l.length:=by
 have:∀ (m:List UInt8),z62 m.reverse<256 ^ m.length:=by
  intro m
  induction m with
  | nil=>simp [z62]
  | cons x m ih =>
   rw [List.reverse_cons,zd8,List.length_cons,Nat.pow_succ]
   have:=x.toNat_lt
   omega
 have h:=this l.reverse
 simpa using h
theorem zgg:∀ (l:List UInt8),(∀ x,l.getLast? = some x→x≠0)→z1k (z62 l.reverse)=l
 | [],_=>by simp [z62,z71]
 | x::l,h=>by
  rw [List.reverse_cons,zd8]
  have hx:=x.toNat_lt
  have h1:(256 * z62 l.reverse+x.toNat) / 256=z62 l.reverse:=by omega
  have h2:UInt8.ofNat (256 * z62 l.reverse+x.toNat)=x:=by
   apply UInt8.toNat_inj.1; simp <;> omega
  have hl:z1k (z62 l.reverse)=l:=by
   apply zgg
   intro y hy
   cases l with
   | nil=>simp at hy
   | cons z l=>exact h y (by rw [List.getLast?_cons_cons]; exact hy)
  by_cases h0:256 * z62 l.reverse+x.toNat=0
  ·exfalso
   cases l with
   | nil =>
    have:=h x (by simp)
    apply this
    apply UInt8.toNat_inj.1
    simp <;> omega
   | cons z l =>
    have:z62 (z::l).reverse=0:=by omega
    rw [this,z71] at hl
    cases hl
  ·rw [z51 _ h0,h1,h2,hl]
theorem zls (n:Nat):z62 (z1k n).reverse=n:=by
 induction n using Nat.strongRecOn with
 | _ n ih =>
  by_cases h:n=0
  ·subst h; rw [z71]; rfl
  ·rw [z51 n h,List.reverse_cons,zd8,ih (n / 256) (by omega)]
   simp; omega
theorem zoc (n:Nat):∀ x,(z1k n).getLast? = some x→x≠0:=by
 induction n using Nat.strongRecOn with
 | _ n ih =>
  intro x hx
  by_cases h:n=0
  ·subst h; rw [z71] at hx; simp at hx
  ·rw [z51 n h] at hx
   by_cases h2:n / 256=0
   ·rw [h2,z71] at hx
    simp at hx
    subst hx
    intro e
    have:=congrArg UInt8.toNat e
    simp at this; omega
   ·rw [z51 _ h2,List.getLast?_cons_cons,← z51 _ h2] at hx
    exact ih _ (by omega) x hx
def z6m (b:List UInt8):Option (Nat × Nat) :=
 if b.length=0 then none
 else if (b.getD 0 0).toNat≤247 then some ((b.getD 0 0).toNat,1)
 else if b.length≤(b.getD 0 0).toNat - 247∨(b.getD 1 0).toNat=0∨((b.getD 0 0).toNat - 247=1∧(b.getD 1 0).toNat≤247) then none
 else some (z62 ((b.drop 1).take ((b.getD 0 0).toNat - 247)),(b.getD 0 0).toNat - 247+1)
def z0l (b:List UInt8):Nat × Nat × Nat :=
 match z6m b with
 | some (n,u)=>(n,u,0)
 | none=>(0,0,12)
theorem zoo {b:List UInt8} (h:b.length≠0):b.take 1=[b.getD 0 0]:=by cases b <;> simp_all
theorem ze1 {b:List UInt8} (k:Nat) (h:b.length≠0):b.take (k+1)=b.getD 0 0::(b.drop 1).take k:=by cases b <;> simp_all
theorem zdw {b:List UInt8} {k:Nat} (h1:1≤k) (h:2≤b.length):(b.drop 1).take k=b.getD 1 0::((b.drop 1).take k).tail:=by
 obtain ⟨m,rfl⟩:∃ m,k=m+1:=⟨k - 1, by omega⟩
 match b,h with
 | x::y::t,_=>simp
theorem ofNat_toNat (x:UInt8):UInt8.ofNat x.toNat=x:=by simp
theorem zly {k:Nat} (h:k≤8):256 ^ k≤18446744073709551616:=by
 have:256 ^ k≤256 ^ 8:=Nat.pow_le_pow_right (by decide) h
 simpa using this
theorem z2w (b:List UInt8) (n u:Nat):z6m b=some (n,u)↔n<18446744073709551616∧u=(z0a n).length∧b.take u=z0a n:=by
 constructor
 ·intro h
  unfold z6m at h
  by_cases h0:b.length=0
  ·rw [if_pos h0] at h; cases h
  ·rw [if_neg h0] at h
   have hx:=(b.getD 0 0).toNat_lt
   by_cases h1:(b.getD 0 0).toNat≤247
   ·rw [if_pos h1] at h
    simp only [Option.some.injEq,Prod.mk.injEq] at h
    obtain ⟨rfl,rfl⟩:=h
    refine ⟨by omega,?_,?_⟩
    ·unfold z0a; rw [if_pos h1]; rfl
    ·unfold z0a; rw [if_pos h1,zoo h0,ofNat_toNat]
   ·rw [if_neg h1] at h
    by_cases h2:b.length≤(b.getD 0 0).toNat - 247∨(b.getD 1 0).toNat=0∨((b.getD 0 0).toNat - 247=1∧(b.getD 1 0).toNat≤247)
    ·rw [if_pos h2] at h; cases h
    ·rw [if_neg h2] at h
     simp only [Option.some.injEq,Prod.mk.injEq] at h
     obtain ⟨k,hk⟩:∃ k,(b.getD 0 0).toNat - 247=k:=⟨_,rfl⟩
     rw [hk] at h h2
     obtain ⟨hn,rfl⟩:=h
     have hk1:1≤k:=by omega
     have hk8:k≤8:=by omega
     have hlen:k<b.length:=by omega
     obtain ⟨d,hd⟩:∃ d,(b.drop 1).take k=d:=⟨_,rfl⟩
     rw [hd] at hn
     have hdl:d.length=k:=by rw [← hd]; simp; omega
     have hd0:d=b.getD 1 0::d.tail:=by
      rw [← hd]
      exact zdw hk1 (by omega)
     have hdig:z1k n=d.reverse:=by
      rw [← hn]
      have:=zgg d.reverse (by
       intro x hx
       rw [List.getLast?_reverse,hd0] at hx
       simp at hx
       subst hx
       intro e
       apply h2
       right; left
       have:=congrArg UInt8.toNat e
       simpa using this)
      rw [List.reverse_reverse] at this
      exact this
     have hlt:n<18446744073709551616:=by
      have h3:=zp9 d
      rw [hn,hdl] at h3
      exact Nat.lt_of_lt_of_le h3 (zly hk8)
     have hgt:¬ n≤247:=by
      intro hle
      by_cases hk2:k=1
      ·apply h2
       right; right
       refine ⟨hk2,?_⟩
       have:d.tail=[]:=List.eq_nil_of_length_eq_zero (by simp [hdl,hk2])
       rw [hd0,this] at hn
       simp [z62] at hn
       simp at hle ⊢
       omega
      ·have h3:(z1k n).length≤1:=by
        rw [zg6]
        have:=zd3 n 8 (by omega)
        omega
       rw [hdig,List.length_reverse,hdl] at h3
       omega
     refine ⟨hlt,?_,?_⟩
     ·unfold z0a; rw [if_neg hgt,hdig]; simp [hdl]
     ·unfold z0a
      rw [if_neg hgt,hdig,List.reverse_reverse,List.length_reverse,hdl,ze1 k h0,hd]
      have h247:b.getD 0 0=UInt8.ofNat (247+k):=by
       apply UInt8.toNat_inj.1
       rw [UInt8.toNat_ofNat']
       omega
      rw [h247]
 ·rintro ⟨hn,rfl,hb⟩
  have hl:=congrArg List.length hb
  have h9:=z0c n hn
  rw [List.length_take] at hl
  have h0:b.length≠0:=by omega
  unfold z6m
  rw [if_neg h0]
  by_cases h1:n≤247
  ·have hnb:z0a n=[UInt8.ofNat n]:=by unfold z0a; rw [if_pos h1]
   rw [hnb] at hb ⊢
   rw [show ([UInt8.ofNat n]:List UInt8).length=1 from rfl,zoo h0] at hb
   injection hb with hb _
   have:(b.getD 0 0).toNat=n:=by rw [hb]; simp; omega
   rw [if_pos (by omega),this]
   rfl
  ·have hnb:z0a n=UInt8.ofNat (247+(z1k n).length)::(z1k n).reverse:=by unfold z0a; rw [if_neg h1]
   have hd8:=zex n hn
   have hd1:1≤(z1k n).length:=by rw [z51 n (by omega)]; simp
   rw [hnb] at hb hl ⊢
   simp only [List.length_cons,List.length_reverse] at hb hl ⊢
   rw [ze1 _ h0] at hb
   injection hb with hb1 hb2
   have hx:(b.getD 0 0).toNat=247+(z1k n).length:=by rw [hb1]; simp; omega
   rw [if_neg (by omega),hx,Nat.add_sub_cancel_left]
   have hy:∃ y,(z1k n).getLast? = some y∧b.getD 1 0=y:=by
    have h3:(z1k n).reverse.head? = some (b.getD 1 0):=by
     rw [← hb2,zdw hd1 (by omega)]
     rfl
    rw [List.head?_reverse] at h3
    exact ⟨_,h3,rfl⟩
   obtain ⟨y,hy1,hy2⟩:=hy
   have hy0:=zoc n y hy1
   have h2:¬ (b.length≤(z1k n).length∨(b.getD 1 0).toNat=0∨((z1k n).length=1∧(b.getD 1 0).toNat≤247)):=by
    rintro (h | h | ⟨h,h'⟩)
    ·omega
    ·rw [hy2] at h
     apply hy0
     apply UInt8.toNat_inj.1
     simpa using h
    ·rw [z51 n (by omega),List.length_cons] at h
     have h4:z1k (n / 256)=[]:=List.eq_nil_of_length_eq_zero (by omega)
     have h5:n / 256=0:=by
      by_cases h6:n / 256=0
      ·exact h6
      ·rw [z51 _ h6] at h4; cases h4
     rw [z51 n (by omega),h4] at hy1
     simp at hy1
     rw [hy2,← hy1] at h'
     simp at h'
     omega
   rw [if_neg h2,hb2,zls]
theorem zae {b:List UInt8} {n u:Nat} (h:z6m b=some (n,u)):n<18446744073709551616∧1≤u∧u≤9∧u≤b.length:=by
 obtain ⟨h1,h2,h3⟩:=(z2w b n u).1 h
 have h4:=z0c n h1
 have h5:=congrArg List.length h3
 rw [List.length_take] at h5
 omega
theorem zfq {b:List UInt8} (h:z6m b=none):z0l b=(0,0,12):=by unfold z0l; rw [h]
theorem z99 {b:List UInt8} {n u:Nat} (h:z6m b=some (n,u)):z0l b=(n,u,0):=by unfold z0l; rw [h]
theorem z9g (b:List UInt8):(z6m b=none∧z0l b=(0,0,12))∨∃ n u,z6m b=some (n,u)∧z0l b=(n,u,0):=by
 cases h:z6m b with
 | none=>exact .inl ⟨rfl,zfq h⟩
 | some x=>exact .inr ⟨x.1,x.2,rfl,z99 h⟩
theorem zdf (b:List UInt8):(z0l b).1<18446744073709551616∧(z0l b).2.1≤9∧((z0l b).2.2=0∨(z0l b).2.2=12):=by
 rcases z9g b with ⟨_,h⟩ | ⟨n,u,h1,h⟩
 ·rw [h]; simp
 ·rw [h]; have:=zae h1; simp; omega
theorem zn6 {b:List UInt8} (h:b.length=0):z6m b=none:=by unfold z6m; rw [if_pos h]
theorem zl4 {b:List UInt8} (h:b.length≠0) (h1:(b.getD 0 0).toNat≤247):z6m b=some ((b.getD 0 0).toNat,1):=by unfold z6m; rw [if_neg h,if_pos h1]
theorem zo8 {b:List UInt8} (h:b.length≠0) (h1:¬ (b.getD 0 0).toNat≤247) (h2:b.length≤(b.getD 0 0).toNat - 247∨(b.getD 1 0).toNat=0∨((b.getD 0 0).toNat - 247=1∧(b.getD 1 0).toNat≤247)):z6m b=none:=by
 unfold z6m; rw [if_neg h,if_neg h1,if_pos h2]
theorem zlu {b:List UInt8} (h:b.length≠0) (h1:¬ (b.getD 0 0).toNat≤247) (h2:¬ (b.length≤(b.getD 0 0).toNat - 247∨(b.getD 1 0).toNat=0∨((b.getD 0 0).toNat - 247=1∧(b.getD 1 0).toNat≤247))) :
  z6m b=some (z62 ((b.drop 1).take ((b.getD 0 0).toNat - 247)),(b.getD 0 0).toNat - 247+1):=by
 unfold z6m; rw [if_neg h,if_neg h1,if_neg h2]
theorem zre {l:List UInt8} {i:Nat} (h:i<l.length):l.take (i+1)=l.take i++[l.getD i 0]:=by
 rw [List.take_succ_eq_append_getElem h]; simp [List.getD,h]
theorem zg7 {l:List UInt8} {i:Nat} (h:i<l.length):z62 (l.take (i+1))=256 * z62 (l.take i)+(l.getD i 0).toNat:=by rw [zre h,zd8]
theorem zfi {l:List UInt8} {i:Nat} (h:i<l.length) (h8:l.length≤8):z62 (l.take (i+1))<18446744073709551616∧256 * z62 (l.take i)+(l.getD i 0).toNat<18446744073709551616∧z62 (l.take i)<72057594037927936:=by
 have h1:=zp9 (l.take (i+1))
 rw [List.length_take,Nat.min_eq_left (by omega)] at h1
 have h2:=zly (k:=i+1) (by omega)
 have h3:=zg7 h
 omega
theorem zjc (a b:Int):z7u .and .u64 a b=IntKind.u64.wrap ((BitVec.ofInt 64 a &&& BitVec.ofInt 64 b).toNat:Int):=rfl
theorem zn7 (a b:Int):z7u .xor .i64 a b=IntKind.i64.wrap ((BitVec.ofInt 64 a ^^^ BitVec.ofInt 64 b).toNat:Int):=rfl
def zig (n:Int):Nat:=if 0≤n then (2 * n).toNat else (-2 * n - 1).toNat
def zfy (u:Nat):Int:=if u % 2=0 then ((u / 2:Nat):Int) else -((u / 2:Nat):Int) - 1
theorem z10t {n:Int} (h1:-9223372036854775808≤n) (h2:n≤9223372036854775807):zig n<18446744073709551616:=by unfold zig; split <;> omega
theorem zt6 (n:Int):zfy (zig n)=n:=by unfold zig zfy; split <;> split <;> omega
theorem zru (u:Nat):zig (zfy u)=u:=by unfold zfy; split <;> (unfold zig; split <;> omega)
theorem zi1 {u:Nat} (h:u<18446744073709551616):-9223372036854775808≤zfy u∧zfy u≤9223372036854775807:=by unfold zfy; split <;> omega
theorem zq9 {u:Nat} (h:u<18446744073709551616) :
  z7u .xor .i64 (IntKind.i64.wrap (Int.fdiv ((u:Nat):Int) (2 ^ (min (1:Int).toNat IntKind.u64.bits)))) (IntKind.i64.wrap (0 - IntKind.i64.wrap (z7u .and .u64 ((u:Nat):Int) 1)))=zfy u:=by
 have hb:IntKind.u64.bits=64:=rfl
 have hb2:IntKind.i64.bits=64:=rfl
 have e2:(2:Int) ^ (min (1:Int).toNat 64)=2:=by decide
 have ha:z7u .and .u64 ((u:Nat):Int) 1=((u % 2:Nat):Int):=by
  rw [zjc]
  have:(BitVec.ofInt 64 ((u:Nat):Int) &&& BitVec.ofInt 64 1).toNat=u % 2:=by
   rw [BitVec.toNat_and,BitVec.ofInt_natCast,BitVec.toNat_ofNat, show (BitVec.ofInt 64 1).toNat=1 by decide,Nat.and_one_is_mod]; omega
  rw [this]; exact zpj (by omega) rfl
 rw [hb,e2,ha,Int.fdiv_eq_ediv_of_nonneg _ (by decide)]
 rw [zkj (z:=((u:Nat):Int) / 2) (r:=((u / 2:Nat):Int)) (by omega) (by omega),zkj (z:=((u % 2:Nat):Int)) (by omega) rfl]
 rw [zn7]
 by_cases h0:u % 2=0
 ·rw [h0, show IntKind.i64.wrap (0 - ((0:Nat):Int))=0 by decide]
  have e6:(BitVec.ofInt 64 ((u / 2:Nat):Int) ^^^ BitVec.ofInt 64 0).toNat=u / 2:=by
   have:BitVec.ofInt 64 0=0#64:=rfl
   rw [this,BitVec.xor_zero,BitVec.toNat_ofInt]; omega
  rw [e6]; unfold zfy; rw [if_pos h0]; exact zkj (by omega) rfl
 ·rw [show u % 2=1 by omega, show IntKind.i64.wrap (0 - ((1:Nat):Int)) = -1 by decide]
  have e6:(BitVec.ofInt 64 ((u / 2:Nat):Int) ^^^ BitVec.ofInt 64 (-1)).toNat=18446744073709551615 - u / 2:=by
   have:BitVec.ofInt 64 (-1)=BitVec.allOnes 64:=by decide
   rw [this,BitVec.xor_allOnes,BitVec.toNat_not,BitVec.toNat_ofInt]; omega
  rw [e6]; unfold zfy; rw [if_neg h0]
  simp only [IntKind.wrap,IntKind.signed,IntKind.bits,Bool.true_and,decide_eq_true_eq,ge_iff_le]
  split <;> omega
def zcv (b:List UInt8):Int × Nat × Nat:=if (z0l b).2.2=0 then (zfy (z0l b).1,(z0l b).2.1,0) else (0,0,(z0l b).2.2)
theorem zh2 {b:List UInt8} (h:(z0l b).2.2=0):zcv b=(zfy (z0l b).1,(z0l b).2.1,0):=by unfold zcv; rw [if_pos h]
theorem zko {b:List UInt8} (h:¬ (z0l b).2.2=0):zcv b=(0,0,(z0l b).2.2):=by unfold zcv; rw [if_neg h]
theorem zbq (b:List UInt8):(z0l b).2.1≤b.length:=by
 rcases z9g b with ⟨_,h⟩ | ⟨n,u,h1,h⟩
 ·rw [h]; simp
 ·rw [h]; exact (zae h1).2.2.2
def z2l (b:List UInt8) (most:Int) (k:Nat):List UInt8 × Nat × Nat :=
 if most<0 then ([],0,2)
 else if (z0l b).2.2≠0∨most<((z0l b).1:Int)∨(b.length - (z0l b).2.1) / k<(z0l b).1 then ([],0,12)
 else ((b.drop (z0l b).2.1).take (k * (z0l b).1),(z0l b).2.1+k * (z0l b).1,0)
theorem zii {b:List UInt8} {most:Int} {k:Nat} (h:most<0):z2l b most k=([],0,2):=by unfold z2l; rw [if_pos h]
theorem zf7 {b:List UInt8} {most:Int} {k:Nat} (h:¬ most<0) (h2:(z0l b).2.2≠0∨most<((z0l b).1:Int)∨(b.length - (z0l b).2.1) / k<(z0l b).1):z2l b most k=([],0,12):=by
 unfold z2l; rw [if_neg h,if_pos h2]
theorem z9d {b:List UInt8} {most:Int} {k:Nat} (h:¬ most<0) (h2:¬ ((z0l b).2.2≠0∨most<((z0l b).1:Int)∨(b.length - (z0l b).2.1) / k<(z0l b).1)) :
  z2l b most k=((b.drop (z0l b).2.1).take (k * (z0l b).1),(z0l b).2.1+k * (z0l b).1,0):=by
 unfold z2l; rw [if_neg h,if_neg h2]
theorem zeu {b:List UInt8} {k:Nat} (h2:¬ (b.length - (z0l b).2.1) / k<(z0l b).1):k * (z0l b).1≤b.length - (z0l b).2.1:=by
 have h3:(z0l b).1≤(b.length - (z0l b).2.1) / k:=by omega
 exact Nat.le_trans (Nat.mul_le_mul_left _ h3) (Nat.mul_div_le _ _)
theorem zln (b:List UInt8) (most:Int) (k:Nat):(z2l b most k).1.length≤b.length:=by
 unfold z2l; split
 ·simp
 ·split
  ·simp
  ·simp only [List.length_take,List.length_drop]; omega
end
section
open Go Go.RowKit
def zgd (x:z00):Prop:=(fun _=>True) x.Kind∧inI x.Num∧(fun _=>True) x.Bits∧(fun s:List UInt8=>s.length≤9223372036854775807) x.Text∧True
def zj9 (x:z07):Prop:=(fun _=>True) x.Kind∧(fun s:List UInt8=>s.length≤9223372036854775807) x.Key∧zgd x.Value∧True
def zjw (x:z08):Prop:=(fun _=>True) x.E∧(fun _=>True) x.S∧True
def zf8 (x:z01):Prop:=(fun _=>True) x.Author∧(fun l:List V3=>(∀ x∈l,(fun v:V3=>∀ x∈v.toList,(fun _=>True) x) x)∧l.length≤9223372036854775807) x.Preds∧(fun _=>True) x.Stamp∧zj9 x.Act∧zjw x.Sig∧True
end
section
open Go
theorem zvm {n k:Nat} (hn:n<9223372036854775808) (hk:k<9223372036854775808):andI (n:Int) (k:Int)=((n &&& k:Nat):Int):=by
 show IntKind.i64.wrap (BitVec.toNat (BitVec.ofInt 64 (n:Int) &&& BitVec.ofInt 64 (k:Int)):Int)=_
 rw [BitVec.ofInt_natCast,BitVec.ofInt_natCast,BitVec.toNat_and,BitVec.toNat_ofNat,BitVec.toNat_ofNat,Nat.mod_eq_of_lt (by omega),Nat.mod_eq_of_lt (by omega)]
 have:=Nat.and_le_left (n:=n) (m:=k)
 exact zd1 (by omega) (by omega)
def okb (c:UInt8):Bool:=decide (32≤c.toNat)&&decide (c.toNat≤126)
theorem zl3 {b:List UInt8} {q:Nat} (h:q<b.length) (ha:(b[q]).toNat<128):z7o b q=((b[q]).toNat,1):=by
 unfold z7o
 exact decode_ascii ⟨b.toArray⟩ q (by show q<b.toArray.size; simpa using h) ha
theorem zsb {b:List UInt8} {q:Nat} (h:q<b.length) (ha:128≤(b[q]).toNat):128≤(z7o b q).1:=by
 unfold z7o
 have e:((ByteArray.mk b.toArray).get! (q+0)).toNat=(b[q]).toNat:=by
  show ((ByteArray.mk b.toArray).get! q).toNat=_
  simp [ByteArray.get!,h]
 simp only [Utf8.decode,e]
 rw [if_neg (by omega)]
 repeat' split
 all_goals (first | (simp only [Utf8.runeError]; omega) | (rename_i h1; simp at h1; omega) | omega)
theorem zui (x:Int):zaw x=some (decide (x<32) || decide (126<x)):=by
 unfold zaw
 cases decide (x<32) <;> rfl
theorem zoz (b:List UInt8):∀ (rest pre:List UInt8),b=pre++rest →
  (rest.all okb=true→iter (z1b b true) pre.length=some (.inr ()))∧(rest.all okb=false→∃ i:Nat,iter (z1b b true) pre.length=some (.inl (i:Int)))
 | [],pre,e=>by
  refine ⟨fun _=>z1w ?_, fun h=>by simp at h⟩
  subst e
  unfold z1b
  simp
 | c::rest,pre,e=>by
  have hlen:pre.length<b.length:=by rw [e]; simp
  have hget:b[pre.length]'hlen=c:=by subst e; simp
  have hF:z1b b true pre.length=if ((decide (((z7o b pre.length).1:Int)<32) || decide (126<((z7o b pre.length).1:Int)))==true) then some (.inl (.inl (pre.length:Int))) else some (.inr (pre.length+(z7o b pre.length).2)):=by
   unfold z1b
   rw [if_pos hlen]
   simp only [bs,zui]
  cases hc:okb c with
  | false =>
   refine ⟨fun h=>by simp [hc] at h, fun _=>⟨pre.length,z1w ?_⟩⟩
   rw [hF,if_pos]
   by_cases h8:c.toNat<128
   ·rw [zl3 hlen (by rw [hget]; exact h8),hget]
    simp only [okb,Bool.and_eq_false_iff,decide_eq_false_iff_not] at hc
    simp; omega
   ·have:=zsb hlen (by rw [hget]; omega)
    simp; omega
  | true =>
   simp only [okb,Bool.and_eq_true,decide_eq_true_eq] at hc
   rw [zl3 hlen (by rw [hget]; omega),hget,if_neg (by simp; omega)] at hF
   have ih:=zoz b rest (pre++[c]) (by simp [e])
   simp only [List.length_append,List.length_cons,List.length_nil,Nat.zero_add] at ih
   rw [z2g hF]
   have hc':okb c=true:=by simp [okb,hc]
   simpa [hc'] using ih
theorem zgh (b:List UInt8) (hb:b.length≤9223372036854775807):∀ (rest pre:List UInt8),b=pre++rest→iter (z35 b) (pre.length:Int)=some (if rest.all okb then .inr () else .inl false)
 | [],pre,e=>by
  refine z1w ?_
  subst e
  unfold z35
  simp
 | c::rest,pre,e=>by
  have hlen:pre.length<b.length:=by rw [e]; simp
  have hget:b[pre.length]'hlen=c:=by subst e; simp
  have hF:z35 b (pre.length:Int)=if okb c then some (.inr ((pre.length+1:Nat):Int)) else some (.inl (.inl false)):=by
   unfold z35
   rw [if_pos (by simp <;> omega)]
   simp only [z0x hlen,hget,bs,z0w (show pre.length<9223372036854775807 by omega)]
   simp only [okb,UInt8.lt_iff_toNat_lt,UInt8.reduceToNat]
   by_cases h1:c.toNat<32
   ·have:¬ 32≤c.toNat:=by omega
    simp [h1,this]
   ·by_cases h2:126<c.toNat
    ·have:¬ c.toNat≤126:=by omega
     simp [h1,h2,this]
    ·have h3:32≤c.toNat:=by omega
     have h4:c.toNat≤126:=by omega
     simp [h1,h2,h3,h4]
  cases hc:okb c with
  | false=>rw [hc] at hF; rw [z1w hF]; simp [hc]
  | true =>
   rw [hc] at hF
   rw [z2g hF]
   have ih:=zgh b hb rest (pre++[c]) (by simp [e])
   simp only [List.length_append,List.length_cons,List.length_nil,Nat.zero_add] at ih
   rw [ih]; simp [hc]
theorem zmc (b:List UInt8) (hb:b.length≤9223372036854775807):z5o b=some (b.all okb):=by
 have h:=zgh b hb b [] rfl
 unfold z5o
 rw [show (0:Int)=(([]:List UInt8).length:Int) from rfl,h]
 cases b.all okb <;> rfl
theorem zvr (b:List UInt8) (hb:b.length≤9223372036854775807):zdk b=some (if decide (30<(b.length:Int)) then (⟨0,0,0,[]⟩,4) else if b.all okb then (⟨3,0,0,b⟩,0) else (⟨0,0,0,[]⟩,8)):=by
 unfold zdk z3r z3s
 cases decide (30<(b.length:Int))
 ·simp only [Bool.false_eq_true,if_false]
  obtain ⟨h1,h2⟩:=zoz b b [] rfl
  simp only [List.length_nil] at h1 h2
  cases h:b.all okb
  ·obtain ⟨i,hi⟩:=h2 h
   rw [hi]
   simp only [zy8,bs]
   rw [if_pos (by simp)]; rfl
  ·rw [h1 h]; rfl
 ·rfl
theorem zvj (a:UInt64):zc1 a=some (((a.toNat / 4503599627370496 % 2048:Nat):Int),a % 4503599627370496):=by
 unfold zc1
 simp only [bs]
 have h0:=UInt64.toNat_lt a
 rw [z9e]
 have e1:(2:Nat) ^ (min 52 64)=4503599627370496:=by decide
 rw [e1,z0v (by omega) (by omega), show (2047:Int)=((2047:Nat):Int) from rfl,zvm (by omega) (by omega)]
 congr 2
 ·congr 1
  exact Nat.and_two_pow_sub_one_eq_mod _ 11
 ·apply UInt64.toNat_inj.1
  rw [UInt64.toNat_and,UInt64.toNat_mod]
  exact Nat.and_two_pow_sub_one_eq_mod _ 52
theorem z118 (a:UInt64):z65 a=some ((a.toNat / 4503599627370496 % 2048:Nat):Int):=by
 unfold z65
 have h0:=UInt64.toNat_lt a
 simp only [bs,UInt64.toNat_div,UInt64.toNat_mod,UInt64.reduceToNat]
 rw [z0v (by omega) (by omega)]
 congr 2
 omega
def znq (a:UInt64):Nat:=a.toNat / 4503599627370496 % 2048
def zua (a:UInt64):Nat:=a.toNat % 4503599627370496
theorem zyv (a:UInt64):znq a<2048:=Nat.mod_lt _ (by omega)
def zyt (a:UInt64):UInt8:=if znq a=2047 then (if zua a=0 then 4 else 5) else if znq a=0 then (if zua a=0 then 1 else 2) else 3
theorem zwp (a:UInt64):(a % 4503599627370496==0)=decide (zua a=0):=by
 rw [Bool.eq_iff_iff]
 simp only [beq_iff_eq,decide_eq_true_eq,← UInt64.toNat_inj,UInt64.toNat_mod]
 rfl
theorem zth (a:UInt64):zbz a=some (zyt a):=by
 unfold zbz zyt
 rw [zvj]
 simp only [bs]
 have hm:=zwp a
 have hne:(a % 4503599627370496 != 0)=!decide (zua a=0):=by rw [← hm]; rfl
 have he:((a.toNat / 4503599627370496 % 2048:Nat):Int)=(znq a:Int):=rfl
 rw [hne,he]
 by_cases h1:znq a=2047
 ·rw [h1]
  by_cases h2:zua a=0
  ·rw [decide_eq_true h2,if_pos h2]; rfl
  ·rw [decide_eq_false h2,if_neg h2]; rfl
 ·have e1:((znq a:Int)==2047)=false:=by simp; omega
  rw [if_neg h1,e1]
  simp only [Bool.false_eq_true,if_false,bs]
  by_cases h0:znq a=0
  ·rw [h0]
   by_cases h2:zua a=0
   ·rw [decide_eq_true h2,if_pos h2]; rfl
   ·rw [decide_eq_false h2,if_neg h2]; rfl
  ·have e0:((znq a:Int) != 0)=true:=by simp; omega
   rw [e0,if_neg h0]; rfl
theorem ztx (a:UInt64):z82 a=some (zyt a):=by
 unfold z82 z8h zyt
 rw [z118]
 simp only [bs]
 rw [zwp a]
 have hx:=zyv a
 show z6n (if ((znq a:Int)==0)=true then if decide (zua a=0)=true then some (.inl 1) else some (.inr ()) else some (.inr ())) (fun s5=>if ((znq a:Int)==0)=true then some 2 else if decide ((znq a:Int)<2047)=true then some 3 else if decide (zua a=0)=true then some 4 else some 5)=_
 by_cases h1:znq a=2047
 ·rw [h1]
  by_cases h2:zua a=0 <;> simp [h2,zmh,zy8]
 ·by_cases h0:znq a=0
  ·rw [h0]
   by_cases h2:zua a=0 <;> simp [h2,zmh,zy8]
  ·have e0:((znq a:Int)==0)=false:=by simp; omega
   have e2:decide ((znq a:Int)<2047)=true:=by simp; omega
   rw [e0,e2,if_neg h1,if_neg h0]; rfl
def ze2 (a:UInt64):UInt64:=if zyt a=5 then 9221120237041090560 else a
theorem zqx (a:UInt64):zcb a=some (ze2 a):=by
 unfold zcb ze2
 rw [zth]
 simp only [bs]
 by_cases h:zyt a=5 <;> simp [h]
theorem zt9 (a:UInt64):z80 a=some (ze2 a):=by
 unfold z80 ze2
 rw [ztx]
 simp only [bs]
 by_cases h:zyt a=5 <;> simp [h]
theorem zrj (a:UInt64):zc7 a=some ⟨2,0,ze2 a,[]⟩:=by
 unfold zc7; rw [zqx]; rfl
def okV (v:z00):Bool :=
 if v.Kind=1 then decide (v.Bits=0)&&decide (v.Text=[])
 else if v.Kind=2 then decide (v.Num=0)&&decide (v.Text=[])&&decide (ze2 v.Bits=v.Bits)
 else if v.Kind=3 then decide (v.Num=0)&&decide (v.Bits=0)&&decide (v.Text.length≤30)&&v.Text.all okb
 else false
theorem zsw (v:z00) (hb:v.Text.length≤9223372036854775807):z85 v=some (if okV v then 0 else 8):=by
 obtain ⟨K,n,f,t⟩:=v
 unfold z85 okV
 simp only at hb ⊢
 rw [zt9,zmc t hb]
 by_cases h1:K=1
 ·subst h1
  by_cases hf:f=0 <;> by_cases ht:t=[] <;> simp [hf,ht]
 by_cases h2:K=2
 ·subst h2
  by_cases hn:n=0 <;> by_cases ht:t=[] <;> by_cases hc:ze2 f=f <;> simp [hn,ht,hc,bs]
 by_cases h3:K=3
 ·subst h3
  by_cases hl:t.length≤30
  ·have hl':(t.length:Int)≤30:=by omega
   by_cases hn:n=0 <;> by_cases hf:f=0 <;> cases t.all okb <;> simp [hn,hf,hl,hl',bs]
  ·have hl':¬ (t.length:Int)≤30:=by omega
   by_cases hn:n=0 <;> by_cases hf:f=0 <;> simp [hn,hf,hl,hl',bs]
 ·simp [h1,h2,h3]
theorem zhu (v:z00) (hb:v.Text.length≤9223372036854775807):z7b v=some (if okV v then 0 else 8):=by
 obtain ⟨K,n,f,t⟩:=v
 unfold z7b zd2 okV
 simp only at hb ⊢
 rw [zrj,zvr t hb]
 by_cases h1:K=1
 ·subst h1
  by_cases hf:f=0 <;> by_cases ht:t=[] <;> simp [hf,ht,bs]
 by_cases h2:K=2
 ·subst h2
  by_cases hc:ze2 f=f
  ·by_cases hn:n=0 <;> by_cases ht:t=[] <;> simp [hn,ht,hc,bs]
  ·have hc':¬ f=ze2 f:=fun e=>hc e.symm
   by_cases hn:n=0 <;> by_cases ht:t=[] <;> simp [hn,ht,hc,hc',bs]
 by_cases h3:K=3
 ·subst h3
  by_cases hl:30<(t.length:Int)
  ·have h4:¬ t.length≤30:=by omega
   rw [decide_eq_true hl,decide_eq_false h4]
   simp [bs]
  ·have h4:t.length≤30:=by omega
   rw [decide_eq_false hl,decide_eq_true h4]
   cases t.all okb <;> by_cases hn:n=0 <;> by_cases hf:f=0 <;> simp [hn,hf,bs]
 ·have e1:(K==1)=false:=by simpa using h1
  have e2:(K==2)=false:=by simpa using h2
  have e3:(K==3)=false:=by simpa using h3
  simp only [e1,e2,e3,Bool.false_eq_true,if_false,bs,h1,h2,h3]
  by_cases h0:K=0
  ·subst h0
   split <;> rfl
  ·simp [h0]
end
section
open Go
theorem zs5:∀ (n:Nat) (a:UInt64) (ds:List UInt8) (N:Nat),a.toNat=n→z1k N=ds++z1k n→(z1k N).length≤8→iter z48 (a,ds)=some (z1k N):=by
 intro n
 induction n using Nat.strongRecOn with
 | _ n ih =>
  intro a ds N ha hd hl
  by_cases h0:n=0
  ·subst h0
   refine z1w ?_
   unfold z48
   rw [if_neg (by simp [UInt64.lt_iff_toNat_lt,ha])]
   rw [z71,List.append_nil] at hd
   rw [hd]
  ·have hF:z48 (a,ds)=some (.inr (a / 256,ds++[(a % 256).toUInt8])):=by
    unfold z48
    rw [if_pos (by simp [UInt64.lt_iff_toNat_lt,ha]; omega)]
    have:ds.length≤8:=Nat.le_trans (ziw hd) hl
    simp only [z1m (show (ds.length+[(a % 256).toUInt8].length) * 1≤140737488355328 by simp; omega),bs]
   rw [z2g hF]
   have hd2:=zlm N n ds h0 hd
   refine ih (n / 256) (Nat.div_lt_self (by omega) (by omega)) _ _ N ?_ ?_ hl
   ·simp [ha]
   ·rw [hd2]
    congr 2
    congr 1
    apply UInt8.toNat_inj.1
    simp [ha]
theorem zlt (s:List UInt8) (hl:s.length≤8):∀ (i:Nat) (acc:List UInt8),i≤s.length→acc.length+i≤100→iter (z4a s) (acc,(i:Int) - 1)=some (acc++(s.take i).reverse)
 | 0,acc,_,_=>by
  refine z1w ?_
  unfold z4a
  rw [if_neg (by simp)]; simp
 | i+1,acc,hi,ha=>by
  have hlt:i<s.length:=by omega
  have e:((i+1:Nat):Int) - 1=(i:Int):=by omega
  have hF:z4a s (acc,((i+1:Nat):Int) - 1)=some (.inr (acc++[s[i]],(i:Int) - 1)):=by
   unfold z4a
   rw [e,if_pos (by simp)]
   simp only [z0x hlt,bs]
   rw [z1m (by simp; omega)]
   simp only [bs,z0v (show -9223372036854775808≤(i:Int) - 1 by omega) (by omega)]
  rw [z2g hF,zlt s hl i _ (by omega) (by simp; omega)]
  have:List.take (i+1) s=List.take i s++[s[i]]:=by rw [List.take_add_one,List.getElem?_eq_getElem hlt]; rfl
  rw [this]; simp only [List.reverse_append,List.reverse_cons,List.reverse_nil,List.nil_append,List.append_assoc]
theorem z60 (a:UInt64):z24 a=some (z0a a.toNat):=by
 unfold z24 z0a
 have h0:=UInt64.toNat_lt a
 by_cases h:a.toNat≤247
 ·have h':decide (a≤247)=true:=by simpa [UInt64.le_iff_toNat_le] using h
  rw [if_pos h',if_pos h]
  congr 2
 ·have h':¬ decide (a≤247)=true:=by simpa [UInt64.le_iff_toNat_le] using h
  rw [if_neg h',if_neg h]
  have hd:=zex a.toNat h0
  rw [zs5 a.toNat a [] a.toNat rfl rfl hd]
  simp only [bs]
  rw [z0v (show -9223372036854775808≤((z1k a.toNat).length:Int) - 1 by omega) (by omega),z0v (show -9223372036854775808≤247+((z1k a.toNat).length:Int) by omega) (by omega)]
  rw [zlt _ hd _ _ (Nat.le_refl _) (by simp; omega)]
  simp only [bs,List.take_length]
  rw [show (247+((z1k a.toNat).length:Int))=((247+(z1k a.toNat).length:Nat):Int) by omega]
  congr 1
  show _::_=_
  congr 1
  apply UInt8.toNat_inj.1
  simp [UInt8.ofInt]
  omega
theorem zqk (a:UInt64) (k:Nat) (hk:k=(z1k a.toNat).length) (hk8:k≤8):iter (z9n a (k:Int)) (z9w a.toNat 0,0)=some (z9w a.toNat k):=by
 refine z3x k (fun i=>(z9w a.toNat i,(i:Int))) (fun i hi=>?_) ?_
 ·have hf:=zo5 a.toNat i (by omega)
  unfold z9n
  rw [if_pos (by simp; omega)]
  simp only [z0v (show -9223372036854775808≤8 * (i:Int) by omega) (by omega),z3b (show (0:Int)≤8 * (i:Int) by omega),bs,z0v (show -9223372036854775808≤(k:Int) - (i:Int) by omega) (by omega),z0w (show i<9223372036854775807 by omega)]
  rw [zxl (by omega) (by omega)]
  simp only [bs]
  have:=zmw a.toNat i (by omega)
  rw [← this]
  have e1:((k:Int) - (i:Int)).toNat=(z1k a.toNat).length - i:=by omega
  have e2:(z5k a (8 * (i:Int)).toNat).toUInt8=UInt8.ofNat (a.toNat / 2 ^ (8 * i)):=by
   apply UInt8.toNat_inj.1
   have e3:(8 * (i:Int)).toNat=8 * i:=by omega
   rw [e3]
   simp only [UInt64.toNat_toUInt8,z9e,Nat.min_eq_left (show 8 * i≤64 by omega)]
   simp
  rw [e1,e2]
 ·unfold z9n
  rw [if_neg (by simp)]
theorem zdi (a:UInt64) (k:Nat) (hk:k<64):(z5k a k).toNat=a.toNat / 2 ^ k:=by rw [z9e,Nat.min_eq_left (by omega)]
set_option maxRecDepth 100000 in
theorem zv9 (a:UInt64):z8u a=some (bitLen a.toNat:Int):=by
 unfold z8u
 have h0:=UInt64.toNat_lt a
 have s1:∃ (y:UInt64) (n:Nat),(if decide (4294967296≤a) then some (z5k a 32,(32:Int)) else some (a,0))=some (y,(n:Int))∧y.toNat<2 ^ 32∧n≤32∧bitLen a.toNat=n+bitLen y.toNat:=by
  by_cases h:4294967296≤a.toNat
  ·refine ⟨z5k a 32,32, by rw [if_pos (by simpa [UInt64.le_iff_toNat_le] using h)]; rfl,?_, by omega,?_⟩
   ·rw [zdi a 32 (by omega)]; omega
   ·rw [zdi a 32 (by omega)]; exact zb0 _ 32 (by omega)
  ·exact ⟨a,0, by rw [if_neg (by simpa [UInt64.le_iff_toNat_le] using h)]; rfl, by omega, by omega, by omega⟩
 obtain ⟨y,n,e1,hy,hn,hb⟩:=s1
 rw [e1]; simp only [bs]
 have s2:∃ (z:UInt64) (k:Nat),(if decide (65536≤y) then some (z5k y 16) >>= fun y5=>some (w64 ((n:Int)+16)) >>= fun y6=>some (y5,y6) else some (y,(n:Int)))=some (z,(k:Int))∧z.toNat<2 ^ 16∧k≤48∧bitLen a.toNat=k+bitLen z.toNat:=by
  by_cases h:65536≤y.toNat
  ·refine ⟨z5k y 16,n+16, by rw [if_pos (by simpa [UInt64.le_iff_toNat_le] using h)]; simp only [bs,z0v (show -9223372036854775808≤(n:Int)+16 by omega) (by omega)]; rfl,?_, by omega,?_⟩
   ·rw [zdi y 16 (by omega)]; omega
   ·rw [zdi y 16 (by omega),hb,zb0 y.toNat 16 (by omega)]; omega
  ·exact ⟨y,n, by rw [if_neg (by simpa [UInt64.le_iff_toNat_le] using h)], by omega, by omega,hb⟩
 obtain ⟨z,k,e2,hz,hk,hb2⟩:=s2
 simp only [bs] at e2
 rw [e2]; simp only [bs]
 have s3:∃ (x:UInt64) (j:Nat),(if decide (256≤z) then some (w64 ((k:Int)+8)) >>= fun y9=>some (z5k z 8,y9) else some (z,(k:Int)))=some (x,(j:Int))∧x.toNat<256∧j≤56∧bitLen a.toNat=j+bitLen x.toNat:=by
  by_cases h:256≤z.toNat
  ·refine ⟨z5k z 8,k+8, by rw [if_pos (by simpa [UInt64.le_iff_toNat_le] using h)]; simp only [bs,z0v (show -9223372036854775808≤(k:Int)+8 by omega) (by omega)]; rfl,?_, by omega,?_⟩
   ·rw [zdi z 8 (by omega)]; omega
   ·rw [zdi z 8 (by omega),hb2,zb0 z.toNat 8 (by omega)]; omega
  ·exact ⟨z,k, by rw [if_neg (by simpa [UInt64.le_iff_toNat_le] using h)], by omega, by omega,hb2⟩
 obtain ⟨x,j,e3,hx,hj,hb3⟩:=s3
 simp only [bs] at e3
 rw [e3]; simp only [bs]
 have ht:=zuw ⟨x.toNat,hx⟩
 have hx8:(x.toUInt8.toNat:Int)=((x.toNat:Nat):Int):=by simp; omega
 have hle:bitLen x.toNat≤8:=zd3 _ 8 (by omega)
 rw [hx8]
 have hlist:∀ (l:List UInt8),l=zr2.data.toList→idx l ((x.toNat:Nat):Int)=some (UInt8.ofNat (bitLen x.toNat)):=fun l hl=>by
  subst hl
  unfold idx
  rw [if_pos (by omega)]
  simpa using ht
 refine Eq.trans (congrArg (fun o:Option UInt8=>o >>= fun x10=>some (w64 ((j:Int)+(x10.toNat:Int)))) (hlist _ ?hh)) ?_
 case hh=>rfl
 simp only [bs]
 have e4:((UInt8.ofNat (bitLen x.toNat)).toNat:Int)=(bitLen x.toNat:Int):=by simp; omega
 rw [e4,z0v (by omega) (by omega),hb3]
 simp
theorem z3q (a:UInt64):z3n a=some (z0a a.toNat):=by
 unfold z3n
 have h0:=UInt64.toNat_lt a
 by_cases h:a.toNat≤247
 ·have h':decide (a≤247)=true:=by simpa [UInt64.le_iff_toNat_le] using h
  unfold z0a
  rw [if_pos h',if_pos h]
  congr 2
 ·have h':¬ decide (a≤247)=true:=by simpa [UInt64.le_iff_toNat_le] using h
  rw [if_neg h',zv9]
  have hd:=zex a.toNat h0
  have hl:=zg6 a.toNat
  have hb:bitLen a.toNat≤64:=zd3 _ 64 h0
  simp only [bs]
  rw [z0v (show -9223372036854775808≤(bitLen a.toNat:Int)+7 by omega) (by omega)]
  have e1:Int.tdiv ((bitLen a.toNat:Int)+7) 8=((z1k a.toNat).length:Int):=by
   rw [hl, show ((bitLen a.toNat:Int)+7)=((bitLen a.toNat+7:Nat):Int) by omega]
   rfl
  rw [e1,z0v (show -9223372036854775808≤((z1k a.toNat).length:Int) by omega) (by omega),z0w (by omega),zme (by omega) (by omega)]
  simp only [bs]
  rw [show (0:Int)=((0:Nat):Int) from rfl,z0x (by simp)]
  simp only [bs,Int.toNat_natCast]
  rw [z0v (show -9223372036854775808≤247+((z1k a.toNat).length:Int) by omega) (by omega)]
  have e2:UInt8.ofInt (247+((z1k a.toNat).length:Int))=UInt8.ofNat (247+(z1k a.toNat).length):=by
   apply UInt8.toNat_inj.1
   rw [show (247+((z1k a.toNat).length:Int))=((247+(z1k a.toNat).length:Nat):Int) by omega]
   simp [UInt8.ofInt]
   omega
  have:=zlb a.toNat
  rw [e2,this]
  have:=zqk a (z1k a.toNat).length rfl hd
  rw [show (0:Int)=((0:Nat):Int) from rfl] at this
  rw [this]
  simp only [bs]
  rw [zmj a.toNat (by omega)]
end
section
open Go
theorem okV1 {v:z00} (h:okV v=true) (k:v.Kind=1):v.Bits=0∧v.Text=[]:=by
 unfold okV at h; rw [if_pos k] at h; simpa using h
theorem okV2 {v:z00} (h:okV v=true) (k:v.Kind=2):v.Num=0∧v.Text=[]∧ze2 v.Bits=v.Bits:=by
 unfold okV at h; rw [if_neg (by rw [k]; decide),if_pos k] at h; simp at h; exact ⟨h.1.1,h.1.2,h.2⟩
theorem okV3 {v:z00} (h:okV v=true) (k:v.Kind=3):v.Num=0∧v.Bits=0∧v.Text.length≤30∧v.Text.all okb=true:=by
 unfold okV at h; rw [if_neg (by rw [k]; decide),if_neg (by rw [k]; decide),if_pos k] at h
 simp only [Bool.and_eq_true,decide_eq_true_eq] at h
 exact ⟨h.1.1.1,h.1.1.2,h.1.2,h.2⟩
theorem zde {v:z00} (h:okV v=true):v.Kind=1∨v.Kind=2∨v.Kind=3:=by
 by_cases h1:v.Kind=1
 ·exact .inl h1
 by_cases h2:v.Kind=2
 ·exact .inr (.inl h2)
 by_cases h3:v.Kind=3
 ·exact .inr (.inr h3)
 ·unfold okV at h; simp [h1,h2,h3] at h
theorem zvt (x:UInt64):(x ^^^ 18446744073709551615).toNat=18446744073709551615 - x.toNat:=by
 have e:x ^^^ 18446744073709551615 = ~~~x:=by
  apply UInt64.eq_of_toBitVec_eq
  rw [UInt64.toBitVec_xor,UInt64.toBitVec_not]
  exact BitVec.xor_allOnes
 rw [e,UInt64.toNat_not]; rfl
theorem z8f (n:Int):(UInt64.ofInt n).toNat=(n % 18446744073709551616).toNat:=by
 simp [UInt64.ofInt]; omega
theorem z124 (n:Int) (h:inI n):((zgm (UInt64.ofInt n) 1) ^^^ (UInt64.ofInt (zy3 n 63))).toNat=zig n:=by
 obtain ⟨h1,h2⟩:=h
 have es:(zgm (UInt64.ofInt n) 1).toNat=(n % 18446744073709551616).toNat * 2 % 18446744073709551616:=by
  rw [zhg,z8f]; rfl
 by_cases h0:0≤n
 ·have e:zy3 n 63=0:=by
   unfold zy3
   rw [show (2:Int) ^ (min 63 64)=9223372036854775808 from rfl,Int.fdiv_eq_ediv_of_nonneg _ (by omega)]; omega
  rw [e, show UInt64.ofInt 0=0 from rfl,UInt64.xor_zero,es]
  unfold zig; rw [if_pos h0]; omega
 ·have e:zy3 n 63 = -1:=by
   unfold zy3
   rw [show (2:Int) ^ (min 63 64)=9223372036854775808 from rfl,Int.fdiv_eq_ediv_of_nonneg _ (by omega)]; omega
  rw [e, show UInt64.ofInt (-1)=18446744073709551615 from rfl,zvt,es]
  unfold zig; rw [if_neg h0]; omega
theorem zt8 (n:Int) (h:inI n):zby n=some (z0a (zig n)):=by
 unfold zby
 rw [z3q,z124 n h]; rfl
theorem zih (s:List UInt8) (h:s.length≤10000):z9c s=some (z0a s.length++s,0):=by
 unfold z9c
 rw [if_neg (by simp; omega),z3q]
 have e:(UInt64.ofInt (s.length:Int)).toNat=s.length:=by rw [z8f]; omega
 have:=z0c s.length (by omega)
 simp only [bs,e]
 rw [z1m (by omega)]; rfl
def be8 (b:UInt64):List UInt8:=[(z5k b 56).toUInt8,(z5k b 48).toUInt8,(z5k b 40).toUInt8,(z5k b 32).toUInt8,(z5k b 24).toUInt8,(z5k b 16).toUInt8,(z5k b 8).toUInt8,(z5k b 0).toUInt8]
theorem zs3 (v:z00) (l:List UInt8) (k:Nat) (hl:l.length≤100) (hk:k≤56):z6x v (l,(k:Int))=some (.inr (l++[(z5k v.Bits k).toUInt8],(k:Int) - 8)):=by
 unfold z6x
 rw [if_pos (by simp)]
 simp only
 rw [z3b (by omega)]
 simp only [bs,Int.toNat_natCast]
 rw [z1m (by simp; omega)]
 simp only [bs]
 rw [z0v (by omega) (by omega)]
theorem zv5 (v:z00):iter (z6x v) ([v.Kind],56)=some (v.Kind::be8 v.Bits):=by
 have hs:=fun l k h1 h2=>zs3 v l k h1 h2
 rw [show (56:Int)=((56:Nat):Int) from rfl,z2g (hs [v.Kind] 56 (by simp) (by omega))]
 simp only [List.cons_append,List.nil_append, show ((56:Nat):Int) - 8=((48:Nat):Int) from rfl]
 rw [z2g (hs _ 48 (by simp) (by omega))]
 simp only [List.cons_append,List.nil_append, show ((48:Nat):Int) - 8=((40:Nat):Int) from rfl]
 rw [z2g (hs _ 40 (by simp) (by omega))]
 simp only [List.cons_append,List.nil_append, show ((40:Nat):Int) - 8=((32:Nat):Int) from rfl]
 rw [z2g (hs _ 32 (by simp) (by omega))]
 simp only [List.cons_append,List.nil_append, show ((32:Nat):Int) - 8=((24:Nat):Int) from rfl]
 rw [z2g (hs _ 24 (by simp) (by omega))]
 simp only [List.cons_append,List.nil_append, show ((24:Nat):Int) - 8=((16:Nat):Int) from rfl]
 rw [z2g (hs _ 16 (by simp) (by omega))]
 simp only [List.cons_append,List.nil_append, show ((16:Nat):Int) - 8=((8:Nat):Int) from rfl]
 rw [z2g (hs _ 8 (by simp) (by omega))]
 simp only [List.cons_append,List.nil_append, show ((8:Nat):Int) - 8=((0:Nat):Int) from rfl]
 rw [z2g (hs _ 0 (by simp) (by omega))]
 simp only [List.cons_append,List.nil_append]
 refine z1w ?_
 unfold z6x
 rw [if_neg (by simp)]; rfl
def zn0 (v:z00):List UInt8:=v.Kind::(if v.Kind=1 then z0a (zig v.Num) else if v.Kind=2 then be8 v.Bits else z0a v.Text.length++v.Text)
theorem zoq {n:Int} (h:inI n):zig n<18446744073709551616:=z10t h.1 h.2
theorem z11p (v:z00) (hI:inI v.Num) (hl:v.Text.length≤9223372036854775807):zb4 v=some (if okV v then (zn0 v,0) else ([],8)):=by
 unfold zb4
 rw [zhu v hl]
 cases hv:okV v
 ·rfl
 simp only [bs,if_true]
 rw [if_neg (by simp)]
 unfold zn0
 rcases zde hv with k | k | k
 ·have h1:=z0c (zig v.Num) (zoq hI)
  rw [k,zt8 v.Num hI]
  simp only [bs]
  rw [if_pos (by decide),z1m (by simp; omega)]; simp [bs]
 ·rw [k,if_neg (by decide),if_pos (by decide),if_neg (by decide),if_pos rfl,← k,zv5]; rfl
 ·have h3:=(okV3 hv k).2.2.1
  have h1:=z0c v.Text.length (by omega)
  rw [k,zih v.Text (by omega)]
  rw [if_neg (by decide),if_neg (by decide),if_pos (by decide),if_neg (by decide),if_neg (by decide),z3b (by omega)]
  simp only [bs]
  rw [z1m (by simp; omega)]; rfl
theorem zm7 (n:Int) (h:inI n):z7n n=some (z0a (zig n)):=by
 obtain ⟨h1,h2⟩:=h
 unfold z7n
 by_cases h0:0≤n
 ·rw [if_pos (by simpa using h0),z60]
  have e:(2 * UInt64.ofInt n).toNat=zig n:=by
   rw [UInt64.toNat_mul,z8f, show (2:UInt64).toNat=2 from rfl]
   unfold zig; rw [if_pos h0]; omega
  rw [e]; rfl
 ·rw [if_neg (by simpa using h0),z60]
  have e:((2 * UInt64.ofInt (w64 (0 - (w64 (n+1)))))+1).toNat=zig n:=by
   rw [z0v (x:=n+1) (by omega) (by omega),z0v (by omega) (by omega),UInt64.toNat_add,UInt64.toNat_mul,z8f, show (2:UInt64).toNat=2 from rfl, show (1:UInt64).toNat=1 from rfl]
   unfold zig; rw [if_neg h0]; omega
  rw [e]; rfl
theorem zjt (s:List UInt8) (h:s.length≤100000):z5t s=some (z0a s.length++s):=by
 unfold z5t
 rw [z60]
 have e:(UInt64.ofInt (s.length:Int)).toNat=s.length:=by rw [z8f]; omega
 have:=z0c s.length (by omega)
 rw [e]
 simp only [bs]
 rw [z1m (by omega)]; rfl
theorem zts (v:z00) (l:List UInt8) (k:Nat) (hl:l.length≤100) (hk:k≤7):z4k v (l,(k:Int))=some (.inr (l++[(z5k v.Bits (8 * k)).toUInt8],(k:Int) - 1)):=by
 unfold z4k
 rw [if_pos (by simp)]
 simp only
 have e:w64 (8 * (k:Int))=((8 * k:Nat):Int):=by rw [z0v (by omega) (by omega)]; omega
 rw [e,z3b (by omega)]
 simp only [bs,Int.toNat_natCast]
 rw [z1m (by simp; omega)]
 simp only [bs]
 rw [z0v (by omega) (by omega)]
theorem zul (v:z00):iter (z4k v) ([v.Kind],7)=some (v.Kind::be8 v.Bits):=by
 have hs:=fun l k h1 h2=>zts v l k h1 h2
 rw [show (7:Int)=((7:Nat):Int) from rfl,z2g (hs [v.Kind] 7 (by simp) (by omega))]
 simp only [List.cons_append,List.nil_append, show ((7:Nat):Int) - 1=((6:Nat):Int) from rfl]
 rw [z2g (hs _ 6 (by simp) (by omega))]
 simp only [List.cons_append,List.nil_append, show ((6:Nat):Int) - 1=((5:Nat):Int) from rfl]
 rw [z2g (hs _ 5 (by simp) (by omega))]
 simp only [List.cons_append,List.nil_append, show ((5:Nat):Int) - 1=((4:Nat):Int) from rfl]
 rw [z2g (hs _ 4 (by simp) (by omega))]
 simp only [List.cons_append,List.nil_append, show ((4:Nat):Int) - 1=((3:Nat):Int) from rfl]
 rw [z2g (hs _ 3 (by simp) (by omega))]
 simp only [List.cons_append,List.nil_append, show ((3:Nat):Int) - 1=((2:Nat):Int) from rfl]
 rw [z2g (hs _ 2 (by simp) (by omega))]
 simp only [List.cons_append,List.nil_append, show ((2:Nat):Int) - 1=((1:Nat):Int) from rfl]
 rw [z2g (hs _ 1 (by simp) (by omega))]
 simp only [List.cons_append,List.nil_append, show ((1:Nat):Int) - 1=((0:Nat):Int) from rfl]
 rw [z2g (hs _ 0 (by simp) (by omega))]
 simp only [List.cons_append,List.nil_append]
 refine z1w ?_
 unfold z4k
 rw [if_neg (by simp)]; rfl
theorem zs7 (v:z00) (hI:inI v.Num) (hv:okV v=true):z88 v=some (zn0 v):=by
 unfold zn0 z88
 rcases zde hv with k | k | k
 ·have h1:=z0c (zig v.Num) (zoq hI)
  rw [k,zm7 v.Num hI]
  simp only [bs]
  rw [if_pos (by decide),z1m (by simp; omega)]; simp [bs]
 ·rw [k,if_neg (by decide),if_pos (by decide),if_neg (by decide),if_pos rfl,← k,zul]; rfl
 ·have h3:=(okV3 hv k).2.2.1
  have h1:=z0c v.Text.length (by omega)
  rw [k,zjt v.Text (by omega)]
  rw [if_neg (by decide),if_neg (by decide),if_neg (by decide),if_neg (by decide),z3b (by omega)]
  simp only [bs]
  rw [z1m (by simp; omega)]; rfl
end
section
open Go
theorem zuf (a b:V3):∀ (n i:Nat),32 - i=n→i≤32→∃ r:Sum Int Unit,iter (z5w a b) (i:Int)=some r∧(z6n (some r) (fun _=>some 0)=some (Lib.compareBytes (a.toList.drop i) (b.toList.drop i))):=by
 intro n
 induction n with
 | zero =>
  intro i hn hi
  have:i=32:=by omega
  subst this
  refine ⟨.inr (),z1w ?_,?_⟩
  ·unfold z5w; rw [if_neg (by simp)]
  ·rw [List.drop_eq_nil_of_le (by simp),List.drop_eq_nil_of_le (by simp)]; rfl
 | succ n ih =>
  intro i hn hi
  have hlt:i<32:=by omega
  have da:a.toList.drop i=a[i]::a.toList.drop (i+1):=by rw [List.drop_eq_getElem_cons (by simpa using hlt)]; simp
  have db:b.toList.drop i=b[i]::b.toList.drop (i+1):=by rw [List.drop_eq_getElem_cons (by simpa using hlt)]; simp
  have hF:z5w a b (i:Int)=if decide (a[i]<b[i]) then some (.inl (.inl (-1))) else if decide (b[i]<a[i]) then some (.inl (.inl 1)) else some (.inr ((i+1:Nat):Int)):=by
   unfold z5w
   rw [if_pos (by simp; omega)]
   simp only [z6q hlt,bs,z0w (show i<9223372036854775807 by omega)]
  rw [da,db,Lib.compareBytes]
  by_cases h1:a[i]<b[i]
  ·rw [decide_eq_true h1] at hF
   exact ⟨_,z1w hF, by rw [if_pos h1]; rfl⟩
  ·rw [decide_eq_false h1] at hF
   by_cases h2:b[i]<a[i]
   ·rw [decide_eq_true h2] at hF
    exact ⟨_,z1w hF, by rw [if_neg h1,if_pos h2]; rfl⟩
   ·rw [decide_eq_false h2] at hF
    obtain ⟨r,k1,k2⟩:=ih (i+1) (by omega) (by omega)
    exact ⟨r, by rw [z2g hF]; exact k1, by rw [if_neg h1,if_neg h2]; exact k2⟩
theorem zm9 (a b:V3):z6k a b=some (Lib.compareBytes a.toList b.toList):=by
 obtain ⟨r,h1,h2⟩:=zuf a b 32 0 rfl (by omega)
 unfold z6k
 rw [show (0:Int)=((0:Nat):Int) from rfl,h1]
 simpa using h2
theorem ztw (a b:V3):zac a b=some (Lib.compareBytes a.toList b.toList):=by
 unfold zac zbs; rfl
def zcs:List V3→Bool
 | a::b::l=>!decide (0≤Lib.compareBytes a.toList b.toList)&&zcs (b::l)
 | _=>true
theorem zn4 (l:List V3) (hl:l.length≤9223372036854775807):∀ (n i:Nat),l.length - i=n→1≤i→i≤l.length→iter (z3d l) (i:Int)=some (if zcs (l.drop (i - 1)) then .inr () else .inl false):=by
 intro n
 induction n with
 | zero =>
  intro i hn h1 hi
  have:i=l.length:=by omega
  refine z1w ?_
  have e:l.drop (i - 1)=[l[i - 1]'(by omega)]:=by
   rw [List.drop_eq_getElem_cons (by omega),List.drop_eq_nil_of_le (by omega)]
  rw [e]
  unfold z3d
  rw [if_neg (by simp; omega)]
  simp [zcs]
 | succ n ih =>
  intro i hn h1 hi
  have hlt:i<l.length:=by omega
  have e:l.drop (i - 1)=l[i - 1]::l[i]::l.drop (i+1):=by
   rw [List.drop_eq_getElem_cons (by omega), show i - 1+1=i by omega,List.drop_eq_getElem_cons hlt]
  have e':l.drop (i+1 - 1)=l[i]::l.drop (i+1):=by rw [Nat.add_sub_cancel,List.drop_eq_getElem_cons hlt]
  have hF:z3d l (i:Int)=if decide (0≤Lib.compareBytes (l[i - 1]).toList (l[i]).toList) then some (.inl (.inl false)) else some (.inr ((i+1:Nat):Int)):=by
   unfold z3d
   rw [if_pos (by simp; omega),z0v (by omega) (by omega), show ((i:Int) - 1)=((i - 1:Nat):Int) by omega]
   simp only [z0x hlt,z0x (show i - 1<l.length by omega),bs,zm9,z0w (show i<9223372036854775807 by omega)]
  rw [e,zcs]
  cases hc:decide (0≤Lib.compareBytes (l[i - 1]).toList (l[i]).toList) with
  | true=>rw [hc] at hF; rw [z1w hF]; rfl
  | false =>
   rw [hc] at hF
   rw [z2g hF,ih (i+1) (by omega) (by omega) (by omega),e']; simp
theorem zsd (l:List V3) (hl:l.length≤9223372036854775807):z7i l=some (zcs l):=by
 unfold z7i
 cases l with
 | nil =>
  rw [z1w (b:=.inr ()) (by unfold z3d; rw [if_neg (by simp)])]; rfl
 | cons x l =>
  have:=zn4 (x::l) hl _ 1 rfl (by omega) (by simp)
  rw [show (1:Int)=((1:Nat):Int) from rfl,this]
  simp only [Nat.sub_self,List.drop_zero]
  cases zcs (x::l) <;> rfl
theorem zm5 (l:List V3) (hl:l.length≤9223372036854775806):∀ (n i:Nat),l.length - i=n→i≤l.length→∃ r,iter (z0h l l) ((i:Int),(i:Int))=some r∧(zcs (l.drop i)=true→∃ c,r=.inr c)∧(zcs (l.drop i)=false→∃ (k:Nat) (c:Int),r=.inl ((k:Int),c)):=by
 intro n
 induction n with
 | zero =>
  intro i hn hi
  have:i=l.length:=by omega
  refine ⟨.inr (i:Int),z1w ?_, fun _=>⟨_,rfl⟩, fun h=>?_⟩
  ·unfold z0h
   rw [if_neg (by simp; omega)]
  ·rw [List.drop_eq_nil_of_le (by omega)] at h; simp [zcs] at h
 | succ n ih =>
  intro i hn hi
  have hlt:i<l.length:=by omega
  by_cases h2:i+1<l.length
  ·have e:l.drop i=l[i]::l[i+1]::l.drop (i+2):=by rw [List.drop_eq_getElem_cons hlt,List.drop_eq_getElem_cons h2]
   have e':l.drop (i+1)=l[i+1]::l.drop (i+2):=by rw [List.drop_eq_getElem_cons h2]
   have hF:z0h l l ((i:Int),(i:Int))=if decide (0≤Lib.compareBytes (l[i]).toList (l[i+1]).toList) then some (.inl (.inl ((i:Int),((i+1:Nat):Int)))) else some (.inr (((i+1:Nat):Int),((i+1:Nat):Int))):=by
    unfold z0h za4
    rw [if_pos (by simp; omega)]
    simp only [z0x hlt,bs,z0w (show i<9223372036854775807 by omega)]
    rw [if_pos (by simp; omega),z0v (by omega) (by omega), show ((i+1:Nat):Int) - 1=(i:Int) by omega]
    simp only [z0x hlt,z0x h2,bs,ztw]
   rw [e,zcs]
   cases hc:decide (0≤Lib.compareBytes (l[i]).toList (l[i+1]).toList) with
   | true =>
    rw [hc] at hF
    exact ⟨_,z1w hF, fun h=>by simp at h, fun _=>⟨i,_,rfl⟩⟩
   | false =>
    rw [hc] at hF
    obtain ⟨r,k1,k2,k3⟩:=ih (i+1) (by omega) (by omega)
    rw [e'] at k2 k3
    exact ⟨r, by rw [z2g hF]; exact k1, fun h=>k2 (by simpa using h), fun h=>k3 (by simpa using h)⟩
  ·have e:l.drop i=[l[i]]:=by rw [List.drop_eq_getElem_cons hlt,List.drop_eq_nil_of_le (by omega)]
   have hF:z0h l l ((i:Int),(i:Int))=some (.inr (((i+1:Nat):Int),((i+1:Nat):Int))):=by
    unfold z0h za4
    rw [if_pos (by simp; omega)]
    simp only [z0x hlt,bs,z0w (show i<9223372036854775807 by omega)]
    rw [if_neg (by simp; omega)]
    simp only [bs]; rfl
   obtain ⟨r,k1,k2,k3⟩:=ih (i+1) (by omega) (by omega)
   rw [List.drop_eq_nil_of_le (by omega)] at k2 k3
   exact ⟨r, by rw [z2g hF]; exact k1, fun _=>k2 rfl, fun h=>by rw [e] at h; simp [zcs] at h⟩
theorem zjg (l:List V3) (hl:l.length≤9223372036854775806):zag l=some (zcs l):=by
 obtain ⟨r,k1,k2,k3⟩:=zm5 l hl _ 0 rfl (by omega)
 unfold zag z1s z28
 rw [show ((0:Int),(0:Int))=(((0:Nat):Int),((0:Nat):Int)) from rfl,k1]
 simp only [List.drop_zero] at k2 k3
 cases h:zcs l with
 | true=>obtain ⟨c,rfl⟩:=k2 h; rfl
 | false =>
  obtain ⟨k,c,rfl⟩:=k3 h
  simp only [zy8,bs]
  rw [decide_eq_true (by omega)]; rfl
def zci (l:List V3):List UInt8:=l.flatMap Vector.toList
theorem zdc (l:List V3):(zci l).length=32 * l.length:=by
 induction l with
 | nil=>rfl
 | cons x l ih=>unfold zci at ih ⊢; rw [List.flatMap_cons,List.length_append,ih]; simp; omega
theorem zma (l:List V3) (i:Nat) (hi:i<l.length):zci (l.take (i+1))=zci (l.take i)++(l[i]).toList:=by
 rw [List.take_add_one,List.getElem?_eq_getElem hi]; unfold zci; rw [List.flatMap_append,Option.toList_some,List.flatMap_cons,List.flatMap_nil,List.append_nil]
theorem zxf (l:List V3) (h:l.length≤1000) (s:List UInt8) (hs:s.length≤9):iter (z59 l) (s,0)=some (s++zci l):=by
 have:=z3x (F:=z59 l) (b:=s++zci l) l.length (fun i=>(s++zci (l.take i),(i:Int))) (fun i hi=>?_) ?_
 ·simpa [zci] using this
 ·unfold z59
  have hf:=zdc (l.take i)
  rw [if_pos (by simp; omega)]
  simp only [z0x hi,bs]
  rw [z1m (by simp at hf ⊢; omega)]
  simp only [bs,z0w (show i<9223372036854775807 by omega),zma l i hi,List.append_assoc]
 ·unfold z59
  rw [if_neg (by simp)]
  simp
theorem z10p (l:List V3) (h:l.length≤1000) (s:List UInt8) (hs:s.length≤9):iter (zar l) (s,0)=some (s++zci l):=by
 have:=z3x (F:=zar l) (b:=s++zci l) l.length (fun i=>(s++zci (l.take i),(i:Int))) (fun i hi=>?_) ?_
 ·simpa [zci] using this
 ·unfold zar
  have hf:=zdc (l.take i)
  rw [if_pos (by simp; omega)]
  simp only [z0x hi,bs]
  rw [z1m (by simp at hf ⊢; omega)]
  simp only [bs,z0w (show i<9223372036854775807 by omega),zma l i hi,List.append_assoc]
 ·unfold zar
  rw [if_neg (by simp)]
  simp
theorem zbi {n:Nat} (h:n<18446744073709551616):(UInt64.ofInt (n:Int)).toNat=n:=by
 simp [UInt64.ofInt]; omega
theorem zum (l:List V3) (h:l.length≤1000):z8r l=some (z0a l.length++zci l):=by
 unfold z8r
 have hn:=z0c l.length (by omega)
 rw [z60,zbi (by omega)]
 simp only [bs]
 rw [zxf l h _ (by omega)]; rfl
theorem zxi (l:List V3) (h:l.length≤60) (hi:zcs l=true):zgy l=some (z0a l.length++zci l,0):=by
 unfold zgy
 have hn:=z0c l.length (by omega)
 rw [if_neg (by simp; omega),zjg l (by omega),hi,z3q,zbi (by omega)]
 simp only [bs,Bool.not_true,Bool.false_eq_true,if_false]
 rw [z10p l (by omega) _ (by omega)]; rfl
end
section
open Go
def nk:List UInt8→Nat
 | []=>0
 | a::l=>a.toNat * 256 ^ l.length+nk l
theorem zyg:∀ l:List UInt8,nk l<256 ^ l.length
 | []=>by simp [nk]
 | a::l=>by
  have ih:=zyg l
  have ha:=UInt8.toNat_lt a
  simp only [nk,List.length_cons,Nat.pow_succ]
  have h1:(a.toNat+1) * 256 ^ l.length≤256 * 256 ^ l.length:=Nat.mul_le_mul_right _ (by omega)
  rw [Nat.add_mul,Nat.one_mul] at h1
  omega
theorem zrr:∀ a b:List UInt8,a.length=b.length→Lib.compareBytes a b=(if nk a<nk b then -1 else if nk b<nk a then 1 else 0)∧(nk a=nk b→a=b)
 | [],[],_=>by simp [Lib.compareBytes,nk]
 | [],_::_,h=>by simp at h
 | _::_,[],h=>by simp at h
 | a::x,b::y,h=>by
  have hl:x.length=y.length:=by simpa using h
  obtain ⟨i1,i2⟩:=zrr x y hl
  have lx:=zyg x
  have ly:=zyg y
  simp only [Lib.compareBytes,nk,hl] at *
  have e:∀ u v:UInt8,u.toNat<v.toNat→u.toNat * 256 ^ y.length+256 ^ y.length≤v.toNat * 256 ^ y.length:=fun u v huv=>by
   have:=Nat.mul_le_mul_right (256 ^ y.length) (show u.toNat+1≤v.toNat from huv)
   rwa [Nat.add_mul,Nat.one_mul] at this
  by_cases h1:a<b
  ·have h1':a.toNat<b.toNat:=UInt8.lt_iff_toNat_lt.1 h1
   have:=e a b h1'
   rw [if_pos h1,if_pos (by omega)]
   exact ⟨rfl, fun h=>by omega⟩
  ·by_cases h2:b<a
   ·have h2':b.toNat<a.toNat:=UInt8.lt_iff_toNat_lt.1 h2
    have:=e b a h2'
    rw [if_neg h1,if_pos h2,if_neg (by omega),if_pos (by omega)]
    exact ⟨rfl, fun h=>by omega⟩
   ·have h3:a=b:=UInt8.toNat_inj.1 (by rw [UInt8.lt_iff_toNat_lt] at h1 h2; omega)
    subst h3
    rw [if_neg h1,if_neg h1,i1]
    refine ⟨?_, fun h=>by rw [i2 (by omega)]⟩
    by_cases c1:nk x<nk y
    ·rw [if_pos c1,if_pos (by omega)]
    ·by_cases c2:nk y<nk x
     ·rw [if_neg c1,if_pos c2,if_neg (by omega),if_pos (by omega)]
     ·rw [if_neg c1,if_neg c2,if_neg (by omega),if_neg (by omega)]
def kd (d:V3):Nat:=nk d.toList
theorem zv6 (a b:V3):Lib.compareBytes a.toList b.toList=if kd a<kd b then -1 else if kd b<kd a then 1 else 0:=(zrr a.toList b.toList (by simp)).1
theorem zsf {a b:V3} (h:kd a=kd b):a=b:=by
 have:=(zrr a.toList b.toList (by simp)).2 h
 exact Vector.toList_inj.1 this
theorem z10h (a b:V3):zac a b=some (if kd a<kd b then -1 else if kd b<kd a then 1 else 0):=by rw [ztw,zv6]
theorem zz7 (a b:V3):z6k a b=some (if kd a<kd b then -1 else if kd b<kd a then 1 else 0):=by rw [zm9,zv6]
theorem zt1 (a b:V3):decide ((if kd a<kd b then (-1:Int) else if kd b<kd a then 1 else 0)<0)=decide (kd a<kd b):=by
 by_cases h:kd a<kd b
 ·simp [h]
 ·by_cases h2:kd b<kd a <;> simp [h,h2]
theorem z11c (a b:V3):decide (0≤(if kd a<kd b then (-1:Int) else if kd b<kd a then 1 else 0))=decide (kd b≤kd a):=by
 by_cases h:kd a<kd b
 ·have:¬ kd b≤kd a:=by omega
  simp [h,this]
 ·have h3:kd b≤kd a:=by omega
  by_cases h2:kd b<kd a <;> simp [h,h2,h3]
theorem zp8:∀ l:List V3,zcs l=true↔∀ i (h:i+1<l.length),kd (l[i]'(by omega))<kd l[i+1]
 | []=>by simp [zcs]
 | [a]=>by simp [zcs]
 | a::b::l=>by
  have ih:=zp8 (b::l)
  rw [zcs,Bool.and_eq_true,ih,zv6,z11c]
  constructor
  ·rintro ⟨h1,h2⟩ i hi
   cases i with
   | zero=>simpa using h1
   | succ i=>exact h2 i (by simpa using hi)
  ·intro h
   refine ⟨?_, fun i hi=>h (i+1) (by simpa using hi)⟩
   have:=h 0 (by simp)
   simpa using this
theorem zr0 (l:List V3) (hl:l.length≤9223372036854775807):∃ b,z11 l=some b∧(b=true↔∀ i (h:i+1<l.length),kd (l[i]'(by omega))≤kd l[i+1]):=by
 have key:∀ n,n<l.length→∃ r:Sum Bool Unit,iter (z0j l) (n:Int)=some r∧((r=.inr ()∧∀ i (h:i+1<l.length),i+1≤n→kd (l[i]'(by omega))≤kd l[i+1])∨(r=.inl false∧∃ i,∃ h:i+1<l.length,¬ kd (l[i]'(by omega))≤kd l[i+1])):=by
  intro n
  induction n with
  | zero =>
   intro h
   refine ⟨_,z1w ?_,.inl ⟨rfl, fun i _ h=>by omega⟩⟩
   unfold z0j
   rw [if_neg (by simp)]
  | succ n ih =>
   intro h
   have hF:z0j l ((n+1:Nat):Int)=if decide (kd l[n+1]<kd l[n]) then some (.inl (.inl false)) else some (.inr (n:Int)):=by
    unfold z0j
    rw [if_pos (by simp <;> omega),z0x h,z0v (by omega) (by omega), show (((n+1:Nat):Int) - 1)=(n:Int) by omega,z0x (by omega)]
    simp only [bS]
    rw [z10h]
    simp only [bS]
    rw [zt1]
   by_cases hc:kd l[n+1]<kd l[n]
   ·rw [decide_eq_true hc,if_pos rfl] at hF
    exact ⟨_,z1w hF,.inr ⟨rfl,n,h, by omega⟩⟩
   ·rw [decide_eq_false hc,if_neg (by simp)] at hF
    obtain ⟨r,h1,h2⟩:=ih (by omega)
    refine ⟨r, by rw [z2g hF]; exact h1,?_⟩
    rcases h2 with ⟨h2,h3⟩ | h2
    ·refine .inl ⟨h2, fun i hi hn=>?_⟩
     by_cases hin:i=n
     ·subst hin; omega
     ·exact h3 i hi (by omega)
    ·exact .inr h2
 unfold z11
 simp only [bS]
 by_cases h0:l.length=0
 ·refine ⟨true,?_, by simp; intro i hi; omega⟩
  rw [h0,z0v (by omega) (by omega),z1w (b:=.inr ())]
  ·rfl
  ·unfold z0j
   rw [if_neg (by simp)]
 ·obtain ⟨r,h1,h2⟩:=key (l.length - 1) (by omega)
  rw [z0v (by omega) (by omega), show ((l.length:Int) - 1)=((l.length - 1:Nat):Int) by omega,h1]
  rcases h2 with ⟨rfl,h3⟩ | ⟨rfl,i,hi,h3⟩
  ·exact ⟨true,rfl, by simp; exact fun i hi=>h3 i hi (by omega)⟩
  ·exact ⟨false,rfl, by simp; exact ⟨i,hi, by omega⟩⟩
theorem zrm {k n j:Nat} (h:j<n):zze k n (j:Int)=some (k+j):=by unfold zze; rw [if_pos (by omega)]; simp
theorem zz9 {α:Type} (b:List α) (k n:Nat) (x:α) (h:k+n≤b.length):(clr b k n x).length=b.length:=by
 unfold clr
 simp only [List.length_append,List.length_take,List.length_replicate,List.length_drop]; omega
theorem zn5 (l:List V3) (s:Nat) (h1:1≤s) (hs:s<l.length) (hl:l.length≤9223372036854775806):∃ b:List V3 × Int,iter (z23 l s) (l,(s:Int),1)=some b∧b.1.length=l.length∧∃ j:Nat,b.2=(j:Int)∧j<l.length:=by
 refine z9l (F:=z23 l s) (l.length - s) (fun i st=>st.1.length=l.length∧st.2.2=(i:Int)∧1≤i∧∃ j:Nat,st.2.1=(j:Int)∧j+1≤s+i) _ ?_ ?_ _ 1 (by omega) ⟨rfl,rfl, by omega,s,rfl, by omega⟩
 ·rintro i ⟨c,j',i'⟩ hi ⟨e1,e2,e0,j,e3,e4⟩
  simp only at e1 e2 e3
  subst e2 e3
  unfold z23
  rw [if_pos (by simp; omega)]
  simp only [Int.toNat_natCast]
  rw [zrm (by omega),z0v (x:=(i:Int) - 1) (by omega) (by omega), show ((i:Int) - 1)=((i - 1:Nat):Int) by omega,zrm (by omega)]
  simp only [bS]
  rw [z0x (by omega),z0x (by omega)]
  simp only [bS]
  by_cases hc:c[s+i]'(by omega)=c[s+(i - 1)]'(by omega)
  ·rw [decide_eq_true hc,if_neg (by simp)]
   exact ⟨_,rfl,e1,z0w (by omega), by omega,j,rfl, by omega⟩
  ·rw [decide_eq_false hc,if_pos (by simp),z0x (by omega)]
   simp only [bS]
   exact ⟨_,rfl, by simpa using e1,z0w (by omega), by omega,j+1,z0w (by omega), by omega⟩
 ·rintro ⟨c,j',i'⟩ ⟨e1,e2,e0,j,e3,e4⟩
  simp only at e1 e2 e3
  subst e2 e3
  unfold z23
  rw [if_neg (by simp <;> omega)]
  exact ⟨_,rfl,e1,j,rfl, by omega⟩
theorem zqd (l:List V3) (hl:l.length≤9223372036854775806):∃ c,z2i l=some c∧(c.length=l.length↔∀ i (h:i+1<l.length),l[i]'(by omega)≠l[i+1]):=by
 have key:∀ k n,l.length - n=k→1≤n→n≤l.length→∃ r:Sum (List V3) Unit,iter (z16 l) (n:Int)=some r∧((r=.inr ()∧∀ i (h:i+1<l.length),n≤i+1→l[i]'(by omega)≠l[i+1])∨(∃ c,r=.inl c∧c.length≠l.length∧∃ i,∃ h:i+1<l.length,l[i]'(by omega)=l[i+1])):=by
  intro k
  induction k with
  | zero =>
   intro n hk h1 hn
   refine ⟨_,z1w ?_,.inl ⟨rfl, fun i _ h=>by omega⟩⟩
   unfold z16
   rw [if_neg (by simp; omega)]
  | succ k ih =>
   intro n hk h1 hn
   have hlt:n<l.length:=by omega
   by_cases hc:l[n]=l[n - 1]
   ·obtain ⟨⟨c,j'⟩,e1,e2,j,e3,e4⟩:=zn5 l n h1 hlt hl
    simp only at e2 e3
    subst e3
    have hF:z16 l (n:Int)=some (.inl (.inl ((clr c j (c.length - j) (Vector.replicate 32 0)).take j))):=by
     unfold z16
     rw [if_pos (by simp; omega),z0x hlt,z0v (by omega) (by omega), show ((n:Int) - 1)=((n - 1:Nat):Int) by omega,z0x (by omega)]
     simp only [bS]
     rw [decide_eq_true hc,if_pos rfl,z3b (by omega)]
     simp only [bS]
     rw [e1]
     simp only [bS]
     rw [z3b (by omega),z3b (by simp; omega)]
     simp only [bS,Int.toNat_natCast]
     rw [show (0:Int)=((0:Nat):Int) from rfl,z96 (by omega) (by rw [zz9 _ _ _ _ (by omega)]; omega)]
     simp
    refine ⟨_,z1w hF,.inr ⟨_,rfl,?_,n - 1, by omega,?_⟩⟩
    ·rw [List.length_take]; omega
    ·have:n - 1+1=n:=by omega
     simp only [this]; exact hc.symm
   ·have hF:z16 l (n:Int)=some (.inr ((n+1:Nat):Int)):=by
     unfold z16
     rw [if_pos (by simp; omega),z0x hlt,z0v (x:=(n:Int) - 1) (by omega) (by omega), show ((n:Int) - 1)=((n - 1:Nat):Int) by omega,z0x (by omega)]
     simp only [bS]
     rw [decide_eq_false hc,if_neg (by simp),z0w (by omega)]
    obtain ⟨r,h2,h3⟩:=ih (n+1) (by omega) (by omega) (by omega)
    refine ⟨r, by rw [z2g hF]; exact h2,?_⟩
    rcases h3 with ⟨h3,h4⟩ | h3
    ·refine .inl ⟨h3, fun i hi hni=>?_⟩
     by_cases hin:i+1=n
     ·subst hin; exact fun e=>hc e.symm
     ·exact h4 i hi (by omega)
    ·exact .inr h3
 unfold z2i
 by_cases h2:l.length<2
 ·rw [if_pos (by simp; omega)]
  exact ⟨l,rfl, by simp; intro i hi; omega⟩
 ·rw [if_neg (by simp; omega)]
  obtain ⟨r,e1,e2⟩:=key (l.length - 1) 1 rfl (by omega) (by omega)
  rw [show (1:Int)=((1:Nat):Int) from rfl,e1]
  rcases e2 with ⟨rfl,h3⟩ | ⟨c,rfl,h3,i,hi,h4⟩
  ·exact ⟨l,rfl, by simp; exact fun i hi=>h3 i hi (by omega)⟩
  ·exact ⟨c,rfl,⟨fun h=>absurd h h3, fun h=>absurd h4 (h i hi)⟩⟩
theorem zwb (l:List V3):zcs l=true↔(∀ i (h:i+1<l.length),kd (l[i]'(by omega))≤kd l[i+1])∧∀ i (h:i+1<l.length),l[i]'(by omega)≠l[i+1]:=by
 rw [zp8]
 constructor
 ·intro h
  refine ⟨fun i hi=>Nat.le_of_lt (h i hi), fun i hi e=>?_⟩
  have:=h i hi
  rw [e] at this; omega
 ·rintro ⟨h1,h2⟩ i hi
  have:=h1 i hi
  rcases Nat.lt_or_eq_of_le this with h | h
  ·exact h
  ·exact absurd (zsf h) (h2 i hi)
end
section
open Go Go.RowKit
set_option maxRecDepth 100000
def z6w (a0:List V3) (a1:List V3) (s3:Int):Option (Sum (Sum Bool Unit) Int) :=
 if decide (s3<(a0.length:Int)) then
  idx a0 s3 >>= fun x5 =>
  idx a1 s3 >>= fun x7 =>
  if !decide (x5=x7) then
   some (.inl (.inl false))
  else
   some (.inr (w64 (s3+1)))
 else
  some (.inl (.inr ()))
def z6p (a0:List V3) (a1:List V3):Option (Bool) :=
 if (a0.length:Int) != (a1.length:Int) then
  some false
 else
  z6n (iter (z6w a0 a1) 0) fun s2 =>
  some true
theorem zcu (a0:List V3) (a1:List V3):z2k Tryz.prog 27 [.rd (z03 aZ) a0,.rd (z03 aZ) a1] [] (z6p a0 a1) (fun r nv=>⟨[.rd z0g r],[]⟩):=by
 refine z2x 26 Tryz.func27 Z Z Z fun H w=>?_
 refine gSR<|Zb Z<|z12<|gSR<|Zm Z<|Zq (z4d Z .rd Z tu29)<|Zm Z<|Zq (z4d Z .rd Z tu29)<|Zq (I.neq Z Z)<|Zj Z (fun h1=>?_) (fun h1=>?_)
 ·refine gSR<|Zb Z<|z0o<|z10<|Ze [] [] Z
 ·refine Zt<|z90 (fun (s2:Unit) aa ww=>Sta (ctx 26 H [] w) [] [] aa ww) ?_ (fun s2=>?_)
  ·refine gSR<|Zb Z<|z2t (fun (s3:Int) aa ww=>Sta (ctx 26 H [] w) [(0,.rd (z03 aZ) a0),(1,.rd (z03 aZ) a1),(5,.rd z0i s3)] [] aa ww) (fun aa ww h=>Zu h []) (fun s3=>?_)
   refine z12<|gSR<|Zm Z<|Zm Z<|Zq (z4d Z .rd Z tu29)<|Zq (I.lss Z Z)<|Zj Z (fun h4=>?_) (fun h4=>?_)
   ·refine Zt<|z12<|z6t<|z12<|zgo mixed (by kernel_rfl)<|Rq Z (mv Z)<|Rq Z (mv Z)<|z72 fun x5 h6=>Rq Z (ixR Z Z h6 tu29 z5g Z)<|Rq Z (ldR Z z9m)<|Rq Z (mv Z)<|Rq Z (mv Z)<|z72 fun x7 h8=>Rq Z (ixR Z Z h8 tu29 z5g Z)<|Rq Z (ldR Z z9m)<|Rq Z (neA Z Z eq45 Z Z gq45)<|zqp<|z0z<|gIf Z Z (fun h9=>?_) (fun h9=>?_)
    ·refine gSR<|Zb Z<|z0o<|z4h<|z10<|z8g<|z5l<|Ze [] [] Z
    ·refine z30<|z3w<|z0z<|z2n<|Zm Z<|Zq (I.add Z Z)<|Za Z<|z1z<|z2j (fun aa ww h=>Zu h [])
   ·refine z2s<|z1h<|z1g<|z6u (fun aa ww h=>Zu h [])
  ·refine gSR<|Zb Z<|z0o<|Ze [] [] Z
def z93 (a0:z01) (a1:z01):Option (Bool) :=
 if a0.Author==a1.Author then
  z6p a0.Preds a1.Preds >>= fun r4 =>
  if r4 then
   if a0.Stamp==a1.Stamp then
    if decide (a0.Act=a1.Act) then
     some (decide (a0.Sig=a1.Sig)) >>= fun y9 =>
     some y9
    else
     some false
   else
    some false
  else
   some false
 else
  some false
theorem zfa (a0:z01) (a1:z01):z2k Tryz.prog 62 [.rd z04 a0,.rd z04 a1] [] (z93 a0 a1) (fun r nv=>⟨[.rd z0g r],[]⟩):=by
 refine z2x 38 Tryz.func62 Z Z Z fun H w=>?_
 refine gSR<|Eb Z (bx 1 Z) fun v1=>Eb Z (bx 2 Z) fun v2=>Zb Z<|gSR<|Zq (faB 1 Z Z Tryz.underlying43 Z (by exact z68))<|Zq (ld 1 Z Z (fP (z4y _)) z97 Z)<|Zq (faB 2 Z Z Tryz.underlying43 Z (by exact z68))<|Zq (ld 2 Z Z (fP (z4y _)) z97 Z)<|Zq (W.eql Z Z)<|Zm Z<|z14 10 Z (fun h3=>?_) (fun h3=>?_)
 ·refine lKn 9 Z h3<|z0u Zx Z Z (faB 1 Z Z Tryz.underlying43 Z (by exact zcr))<|z0u Zx Z Z (ld 1 Z Z (fP (z19 _)) zhy Z)<|z0u Zx Z Z (faB 2 Z Z Tryz.underlying43 Z (by exact zcr))<|z0u Zx Z Z (ld 2 Z Z (fP (z19 _)) zhy Z)<|zb9 [] [] Zx Z Tryz.func27 Z Z (zcu _ _) (Y2 Z Z) rN fun r4 n5=>Zq (pkT Z Z)<|Zm Z<|z14 17 Z (fun h6=>?_) (fun h6=>?_)
  ·refine lKn 15 Z h6<|lKn 16 Z h6<|z0u Zx Z Z (faB 1 Z Z Tryz.underlying43 Z (by exact zl5))<|z0u Zx Z Z (ld 1 Z Z (fP (z5v _)) zng Z)<|z0u Zx Z Z (faB 2 Z Z Tryz.underlying43 Z (by exact zl5))<|z0u Zx Z Z (ld 2 Z Z (fP (z5v _)) zng Z)<|z0u Zx Z Z (U.eql Z Z)<|Zq (pkT Z Z)<|Zm Z<|z14 24 Z (fun h7=>?_) (fun h7=>?_)
   ·refine lKn 22 Z h7<|lKn 23 Z h7<|z0u Zx Z Z (faB 1 Z Z Tryz.underlying43 Z (by exact zhb))<|z0u Zx Z Z (ld 1 Z Z (fP (z1x _)) ty39 Z)<|z0u Zx Z Z (faB 2 Z Z Tryz.underlying43 Z (by exact zhb))<|z0u Zx Z Z (ld 2 Z Z (fP (z1x _)) ty39 Z)<|z0u Zx Z Z (eqA Z Z eq39 Z Z gq39)<|Zq (pkT Z Z)<|Zm Z<|z14 31 Z (fun h8=>?_) (fun h8=>?_)
    ·refine lKn 29 Z h8<|lKn 30 Z h8<|z0u Zx Z Z (faB 1 Z Z Tryz.underlying43 Z (by exact zlh))<|z0u Zx Z Z (ld 1 Z Z (fP (z3a _)) ty41 Z)<|z0u Zx Z Z (faB 2 Z Z Tryz.underlying43 Z (by exact zlh))<|z0u Zx Z Z (ld 2 Z Z (fP (z3a _)) ty41 Z)<|z0u Zx Z Z (eqA Z Z eq41 Z Z gq41)<|Zq (pkT Z Z)<|Za Z<|z26 4 Z fun y9=>Zn<|z0o<|Ze [] [] Z
    ·refine lKn 29 Z h8<|lKn 30 Z h8<|Zk Z<|Zk Z<|Zk Z<|Zk Z<|Zk Z<|Zq (pkF Z Z)<|Zb Z<|z0o<|Ze [] [] Z
   ·refine lKn 22 Z h7<|lKn 23 Z h7<|Zk Z<|Zk Z<|Zk Z<|Zk Z<|Zk Z<|Zq (pkF Z Z)<|Zm Z<|Zk Z<|Zk Z<|Zk Z<|Zk Z<|Zk Z<|Zq (pkF Z Z)<|Zb Z<|z0o<|Ze [] [] Z
  ·refine lKn 15 Z h6<|lKn 16 Z h6<|Zk Z<|Zk Z<|Zk Z<|Zk Z<|Zk Z<|Zq (pkF Z Z)<|Zm Z<|Zk Z<|Zk Z<|Zk Z<|Zk Z<|Zk Z<|Zq (pkF Z Z)<|Zm Z<|Zk Z<|Zk Z<|Zk Z<|Zk Z<|Zk Z<|Zq (pkF Z Z)<|Zb Z<|z0o<|Ze [] [] Z
 ·refine lKn 9 Z h3<|Zk Z<|Zk Z<|Zk Z<|Zk Z<|Zk Z<|Zq (pkF Z Z)<|Zm Z<|Zk Z<|Zk Z<|Zk Z<|Zk Z<|Zk Z<|Zq (pkF Z Z)<|Zm Z<|Zk Z<|Zk Z<|Zk Z<|Zk Z<|Zk Z<|Zq (pkF Z Z)<|Zm Z<|Zk Z<|Zk Z<|Zk Z<|Zk Z<|Zk Z<|Zq (pkF Z Z)<|Zb Z<|z0o<|Ze [] [] Z
def z4z (a0:z01):Option (Bool) :=
 if decide (20<(a0.Preds.length:Int)) then
  some true
 else
  if decide (100<(a0.Act.Key.length:Int)) then
   some true
  else
   some (decide (100<(a0.Act.Value.Text.length:Int))) >>= fun y4 =>
   some y4
theorem zeh (a0:z01):z2k Tryz.prog 67 [.rd z04 a0] [] (z4z a0) (fun r nv=>⟨[.rd z0g r],[]⟩):=by
 refine z2x 22 Tryz.func67 Z Z Z fun H w=>?_
 refine gSR<|Eb Z (bx 1 Z) fun v1=>Zb Z<|gSR<|Zq (faB 1 Z Z Tryz.underlying43 Z (by exact zcr))<|Zq (ld 1 Z Z (fP (z19 _)) zhy Z)<|Zq (z4d Z .rd Z tu29)<|Zq (I.gtr Z Z)<|Zm Z<|z14 7 Z (fun h2=>?_) (fun h2=>?_)
 ·refine lKn 6 Z h2<|Zk Z<|Zk Z<|Zk Z<|Zk Z<|Zk Z<|Zq (pkT Z Z)<|Zm Z<|Zk Z<|Zk Z<|Zk Z<|Zk Z<|Zk Z<|Zk Z<|Zq (pkT Z Z)<|Zb Z<|z0o<|Ze [] [] Z
 ·refine lKn 6 Z h2<|z0u Zx Z Z (faB 1 Z Z Tryz.underlying43 Z (by exact zhb))<|z0u Zx Z Z (faB 1 Z Z Tryz.underlying39 Z (by exact ti9))<|z0u Zx Z Z (ld 1 Z Z ((fP (z1x _)).part (z34 _)) ty9 Z)<|z0u Zx Z Z (zu5 Z Z tu9)<|z0u Zx Z Z (I.gtr Z Z)<|Zq (pkF Z Z)<|Zm Z<|z14 14 Z (fun h3=>?_) (fun h3=>?_)
  ·refine lKn 12 Z h3<|lKn 13 Z h3<|Zk Z<|Zk Z<|Zk Z<|Zk Z<|Zk Z<|Zk Z<|Zq (pkT Z Z)<|Zb Z<|z0o<|Ze [] [] Z
  ·refine lKn 12 Z h3<|lKn 13 Z h3<|z0u Zx Z Z (faB 1 Z Z Tryz.underlying43 Z (by exact zhb))<|z0u Zx Z Z (faB 1 Z Z Tryz.underlying39 Z (by exact zbb))<|z0u Zx Z Z (faB 1 Z Z Tryz.underlying37 Z (by exact ti9))<|z0u Zx Z Z (ld 1 Z Z (((fP (z1x _)).part (z3f _)).part (z2f _)) ty9 Z)<|z0u Zx Z Z (zu5 Z Z tu9)<|z0u Zx Z Z (I.gtr Z Z)<|Zq (pkF Z Z)<|Za Z<|z26 2 Z fun y4=>Zn<|z0o<|Ze [] [] Z
def z3j (a0:z3i) (s3:Int):Option (Sum (Sum Bool Unit) Int) :=
 if decide (s3<(a0.Ops.length:Int)) then
  if decide (s3≤70) then
   idx a0.Ops s3 >>= fun x6 =>
   z4z x6 >>= fun r8 =>
   if r8 then
    some (.inl (.inl true))
   else
    some (.inr (w64 (s3+1)))
  else
   some (.inl (.inr ()))
 else
  some (.inl (.inr ()))
def z83 (a0:z3i):Option (Bool) :=
 z6n (iter (z3j a0) 0) fun s2 =>
 if decide (16<(a0.Ops.length:Int)) then
  if decide ((a0.Ops.length:Int)≤60) then
   some true
  else
   if decide (70<(a0.Ops.length:Int)) then
    some true
   else
    some (decide (70<(a0.IDs.length:Int))) >>= fun y14 =>
    some y14
 else
  if decide (70<(a0.Ops.length:Int)) then
   some true
  else
   some (decide (70<(a0.IDs.length:Int))) >>= fun y16 =>
   some y16
theorem zek (a0:z3i):z2k Tryz.prog 29 [.rd z9h a0] [] (z83 a0) (fun r nv=>⟨[.rd z0g r],[]⟩):=by
 refine z2x 43 Tryz.func29 Z Z Z fun H w=>?_
 refine gSR<|Eb Z (bx 1 Z) fun v1=>Zb Z<|z90 (fun (s2:Unit) aa ww=>Sta (ctx 43 H [] w) [(1,.val (z0f v1 0))] [(1,some (v1,.box 66 [.rd z9h a0]))] aa ww) ?_ (fun s2=>?_)
 ·refine gSR<|Zb Z<|z2t (fun (s3:Int) aa ww=>Sta (ctx 43 H [] w) [(1,.val (z0f v1 0)),(3,.rd z0i s3)] [(1,some (v1,.box 66 [.rd z9h a0]))] aa ww) (fun aa ww h=>Zu h [1]) (fun s3=>?_)
  refine z12<|gSR<|Zm Z<|Zq (faB 1 Z Z Tryz.underlying66 Z (by exact zzm))<|Zq (ld 1 Z Z (fP (z41 _)) zzo Z)<|Zq (z4d Z .rd Z tu22)<|Zq (I.lss Z Z)<|Zm Z<|z14 9 Z (fun h4=>?_) (fun h4=>?_)
  ·refine lKn 8 Z h4<|z0u Zx Z Z (mv Z)<|z0u Zx Z Z (I.leq Z Z)<|Zq (pkT Z Z)<|Zj Z (fun h5=>?_) (fun h5=>?_)
   ·refine gKn 11 Z h5<|Zt<|z12<|z6t<|gSR<|Zq (faB 1 Z Z Tryz.underlying66 Z (by exact zzm))<|Zq (ld 1 Z Z (fP (z41 _)) zzo Z)<|Zm Z<|z0r fun x6 h7=>Zq (ixR Z Z h7 tu22 z95 Z)<|Zq (ldR Z zbe)<|Zc [] [] Tryz.func67 Z (zeh _) fun r8 n9=>Zj Z (fun h10=>?_) (fun h10=>?_)
    ·refine gSR<|Zb Z<|z0o<|z4h<|z10<|z8g<|z5l<|Ze [] [] Z
    ·refine z30<|z3w<|z0z<|z2n<|Zm Z<|Zq (I.add Z Z)<|Za Z<|z1z<|z2j (fun aa ww h=>Zu h [1])
   ·refine gKn 11 Z h5<|z2s<|z1h<|z1g<|z6u (fun aa ww h=>Zu h [1])
  ·refine lKn 8 Z h4<|Zk Z<|Zk Z<|Zq (pkF Z Z)<|Zn<|zbp Z<|z2s<|z1h<|z1g<|z6u (fun aa ww h=>Zu h [1])
 ·refine gSR<|Zq (faB 1 Z Z Tryz.underlying66 Z (by exact zzm))<|Zq (ld 1 Z Z (fP (z41 _)) zzo Z)<|Zq (z4d Z .rd Z tu22)<|Zq (I.gtr Z Z)<|Zm Z<|z14 25 Z (fun h11=>?_) (fun h11=>?_)
  ·refine lKn 24 Z h11<|z0u Zx Z Z (faB 1 Z Z Tryz.underlying66 Z (by exact zzm))<|z0u Zx Z Z (ld 1 Z Z (fP (z41 _)) zzo Z)<|z0u Zx Z Z (z4d Z .rd Z tu22)<|z0u Zx Z Z (I.leq Z Z)<|Zq (pkT Z Z)<|Zm Z<|z14 31 Z (fun h12=>?_) (fun h12=>?_)
   ·refine lKn 29 Z h12<|lKn 30 Z h12<|Zk Z<|Zk Z<|Zk Z<|Zk Z<|Zq (pkT Z Z)<|Zm Z<|Zk Z<|Zk Z<|Zk Z<|Zk Z<|Zq (pkT Z Z)<|Zb Z<|z0o<|Ze [] [] Z
   ·refine lKn 29 Z h12<|lKn 30 Z h12<|z0u Zx Z Z (faB 1 Z Z Tryz.underlying66 Z (by exact zzm))<|z0u Zx Z Z (ld 1 Z Z (fP (z41 _)) zzo Z)<|z0u Zx Z Z (z4d Z .rd Z tu22)<|z0u Zx Z Z (I.gtr Z Z)<|Zq (pkF Z Z)<|Zm Z<|z14 37 Z (fun h13=>?_) (fun h13=>?_)
    ·refine lKn 35 Z h13<|lKn 36 Z h13<|Zk Z<|Zk Z<|Zk Z<|Zk Z<|Zq (pkT Z Z)<|Zb Z<|z0o<|Ze [] [] Z
    ·refine lKn 35 Z h13<|lKn 36 Z h13<|z0u Zx Z Z (faB 1 Z Z Tryz.underlying66 Z (by exact zcr))<|z0u Zx Z Z (ld 1 Z Z (fP (zcc _)) zhy Z)<|z0u Zx Z Z (z4d Z .rd Z tu29)<|z0u Zx Z Z (I.gtr Z Z)<|Zq (pkF Z Z)<|Za Z<|z26 2 Z fun y14=>Zn<|z0o<|Ze [] [] Z
  ·refine lKn 24 Z h11<|Zk Z<|Zk Z<|Zk Z<|Zk Z<|Zq (pkF Z Z)<|Zm Z<|z0u Zx Z Z (faB 1 Z Z Tryz.underlying66 Z (by exact zzm))<|z0u Zx Z Z (ld 1 Z Z (fP (z41 _)) zzo Z)<|z0u Zx Z Z (z4d Z .rd Z tu22)<|z0u Zx Z Z (I.gtr Z Z)<|Zq (pkF Z Z)<|Zm Z<|z14 37 Z (fun h15=>?_) (fun h15=>?_)
   ·refine lKn 35 Z h15<|lKn 36 Z h15<|Zk Z<|Zk Z<|Zk Z<|Zk Z<|Zq (pkT Z Z)<|Zb Z<|z0o<|Ze [] [] Z
   ·refine lKn 35 Z h15<|lKn 36 Z h15<|z0u Zx Z Z (faB 1 Z Z Tryz.underlying66 Z (by exact zcr))<|z0u Zx Z Z (ld 1 Z Z (fP (zcc _)) zhy Z)<|z0u Zx Z Z (z4d Z .rd Z tu29)<|z0u Zx Z Z (I.gtr Z Z)<|Zq (pkF Z Z)<|Za Z<|z26 2 Z fun y16=>Zn<|z0o<|Ze [] [] Z
def z8c (a0:List z01):Option (Bool) :=
 z83 (⟨[],a0⟩:z3i) >>= fun r1 =>
 some r1
theorem zeo (a0:List z01):z2k Tryz.prog 10 [.rd (z03 z04) a0] [] (z8c a0) (fun r nv=>⟨[.rd z0g r],[]⟩):=by
 refine z2x 6 Tryz.func10 Z Z Z fun H w=>?_
 refine gSR<|Zb Z<|gSR<|Zm Z<|Zq (bld (x':=(⟨[],a0⟩:z3i)) [(0,1),(1,1)] Tryz.underlying66 ti66 Z zr66 Z (Bld.cons (z41 _) Z Z<|Bld.done Z))<|Zc [] [] Tryz.func29 Z (zek _) fun r1 n2=>Zb Z<|z0o<|Ze [] [] Z
end
section
open Go Go.Shelf
def zqj:Go.Shelf.Ren:=⟨fun | 6=>87 | 15=>94 | 14=>130 | 28=>139 | 29=>105 | 20=>172 | 21=>173 | 22=>174 | 23=>175 | 24=>176 | 25=>177 | 26=>178 | 27=>179 | 46=>210 | 47=>181 | 48=>182 | 49=>211 | 50=>212 | 57=>231 | n=>n, fun | 22=>88 | 24=>94 | 25=>137 | 3=>3 | 39=>143 | 0=>0 | 53=>34 | 55=>35 | 4=>4 | 46=>181 | 45=>180 | 50=>106 | 5=>5 | 9=>9 | 66=>225 | 70=>229 | 76=>260 | 77=>261 | n=>n, fun | n=>n⟩
theorem zws:Go.Proofs.SlLaysF0.n6 Tryz.prog zqj:={
 mixed:=by kernel_rfl
 f6:=⟨Tryz.f87.name, by decide,Tryz.func87.trans (congrArg some (by kernel_rfl))⟩
 f14:=⟨Tryz.f130.name, by decide,Tryz.func130.trans (congrArg some (by kernel_rfl))⟩
 f15:=Tryz.func94.trans (congrArg some (by kernel_rfl))
 f20:=⟨Tryz.f172.name, by decide,Tryz.func172.trans (congrArg some (by kernel_rfl))⟩
 f21:=⟨Tryz.f173.name, by decide,Tryz.func173.trans (congrArg some (by kernel_rfl))⟩
 f22:=⟨Tryz.f174.name, by decide,Tryz.func174.trans (congrArg some (by kernel_rfl))⟩
 f23:=⟨Tryz.f175.name, by decide,Tryz.func175.trans (congrArg some (by kernel_rfl))⟩
 f24:=⟨Tryz.f176.name, by decide,Tryz.func176.trans (congrArg some (by kernel_rfl))⟩
 f25:=⟨Tryz.f177.name, by decide,Tryz.func177.trans (congrArg some (by kernel_rfl))⟩
 f26:=⟨Tryz.f178.name, by decide,Tryz.func178.trans (congrArg some (by kernel_rfl))⟩
 f27:=⟨Tryz.f179.name, by decide,Tryz.func179.trans (congrArg some (by kernel_rfl))⟩
 f28:=Tryz.func139.trans (congrArg some (by kernel_rfl))
 f29:=Tryz.func105.trans (congrArg some (by kernel_rfl))
 f46:=⟨Tryz.f210.name, by decide,Tryz.func210.trans (congrArg some (by kernel_rfl))⟩
 f47:=Tryz.func181.trans (congrArg some (by kernel_rfl))
 f48:=Tryz.func182.trans (congrArg some (by kernel_rfl))
 f49:=⟨Tryz.f211.name, by decide,Tryz.func211.trans (congrArg some (by kernel_rfl))⟩
 f50:=⟨Tryz.f212.name, by decide,Tryz.func212.trans (congrArg some (by kernel_rfl))⟩
 f57:=⟨Tryz.f231.name, by decide,Tryz.func231.trans (congrArg some (by kernel_rfl))⟩
 t0:=Tryz.underlying0
 a0:=Tryz.isAgg0
 z0:=Tryz.sizeOf0
 v0:=Tryz.zeroValue0
 t3:=Tryz.underlying3
 a3:=Tryz.isAgg3
 z3:=Tryz.sizeOf3
 v3:=Tryz.zeroValue3
 t4:=Tryz.underlying4
 a4:=Tryz.isAgg4
 z4:=Tryz.sizeOf4
 v4:=Tryz.zeroValue4
 t5:=Tryz.underlying5
 a5:=Tryz.isAgg5
 z5:=Tryz.sizeOf5
 v5:=Tryz.zeroValue5
 t9:=Tryz.underlying9
 a9:=Tryz.isAgg9
 z9:=Tryz.sizeOf9
 v9:=Tryz.zeroValue9
 t22:=Tryz.underlying88
 a22:=Tryz.isAgg88
 z22:=Tryz.sizeOf88
 v22:=Tryz.zeroValue88
 t25:=Tryz.underlying137
 a25:=Tryz.isAgg137
 z25:=Tryz.sizeOf137
 v25:=Tryz.zeroValue137
 t39:=Tryz.underlying143
 a39:=Tryz.isAgg143
 z39:=Tryz.sizeOf143
 v39:=Tryz.zeroValue143
 t45:=Tryz.underlying180
 a45:=Tryz.isAgg180
 z45:=Tryz.sizeOf180
 v45:=Tryz.zeroValue180
 t46:=Tryz.underlying181
 a46:=Tryz.isAgg181
 z46:=Tryz.sizeOf181
 v46:=Tryz.zeroValue181
 t50:=Tryz.underlying106
 a50:=Tryz.isAgg106
 z50:=Tryz.sizeOf106
 v50:=Tryz.zeroValue106
 t53:=Tryz.underlying34
 a53:=Tryz.isAgg34
 z53:=Tryz.sizeOf34
 v53:=Tryz.zeroValue34
 t55:=Tryz.underlying35
 a55:=Tryz.isAgg35
 z55:=Tryz.sizeOf35
 v55:=Tryz.zeroValue35
 t66:=Tryz.underlying225
 a66:=Tryz.isAgg225
 z66:=Tryz.sizeOf225
 v66:=Tryz.zeroValue225
 t70:=Tryz.underlying229
 a70:=Tryz.isAgg229
 z70:=Tryz.sizeOf229
 v70:=Tryz.zeroValue229
 t76:=Tryz.underlying260
 a76:=Tryz.isAgg260
 z76:=Tryz.sizeOf260
 v76:=Tryz.zeroValue260
 t77:=Tryz.underlying261
 a77:=Tryz.isAgg261
 z77:=Tryz.sizeOf261
 v77:=Tryz.zeroValue261 }
end
section
open Go Go.Shelf Go.RowKit Go.Sort
section
variable {α:Type} (x0:α) (cf:α→α→Int)
def ltI (l:List α) (i j:Nat):Int:=cf (l.getD i x0) (l.getD j x0)
def zu9 (l:List α):List α:=(pdq (ltOf (ltI x0 cf l)) (Array.range l.length) 0 l.length (Lib.bitLen l.length) true true).toList.map fun i=>l.getD i x0
theorem swoI (hO:SWO (ltOf cf)) (l:List α):SWO (ltOf (ltI x0 cf l)) where
 irrefl x:=hO.irrefl _
 trans x y z h1 h2:=hO.trans _ _ _ h1 h2
 ntrans x y z h1 h2:=hO.ntrans _ _ _ h1 h2
theorem pdqI (hO:SWO (ltOf cf)) (l:List α):∃ d:List Nat,d.Perm (List.range l.length)∧zu9 x0 cf l=d.map (fun i=>l.getD i x0)∧d.Pairwise fun i j=>¬ cf (l.getD j x0) (l.getD i x0)<0:=by
 have h:=pdq_sorts (ltOf (ltI x0 cf l)) (swoI x0 cf hO l) (Array.range l.length) 0 l.length (Lib.bitLen l.length) true true (Nat.zero_le _) (by simp) (Or.inl rfl)
 have hs:(pdq (ltOf (ltI x0 cf l)) (Array.range l.length) 0 l.length (Lib.bitLen l.length) true true).size=l.length:=by rw [h.1.1]; simp
 refine ⟨_,?_,rfl,?_⟩
 ·have p:=h.1.2.2
  rw [Array.extract_eq_self_of_le (by omega),Array.extract_eq_self_of_le (by simp)] at p
  simpa using p
 ·rw [List.pairwise_iff_getElem]
  intro i j hi hj hij
  have q:=h.2 i j (Nat.zero_le _) hij (by simpa [hs] using hj)
  rw [getElem!_pos _ i (by simpa using hi),getElem!_pos _ j (by simpa using hj)] at q
  simpa [ltOf,ltI] using q
theorem zlo (hO:SWO (ltOf cf)) (l:List α):(zu9 x0 cf l).Perm l:=by
 obtain ⟨d,h1,h2,_⟩:=pdqI x0 cf hO l
 rw [h2]
 refine (h1.map _).trans (List.Perm.of_eq ?_)
 apply List.ext_getElem (by simp)
 intro i h1 h2
 simp [List.getD_eq_getElem?_getD,h2]
theorem znv (hO:SWO (ltOf cf)) (l:List α):(zu9 x0 cf l).Pairwise fun x y=>¬ cf y x<0:=by
 obtain ⟨d,_,h2,h3⟩:=pdqI x0 cf hO l
 rw [h2,List.pairwise_map]
 exact h3
theorem zva (hO:SWO (ltOf cf)) (l:List α):(zu9 x0 cf l).length=l.length:=(zlo x0 cf hO l).length_eq
end
theorem zpc {α:Type} {R:Rep α} {S:Blk} {w:World}:∀ {l:List α} {cs:List Value} (i:Nat) (hi:i<l.length),z5m R S w cs l→R.rel S w ((cs.drop (i * R.sz)).take R.sz) l[i]
 | x::l,cs,0,hi,h=>by
  obtain ⟨c,d,rfl,h1,h2⟩:=h
  have:=R.len h1
  simp [← this,h1]
 | x::l,cs,i+1,hi,h=>by
  obtain ⟨c,d,rfl,h1,h2⟩:=h
  have hc:=R.len h1
  have:=zpc i (by simpa using hi) h2
  rw [show (i+1) * R.sz=c.length+i * R.sz by rw [hc,Nat.add_mul]; omega]
  simpa using this
theorem zmi (k:Nat):∀ (n:Nat) (cs:List Value),cs.length=n * k→(List.range n).flatMap (fun i=>(cs.drop (i * k)).take k)=cs
 | 0,cs,h=>by simp at h; simp [h]
 | n+1,cs,h=>by
  have ih:=zmi k n (cs.take (n * k)) (by rw [List.length_take,h,Nat.add_mul]; omega)
  rw [List.range_succ,List.flatMap_append]
  have e:(List.range n).flatMap (fun i=>(cs.drop (i * k)).take k)=(List.range n).flatMap (fun i=>((cs.take (n * k)).drop (i * k)).take k):=by
   simp only [List.flatMap_def]
   congr 1
   apply List.map_congr_left
   intro i hi
   have hi':i<n:=by simpa using hi
   rw [List.drop_take,List.take_take]
   have:k≤n * k - i * k:=by
    rw [← Nat.sub_mul]
    exact Nat.le_mul_of_pos_left k (by omega)
   rw [Nat.min_eq_left this]
  rw [e,ih]
  simp only [List.flatMap_cons,List.flatMap_nil,List.append_nil]
  rw [List.take_of_length_le (l:=cs.drop (n * k)) (by rw [List.length_drop,h,Nat.add_mul]; omega),List.take_append_drop]
theorem zsx {α:Type} {R:Rep α} {S:Blk} {w:World} {enc:Nat→List Value} {g:Nat→α} (h:∀ i,R.rel S w (enc i) (g i)):∀ is:List Nat,z5m R S w (is.flatMap enc) (is.map g)
 | []=>rfl
 | i::is=>⟨enc i,is.flatMap enc,List.flatMap_cons,h i,zsx h is⟩
theorem zso {α:Type} {R:Rep α} (hagg:R.agg=true) (x0:α) (r0:List Value) (hz:∀ S w,R.rel S w r0 x0) (cf:α→α→Int) (hO:SWO (ltOf cf)) {P:Program} {f g T:Nat}
  (hnone:∀ (cap:Nat) (w:World),Calls P f #[.slice none 0 cap,.func (.func g) #[] #[]] w fun e w'=>e=.returned (.tuple #[])∧w'=w)
  (hsome:∀ (enc:Nat→List Value) (hk:∀ x,(enc x).length=R.sz) (h1:∀ x,∀ v∈enc x,v.oneCell'=true) (cf':Nat→Nat→Int) (hO:SWO (ltOf cf')) (blk cap:Nat) (d:Array Nat) (w:World),
   CmpLays P g #[] enc R.sz cf' blk 0 d.size w→HoldsK enc R.sz w blk 0 d→blk<w.heap.size→d.size<4611686018427387904 →
   Calls P f #[.slice (some ⟨blk,0,none⟩) d.size cap,.func (.func g) #[] #[]] w fun e w'=>e=.returned (.tuple #[])∧∃ n os,w'=sortWorldK enc R.sz w blk 0 n (pdq (ltOf cf') d 0 d.size (Lib.bitLen d.size) true true) os)
  (hcmp:∀ (x y:α) (c d:List Value) (S:Blk) (w W:World),R.rel S w c x→R.rel S w d y→Calls P g #[.agg c.toArray,.agg d.toArray] W fun e w'=>e=.returned (.int .i64 (cf x y))∧∃ q os',w'=grow (W.drewN q) os')
  (p0:Value) (c0:List α):z2k P f [.val p0,.val (.func (.func g) #[] #[])] [(1,some (p0,.list R T c0))] (chk (c0.length≤1000000) >>= fun _=>some (zu9 x0 cf c0))
   (fun r nv=>⟨[],[(1,some (p0,.list R T r))]⟩):=by
 intro r hr H vs w hvs hres
 have hb:c0.length≤1000000∧r=zu9 x0 cf c0:=by
  unfold chk at hr
  split at hr
  ·rename_i h; simp at hr; exact ⟨h,hr.symm⟩
  ·simp at hr
 obtain ⟨hlen0,rfl⟩:=hb
 match vs,hvs with
 | [v0,v1],hvs =>
 obtain ⟨h0,h1,_⟩:=hvs
 have e0:v0=p0:=h0.1
 have e1:v1=.func (.func g) #[] #[]:=h1.1
 subst e0; subst e1
 have hc:=hres.conts 1 v0 _ rfl
 have only:∀ r v c (q:z3v),lr [(1,some (v0,q))] r=some (v,c)→r=1∧v=v0∧c=q:=fun r v c q h=>by
  rw [z2u] at h
  split at h
  ·rename_i e; cases h; exact ⟨e.symm,rfl,rfl⟩
  ·simp [lr,lk] at h
 have hlen:=zva x0 cf hO
 rcases hc with ⟨rfl,rfl⟩ | ⟨b,o,k1,k2,b',cap,C,k3,rfl,k4,k5,k6,k7⟩
 ·refine (hnone 0 w).mono fun e w' ⟨he,hw⟩=>?_
  subst hw
  refine ⟨fun _=>undef,[],he,trivial, fun r v c h=>?_, fun r v c r' v' c' h h' hne=>?_, fun r v c h b hb=>?_,zgr.rfl'⟩
  ·obtain ⟨rfl,rfl,rfl⟩:=only _ _ _ _ h
   have:zu9 x0 cf ([]:List α)=[]:=List.eq_nil_of_length_eq_zero (by rw [hlen]; rfl)
   exact .inl ⟨rfl,this⟩
  ·exact absurd ((only _ _ _ _ h).1.trans (only _ _ _ _ h').1.symm) hne
  ·obtain ⟨rfl,rfl,rfl⟩:=only _ _ _ _ h; cases hb
 ·subst k3
  simp only [z3u,Option.some.injEq] at k1
  subst k1
  have hlt:b'<w.heap.size:=(Array.getElem?_eq_some_iff.1 k2).1
  have hC:c0.length * R.sz≤C.size:=by rw [k6]; exact Nat.mul_le_mul_right _ k4
  let cs:=C.toList.take (c0.length * R.sz)
  have hcs:z5m R (Shr H [(1,some (.slice (some ⟨b',0,none⟩) c0.length cap,.list R T c0))] w) w cs c0:=k7
  let enc:Nat→List Value:=fun i=>if i<c0.length then (cs.drop (i * R.sz)).take R.sz else r0
  have henc:∀ i,R.rel (Shr H [(1,some (.slice (some ⟨b',0,none⟩) c0.length cap,.list R T c0))] w) w (enc i) (c0.getD i x0):=fun i=>by
   by_cases hi:i<c0.length
   ·have:=zpc i hi hcs
    simp only [enc,if_pos hi,List.getD_eq_getElem?_getD,List.getElem?_eq_getElem hi,Option.getD_some]; exact this
   ·simp only [enc,if_neg hi,List.getD_eq_getElem?_getD,List.getElem?_eq_none (Nat.le_of_not_lt hi),Option.getD_none]; exact hz _ _
  have hk:∀ i,(enc i).length=R.sz:=fun i=>R.len (henc i)
  have hflat:(List.range c0.length).flatMap enc=cs:=by
   have:=zmi R.sz c0.length cs (hcs.len)
   rw [← this]
   simp only [List.flatMap_def]
   congr 1
   apply List.map_congr_left
   intro i hi
   have hi':i<c0.length:=by simpa using hi
   simp only [enc,if_pos hi']
  have hH:HoldsK enc R.sz w b' 0 (Array.range c0.length):=by
   have:=zmo enc R.sz hk (List.range c0.length) k2 (by rw [List.length_range,hflat])
   rwa [show (List.range c0.length).toArray=Array.range c0.length from by simp] at this
  have hso:=hsome enc hk (fun i v hv=>R.one (henc i) v hv) (ltI x0 cf c0) (swoI x0 cf hO c0) b' cap (Array.range c0.length) w
   (fun m os dk hdk x y=>hcmp _ _ _ _ _ w _ (henc x) (henc y)) hH hlt (by simp; omega)
  rw [Array.size_range] at hso
  refine hso.mono fun e w' ⟨he,n,os,hw⟩=>?_
  obtain ⟨d,d1,d2,-⟩:=(⟨_,rfl,rfl,trivial⟩:∃ d:List Nat,d=(pdq (ltOf (ltI x0 cf c0)) (Array.range c0.length) 0 c0.length (Lib.bitLen c0.length) true true).toList∧zu9 x0 cf c0=d.map (fun i=>c0.getD i x0)∧True)
  have dl:d.length=c0.length:=by have:=hlen c0; rw [d2] at this; simpa using this
  have da:pdq (ltOf (ltI x0 cf c0)) (Array.range c0.length) 0 c0.length (Lib.bitLen c0.length) true true=d.toArray:=by rw [d1]
  rw [da] at hw
  rw [d2]
  subst hw
  have only':=only
  have hst:z7g (Shr H [(1,some (.slice (some ⟨b',0,none⟩) c0.length cap,.list R T c0))] w) (Shr H [(1,some (.slice (some ⟨b',0,none⟩) c0.length cap,.list R T (d.map fun i=>c0.getD i x0)))] (sortWorldK enc R.sz w b' 0 n d.toArray os)) w (sortWorldK enc R.sz w b' 0 n d.toArray os):=fun i hi=>by
   have hne:i≠b':=fun e=>hi.2.1 1 _ _ rfl (by rw [e]; rfl)
   refine ⟨⟨?_, fun r v c h=>?_,hi.2.2⟩,zji enc R.sz w b' n _ os hi.1 hne⟩
   ·show i<(w.heap.modify b' _++os).size
    have:=hi.1
    simp; omega
   ·obtain ⟨rfl,rfl,rfl⟩:=only _ _ _ _ h
    exact hi.2.1 1 _ _ rfl
  refine ⟨fun _=>undef,[],he,trivial, fun r v c h=>?_, fun r v c r' v' c' h h' hne=>?_, fun r v c h b hb=>?_,rfl,rfl,rfl,?_, fun i hi=>?_⟩
  ·obtain ⟨rfl,rfl,rfl⟩:=only _ _ _ _ h
   refine .inr ⟨b',_,rfl,zxb enc R.sz w n _ os k2,b',cap,_, by rw [List.length_map,dl],rfl, by rw [List.length_map,dl]; exact k4,k5,?_,?_⟩
   ·rw [← k6]; simp [putCells]
   ·rw [List.length_map,zuz enc R.sz hk d C (by rw [dl]; exact hC)]
    exact zsx (fun i=>R.mono hst (henc i)) d
  ·exact absurd ((only _ _ _ _ h).1.trans (only _ _ _ _ h').1.symm) hne
  ·obtain ⟨rfl,rfl,rfl⟩:=only _ _ _ _ h
   exact .inr ⟨1,_,_,rfl,hb⟩
  ·show w.heap.size≤(w.heap.modify b' _++os).size
   simp
  ·exact zji enc R.sz w b' n _ os hi.1 fun e=>hi.2 ⟨1,_,_,rfl, by rw [e]; rfl⟩
end
section
open Go Go.Shelf Go.RowKit Go.Lib Go.Sort
theorem zux (W:World) (o1 o2:Obj) (q:Nat) (os':Array Obj):grow (((W.alloc o1).alloc o2).drewN q) os'=grow (W.drewN q) (#[o1,o2]++os'):=by
 have:(W.heap.push o1).push o2++os'=W.heap++(#[o1,o2]++os'):=by apply Array.toList_inj.1; simp
 show ({ W with drawn:=W.drawn+q,heap:=(W.heap.push o1).push o2++os' }:World) = { W with drawn:=W.drawn+q,heap:=W.heap++(#[o1,o2]++os') }
 rw [this]
theorem relN {S:Blk} {w:World} {c:List Value} {x:z05} (h:(z0d).rel S w c x):∃ c1:List Value,c1.length=11∧c=c1++z7j x.id:=by
 obtain ⟨c1,c2,rfl,h1,c3,c4,rfl,h2,h3⟩:=h
 refine ⟨c1,z04.len h1,?_⟩
 have h3:c4=[]:=h3
 rw [h3,List.append_nil,zfw h2]; rfl
theorem z109 {w:World} {b:Nat} {c1:List Value} {x:V3} {T:TypeId} {fr:Nat × Nat} (h:w.heap[b]? = some (.cells (c1++z7j x).toArray T fr)) (hl:c1.length=11):(loadVar 45 ⟨b,11,none⟩).run Tryz.prog w=.ok (.agg (z7j x).toArray) w:=by
 refine zi2 ag45 z5g (zi8 x) fun j u hu=>?_
 rw [z4q]
 unfold World.cell?
 rw [h]
 have:(c1++z7j x)[11+j]? = some u:=by rw [← hl,List.getElem?_append_right (by omega),Nat.add_sub_cancel_left]; exact hu
 simpa using this
set_option maxHeartbeats 1000000 in
set_option maxRecDepth 100000 in
theorem cmpN (c1 d1:List Value) (hc:c1.length=11) (hd:d1.length=11) (x y:V3) (W:World) :
  Calls Tryz.prog 88 #[.agg (c1++z7j x).toArray,.agg (d1++z7j y).toArray] W fun e w'=>e=.returned (.int .i64 (Lib.compareBytes x.toList y.toList))∧∃ q os',w'=grow (W.drewN q) os':=by
 obtain ⟨W1,hW1⟩:∃ W1,W1=W.alloc (.cells (c1++z7j x).toArray 94):=⟨_,rfl⟩
 obtain ⟨W2,hW2⟩:∃ W2,W2=W1.alloc (.cells (d1++z7j y).toArray 94):=⟨_,rfl⟩
 have l0:(loadVar 45 ⟨W.heap.size,11,none⟩).run Tryz.prog W2=.ok (.agg (z7j x).toArray) W2:=z109 (c1:=c1) (T:=94) (fr:=(0,0)) (by
  rw [hW2,hW1]; show ((W.heap.push _).push _)[W.heap.size]? = _
  rw [Array.getElem?_push_lt (by simp)]; simp) hc
 have l1:(loadVar 45 ⟨W1.heap.size,11,none⟩).run Tryz.prog W2=.ok (.agg (z7j y).toArray) W2:=z109 (c1:=d1) (T:=94) (fr:=(0,0)) (by
  rw [hW2]; show (W1.heap.push _)[W1.heap.size]? = _
  rw [Array.getElem?_push_size]) hd
 go_enter Tryz.func88,Tryz.ntmps88
 refine wp_seq (wp_region_lit ?_)
 refine st (z8y rfl) (v:=.pointer (some ⟨W.heap.size,0,none⟩)) (w':=W1) (by rw [hW1]; simp [execOp,Act.eval,Act.put]; rfl) ?_
 refine st (z8y rfl) (v:=.pointer (some ⟨W1.heap.size,0,none⟩)) (w':=W2) (by rw [hW2]; simp [execOp,Act.eval,Act.put]; rfl) ?_
 refine st (z8y rfl) (v:=.int .i64 0) (w':=W2) (by simp [execOp,Act.eval]) ?_
 refine wp_seq (wp_region_lit ?_)
 refine st (z8y rfl) (v:=.pointer (some ⟨W.heap.size,11,none⟩)) (w':=W2) (by simp [execOp,Act.eval,Act.put]; rfl) ?_
 refine st (z8y rfl) (v:=.agg (z7j x).toArray) (w':=W2) (by simp [execOp,Act.eval,Act.put,Instr.loadAt,Instr.sureAddr,l0]) ?_
 refine st (z8y rfl) (v:=.pointer (some ⟨W1.heap.size,11,none⟩)) (w':=W2) (by simp [execOp,Act.eval,Act.put]; rfl) ?_
 refine st (z8y rfl) (v:=.agg (z7j y).toArray) (w':=W2) (by simp [execOp,Act.eval,Act.put,Instr.loadAt,Instr.sureAddr,l1]) ?_
 refine wpList_step fun K hK=>?_
 rw [if_pos (z8y rfl)]
 unfold Oper.wp
 rw [show ∀ a:Act,a.eval (.tmp 6)=.agg (z7j x).toArray→a.eval (.tmp 8)=.agg (z7j y).toArray→∀ o:Oper,o.op=Op.call { callee:=Callee.value (Operand.func 48),args:=#[Operand.tmp 6,Operand.tmp 8],argTypes:=#[45,45] }→(execOp a.eval o).run Tryz.prog W2=.ok (.enter 48 #[.agg (z7j x).toArray,.agg (z7j y).toArray]) W2 from fun a h6 h8 o ho=>by
  have e0:a.eval (.func 48)=.func (.func 48) #[] #[]:=rfl
  simp [execOp,ho,resolve,e0,Deferred.ofValue,invoke,z8m Tryz.func48 rfl (by rfl),h6,h8]]
 rotate_left
 ·simp [Act.eval,Act.put]
 ·simp [Act.eval,Act.put]
 ·rfl
 simp only [Oper.upon]
 refine (zqi x y W2).mono fun e w' ⟨he,q,os',hw⟩=>?_
 subst he
 refine hK _ _ ?_
 refine st (z8y rfl) (v:=.int .i64 (Lib.compareBytes x.toList y.toList)) (w':=w') (by simp [execOp,Act.eval,Act.put]) ?_
 go_wp2
 go_ret
 refine ⟨rfl,q,#[.cells (c1++z7j x).toArray 94,.cells (d1++z7j y).toArray 94]++os',?_⟩
 exact zux _ _ _ _ _
def zqt:z05:=(⟨(⟨0,[],0,(⟨0,[],(⟨0,0,0,[]⟩:z00)⟩:z07),(⟨0,0⟩:z08)⟩:z01),(Vector.replicate 32 0)⟩:z05)
def cfN (x y:z05):Int:=Lib.compareBytes x.id.toList y.id.toList
theorem ltN (x y:z05):ltOf cfN x y=decide (kd x.id<kd y.id):=by
 unfold ltOf cfN
 rw [zv6,zt1]
theorem swoN:SWO (ltOf cfN) where
 irrefl x:=by rw [ltN]; simp
 trans x y z h1 h2:=by rw [ltN] at *; simp at *; omega
 ntrans x y z h1 h2:=by rw [ltN] at *; simp at *; omega
def zuv (l:List (z05)):Option (List (z05)):=chk (l.length≤1000000) >>= fun _=>some (zu9 zqt cfN l)
theorem zut (p0:Value) (c0:List (z05)):z2k Tryz.prog 87 [.val p0,.val (.func (.func 88) #[] #[])] [(1,some (p0,.list z0d 94 c0))] (zuv c0) (fun r nv=>⟨[],[(1,some (p0,.list z0d 94 r))]⟩):=by
 refine zso rfl zqt _ zr94 cfN swoN (fun cap w=>?_) (fun enc hk h1 cf' hO blk cap d w hc hH hb hs=>?_) (fun x y c d S w W hx hy=>?_) p0 c0
 ·exact AnyF.slices_SortFunc_none zws none cap _ w
 ·have eg:∀ args w,(callFunc 88 args).run Tryz.prog w=.ok (.enter 88 args) w:=enters_of Tryz.func88 (by kernel_rfl) rfl
  exact AnyQ.slices_SortFunc_eq zws 43 Tryz.isAgg94 Tryz.sizeOf94 enc hk h1 cf' hO 88 #[] blk 0 cap d w eg hc hH hb hs
 ·obtain ⟨c1,h1,rfl⟩:=relN hx
  obtain ⟨d1,h2,rfl⟩:=relN hy
  exact cmpN c1 d1 h1 h2 x.id y.id W
end
section
open Go Go.Shelf Go.RowKit Go.Lib
theorem zrn {P:Program} {ops:Array Oper} {o:Oper} {a:Act} {w:World} {K:Act→World→Prop} {Q:Exit→Act→World→Prop} {E:Prop}
  (hg:o.guard=none) (d x:Operand) (dT sT:TypeId) (hop:o.op=Op.call { callee:=Callee.builtin Builtin.append,args:=#[d,x],argTypes:=#[dT,sT] })
  (v u:Value) (hd:a.eval d=v) (hx:a.eval x=u) {v':Value} {w':World} (hr:(Builtin.append_ #[dT,sT] o.type #[v,u]).run P w=.ok v' w') (hK:K (a.put o.dst v') w') :
  if Region.wanted o (yielded ops a.tmps)=true then Oper.wp P o a w K Q else E:=by
 have hw:Region.wanted o (yielded ops a.tmps)=true:=by simp [Region.wanted,hg]
 rw [if_pos hw]
 unfold Oper.wp
 simp [execOp,hop,resolve,invoke,builtin,hd,hx,hr,Result.andThen]
 exact hK
theorem z10y {P:Program} {k by_:Nat} {z:Value} (w:World) (T e:TypeId) (hT:P.underlying T=some (.slice e)) (hE:TI P e z k by_) (hzl:z.cells.size=k) (h0:0<k) (hone:∀ u∈z.cells.toList,u.oneCell'=true)
  (g o n:Nat) (cur:Array Value) (t:TypeId) (hg:w.heap[g]? = some (.cells cur t (0,0))) (hn:0<n) (hfit:o+n * k≤cur.size) :
  ∃ D:Array Value,(∀ ty c,(Builtin.clear_ #[T] ty #[.slice (some ⟨g,o,none⟩) n c]).run P w=.ok (.tuple #[]) (w.setRow g D))∧D.size=cur.size∧D.toList.take o=cur.toList.take o:=by
 have hfl:=zd4 (n:=n) (z:=z.cells) (by omega)
 have hll:((List.replicate n z.cells.toList).flatten).length=n * k:=by simp [hzl]
 have hz1:∀ u∈(Builtin.zeroCells z.cells n).toList,u.oneCell'=true:=fun u hu=>by
  rw [hfl] at hu
  simp only [List.mem_flatten,List.mem_replicate] at hu
  obtain ⟨q,⟨-,rfl⟩,hu⟩:=hu
  exact hone u hu
 have hzn:(Builtin.zeroCells z.cells n).toList.length=n * k:=by rw [hfl,hll]
 have hst:=run_storeCells_at P g o t (Builtin.zeroCells z.cells n).toList 0 cur w hg (by rw [hzn]; simpa using hfit) hz1
 simp only [Nat.add_zero] at hst
 refine ⟨(cur.toList.take o++(Builtin.zeroCells z.cells n).toList++cur.toList.drop (o+(Builtin.zeroCells z.cells n).toList.length)).toArray, fun ty c=>?_,?_,?_⟩
 ·obtain ⟨n',rfl⟩:∃ n',n=n'+1:=⟨n - 1, by omega⟩
  simp only [Builtin.clear_,Sem.run_bind,run_underlying hT,Result.andThen,za7 hE,hst,Sem.run_pure,List.getElem?_toArray,List.getElem?_cons_zero]
 ·simp only [List.size_toArray,List.length_append,List.length_take,List.length_drop,Array.length_toList,hzn]; omega
 ·simp only [List.append_assoc]
  rw [List.take_append_of_le_length (by rw [List.length_take,Array.length_toList]; omega),List.take_take,Nat.min_self]
section
variable (b n c i j:Nat) (xs:List Value) (C:Array Value) (w:World)
set_option maxHeartbeats 4000000 in
set_option maxRecDepth 100000 in
theorem zpe (p:Option Addr) (hi:i≤n) (hnc:n≤c) (hc63:c≤9223372036854775807) :
  Calls Tryz.prog 92 #[.slice p n c,.int .i64 i,.int .i64 i] w fun e w'=>e=.returned (.slice p n c)∧w'=w:=by
 have hn63:n≤9223372036854775807:=by omega
 go_enter Tryz.func92,Tryz.ntmps92
 go_wp2
 all_goals (go_ret; exact ⟨rfl,rfl⟩)
set_option maxHeartbeats 4000000 in
set_option maxRecDepth 100000 in
theorem zup (hij:i<j) (hj:j≤n) (hnc:n≤c) (hc63:c≤9223372036854775807) (hC:w.heap[b]? = some (.cells C 94 (0,0)))
  (hCs:C.size=c * 43) (hxs:C.toList.take (n * 43)=xs) (h1x:∀ v∈xs,v.oneCell'=true) :
  Calls Tryz.prog 92 #[.slice (some ⟨b,0,none⟩) n c,.int .i64 i,.int .i64 j] w fun e w' =>
   e=.returned (.slice (some ⟨b,0,none⟩) (i+(n - j)) c)∧∃ D,w'=w.drew.setRow b D∧D.size=C.size∧D.toList.take ((i+(n - j)) * 43)=xs.take (i * 43)++xs.drop (j * 43):=by
 have u22:Tryz.prog.underlying 88=some (.slice 94):=Tryz.underlying88
 have hcc:∀ j v,C.toList[j]? = some v→w.cell? ⟨b,j,none⟩=some v:=fun j v hj=>by
  rw [Array.getElem?_toList] at hj; unfold World.cell?; rw [hC]; exact hj
 have hxl:xs.length=n * 43:=by rw [← hxs,List.length_take,Array.length_toList]; omega
 have hxg:∀ j v,xs[j]? = some v→C.toList[j]? = some v:=fun j v hj=>by
  rw [← hxs,List.getElem?_take] at hj; split at hj
  ·exact hj
  ·cases hj
 obtain ⟨i0,hi0,hz0,hzs,hzb⟩:=(zjh:TI Tryz.prog 94 _ _ _)
 have hnl:(xs.drop (j * 43)).length=(n - j) * 43:=by rw [List.length_drop,hxl,Nat.sub_mul]
 obtain ⟨Ad,hA,hsrc⟩:∃ Ad:Addr,(if c=j then some (⟨b,0,none⟩:Addr) else some ⟨b,j * 43,none⟩)=some Ad∧∀ t u,(xs.drop (j * 43))[t]? = some u→w.drew.cell? (Ad.add t)=some u:=by
  by_cases h:c=j
  ·refine ⟨⟨b,0,none⟩, by simp [h], fun t u hu=>?_⟩
   have h0:(xs.drop (j * 43)).length=0:=by rw [hnl, show n - j=0 by omega,Nat.zero_mul]
   rw [List.length_eq_zero_iff.1 h0] at hu
   simp at hu
  ·refine ⟨⟨b,j * 43,none⟩, by simp [h], fun t u hu=>?_⟩
   rw [Addr.add_lit]
   rw [List.getElem?_drop] at hu
   exact hcc _ _ (hxg _ _ hu)
 obtain ⟨D1,hD1⟩:∃ D1,D1=(C.toList.take (i * 43)++xs.drop (j * 43)++C.toList.drop (i * 43+(xs.drop (j * 43)).length)).toArray:=⟨_,rfl⟩
 have hap:∀ ty,(Builtin.append_ #[88,88] ty #[.slice (some ⟨b,0,none⟩) i c,.slice (some Ad) (n - j) (c - j)]).run Tryz.prog w.drew=.ok (.slice (some ⟨b,0,none⟩) (i+(n - j)) c) (w.drew.setRow b D1):=fun ty=>by
  have e:=run_append_room (P:=Tryz.prog) (w:=w.drew) 88 ty 94 i0 u22 hi0 b i c C hC Ad (n - j) (c - j) (xs.drop (j * 43)) (by rw [hzs,hnl]) hsrc (fun v hv=>h1x v (List.mem_of_mem_drop hv)) (by omega) (by rw [hzs,hnl,hCs]; omega)
  rw [hzs] at e
  rw [hD1]; exact e
 have hD1s:D1.size=C.size:=by
  rw [hD1]; simp only [List.size_toArray,List.length_append,List.length_take,List.length_drop,Array.length_toList,hxl]; omega
 have hD1t:D1.toList.take ((i+(n - j)) * 43)=xs.take (i * 43)++xs.drop (j * 43):=by
  have el:(C.toList.take (i * 43)).length=i * 43:=by rw [List.length_take,Array.length_toList]; omega
  have e2:C.toList.take (i * 43)=xs.take (i * 43):=by rw [← hxs,List.take_take]; congr 1; omega
  rw [hD1,List.take_append_of_le_length (by rw [List.length_append,el,hnl]; omega),List.take_of_length_le (by rw [List.length_append,el,hnl]; omega),e2]
 have hB1:(w.drew.setRow b D1).heap[b]? = some (.cells D1 94 (0,0)):=setRow_heap w.drew b C D1 94 (0,0) hC
 obtain ⟨D2,hcl,hD2s,hD2t⟩:=z10y (P:=Tryz.prog) (w.drew.setRow b D1) 88 94 u22 zjh (by rfl) (by decide) (by decide) b ((i+(n - j)) * 43) (n - (i+(n - j))) D1 94 hB1 (by omega) (by rw [hD1s,hCs]; omega)
 obtain ⟨W1,hW1⟩:∃ W1,W1=w.drew.setRow b D1:=⟨_,rfl⟩
 have hfin:w.drew.setRow b D2=W1.setRow b D2:=by rw [hW1,setRow_setRow]
 rw [← hW1] at hcl hap
 have hic:i≤c:=by omega
 have hjc:j≤c:=by omega
 have hres:D2.size=C.size∧D2.toList.take ((i+(n - j)) * 43)=xs.take (i * 43)++xs.drop (j * 43):=⟨hD2s.trans hD1s,hD2t.trans hD1t⟩
 clear hcc hxg hD1 hxs hC hB1 h1x hnl hxl hsrc hD1s hD1t hD2s hD2t hz0 hzb hW1
 have hmix:Tryz.prog.follows .mixedOrders=true:=mixed
 go_enter Tryz.func92,Tryz.ntmps92
 go_wp2_with fail
 go_region_law_o (refine zrn rfl (.tmp 22) (.tmp 25) 88 88 rfl (.slice (some ⟨b,0,none⟩) i c) (.slice (some Ad) (n - j) (c - j)) (by simp [Act.eval,Act.put]) (by simp [Act.eval,Act.put,hA]) (hap _) ?_)
 go_wp2_with (simp only [hcl])
 go_ret
 exact ⟨rfl,D2,hfin.symm,hres⟩
end
end
section
open Go Go.RowKit
def delL {α:Type} (c0:List α) (i j:Int):Option (List α):=chk ((0≤i∧i≤j)∧j.toNat≤c0.length∧c0.length≤1000000) >>= fun _=>some (c0.take i.toNat++c0.drop j.toNat)
theorem zyi {α:Type} {R:Rep α} (hR:R.sz=43) (p0:Value) (c0:List α) (i j:Int):z2k Tryz.prog 92 [.val p0,.rd z0i i,.rd z0i j] [(1,some (p0,.list R 94 c0))] (delL c0 i j)
  (fun r nv=>⟨[.val (nv 0)],[(100,some (nv 0,.list R 94 r))]⟩):=by
 intro r hr H vs w hvs hres
 have hb:((0≤i∧i≤j)∧j.toNat≤c0.length∧c0.length≤1000000)∧r=c0.take i.toNat++c0.drop j.toNat:=by
  unfold delL chk at hr
  split at hr
  ·rename_i h; simp at hr; exact ⟨h,hr.symm⟩
  ·simp at hr
 obtain ⟨⟨⟨hi0,hij⟩,hj,hn⟩,rfl⟩:=hb
 match vs,hvs with
 | [v0,v1,v2],hvs =>
 obtain ⟨h0,h1,h2,_⟩:=hvs
 have e0:v0=p0:=h0.1
 have e1:v1=.int .i64 i:=z3p h1
 have e2:v2=.int .i64 j:=z3p h2
 subst e0; subst e1; subst e2
 obtain ⟨i,rfl⟩:∃ k:Nat,i=(k:Int):=⟨i.toNat, by omega⟩
 obtain ⟨j,rfl⟩:∃ k:Nat,j=(k:Int):=⟨j.toNat, by omega⟩
 simp only [Int.toNat_natCast] at hj ⊢
 have hij:i≤j:=by omega
 have only:∀ v' r v c (q:z3v),lr [(100,some (v',q))] r=some (v,c)→r=100∧v=v'∧c=q:=fun v' r v c q h=>by
  rw [z2u] at h
  split at h
  ·rename_i e; cases h; exact ⟨e.symm,rfl,rfl⟩
  ·simp [lr,lk] at h
 have hlen:(c0.take i++c0.drop j).length=i+(c0.length - j):=by
  simp only [List.length_append,List.length_take,List.length_drop]; omega
 rcases hres.conts 1 v0 _ rfl with ⟨rfl,rfl⟩ | ⟨b,o,k1,k2,b',cap,C,k3,rfl,k4,k5,k6,k7⟩
 ·simp only [List.length_nil,Nat.le_zero] at hj
  have hi:i=0:=by omega
  subst hj; subst hi
  refine (zpe 0 0 0 w none (Nat.le_refl _) (Nat.le_refl _) (by omega)).mono fun e w' ⟨he,hw⟩=>?_
  subst hw
  refine ⟨fun _=>.slice none 0 0,[.slice none 0 0],he,⟨⟨rfl,rfl⟩,trivial⟩, fun r v c h=>?_, fun r v c r' v' c' h h' hne=>?_, fun r v c h b hb=>?_,zgr.rfl'⟩
  ·obtain ⟨rfl,rfl,rfl⟩:=only _ _ _ _ _ h
   exact .inl ⟨rfl,rfl⟩
  ·exact absurd ((only _ _ _ _ _ h).1.trans (only _ _ _ _ _ h').1.symm) hne
  ·obtain ⟨rfl,rfl,rfl⟩:=only _ _ _ _ _ h; cases hb
 ·subst k3
  simp only [z3u,Option.some.injEq] at k1
  subst k1
  have hlt:b'<w.heap.size:=(Array.getElem?_eq_some_iff.1 k2).1
  have hcm:cap≤9223372036854775807:=by unfold maxLen at k5; omega
  rw [hR] at k6 k7
  have main:Calls Tryz.prog 92 #[.slice (some ⟨b',0,none⟩) c0.length cap,.int .i64 i,.int .i64 j] w fun e w'=>e=.returned (.slice (some ⟨b',0,none⟩) (i+(c0.length - j)) cap) ∧
    ∃ D,w'.heap[b']? = some (.cells D 94 (0,0))∧w.grownBy w' (some b')∧D.size=C.size∧D.toList.take ((i+(c0.length - j)) * 43)=(C.toList.take (c0.length * 43)).take (i * 43)++(C.toList.take (c0.length * 43)).drop (j * 43):=by
   rcases Nat.lt_or_ge i j with h | h
   ·refine (zup b' c0.length cap i j _ C w h hj k4 hcm k2 k6 rfl (fun v hv=>k7.one v hv)).mono fun e w' ⟨he,D,hw,hD,hT⟩=>⟨he,D,?_,?_,hD,hT⟩
    ·rw [hw]; exact setRow_heap w.drew b' C D 94 (0,0) k2
    ·rw [hw]
     refine ⟨rfl,rfl,rfl,?_, fun k hk hne=>?_⟩
     ·rw [setRow_size]; exact Nat.le_refl _
     ·rw [setRow_other w.drew b' k D (fun e=>hne (by rw [e]))]; rfl
   ·have e:j=i:=by omega
    subst e
    refine (zpe c0.length cap j w _ hj k4 hcm).mono fun e w' ⟨he,hw⟩=>⟨by rw [he, show j+(c0.length - j)=c0.length by omega],C, by rw [hw]; exact k2, by rw [hw]; exact ⟨rfl,rfl,rfl,Nat.le_refl _, fun _ _ _=>rfl⟩,rfl,?_⟩
    rw [show j+(c0.length - j)=c0.length by omega,List.take_append_drop]
  refine main.mono fun e w' ⟨he,D,hD,hg,hs,ht⟩=>?_
  have hst:z7g (Shr H [(1,some (.slice (some ⟨b',0,none⟩) c0.length cap,.list R 94 c0))] w) (Shr H [(100,some (.slice (some ⟨b',0,none⟩) (i+(c0.length - j)) cap,.list R 94 (c0.take i++c0.drop j)))] w') w w':=fun k hk=>by
   have hne:k≠b':=fun e=>hk.2.1 1 _ _ rfl (by rw [e]; rfl)
   refine ⟨⟨Nat.lt_of_lt_of_le hk.1 hg.size, fun r v c h=>?_,hk.2.2⟩,hg.block k hk.1 (fun e=>hne (Option.some.inj e))⟩
   obtain ⟨rfl,rfl,rfl⟩:=only _ _ _ _ _ h
   exact fun e=>hne (Option.some.inj e).symm
  refine ⟨fun _=>.slice (some ⟨b',0,none⟩) (i+(c0.length - j)) cap,[.slice (some ⟨b',0,none⟩) (i+(c0.length - j)) cap],he,⟨⟨rfl,rfl⟩,trivial⟩, fun r v c h=>?_, fun r v c r' v' c' h h' hne=>?_, fun r v c h b hb=>?_,hg.os,hg.tape,hg.output,hg.size, fun k hk=>?_⟩
  ·obtain ⟨rfl,rfl,rfl⟩:=only _ _ _ _ _ h
   refine .inr ⟨b',_,rfl,hD,b',cap,D, by rw [hlen],rfl, by rw [hlen]; omega,k5, by rw [hs,k6,hR],?_⟩
   rw [hlen,hR,ht]
   have x2:=k7.mono hst
   have a1:=x2.take i
   have a2:=x2.drop j
   rw [hR] at a1 a2
   exact a1.append a2
  ·exact absurd ((only _ _ _ _ _ h).1.trans (only _ _ _ _ _ h').1.symm) hne
  ·obtain ⟨rfl,rfl,rfl⟩:=only _ _ _ _ _ h
   exact .inr ⟨1,_,_,rfl,hb⟩
  ·refine hg.block k hk.1 fun e=>hk.2 ⟨1,_,_,rfl,?_⟩
   rw [Option.some.inj e]; rfl
end
end Go.Proofs.YtojceajkeefnpaaGreatDoor
