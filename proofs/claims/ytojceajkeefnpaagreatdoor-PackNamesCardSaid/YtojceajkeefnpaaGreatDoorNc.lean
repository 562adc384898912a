import Derived.Test.YtojceajkeefnpaaGreatDoorNb
set_option linter.unusedSimpArgs false
set_option linter.unusedVariables false
namespace Go.Proofs.YtojceajkeefnpaaGreatDoor
section
open Go Go.RowKit
set_option maxRecDepth 100000
theorem zdc (a1:Int):z2v Tryz.prog 151 [.val (.slice none 0 0),.rd z0k a1] [] (z2y a1) (fun r nv=>⟨[.val (nv 0)],[(100,some (nv 0,.list u8R 5 r))]⟩):=by
 refine z3y 27 Tryz.func151 Z Z Z fun H w=>?_
 refine gSR<|Zb Z<|z1h<|gSR<|Zm Z<|Zq (I.lss Z Z)<|Zj Z (fun h1=>?_) (fun h1=>?_)
 ·refine z147
 ·refine Zt<|z1h<|gSR<|Zm Z<|Zm Z<|Zq (capN Z Z tu52)<|Zm Z<|z113 u8R 11 Z<|Zq (z4u Z .rd Z tu52)<|Zq (I.sub Z Z)<|Zq (I.sub Z Z)<|Za Z<|z2z 1 Z fun y2=>Zn<|gSR<|Zm Z<|Zq (I.gtr Z Z)<|Zj Z (fun h3=>?_) (fun h3=>?_)
  ·refine z2x<|Zm Z<|Zm Z<|Zq (capN Z Z tu52)<|Zq (cutN Z Z tu52 ti5)<|Zm Z<|z0u fun x4 h5=>Ef Z (apZ 1 Z Z h5 tu52 tu3 ti5 (Zr.num Z) Z) fun v6=>Zm Z<|z113 u8R 23 Z<|Zq (z4u Z .rd Z tu52)<|z0u fun x7 h8=>Ef Z (cutO 1 Z Z Z h8 tu52 ti5) fun v9=>Zb Z<|gSR<|Zm Z<|Zb Z<|z14<|Ze [v9] [1] Z
  ·refine Zt<|gSR<|Zm Z<|Zb Z<|z14<|zjg u8R 5 2<|Ze [(.slice none 0 0)] [2] Z
def z0t (a0:List (List UInt8)) (s2:Int × Int):Option (Sum Int (Int × Int)) :=
 if decide (s2.2<(a0.length:Int)) then
  idx a0 s2.2 >>= fun x4 =>
  some (w64 (s2.1+(x4.length:Int))) >>= fun y6 =>
  if decide (y6<0) then
   none
  else
   some (.inr (y6,w64 (s2.2+1)))
 else
  some (.inl s2.1)
def z0s (a0:List (List UInt8)) (s11:(List UInt8) × Int):Option (Sum ((List UInt8)) ((List UInt8) × Int)) :=
 if decide (s11.2<(a0.length:Int)) then
  idx a0 s11.2 >>= fun x14 =>
  app 1 s11.1 x14 >>= fun x16 =>
  some (.inr (x16,w64 (s11.2+1)))
 else
  some (.inl s11.1)
def z1x (a0:List (List UInt8)):Option ((List UInt8)) :=
 (iter (z0t a0) (0,0)) >>= fun s1 =>
 z2y s1 >>= fun r8 =>
 (iter (z0s a0) (r8,0)) >>= fun s10 =>
 some s10
theorem z4z (a0:List (List UInt8)):z2v Tryz.prog 108 [.rd (z02 (z02 u8R)) a0] [] (z1x a0) (fun r nv=>⟨[.val (nv 0)],[(100,some (nv 0,.list u8R 5 r))]⟩):=by
 refine z3y 36 Tryz.func108 Z Z Z fun H w=>?_
 refine gSR<|Zb Z<|gSR<|Zb Z<|zas (fun (s1:Int) aa ww=>Sta (ctx 36 H [] w) [(0,.rd (z02 (z02 u8R)) a0),(3,.rd z0k s1)] [] aa ww) ?_ (fun s1=>?_)
 ·refine gSR<|Zm Z<|Zq (z4u Z .rd Z tu193)<|Zm Z<|Zn<|z3v (fun (s2:Int × Int) aa ww=>Sta (ctx 36 H [] w) [(0,.rd (z02 (z02 u8R)) a0),(3,.rd z0k s2.1),(9,.rd (z02 (z02 u8R)) a0),(10,.rd z0k (a0.length:Int)),(11,.rd z0k s2.2)] [] aa ww) (fun aa ww h=>Zu h []) (fun s2=>?_)
  refine gSR<|Zq (I.lss Z Z)<|Zn<|z1h<|gIf Z Z (fun h3=>?_) (fun h3=>?_)
  ·refine Zt<|z1h<|z95<|gSR<|z0u fun x4 h5=>Zq (ixR Z Z h5 tu193 zdf Z)<|Zq (ldR Z zjx)<|Zb Z<|gSR<|Zm Z<|Zm Z<|Zq (z4u Z .rd Z tu52)<|Zq (I.add Z Z)<|Za Z<|z2z 3 Z fun y6=>Zn<|gSR<|Zm Z<|Zq (I.lss Z Z)<|Zj Z (fun h7=>?_) (fun h7=>?_)
   ·refine z147
   ·refine z6o<|z5x<|z1r<|z2x<|Zq (I.add Z Z)<|Zm Z<|z2i<|z2r (fun aa ww h=>Zu h [])
  ·refine z3u<|z2a<|z2b<|z4j (fun aa ww h=>Zu h [])
 ·refine gSR<|Zm Z<|Zc [] [(100,1)] Tryz.func151 Z (zdc _) fun r8 n9=>Zb Z<|zas (fun (s10:(List UInt8)) aa ww=>∃ nv:Nat→Value,Sta (ctx 36 H [] w) [(6,.val (nv 0))] [(1,some ((nv 0),.list u8R 5 s10))] aa ww) ?_ (fun s10=>?_)
  ·refine gSR<|Zm Z<|Zq (z4u Z .rd Z tu193)<|Zm Z<|Zn<|z3v (fun (s11:(List UInt8) × Int) aa ww=>∃ nv:Nat→Value,Sta (ctx 36 H [] w) [(6,.val (nv 0)),(25,.rd (z02 (z02 u8R)) a0),(26,.rd z0k (a0.length:Int)),(27,.rd z0k s11.2)] [(1,some ((nv 0),.list u8R 5 s11.1))] aa ww) (fun aa ww h=>⟨nvl [(n9 0)],Zu h [1]⟩) (fun s11=>?_)
   refine gEx fun n12=>gSR<|Zq (I.lss Z Z)<|Zn<|z1h<|gIf Z Z (fun h13=>?_) (fun h13=>?_)
   ·refine Zt<|z1h<|z95<|gSR<|z0u fun x14 h15=>Zq (ixR Z Z h15 tu193 zdf Z)<|Zq (ldR Z zjx)<|Zb Z<|z2x<|Zm Z<|Zm Z<|z0u fun x16 h17=>Ef Z (apn 1 Z Z Z .rd h17 tu52 ti5 Z Z Z) fun v18=>Za Z<|z2i<|z5x<|z1r<|z2x<|Zq (I.add Z Z)<|Zm Z<|z2i<|z2r (fun aa ww h=>⟨nvl [v18],Zu h [1]⟩)
   ·refine z3u<|z2a<|z2b<|z4j (fun aa ww h=>⟨nvl [(n12 0)],Zu h [1]⟩)
  ·refine gEx fun n19=>gSR<|Zm Z<|Zb Z<|z14<|Ze [(n19 0)] [1] Z
def za9 (a0:List UInt8):Option ((List UInt8) × Int) :=
 if decide (10000<(a0.length:Int)) then
  some ([],4)
 else
  z3m (UInt64.ofInt (a0.length:Int)) >>= fun r2 =>
  app 1 r2 a0 >>= fun x4 =>
  some (x4,0)
theorem ze1 (a0:List UInt8):z2v Tryz.prog 59 [.rd (z02 u8R) a0] [] (za9 a0) (fun r nv=>⟨[.val (nv 0),.rd z0k r.2],[(100,some (nv 0,.list u8R 5 r.1))]⟩):=by
 refine z3y 13 Tryz.func59 Z Z Z fun H w=>?_
 refine gSR<|Za Z<|Zb Z<|z1h<|gSR<|Zm Z<|Zq (z4u Z .rd Z tu52)<|Zq (I.gtr Z Z)<|Zj Z (fun h1=>?_) (fun h1=>?_)
 ·refine gSR<|Za Z<|Zb Z<|z14<|z1c<|zjg u8R 5 1<|Ze [(.slice none 0 0)] [1] Z
 ·refine Zt<|gSR<|Zm Z<|Zq (z4u Z .rd Z tu52)<|Zq (I.toU Z tu3 tu35)<|Zc [] [(100,2)] Tryz.func57 Z (z30 _) fun r2 n3=>Zm Z<|z0u fun x4 h5=>Ef Z (apn 2 Z Z Z .rd h5 tu52 ti5 Z Z Z) fun v6=>Za Z<|Zb Z<|z14<|Ze [v6] [2] Z
def zeb (a0:Int):Option ((List UInt8)) :=
 z3m ((zh8 (UInt64.ofInt a0) 1) ^^^ (UInt64.ofInt (shrI a0 63))) >>= fun r1 =>
 some r1
theorem zli (a0:Int):z2v Tryz.prog 193 [.rd z0k a0] [] (zeb a0) (fun r nv=>⟨[.val (nv 0)],[(100,some (nv 0,.list u8R 5 r))]⟩):=by
 refine z3y 11 Tryz.func193 Z Z Z fun H w=>?_
 refine gSR<|Zb Z<|gSR<|Zm Z<|Zq (I.toU Z Tryz.underlying2 tu35)<|Zq (U.shl Z Z (Int.natCast_nonneg _))<|Zm Z<|Zq (I.shr Z Z (Int.natCast_nonneg _))<|Zq (I.toU Z Tryz.underlying2 tu35)<|Zq (U.xor Z Z)<|Zc [] [(100,1)] Tryz.func57 Z (z30 _) fun r1 n2=>Zb Z<|z14<|Ze [(n2 0)] [1] Z
def z7c (a0:z00) (s14:(List UInt8) × Int):Option (Sum ((List UInt8)) ((List UInt8) × Int)) :=
 if decide (0≤s14.2) then
  chk (0≤s14.2) >>= fun u17 =>
  app 1 s14.1 [(z5p a0.Bits ((s14.2:Int).toNat)).toUInt8] >>= fun x20 =>
  some (w64 (s14.2 - 8)) >>= fun y23 =>
  some (.inr (x20,y23))
 else
  some (.inl s14.1)
def zct (a0:z00):Option ((List UInt8) × Int) :=
 z7p a0 >>= fun r2 =>
 if r2 != 0 then
  some ([],r2)
 else
  (if a0.Kind==1 then
   zeb a0.Num >>= fun r8 =>
   app 1 [a0.Kind] r8 >>= fun x10 =>
   some x10
  else
   if a0.Kind==2 then
    iter (z7c a0) ([a0.Kind],56)
   else
    if a0.Kind==3 then
     chk (a0.Text.length≤281474976710656) >>= fun u25 =>
     za9 a0.Text >>= fun r27 =>
     app 1 [a0.Kind] r27.1 >>= fun x29 =>
     some x29
    else
     some [a0.Kind]) >>= fun s6 =>
  some (s6,0)
theorem zjs (a0:z00):z2v Tryz.prog 150 [.rd z0y a0] [] (zct a0) (fun r nv=>⟨[.val (nv 0),.rd z0k r.2],[(100,some (nv 0,.list u8R 5 r.1))]⟩):=by
 refine z3y 53 Tryz.func150 Z Z Z fun H w=>?_
 refine gSR<|Eb Z (bx 1 Z) fun v1=>Za Z<|Zb Z<|z1h<|gSR<|Zq (ld 1 Z Z fH znb Z)<|Zc [] [] Tryz.func191 Z (zd2 _) fun r2 n3=>Zb Z<|gSR<|Zm Z<|Zq (I.neq Z Z)<|Zj Z (fun h4=>?_) (fun h4=>?_)
 ·refine gSR<|Zm Z<|Za Z<|Zb Z<|z14<|z1c<|zjg u8R 5 2<|Ze [(.slice none 0 0)] [2] Z
 ·refine Zt<|gSR<|Zq (faB 1 Z Z Tryz.underlying37 Z (by exact ti5))<|Zq (ld 1 Z Z (fP (z2m _)) ty5 Z)<|Ef Z (lit (R:=u8R) ([a0.Kind]:List UInt8) 3 (pP Z Z<|pN) Z tu52 ti5 Z Z) fun v5=>Zb Z<|zas (fun (s6:(List UInt8)) aa ww=>∃ nv:Nat→Value,Sta (ctx 53 H [] w) [(5,.val (nv 0))] [(3,some ((nv 0),.list u8R 5 s6))] aa ww) ?_ (fun s6=>?_)
  ·refine gSR<|Zq (faB 1 Z Z Tryz.underlying37 Z (by exact ti5))<|Zq (ld 1 Z Z (fP (z2m _)) ty5 Z)<|Zn<|z95<|gSR<|Zq (B.eql Z Z)<|Zb Z<|gIf Z Z (fun h7=>?_) (fun h7=>?_)
   ·refine gKn 20 Z h7<|z2x<|Zm Z<|Zq (faB 1 Z Z Tryz.underlying37 Z (by exact ti2))<|Zq (ld 1 Z Z (fP (z8m _)) ty2 Z)<|Zc [] [(100,4)] Tryz.func193 Z (zli _) fun r8 n9=>z0u fun x10 h11=>Ef Z (apn 3 Z Z Z (.own 4 Z) h11 tu52 ti5 Z Z Z) fun v12=>Za Z<|z2i<|z5x<|z4j (fun aa ww h=>⟨nvl [v12],Zu h [3]⟩)
   ·refine gKn 20 Z h7<|gSR<|Zq (B.eql Z Z)<|Zb Z<|gIf Z Z (fun h13=>?_) (fun h13=>?_)
    ·refine gKn 27 Z h13<|gSR<|Zb Z<|z3v (fun (s14:(List UInt8) × Int) aa ww=>∃ nv:Nat→Value,Sta (ctx 53 H [] w) [(1,.val (z0l v1 0)),(5,.val (nv 0)),(6,.rd z0k s14.2)] [(1,some (v1,.box 37 [.rd z0y a0])),(3,some ((nv 0),.list u8R 5 s14.1))] aa ww) (fun aa ww h=>⟨nvl [v5],Zu h [1,3]⟩) (fun s14=>?_)
     refine gEx fun n15=>z1h<|gSR<|Zm Z<|Zq (I.geq Z Z)<|Zj Z (fun h16=>?_) (fun h16=>?_)
     ·refine Zt<|z1h<|z95<|z2x<|Zm Z<|Zq (faB 1 Z Z Tryz.underlying37 Z (by exact zw3))<|Zq (ld 1 Z Z (fP (z63 _)) ty35 Z)<|Zm Z<|z0u fun u17 h18=>Zq (U.shr Z Z (z9f h18))<|Zq (U.toB Z tu35 tu5)<|Ef Z (lit (R:=u8R) ([(z5p a0.Bits ((s14.2:Int).toNat)).toUInt8]:List UInt8) 5 (pP Z Z<|pN) Z tu52 ti5 Z Z) fun v19=>z0u fun x20 h21=>Ef Z (apn 3 Z Z Z (.own 5 Z) h21 tu52 ti5 Z Z Z) fun v22=>Za Z<|z2i<|z5x<|z1r<|z2x<|Zm Z<|Zq (I.sub Z Z)<|Za Z<|z2z 6 Z fun y23=>z2i<|z2r (fun aa ww h=>⟨nvl [v22],Zu h [1,3]⟩)
     ·refine z3u<|z2a<|z2b<|z5x<|z4j (fun aa ww h=>⟨nvl [(n15 0)],Zu h [3]⟩)
    ·refine gKn 27 Z h13<|gSR<|Zq (B.eql Z Z)<|Zb Z<|gIf Z Z (fun h24=>?_) (fun h24=>?_)
     ·refine gKn 41 Z h24<|gSR<|Zq (faB 1 Z Z Tryz.underlying37 Z (by exact ti9))<|Zq (ld 1 Z Z (fP (z82 _)) ty9 Z)<|z0u fun u25 h26=>z163 Z Z h26 tu9 tu52 tu5<|Zc [] [(100,6)] Tryz.func59 Z (ze1 _) fun r27 n28=>Zm Z<|Zq (ext Z Z)<|Zq (ext Z Z)<|Za Z<|Zb Z<|z2x<|Zm Z<|Zm Z<|z0u fun x29 h30=>Ef Z (apn 3 Z Z Z (.own 6 Z) h30 tu52 ti5 Z Z Z) fun v31=>Za Z<|z2i<|z5x<|z4j (fun aa ww h=>⟨nvl [v31],Zu h [3]⟩)
     ·refine gKn 41 Z h24<|z6o<|z5x<|z4j (fun aa ww h=>⟨nvl [v5],Zu h [3]⟩)
  ·refine gEx fun n32=>gSR<|Zm Z<|Za Z<|Zb Z<|z14<|Ze [(n32 0)] [3] Z
def zdk (a0:z01):Option ((List UInt8) × Int) :=
 zcm ({ a0 with Sig:=(⟨0,0⟩:z05) }) >>= fun r2 =>
 if r2 != 0 then
  some ([],r2)
 else
  ziz (({ a0 with Sig:=(⟨0,0⟩:z05) }).Preds) >>= fun r5 =>
  z3m ((({ a0 with Sig:=(⟨0,0⟩:z05) }).Author).toUInt64) >>= fun r7 =>
  z3m (({ a0 with Sig:=(⟨0,0⟩:z05) }).Stamp) >>= fun r10 =>
  z1x [[111],r7,r5.1,r10,[(({ a0 with Sig:=(⟨0,0⟩:z05) }).Act).Kind]] >>= fun r13 =>
  if ((({ a0 with Sig:=(⟨0,0⟩:z05) }).Act).Kind)==1 then
   some (r13,0)
  else
   chk (((({ a0 with Sig:=(⟨0,0⟩:z05) }).Act).Key).length≤281474976710656) >>= fun u18 =>
   za9 ((({ a0 with Sig:=(⟨0,0⟩:z05) }).Act).Key) >>= fun r20 =>
   app 1 r13 r20.1 >>= fun x22 =>
   if ((({ a0 with Sig:=(⟨0,0⟩:z05) }).Act).Kind)==4 then
    zct ((({ a0 with Sig:=(⟨0,0⟩:z05) }).Act).Value) >>= fun r26 =>
    app 1 x22 r26.1 >>= fun x28 =>
    some (x28,0)
   else
    some (x22,0)
set_option maxHeartbeats 4000000 in
theorem zho (a0:z01):z2v Tryz.prog 107 [.rd z04 a0] [] (zdk a0) (fun r nv=>⟨[.val (nv 0),.rd z0k r.2],[(100,some (nv 0,.list u8R 5 r.1))]⟩):=by
 refine z3y 71 Tryz.func107 Z Z Z fun H w=>?_
 refine gSR<|Eb Z (bx 1 Z) fun v1=>Za Z<|Zb Z<|gSR<|Zq (bld (x':=(⟨0,0⟩:z05)) [(0,1),(1,1)] Tryz.underlying41 zsk Z zi0 Z (Bld.done Z))<|Zq (faB 1 Z Z Tryz.underlying43 Z (by exact zsk))<|Es (sto 1 Z Z (fP (z5g _)) Z zsk)<|Zn<|z1h<|gSR<|Zq (ld 1 Z Z fH z9s Z)<|Zc [] [] Tryz.func106 Z (zdy _) fun r2 n3=>Zb Z<|gSR<|Zm Z<|Zq (I.neq Z Z)<|Zj Z (fun h4=>?_) (fun h4=>?_)
 ·refine gSR<|Zm Z<|Za Z<|Zb Z<|z14<|z1c<|zjg u8R 5 2<|Ze [(.slice none 0 0)] [2] Z
 ·refine Zt<|gSR<|Zq (faB 1 Z Z Tryz.underlying43 Z (by exact zd4))<|Zq (ld 1 Z Z (fP (z1m _)) zi6 Z)<|Zc [] [(100,3)] Tryz.func149 Z (zqw _) fun r5 n6=>Zm Z<|Zq (ext Z Z)<|Zq (ext Z Z)<|Za Z<|Zb Z<|z1h<|gFrz 3 [23,5] Z (fS Z<|fS Z<|fN)<|gSub [(1,.val (z0l v1 0)),(5,.rd (z02 u8R) r5.1)] [(1,some (v1,.box 43 [.rd z04 ({ a0 with Sig:=(⟨0,0⟩:z05) })]))] [1] (sS Z<|sS Z<|sN) (y1 Z)<|zde fun r7 h9=>zde fun r10 h12=>zde fun r13 h15=>gOr [] [⟨4,none,[(0,none)]⟩,⟨1,some ([], fun nv=>(v1,.box 43 [.rd z04 ({ a0 with Sig:=(⟨0,0⟩:z05) })])),[]⟩,⟨5,none,[(4,none)]⟩,⟨6,none,[(8,none)]⟩,⟨7,none,[(12,none)]⟩,⟨8,none,[(13,none)]⟩,⟨9,none,[(14,some ([6], fun nv=>((nv 6),.list u8R 5 r13)))]⟩] [⟨some (25,[], fun nv=>.rd (z02 u8R) [111]),[(0,0,true)],[1],[]⟩,pk 26 (.val (z0l v1 (0+0))) [(1,0,false)],pk 27 (.rd z11 (({ a0 with Sig:=(⟨0,0⟩:z05) }).Author)) [(1,0,false)],pd 28 (.rd z23 ((({ a0 with Sig:=(⟨0,0⟩:z05) }).Author).toUInt64)),⟨some (29,[], fun nv=>.rd (z02 u8R) r7),[(2,0,true)],[2],[]⟩,pd 30 (.rd (z02 u8R) r5.1),pk 31 (.val (z0l v1 (0+2))) [(1,0,false)],pk 32 (.rd z23 (({ a0 with Sig:=(⟨0,0⟩:z05) }).Stamp)) [(1,0,false)],⟨some (33,[], fun nv=>.rd (z02 u8R) r10),[(3,0,true)],[3],[]⟩,pk 34 (.val (z0l v1 (0+3))) [(1,0,false)],pk 35 (.val (z0l v1 (0+3+0))) [(1,0,false)],pk 36 (.rd u8R ((({ a0 with Sig:=(⟨0,0⟩:z05) }).Act).Kind)) [(1,0,false)],⟨some (37,[], fun nv=>.rd (z02 u8R) [(({ a0 with Sig:=(⟨0,0⟩:z05) }).Act).Kind]),[(4,0,true)],[4],[]⟩,⟨some (38,[], fun nv=>.rd (z02 (z02 u8R)) [[111],r7,r5.1,r10,[(({ a0 with Sig:=(⟨0,0⟩:z05) }).Act).Kind]]),[(5,0,true)],[5],[]⟩,⟨some (39,[6], fun nv=>.val (nv 6)),[(6,0,true)],[6],[]⟩,⟨some (7,[6], fun nv=>.val (nv 6)),[],[],[]⟩] mixed (oC (oFz (A1:=fun nv=>[(4,some ((nv 1),.list u8R 5 [111]))]) 4 1 (oEf 4 1 (fun nv E=>lit (R:=u8R) ([111]:List UInt8) 4 (pP Z Z<|pN) Z tu52 ti5 Z Z)))<|oC (oRn (fun nv E=>faB 1 Z Z Tryz.underlying43 Z (by exact z93)))<|oC (oRn (fun nv E=>ld 1 Z Z (fP (z58 _)) zd7 Z))<|oC (oRn (fun nv E=>W.toU Z tu34 tu35))<|oC (oFz (A1:=fun nv=>[(5,some ((nv 2),.list u8R 5 r7))]) 5 2 (oCl [2] [] [(100,5)] h9 Tryz.func57 Z (fun nv=>(z30 _)) (fun nv=>(Y1 Z)) (fun nv E=>rN)))<|oC (oRn (fun nv E=>mv Z))<|oC (oRn (fun nv E=>faB 1 Z Z Tryz.underlying43 Z (by exact zw3)))<|oC (oRn (fun nv E=>ld 1 Z Z (fP (z9m _)) ty35 Z))<|oC (oFz (A1:=fun nv=>[(6,some ((nv 3),.list u8R 5 r10))]) 6 3 (oCl [3] [] [(100,6)] h12 Tryz.func57 Z (fun nv=>(z30 _)) (fun nv=>(Y1 Z)) (fun nv E=>rN)))<|oC (oRn (fun nv E=>faB 1 Z Z Tryz.underlying43 Z (by exact zq4)))<|oC (oRn (fun nv E=>faB 1 Z Z Tryz.underlying39 Z (by exact ti5)))<|oC (oRn (fun nv E=>ld 1 Z Z ((fP (z5i _)).part (z35 _)) ty5 Z))<|oC (oFz (A1:=fun nv=>[(7,some ((nv 4),.list u8R 5 [(({ a0 with Sig:=(⟨0,0⟩:z05) }).Act).Kind]))]) 7 4 (oEf 7 4 (fun nv E=>lit (R:=u8R) ([(({ a0 with Sig:=(⟨0,0⟩:z05) }).Act).Kind]:List UInt8) 7 (pP Z Z<|pN) Z tu52 ti5 Z Z)))<|oC (oFz (A1:=fun nv=>[(8,some ((nv 5),.list (z02 u8R) 52 [[111],r7,r5.1,r10,[(({ a0 with Sig:=(⟨0,0⟩:z05) }).Act).Kind]]))]) 8 5 (oEf 8 5 (fun nv E=>lit (R:=(z02 u8R)) ([[111],r7,r5.1,r10,[(({ a0 with Sig:=(⟨0,0⟩:z05) }).Act).Kind]]:List (List UInt8)) 8 (pP Z Z<|pP Z Z<|pP Z Z<|pP Z Z<|pP Z Z<|pN) Z tu193 zdf Z Z)))<|oC (oCl [6] [] [(100,9)] h15 Tryz.func108 Z (fun nv=>(z4z _)) (fun nv=>(Y1 Z)) (fun nv E=>rN))<|oC (oRn (fun nv E=>asg Z))<|oN) fun n16=>z1r<|z1h<|gSR<|Zq (faB 1 Z Z Tryz.underlying43 Z (by exact zq4))<|Zq (faB 1 Z Z Tryz.underlying39 Z (by exact ti5))<|Zq (ld 1 Z Z ((fP (z5i _)).part (z35 _)) ty5 Z)<|Zq (B.eql Z Z)<|Zj Z (fun h17=>?_) (fun h17=>?_)
  ·refine gSR<|Zm Z<|Za Z<|Zb Z<|z14<|z1c<|Ze [(n16 6)] [9] Z
  ·refine Zt<|gSR<|Zq (faB 1 Z Z Tryz.underlying43 Z (by exact zq4))<|Zq (faB 1 Z Z Tryz.underlying39 Z (by exact ti9))<|Zq (ld 1 Z Z ((fP (z5i _)).part (z8e _)) ty9 Z)<|z0u fun u18 h19=>z163 Z Z h19 tu9 tu52 tu5<|Zc [] [(100,10)] Tryz.func59 Z (ze1 _) fun r20 n21=>Zm Z<|Zq (ext Z Z)<|Zq (ext Z Z)<|Za Z<|Zb Z<|gSR<|Zm Z<|Zm Z<|z0u fun x22 h23=>Ef Z (apn 9 Z Z Z (.own 10 Z) h23 tu52 ti5 Z Z Z) fun v24=>Zb Z<|z1h<|gSR<|Zq (faB 1 Z Z Tryz.underlying43 Z (by exact zq4))<|Zq (faB 1 Z Z Tryz.underlying39 Z (by exact ti5))<|Zq (ld 1 Z Z ((fP (z5i _)).part (z35 _)) ty5 Z)<|Zq (B.eql Z Z)<|Zj Z (fun h25=>?_) (fun h25=>?_)
   ·refine gSR<|Zq (faB 1 Z Z Tryz.underlying43 Z (by exact zq4))<|Zq (faB 1 Z Z Tryz.underlying39 Z (by exact zel))<|Zq (ld 1 Z Z ((fP (z5i _)).part (z8o _)) znb Z)<|Zc [] [(100,11)] Tryz.func150 Z (zjs _) fun r26 n27=>Zm Z<|Zq (ext Z Z)<|Zq (ext Z Z)<|Za Z<|Zb Z<|z2x<|Zm Z<|Zm Z<|z0u fun x28 h29=>Ef Z (apn 9 Z Z Z (.own 11 Z) h29 tu52 ti5 Z Z Z) fun v30=>Zb Z<|gSR<|Zm Z<|Za Z<|Zb Z<|z14<|Ze [v30] [9] Z
   ·refine Zt<|gSR<|Zm Z<|Za Z<|Zb Z<|z14<|Ze [v24] [9] Z
def zby (a0:z01):Option ((List UInt8) × Int) :=
 zcm a0 >>= fun r2 =>
 if r2 != 0 then
  some ([],r2)
 else
  zdk a0 >>= fun r5 =>
  z3m a0.Sig.E.toUInt64 >>= fun r7 =>
  z3m a0.Sig.S.toUInt64 >>= fun r9 =>
  z1x [r5.1,r7,r9] >>= fun r12 =>
  some (r12,0)
theorem zir (a0:z01):z2v Tryz.prog 58 [.rd z04 a0] [] (zby a0) (fun r nv=>⟨[.val (nv 0),.rd z0k r.2],[(100,some (nv 0,.list u8R 5 r.1))]⟩):=by
 refine z3y 30 Tryz.func58 Z Z Z fun H w=>?_
 refine gSR<|Eb Z (bx 1 Z) fun v1=>Za Z<|Zb Z<|z1h<|gSR<|Zq (ld 1 Z Z fH z9s Z)<|Zc [] [] Tryz.func106 Z (zdy _) fun r2 n3=>Zb Z<|gSR<|Zm Z<|Zq (I.neq Z Z)<|Zj Z (fun h4=>?_) (fun h4=>?_)
 ·refine gSR<|Zm Z<|Za Z<|Zb Z<|z14<|z1c<|zjg u8R 5 2<|Ze [(.slice none 0 0)] [2] Z
 ·refine Zt<|gSR<|Zq (ld 1 Z Z fH z9s Z)<|Zc [] [(100,3)] Tryz.func107 Z (zho _) fun r5 n6=>Zm Z<|Zq (ext Z Z)<|Zq (ext Z Z)<|Za Z<|Zb Z<|z1h<|zds [19,34,37,40] mixed Z Z<|hTk 0 Z Z (mv Z)<|hTk 1 Z Z (faB 1 Z Z Tryz.underlying43 Z (by exact zsk))<|hTk 2 Z Z (faB 1 Z Z Tryz.underlying41 Z (by exact z93))<|hTk 3 Z Z (ld 1 Z Z ((fP (z5g _)).part (z7m _)) zd7 Z)<|hTk 4 Z Z (W.toU Z tu34 tu35)<|hTk 6 Z Z (faB 1 Z Z Tryz.underlying43 Z (by exact zsk))<|hTk 7 Z Z (faB 1 Z Z Tryz.underlying41 Z (by exact z93))<|hTk 8 Z Z (ld 1 Z Z ((fP (z5g _)).part (z8x _)) zd7 Z)<|hTk 9 Z Z (W.toU Z tu34 tu35)<|zcl 5 [] [(100,19)] Z (by kernel_rfl) Z (gd0 Z) Z Tryz.func57 Z Z (z30 _) (Y1 Z) rN Z (fun _ _=>z6j) fun r7 n8=>zcl 10 [] [(100,34)] Z (by kernel_rfl) Z (gd0 Z) Z Tryz.func57 Z Z (z30 _) (Y1 Z) rN Z (fun _ _=>z6j) fun r9 n10=>hFrz 3 [15,5,17] Z (fS Z<|fS Z<|fS Z<|fN)<|hFrz 19 [22] Z (fS Z<|fN)<|hFrz 34 [27] Z (fS Z<|fN)<|Zo 11 Z Z Z (lit (R:=(z02 u8R)) ([r5.1,r7,r9]:List (List UInt8)) 37 (pP Z Z<|pP Z Z<|pP Z Z<|pN) Z tu193 zdf Z Z) fun v11=>hFrz 37 [28] Z (fS Z<|fN)<|zcl 12 [] [(100,40)] Z (by kernel_rfl) Z (gd0 Z) Z Tryz.func108 Z Z (z4z _) (Y1 Z) rN Z (fun _ _=>z6j) fun r12 n13=>Zf 13 Z Z z6j (asg Z)<|hTk 14 Z Z (asg Z)<|z9v (by kernel_rfl)<|z1r<|z14<|Ze [(n13 0)] [40] Z
def zc0 (a0:List UInt8):Option (Bool) :=
 some (decide (10000<(a0.length:Int))) >>= fun y1 =>
 some y1
theorem zhb (a0:List UInt8):z2v Tryz.prog 196 [.rd (z02 u8R) a0] [] (zc0 a0) (fun r nv=>⟨[.rd z0o r],[]⟩):=by
 refine z3y 6 Tryz.func196 Z Z Z fun H w=>?_
 refine gSR<|Zb Z<|gSR<|Zm Z<|Zq (z4u Z .rd Z tu52)<|Zq (I.gtr Z Z)<|Za Z<|z2z 2 Z fun y1=>Zn<|z14<|Ze [] [] Z
def zcx  : Option (z26) :=
 some (⟨(#v[1779033703,3144134277,1013904242,2773480762,1359893119,2600822924,528734635,1541459225]:Vector UInt32 8),[],0⟩:z26)
theorem zkv  : z2v Tryz.prog 197 [] [] (zcx) (fun r nv=>⟨[.rd z2c r],[]⟩):=by
 refine z3y 3 Tryz.func197 Z Z Z fun H w=>?_
 refine gSR<|Eb Z (z9w 1 zlb (ZrE.rd (R:=(z4i 8 z11)) (x:=(Vector.replicate 8 0)) z10d (ZrE.nilS (ZrE.rd (R:=z0k) (x:=0) (Zr.num Z) ZrE.nil Z)) Z)) fun v1=>Zn<|gSR<|Zq (litA (R:=z11) [1779033703,3144134277,1013904242,2773480762,1359893119,2600822924,528734635,1541459225] (#v[1779033703,3144134277,1013904242,2773480762,1359893119,2600822924,528734635,1541459225]:Vector UInt32 8) (pP Z Z<|pP Z Z<|pP Z Z<|pP Z Z<|pP Z Z<|pP Z Z<|pP Z Z<|pP Z Z<|pN) Z tu149 z10i Z z93)<|Zq (bldE [(0,8),(8,1),(9,1)] Tryz.underlying243 zlb (ZrE.rd (R:=(z4i 8 z11)) (x:=(Vector.replicate 8 0)) z10d (ZrE.nilS (ZrE.rd (R:=z0k) (x:=0) (Zr.num Z) ZrE.nil Z)) Z) Z (zlt.cons Z Z z03 (z87.cast (z87.here z03) Z)<|zlt.done Z))<|Es (zzf 1 Z Z (z0a.cast (z0a.cons z03 (z0a.cons z0p (z0a.cons z03 z0a.nil))) Z) Z (z1p.cons z19 (z1p.cons z2p (z1p.cons z19 z1p.nil))) (z0a.cast (z0a.cons z03 (z0a.cons z0p (z0a.cons z03 z0a.nil))) Z) zlb)<|Zn<|z14<|ePnl u8R [.rd (z4i 8 z11) (#v[1779033703,3144134277,1013904242,2773480762,1359893119,2600822924,528734635,1541459225]:Vector UInt32 8),.rd (z02 u8R) [],.rd z0k 0] 1 [.rd (z4i 8 z11) (#v[1779033703,3144134277,1013904242,2773480762,1359893119,2600822924,528734635,1541459225]:Vector UInt32 8)] [.rd z0k 0] Z Z Z<|eJoi (R:=z2c) (⟨(#v[1779033703,3144134277,1013904242,2773480762,1359893119,2600822924,528734635,1541459225]:Vector UInt32 8),[],0⟩:z26) 1 Z (Sp.via (Sp.prod (Sp.prod (Sp.prod Sp.unit))))<|zen [] [] Z (eC 1 Z Z zoh<|eN) (rN)
def z1k (a0:UInt32) (a1:Int):Option (UInt32) :=
 some ((UInt64.ofInt a1) &&& 31) >>= fun y1 =>
 some ((zn2 a0 y1.toNat) ||| (z51 a0 ((32 - y1).toNat))) >>= fun y2 =>
 some y2
theorem z20 (a0:UInt32) (a1:Int):z2v Tryz.prog 238 [.rd z11 a0,.rd z0k a1] [] (z1k a0 a1) (fun r nv=>⟨[.rd z11 r],[]⟩):=by
 refine z3y 17 Tryz.func238 Z Z Z fun H w=>?_
 refine gSR<|Zb Z<|gSR<|Zm Z<|Zq (I.toU Z tu3 Tryz.underlying143)<|Zq (U.and Z Z)<|Za Z<|z2z 5 Z fun y1=>Zn<|gSR<|Zm Z<|Zm Z<|Zq (W.shl Z Z (Int.natCast_nonneg _))<|Zm Z<|Zm Z<|Zq (U.sub Z Z)<|Zq (W.shr Z Z (Int.natCast_nonneg _))<|Zq (W.or Z Z)<|Za Z<|z2z 4 Z fun y2=>Zn<|z14<|Ze [] [] Z
def z5n (x3:List UInt8) (s5:(Vector UInt32 64) × Int):Option (Sum ((Vector UInt32 64)) ((Vector UInt32 64) × Int)) :=
 if decide (s5.2<(x3.length:Int)) then
  idx x3 s5.2 >>= fun x7 =>
  z67 s5.1 (w64 (Int.tdiv s5.2 4)) >>= fun x9 =>
  z67 s5.1 (w64 (Int.tdiv s5.2 4)) >>= fun x11 =>
  some (.inr (z7d s5.1 (w64 (Int.tdiv s5.2 4)) ((zn2 x9 8) ||| x7.toUInt32),w64 (s5.2+1)))
 else
  some (.inl s5.1)
def z40 (s14:(Vector UInt32 64) × Int):Option (Sum ((Vector UInt32 64)) ((Vector UInt32 64) × Int)) :=
 if decide (s14.2<64) then
  z67 s14.1 (w64 (s14.2 - 15)) >>= fun x16 =>
  z67 s14.1 (w64 (s14.2 - 2)) >>= fun x18 =>
  z1k x16 (-7) >>= fun r20 =>
  z1k x16 (-18) >>= fun r22 =>
  some ((r20 ^^^ r22) ^^^ (z51 x16 3)) >>= fun y24 =>
  z1k x18 (-17) >>= fun r25 =>
  z1k x18 (-19) >>= fun r27 =>
  some ((r25 ^^^ r27) ^^^ (z51 x18 10)) >>= fun y29 =>
  z67 s14.1 (w64 (s14.2 - 16)) >>= fun x30 =>
  z67 s14.1 (w64 (s14.2 - 7)) >>= fun x32 =>
  z67 s14.1 s14.2 >>= fun x34 =>
  some (w64 (s14.2+1)) >>= fun y37 =>
  some (.inr (z7d s14.1 s14.2 (((x30+x32)+y24)+y29),y37))
 else
  some (.inl s14.1)
def zc4 (a0:List UInt8):Option ((Vector UInt32 64)) :=
 (cut a0 0 64 >>= fun x3 =>
 iter (z5n x3) ((Vector.replicate 64 0),0)) >>= fun s2 =>
 (iter (z40) (s2,16)) >>= fun s13 =>
 some s13
set_option maxHeartbeats 4000000 in
theorem zhn (a0:List UInt8):z2v Tryz.prog 235 [.rd (z02 u8R) a0] [] (zc4 a0) (fun r nv=>⟨[.rd (z4i 64 z11) r],[]⟩):=by
 refine z3y 74 Tryz.func235 Z Z Z fun H w=>?_
 refine gSR<|Eb Z (z9w 1 zvj (.zr (R:=(z4i 64 z11)) (x:=(Vector.replicate 64 0)) z15e)) fun v1=>Zn<|zas (fun (s2:(Vector UInt32 64)) aa ww=>Sta (ctx 74 H [] w) [(2,.val (z0l v1 0))] [(1,some (v1,.box 279 [.rd (z4i 64 z11) s2]))] aa ww) ?_ (fun s2=>?_)
 ·refine gSR<|Zm Z<|z0u fun x3 h4=>Zq (zq6 Z .no (.to Z) h4 tu52 ti5)<|Zq (z4u Z .rd Z tu52)<|Zm Z<|Zn<|z3v (fun (s5:(Vector UInt32 64) × Int) aa ww=>Sta (ctx 74 H [] w) [(2,.val (z0l v1 0)),(11,.rd (z02 u8R) x3),(12,.rd z0k (x3.length:Int)),(13,.rd z0k s5.2)] [(1,some (v1,.box 279 [.rd (z4i 64 z11) s5.1]))] aa ww) (fun aa ww h=>Zu h [1]) (fun s5=>?_)
  refine gSR<|Zq (I.lss Z Z)<|Zn<|z1h<|gIf Z Z (fun h6=>?_) (fun h6=>?_)
  ·refine Zt<|z1h<|z95<|gSR<|Zm Z<|z0u fun x7 h8=>Zq (ixR Z Z h8 tu52 ti5 Z)<|Zq (ldR Z ty5)<|Za Z<|Zb Z<|z2x<|Zm Z<|Zq (I.quo Z Z (by decide))<|Zm Z<|Zq (I.quo Z Z (by decide))<|z0u fun x9 h10=>Zq (ixB 1 Z Z Z h10 Tryz.underlying279 z93)<|Zq (ld 1 Z Z (fP (.el h10)) zd7 Z)<|Zq (W.shl Z Z (Int.natCast_nonneg _))<|Zm Z<|Zq (B.toW Z tu5 tu34)<|Zq (W.or Z Z)<|z0u fun x11 h12=>Zq (ixB 1 Z Z Z h12 Tryz.underlying279 z93)<|Es (sto 1 Z Z (fP (.el h12)) Z z93)<|z2i<|z5x<|z1r<|z2x<|Zq (I.add Z Z)<|Zm Z<|z2i<|z2r (fun aa ww h=>Zu h [1])
  ·refine z3u<|z2a<|z2b<|z4j (fun aa ww h=>Zu h [1])
 ·refine zas (fun (s13:(Vector UInt32 64)) aa ww=>Sta (ctx 74 H [] w) [(2,.val (z0l v1 0))] [(1,some (v1,.box 279 [.rd (z4i 64 z11) s13]))] aa ww) ?_ (fun s13=>?_)
  ·refine gSR<|Zb Z<|z3v (fun (s14:(Vector UInt32 64) × Int) aa ww=>Sta (ctx 74 H [] w) [(2,.val (z0l v1 0)),(5,.rd z0k s14.2)] [(1,some (v1,.box 279 [.rd (z4i 64 z11) s14.1]))] aa ww) (fun aa ww h=>Zu h [1]) (fun s14=>?_)
   refine z1h<|gSR<|Zm Z<|Zq (I.lss Z Z)<|Zj Z (fun h15=>?_) (fun h15=>?_)
   ·refine Zt<|z1h<|z95<|z1h<|zrn mixed (by kernel_rfl)<|Rq Z (mv Z)<|Rq Z (I.sub Z Z)<|zd3 fun x16 h17=>Rq Z (ixB 1 Z Z Z h17 Tryz.underlying279 z93)<|Rq Z (ld 1 Z Z (fP (.el h17)) zd7 Z)<|Rq Z (mv Z)<|Rq Z (I.sub Z Z)<|zd3 fun x18 h19=>Rq Z (ixB 1 Z Z Z h19 Tryz.underlying279 z93)<|Rq Z (ld 1 Z Z (fP (.el h19)) zd7 Z)<|Rq Z (asg Z)<|Rq Z (asg Z)<|qNil<|z1r<|gSR<|Zm Z<|Zc [] [] Tryz.func238 Z (z20 _ _) fun r20 n21=>Zm Z<|Zc [] [] Tryz.func238 Z (z20 _ _) fun r22 n23=>Zq (W.xor Z Z)<|Zm Z<|Zq (W.shr Z Z (Int.natCast_nonneg _))<|Zq (W.xor Z Z)<|Za Z<|z2z 8 Z fun y24=>Zn<|gSR<|Zm Z<|Zc [] [] Tryz.func238 Z (z20 _ _) fun r25 n26=>Zm Z<|Zc [] [] Tryz.func238 Z (z20 _ _) fun r27 n28=>Zq (W.xor Z Z)<|Zm Z<|Zq (W.shr Z Z (Int.natCast_nonneg _))<|Zq (W.xor Z Z)<|Za Z<|z2z 9 Z fun y29=>Zn<|gSub [(2,.val (z0l v1 0)),(5,.rd z0k s14.2),(8,.rd z11 y24),(9,.rd z11 y29)] [(1,some (v1,.box 279 [.rd (z4i 64 z11) s14.1]))] [1] (Zs Z Z Z Z<|sN) (y1 Z)<|zde fun x30 h31=>zde fun x32 h33=>zde fun x34 h35=>gOr [] [⟨1,some ([], fun nv=>(v1,.box 279 [.rd (z4i 64 z11) s14.1])),[(15,some ([], fun nv=>(v1,.box 279 [.rd (z4i 64 z11) (z7d s14.1 s14.2 (((x30+x32)+y24)+y29))])))]⟩] [pd 58 (.rd z0k s14.2),pd 59 (.rd z0k s14.2),pd 60 (.rd z0k (w64 (s14.2 - 16))),pk 61 (.val (z0l v1 (0+(w64 (s14.2 - 16):Int).toNat * 1))) [(0,0,false)],pk 62 (.rd z11 x30) [(0,0,false)],pd 63 (.rd z0k s14.2),pd 64 (.rd z0k (w64 (s14.2 - 7))),pk 65 (.val (z0l v1 (0+(w64 (s14.2 - 7):Int).toNat * 1))) [(0,0,false)],pk 66 (.rd z11 x32) [(0,0,false)],pd 67 (.rd z11 (x30+x32)),pd 68 (.rd z11 y24),pd 69 (.rd z11 ((x30+x32)+y24)),pd 70 (.rd z11 y29),pd 71 (.rd z11 (((x30+x32)+y24)+y29)),pk 72 (.val (z0l v1 (0+(s14.2:Int).toNat * 1))) [(0,0,false)],⟨none,[(0,0,true)],[],[]⟩] mixed (oC (oRn (fun nv E=>mv Z))<|oC (oRn (fun nv E=>mv Z))<|oC (oRn (fun nv E=>I.sub Z Z))<|oC (oRn (fun nv E=>ixB 1 Z Z Z h31 Tryz.underlying279 z93))<|oC (oRn (fun nv E=>ld 1 Z Z (fP (.el h31)) zd7 Z))<|oC (oRn (fun nv E=>mv Z))<|oC (oRn (fun nv E=>I.sub Z Z))<|oC (oRn (fun nv E=>ixB 1 Z Z Z h33 Tryz.underlying279 z93))<|oC (oRn (fun nv E=>ld 1 Z Z (fP (.el h33)) zd7 Z))<|oC (oRn (fun nv E=>W.add Z Z))<|oC (oRn (fun nv E=>mv Z))<|oC (oRn (fun nv E=>W.add Z Z))<|oC (oRn (fun nv E=>mv Z))<|oC (oRn (fun nv E=>W.add Z Z))<|oC (oRn (fun nv E=>ixB 1 Z Z Z h35 Tryz.underlying279 z93))<|oC (oEs 1 (fun nv E=>sto 1 Z Z (fP (.el h35)) Z z93))<|oN) fun n36=>z5x<|z1r<|z2x<|Zm Z<|Zq (I.add Z Z)<|Za Z<|z2z 5 Z fun y37=>z2i<|z2r (fun aa ww h=>Zu h [1])
   ·refine z3u<|z2a<|z2b<|z4j (fun aa ww h=>Zu h [1])
  ·refine gSR<|Zq (ld 1 Z Z fH z162 Z)<|Es (sto 1 Z Z fH Z zvj)<|Zn<|z14<|zen [] [] Z (eC 1 Z Z z162<|eN) (rN)
def zdi (a0:UInt32) (a1:Int) (a2:Int) (a3:Int):Option (UInt32) :=
 z1k a0 (w64 (0 - a1)) >>= fun r1 =>
 z1k a0 (w64 (0 - a2)) >>= fun r3 =>
 z1k a0 (w64 (0 - a3)) >>= fun r5 =>
 some ((r1 ^^^ r3) ^^^ r5) >>= fun y7 =>
 some y7
theorem zhd (a0:UInt32) (a1:Int) (a2:Int) (a3:Int):z2v Tryz.prog 236 [.rd z11 a0,.rd z0k a1,.rd z0k a2,.rd z0k a3] [] (zdi a0 a1 a2 a3) (fun r nv=>⟨[.rd z11 r],[]⟩):=by
 refine z3y 23 Tryz.func236 Z Z Z fun H w=>?_
 refine gSR<|Zb Z<|gSR<|Zm Z<|Zm Z<|Zq (I.neg Z)<|Zc [] [] Tryz.func238 Z (z20 _ _) fun r1 n2=>Zm Z<|Zm Z<|Zq (I.neg Z)<|Zc [] [] Tryz.func238 Z (z20 _ _) fun r3 n4=>Zq (W.xor Z Z)<|Zm Z<|Zm Z<|Zq (I.neg Z)<|Zc [] [] Tryz.func238 Z (z20 _ _) fun r5 n6=>Zq (W.xor Z Z)<|Za Z<|z2z 8 Z fun y7=>Zn<|z14<|Ze [] [] Z
def z72 (a0:List UInt8):Option ((List UInt8)) :=
 app 1 ([]:List UInt8) a0 >>= fun x3 =>
 some x3
theorem z8c (a0:List UInt8):z2v Tryz.prog 225 [.rd (z02 u8R) a0] [] (z72 a0) (fun r nv=>⟨[.val (nv 0)],[(100,some (nv 0,.list u8R 5 r))]⟩):=by
 refine z3y 8 Tryz.func225 Z Z Z fun H w=>?_
 refine gSR<|Zb Z<|z1h<|gSR<|Zm Z<|z142 Z Z .rd Z tu52 (fun h1=>?_) ?_
 ·subst h1
  refine Zn<|zhe Z<|gSR<|Zb Z<|z14<|z1c<|zjg u8R 5 1<|Ze [(.slice none 0 0)] [1] Z
 ·refine Zn<|zlr Z<|Zt<|gSR<|Ef Z (lit (R:=u8R) (([]:List UInt8):List UInt8) 2 (pN) Z tu52 ti5 Z Z) fun v2=>Zm Z<|z0u fun x3 h4=>Ef Z (apn 2 Z Z Z .rd h4 tu52 ti5 Z Z Z) fun v5=>Zb Z<|z14<|Ze [v5] [2] Z
def z4p (r1:(Vector UInt32 64)) (s21:UInt32 × UInt32 × UInt32 × UInt32 × UInt32 × UInt32 × UInt32 × UInt32 × Int):Option (Sum (UInt32 × UInt32 × UInt32 × UInt32 × UInt32 × UInt32 × UInt32 × UInt32) (UInt32 × UInt32 × UInt32 × UInt32 × UInt32 × UInt32 × UInt32 × UInt32 × Int)) :=
 if decide (s21.2.2.2.2.2.2.2.2<64) then
  z67 z69 s21.2.2.2.2.2.2.2.2 >>= fun x23 =>
  z67 r1 s21.2.2.2.2.2.2.2.2 >>= fun x25 =>
  zdi s21.2.2.2.2.1 6 11 25 >>= fun r27 =>
  some ((((s21.2.2.2.2.2.2.2.1+r27)+((s21.2.2.2.2.1 &&& s21.2.2.2.2.2.1) ^^^ ((~~~s21.2.2.2.2.1) &&& s21.2.2.2.2.2.2.1)))+x23)+x25) >>= fun y29 =>
  zdi s21.1 2 13 22 >>= fun r30 =>
  some (r30+(((s21.1 &&& s21.2.1) ^^^ (s21.1 &&& s21.2.2.1)) ^^^ (s21.2.1 &&& s21.2.2.1))) >>= fun y32 =>
  some (s21.2.2.2.1+y29) >>= fun y33 =>
  some (.inr (y29+y32,s21.1,s21.2.1,s21.2.2.1,y33,s21.2.2.2.2.1,s21.2.2.2.2.2.1,s21.2.2.2.2.2.2.1,w64 (s21.2.2.2.2.2.2.2.2+1)))
 else
  some (.inl (s21.1,s21.2.1,s21.2.2.1,s21.2.2.2.1,s21.2.2.2.2.1,s21.2.2.2.2.2.1,s21.2.2.2.2.2.2.1,s21.2.2.2.2.2.2.2.1))
def zcd (s20:UInt32 × UInt32 × UInt32 × UInt32 × UInt32 × UInt32 × UInt32 × UInt32) (s34:(Vector UInt32 8) × Int):Option (Sum ((Vector UInt32 8)) ((Vector UInt32 8) × Int)) :=
 if decide (s34.2<8) then
  z67 (#v[s20.1,s20.2.1,s20.2.2.1,s20.2.2.2.1,s20.2.2.2.2.1,s20.2.2.2.2.2.1,s20.2.2.2.2.2.2.1,s20.2.2.2.2.2.2.2]:Vector UInt32 8) s34.2 >>= fun x36 =>
  z67 s34.1 s34.2 >>= fun x38 =>
  z67 s34.1 s34.2 >>= fun x40 =>
  some (.inr (z7d s34.1 s34.2 (x38+x36),w64 (s34.2+1)))
 else
  some (.inl s34.1)
def zcn (c0:Vector UInt32 8) (a1:List UInt8):Option ((Vector UInt32 8)) :=
 zc4 a1 >>= fun r1 =>
 z67 c0 0 >>= fun x4 =>
 z67 c0 1 >>= fun x6 =>
 z67 c0 2 >>= fun x8 =>
 z67 c0 3 >>= fun x10 =>
 z67 c0 4 >>= fun x12 =>
 z67 c0 5 >>= fun x14 =>
 z67 c0 6 >>= fun x16 =>
 z67 c0 7 >>= fun x18 =>
 (iter (z4p r1) (x4,x6,x8,x10,x12,x14,x16,x18,0)) >>= fun s20 =>
 iter (zcd s20) (c0,0)
theorem zkw (ph0:Value) (kh0:Nat) (uh0:(Vector UInt32 8)→z31) (hh0:∀ y,Foc (uh0 y) kh0 (z4i 8 z11) y uh0) (c0:Vector UInt32 8) (a1:List UInt8):z2v Tryz.prog 224 [.val (z0l ph0 kh0),.rd (z02 u8R) a1] [(1,some (ph0,uh0 c0)),zG1] (zcn c0 a1) (fun r nv=>⟨[],[(1,some (ph0,uh0 r)),(1001,some (.bool true,.glob 1 (z4i 64 z11) z69))]⟩):=by
 refine z3y 126 Tryz.func224 Z Z Z fun H w=>?_
 refine gSR<|Zm Z<|Zc [] [] Tryz.func235 Z (zhn _) fun r1 n2=>Eb Z (z9w 2 zvj (.zr (R:=(z4i 64 z11)) (x:=(Vector.replicate 64 0)) z15e)) fun v3=>Es (sto 2 Z Z fH Z zvj)<|Zn<|z1h<|zrn mixed (by kernel_rfl)<|Rq Z (mv Z)<|Rq Z (zcg 1 Z Z (hh0 _))<|zd3 fun x4 h5=>Rq Z (ixH 1 Z Z (hh0 _) Z h5 tu149 z93)<|Rq Z (ld 1 Z Z ((hh0 _).part (.el h5)) zd7 Z)<|Rq Z (mv Z)<|Rq Z (zcg 1 Z Z (hh0 _))<|zd3 fun x6 h7=>Rq Z (ixH 1 Z Z (hh0 _) Z h7 tu149 z93)<|Rq Z (ld 1 Z Z ((hh0 _).part (.el h7)) zd7 Z)<|Rq Z (mv Z)<|Rq Z (zcg 1 Z Z (hh0 _))<|zd3 fun x8 h9=>Rq Z (ixH 1 Z Z (hh0 _) Z h9 tu149 z93)<|Rq Z (ld 1 Z Z ((hh0 _).part (.el h9)) zd7 Z)<|Rq Z (mv Z)<|Rq Z (zcg 1 Z Z (hh0 _))<|zd3 fun x10 h11=>Rq Z (ixH 1 Z Z (hh0 _) Z h11 tu149 z93)<|Rq Z (ld 1 Z Z ((hh0 _).part (.el h11)) zd7 Z)<|Rq Z (mv Z)<|Rq Z (zcg 1 Z Z (hh0 _))<|zd3 fun x12 h13=>Rq Z (ixH 1 Z Z (hh0 _) Z h13 tu149 z93)<|Rq Z (ld 1 Z Z ((hh0 _).part (.el h13)) zd7 Z)<|Rq Z (mv Z)<|Rq Z (zcg 1 Z Z (hh0 _))<|zd3 fun x14 h15=>Rq Z (ixH 1 Z Z (hh0 _) Z h15 tu149 z93)<|Rq Z (ld 1 Z Z ((hh0 _).part (.el h15)) zd7 Z)<|Rq Z (mv Z)<|Rq Z (zcg 1 Z Z (hh0 _))<|zd3 fun x16 h17=>Rq Z (ixH 1 Z Z (hh0 _) Z h17 tu149 z93)<|Rq Z (ld 1 Z Z ((hh0 _).part (.el h17)) zd7 Z)<|Rq Z (mv Z)<|Rq Z (zcg 1 Z Z (hh0 _))<|zd3 fun x18 h19=>Rq Z (ixH 1 Z Z (hh0 _) Z h19 tu149 z93)<|Rq Z (ld 1 Z Z ((hh0 _).part (.el h19)) zd7 Z)<|Rq Z (asg Z)<|Rq Z (asg Z)<|Rq Z (asg Z)<|Rq Z (asg Z)<|Rq Z (asg Z)<|Rq Z (asg Z)<|Rq Z (asg Z)<|Rq Z (asg Z)<|qNil<|z1r<|zas (fun (s20:UInt32 × UInt32 × UInt32 × UInt32 × UInt32 × UInt32 × UInt32 × UInt32) aa ww=>Sta (ctx 126 H [(1,some (ph0,uh0 c0)),zG1] w) [(0,.val (z0l ph0 kh0)),(5,.rd z11 s20.1),(6,.rd z11 s20.2.1),(7,.rd z11 s20.2.2.1),(8,.rd z11 s20.2.2.2.1),(9,.rd z11 s20.2.2.2.2.1),(10,.rd z11 s20.2.2.2.2.2.1),(11,.rd z11 s20.2.2.2.2.2.2.1),(12,.rd z11 s20.2.2.2.2.2.2.2)] [(1,some (ph0,uh0 c0)),zG1] aa ww) ?_ (fun s20=>?_)
 ·refine gSR<|Zm Z<|Zn<|z3v (fun (s21:UInt32 × UInt32 × UInt32 × UInt32 × UInt32 × UInt32 × UInt32 × UInt32 × Int) aa ww=>Sta (ctx 126 H [(1,some (ph0,uh0 c0)),zG1] w) [(0,.val (z0l ph0 kh0)),(4,.val (z0l v3 0)),(5,.rd z11 s21.1),(6,.rd z11 s21.2.1),(7,.rd z11 s21.2.2.1),(8,.rd z11 s21.2.2.2.1),(9,.rd z11 s21.2.2.2.2.1),(10,.rd z11 s21.2.2.2.2.2.1),(11,.rd z11 s21.2.2.2.2.2.2.1),(12,.rd z11 s21.2.2.2.2.2.2.2.1),(52,.rd z0k s21.2.2.2.2.2.2.2.2)] [(1,some (ph0,uh0 c0)),(2,some (v3,.box 279 [.rd (z4i 64 z11) r1])),zG1] aa ww) (fun aa ww h=>Zu h [1,2,1001]) (fun s21=>?_)
  refine gSR<|Zq (I.lss Z Z)<|Zn<|z1h<|gIf Z Z (fun h22=>?_) (fun h22=>?_)
  ·refine Zt<|z1h<|z95<|gSR<|Zm Z<|Zb Z<|z1h<|zds [] mixed Z Z<|hTk 0 Z Z (mv Z)<|hTk 1 Z Z (mv Z)<|hTk 4 Z Z (mv Z)<|hTk 5 Z Z (mv Z)<|hTk 6 Z Z (W.and Z Z)<|hTk 7 Z Z (mv Z)<|hTk 8 Z Z (W.cpl Z)<|hTk 9 Z Z (mv Z)<|hTk 10 Z Z (W.and Z Z)<|hTk 11 Z Z (W.xor Z Z)<|hTk 13 Z Z (mv Z)<|zal fun x23 h24=>hTk 14 Z Z (ixG 1001 Z Z h24 Tryz.underlying279 z93)<|hTk 15 Z Z (ldR Z zd7)<|hTk 17 Z Z (mv Z)<|zal fun x25 h26=>hTk 18 Z Z (ixB 2 Z Z Z h26 Tryz.underlying279 z93)<|hTk 19 Z Z (ld 2 Z Z (fP (.el h26)) zd7 Z)<|zcl 2 [] [] Z (by kernel_rfl) Z (gd0 Z) Z Tryz.func236 Z Z (zhd _ _ _ _) (aQ Z<|aQ Z<|aQ Z<|aQ Z<|aN) rN Z (fun _ _=>z7w) fun r27 n28=>hTk 3 Z Z (W.add Z Z)<|hTk 12 Z Z (W.add Z Z)<|hTk 16 Z Z (W.add Z Z)<|hTk 20 Z Z (W.add Z Z)<|hTk 21 Z Z (asg Z)<|z13z 14 Z Z fun y29=>z9v (by kernel_rfl)<|z1r<|gSR<|Zm Z<|Zc [] [] Tryz.func236 Z (zhd _ _ _ _) fun r30 n31=>Zm Z<|Zm Z<|Zq (W.and Z Z)<|Zm Z<|Zm Z<|Zq (W.and Z Z)<|Zq (W.xor Z Z)<|Zm Z<|Zm Z<|Zq (W.and Z Z)<|Zq (W.xor Z Z)<|Zq (W.add Z Z)<|Za Z<|z2z 15 Z fun y32=>Zn<|z2x<|Zm Z<|Zm Z<|Zq (W.add Z Z)<|Zm Z<|Zm Z<|Zm Z<|Zm Z<|Zm Z<|Zq (W.add Z Z)<|Zm Z<|Zm Z<|Zm Z<|Za Z<|Za Z<|Za Z<|Za Z<|Za Z<|z2z 9 Z fun y33=>Za Z<|Za Z<|Za Z<|z2i<|z5x<|z1r<|z2x<|Zq (I.add Z Z)<|Zm Z<|z2i<|z2r (fun aa ww h=>Zu h [1,2,1001])
  ·refine z3u<|z2a<|z2b<|z4j (fun aa ww h=>Zu h [1,1001])
 ·refine gSR<|Zm Z<|Zm Z<|Zm Z<|Zm Z<|Zm Z<|Zm Z<|Zm Z<|Zm Z<|Zq (litA (R:=z11) [s20.1,s20.2.1,s20.2.2.1,s20.2.2.2.1,s20.2.2.2.2.1,s20.2.2.2.2.2.1,s20.2.2.2.2.2.2.1,s20.2.2.2.2.2.2.2] (#v[s20.1,s20.2.1,s20.2.2.1,s20.2.2.2.1,s20.2.2.2.2.1,s20.2.2.2.2.2.1,s20.2.2.2.2.2.2.1,s20.2.2.2.2.2.2.2]:Vector UInt32 8) (pP Z Z<|pP Z Z<|pP Z Z<|pP Z Z<|pP Z Z<|pP Z Z<|pP Z Z<|pP Z Z<|pN) Z tu149 z10i Z z93)<|Zm Z<|Zn<|z3v (fun (s34:(Vector UInt32 8) × Int) aa ww=>Sta (ctx 126 H [(1,some (ph0,uh0 c0)),zG1] w) [(0,.val (z0l ph0 kh0)),(111,.rd (z4i 8 z11) (#v[s20.1,s20.2.1,s20.2.2.1,s20.2.2.2.1,s20.2.2.2.2.1,s20.2.2.2.2.2.1,s20.2.2.2.2.2.2.1,s20.2.2.2.2.2.2.2]:Vector UInt32 8)),(112,.rd z0k s34.2)] [(1,some (ph0,uh0 s34.1)),zG1] aa ww) (fun aa ww h=>Zu h [1,1001]) (fun s34=>?_)
  refine gSR<|Zq (I.lss Z Z)<|Zn<|z1h<|gIf Z Z (fun h35=>?_) (fun h35=>?_)
  ·refine Zt<|z1h<|z95<|gSR<|Zm Z<|z0u fun x36 h37=>Zq (idxV Z Z h37 tu149 z93 zd7)<|Za Z<|Zb Z<|zds [1] mixed Z Z<|hTk 0 Z Z (mv Z)<|hTk 1 Z Z (mv Z)<|hTk 2 Z Z (zcg 1 Z Z (hh0 _))<|zal fun x38 h39=>hTk 3 Z Z (ixH 1 Z Z (hh0 _) Z h39 tu149 z93)<|hTk 5 Z Z (mv Z)<|hTk 7 Z Z (zcg 1 Z Z (hh0 _))<|hRun 4 Z (by kernel_rfl) (gd0 Z) Z Z z7w (ld 1 Z Z ((hh0 _).part (.el h39)) zd7 Z)<|hTk 6 Z Z (W.add Z Z)<|zal fun x40 h41=>hTk 8 Z Z (ixH 1 Z Z (hh0 _) Z h41 tu149 z93)<|Zp 9 Z Z Z Z Z (sto 1 Z Z ((hh0 _).part (.el h41)) Z z93)<|z9v (by kernel_rfl)<|z5x<|z1r<|z2x<|Zq (I.add Z Z)<|Zm Z<|z2i<|z2r (fun aa ww h=>Zu h [1,1001])
  ·refine z3u<|z2a<|z2b<|Ze [] [1,1001] Z
def z8i (s7:z26 × (List UInt8)):Option (Sum (z26 × (List UInt8)) (z26 × (List UInt8))) :=
 if decide (64≤(s7.2.length:Int)) then
  zcn s7.1.Words s7.2 >>= fun r10 =>
  cut s7.2 64 (s7.2.length:Int) >>= fun x12 =>
  some (.inr ({ s7.1 with Words:=r10 },x12))
 else
  some (.inl (s7.1,s7.2))
def zaa (a0:z26) (a1:List UInt8):Option (z26) :=
 z1x [a0.Rest,a1] >>= fun r4 =>
 (iter (z8i) (a0,r4)) >>= fun s6 =>
 z72 s6.2 >>= fun r14 =>
 some (⟨({ s6.1 with N:=w64 (s6.1.N+(a1.length:Int)) }).Words,r14,({ s6.1 with N:=w64 (s6.1.N+(a1.length:Int)) }).N⟩:z26)
theorem zg8 (a0:z26) (a1:List UInt8):z2v Tryz.prog 198 [.rd z2c a0,.rd (z02 u8R) a1] [zG1] (zaa a0 a1) (fun r nv=>⟨[.rd z2c r],[(1001,some (.bool true,.glob 1 (z4i 64 z11) z69))]⟩):=by
 refine z3y 29 Tryz.func198 Z Z Z fun H w=>?_
 refine gSR<|Eb Z (bx 1 Z) fun v1=>Eb Z (z9w 2 zlb (ZrE.rd (R:=(z4i 8 z11)) (x:=(Vector.replicate 8 0)) z10d (ZrE.nilS (ZrE.rd (R:=z0k) (x:=0) (Zr.num Z) ZrE.nil Z)) Z)) fun v2=>Zn<|gSR<|Zq (faB 1 Z Z Tryz.underlying243 Z (by exact zdf))<|Zq (ld 1 Z Z (fP (zit _)) zjx Z)<|Zm Z<|Ef Z (lit (R:=(z02 u8R)) ([a0.Rest,a1]:List (List UInt8)) 3 (pP Z Z<|pP Z Z<|pN) Z tu193 zdf Z Z) fun v3=>z8q 3 [9] Z (fS Z<|fN)<|Zc [] [(100,4)] Tryz.func108 Z (z4z _) fun r4 n5=>Zb Z<|zas (fun (s6:z26 × (List UInt8)) aa ww=>Sta (ctx 29 H [zG1] w) [(1,.rd (z02 u8R) a1),(2,.val (z0l v1 0)),(4,.val (z0l v2 0)),(5,.rd (z02 u8R) s6.2)] [(1,some (v1,.box 243 [.rd z2c s6.1])),(2,some (v2,.box 243 [.rd (z4i 8 z11) (Vector.replicate 8 0),.val (.slice none 0 0),.rd z0k 0])),zG1] aa ww) ?_ (fun s6=>?_)
 ·refine gFrz 4 [10,5] Z (fS Z<|fS Z<|fN)<|z3v (fun (s7:z26 × (List UInt8)) aa ww=>Sta (ctx 29 H [zG1] w) [(1,.rd (z02 u8R) a1),(2,.val (z0l v1 0)),(4,.val (z0l v2 0)),(5,.rd (z02 u8R) s7.2)] [(1,some (v1,.box 243 [.rd z2c s7.1])),(2,some (v2,.box 243 [.rd (z4i 8 z11) (Vector.replicate 8 0),.val (.slice none 0 0),.rd z0k 0])),zG1] aa ww) (fun aa ww h=>Zu h [1,2,1001]) (fun s7=>?_)
  refine z1h<|gSR<|Zm Z<|Zq (z4u Z .rd Z tu52)<|Zq (I.geq Z Z)<|Zj Z (fun h8=>?_) (fun h8=>?_)
  ·refine Zt<|z95<|gSR<|Zq (faB 1 Z Z Tryz.underlying243 Z (by exact z10i))<|Zm Z<|call [1,1001] [(1,1)] Z Tryz.func224 Z Z (zkw _ _ (fun y9=>.box 243 [.rd z2c ({ s7.1 with Words:=y9 })]) (fun _=>(fP (zdo _))) _ _) (Y2 Z Z) (Zi Z<|Zi Z<|rN) fun r10 n11=>Zn<|z2x<|Zm Z<|z0u fun x12 h13=>Zq (zq6 Z (.to Z) .no h13 tu52 ti5)<|Za Z<|z2i<|z5x<|z2r (fun aa ww h=>Zu h [1,2,1001])
  ·refine z3u<|z2a<|z2b<|z4j (fun aa ww h=>Zu h [1,2,1001])
 ·refine z1h<|zds [1,1020] mixed Z Z<|hTk 0 Z Z (faB 1 Z Z Tryz.underlying243 Z (by exact ti3))<|hTk 2 Z Z (mv Z)<|hTk 3 Z Z (z4u Z .rd Z tu52)<|hTk 5 Z Z (mv Z)<|hAlt [1,6] (by kernel_rfl) Z ⟨?_,?_,trivial⟩
  ·refine oRun 1 Z (gd0 Z) Z Z z7w (ld 1 Z Z (fP (z80 _)) ty3 Z)<|hTk 4 Z Z (I.add Z Z)<|zcl 6 [] [(100,1020)] Z (by kernel_rfl) Z (gd0 Z) Z Tryz.func225 Z Z (z8c _) (Y1 Z) rN Z (fun _ _=>z6j) fun r14 n15=>hTk 7 Z Z (faB 1 Z Z Tryz.underlying243 Z (by exact ti3))<|Zp 8 Z Z Z Z Z (sto 1 Z Z (fP (z80 _)) Z ti3)<|Zf 9 Z Z z6j (faB 1 Z Z Tryz.underlying243 Z (by exact zdf))<|hSpl (R:=z2c) 1 Z (Sp.via (Sp.prod (Sp.prod (Sp.prod Sp.unit))))<|Zp 10 Z Z Z Z Z (zxg 1 Z Z (z87.cast (z87.next z03 (z87.here z03)) Z) Z z2p z0p zdf)<|z9v (by kernel_rfl)<|z1r<|gSR<|lPow [.rd (z4i 8 z11) (({ s6.1 with N:=w64 (s6.1.N+(a1.length:Int)) }).Words),.rd (z02 u8R) r14,.rd z0k (({ s6.1 with N:=w64 (s6.1.N+(a1.length:Int)) }).N)] 1 1020 [.rd (z4i 8 z11) (({ s6.1 with N:=w64 (s6.1.N+(a1.length:Int)) }).Words)] [.rd z0k (({ s6.1 with N:=w64 (s6.1.N+(a1.length:Int)) }).N)] Z Z Z Z Z<|zkn (R:=z2c) (⟨({ s6.1 with N:=w64 (s6.1.N+(a1.length:Int)) }).Words,r14,({ s6.1 with N:=w64 (s6.1.N+(a1.length:Int)) }).N⟩:z26) 1 Z (Sp.via (Sp.prod (Sp.prod (Sp.prod Sp.unit))))<|Zq (ld 1 Z Z fH zoh Z)<|znn u8R [.rd (z4i 8 z11) (Vector.replicate 8 0),.rd (z02 u8R) [],.rd z0k 0] 2 [.rd (z4i 8 z11) (Vector.replicate 8 0)] [.rd z0k 0] Z Z Z<|zkn (R:=z2c) (⟨(Vector.replicate 8 0),[],0⟩:z26) 2 Z (Sp.via (Sp.prod (Sp.prod (Sp.prod Sp.unit))))<|Es (sto 2 Z Z fH Z zlb)<|Zn<|z14<|zen [] [1001] Z (eC 2 Z Z zoh<|eN) (y1 Z)
  ·refine z15b 6 [] [(100,1020)] Z Z (gd0 Z) Z Tryz.func225 Z Z (z8c _) (Y1 Z) rN Z (fun _ _=>z6j) fun r16 n17=>hRun 1 Z (by kernel_rfl) (gd0 Z) Z Z z7w (ld 1 Z Z (fP (z80 _)) ty3 Z)<|hTk 4 Z Z (I.add Z Z)<|hTk 7 Z Z (faB 1 Z Z Tryz.underlying243 Z (by exact ti3))<|Zp 8 Z Z Z Z Z (sto 1 Z Z (fP (z80 _)) Z ti3)<|Zf 9 Z Z z6j (faB 1 Z Z Tryz.underlying243 Z (by exact zdf))<|hSpl (R:=z2c) 1 Z (Sp.via (Sp.prod (Sp.prod (Sp.prod Sp.unit))))<|Zp 10 Z Z Z Z Z (zxg 1 Z Z (z87.cast (z87.next z03 (z87.here z03)) Z) Z z2p z0p zdf)<|z9v (by kernel_rfl)<|z1r<|gSR<|lPow [.rd (z4i 8 z11) (({ s6.1 with N:=w64 (s6.1.N+(a1.length:Int)) }).Words),.rd (z02 u8R) r16,.rd z0k (({ s6.1 with N:=w64 (s6.1.N+(a1.length:Int)) }).N)] 1 1020 [.rd (z4i 8 z11) (({ s6.1 with N:=w64 (s6.1.N+(a1.length:Int)) }).Words)] [.rd z0k (({ s6.1 with N:=w64 (s6.1.N+(a1.length:Int)) }).N)] Z Z Z Z Z<|zkn (R:=z2c) (⟨({ s6.1 with N:=w64 (s6.1.N+(a1.length:Int)) }).Words,r16,({ s6.1 with N:=w64 (s6.1.N+(a1.length:Int)) }).N⟩:z26) 1 Z (Sp.via (Sp.prod (Sp.prod (Sp.prod Sp.unit))))<|Zq (ld 1 Z Z fH zoh Z)<|znn u8R [.rd (z4i 8 z11) (Vector.replicate 8 0),.rd (z02 u8R) [],.rd z0k 0] 2 [.rd (z4i 8 z11) (Vector.replicate 8 0)] [.rd z0k 0] Z Z Z<|zkn (R:=z2c) (⟨(Vector.replicate 8 0),[],0⟩:z26) 2 Z (Sp.via (Sp.prod (Sp.prod (Sp.prod Sp.unit))))<|Es (sto 2 Z Z fH Z zlb)<|Zn<|z14<|zen [] [1001] Z (eC 2 Z Z zoh<|eN) (y1 Z)
def z9l (y3:UInt64) (s9:(List UInt8) × Int):Option (Sum ((List UInt8)) ((List UInt8) × Int)) :=
 if decide (0≤s9.2) then
  chk (0≤s9.2) >>= fun u12 =>
  app 1 s9.1 [(z5p y3 ((s9.2:Int).toNat)).toUInt8] >>= fun x15 =>
  some (w64 (s9.2 - 8)) >>= fun y18 =>
  some (.inr (x15,y18))
 else
  some (.inl s9.1)
def z7v (r21:z26) (s23:V3 × Int):Option (Sum (V3) (V3 × Int)) :=
 if decide (s23.2<8) then
  z67 r21.Words s23.2 >>= fun x25 =>
  z67 s23.1 (w64 (4 * s23.2)) >>= fun x27 =>
  z67 (z7d s23.1 (w64 (4 * s23.2)) ((z51 x25 24).toUInt8)) (w64 ((w64 (4 * s23.2))+1)) >>= fun x29 =>
  z67 (z7d (z7d s23.1 (w64 (4 * s23.2)) ((z51 x25 24).toUInt8)) (w64 ((w64 (4 * s23.2))+1)) ((z51 x25 16).toUInt8)) (w64 ((w64 (4 * s23.2))+2)) >>= fun x31 =>
  z67 (z7d (z7d (z7d s23.1 (w64 (4 * s23.2)) ((z51 x25 24).toUInt8)) (w64 ((w64 (4 * s23.2))+1)) ((z51 x25 16).toUInt8)) (w64 ((w64 (4 * s23.2))+2)) ((z51 x25 8).toUInt8)) (w64 ((w64 (4 * s23.2))+3)) >>= fun x33 =>
  some (.inr (z7d (z7d (z7d (z7d s23.1 (w64 (4 * s23.2)) ((z51 x25 24).toUInt8)) (w64 ((w64 (4 * s23.2))+1)) ((z51 x25 16).toUInt8)) (w64 ((w64 (4 * s23.2))+2)) ((z51 x25 8).toUInt8)) (w64 ((w64 (4 * s23.2))+3)) x25.toUInt8,w64 (s23.2+1)))
 else
  some (.inl s23.1)
def zfo (a0:z26):Option (V3) :=
 some ((UInt64.ofInt a0.N) * 8) >>= fun y3 =>
 appz 1 [128] 0 (Int.tmod (w64 (119 - (Int.tmod a0.N 64))) 64) >>= fun x5 =>
 (iter (z9l y3) (x5,56)) >>= fun s8 =>
 (zaa a0 s8 >>= fun r21 =>
 iter (z7v r21) ((Vector.replicate 32 0),0)) >>= fun s20 =>
 some s20
theorem zmv (a0:z26):z2v Tryz.prog 199 [.rd z2c a0] [zG1] (zfo a0) (fun r nv=>⟨[.rd aZ r],[(1001,some (.bool true,.glob 1 (z4i 64 z11) z69))]⟩):=by
 refine z3y 66 Tryz.func199 Z Z Z fun H w=>?_
 refine gSR<|Eb Z (bx 1 Z) fun v1=>Eb Z (z9w 2 z3z (.zr (R:=aZ) (x:=(Vector.replicate 32 0)) zgp)) fun v2=>Zn<|gSR<|Zq (faB 1 Z Z Tryz.underlying243 Z (by exact ti3))<|Zq (ld 1 Z Z (fP (z80 _)) ty3 Z)<|Zq (I.toU Z tu3 tu35)<|Zq (U.mul Z Z)<|Za Z<|z2z 3 Z fun y3=>Zn<|gSR<|Ef Z (lit (R:=u8R) ([128]:List UInt8) 3 (pP Z Z<|pN) Z tu52 ti5 Z Z) fun v4=>Zq (faB 1 Z Z Tryz.underlying243 Z (by exact ti3))<|Zq (ld 1 Z Z (fP (z80 _)) ty3 Z)<|Zq (I.rem Z Z (by decide))<|Zq (I.sub Z Z)<|Zq (I.rem Z Z (by decide))<|z0u fun x5 h6=>Ef Z (apZO 3 Z Z Z h6 tu52 tu3 ti5 (Zr.num Z) Z) fun v7=>Zb Z<|zas (fun (s8:(List UInt8)) aa ww=>∃ nv:Nat→Value,Sta (ctx 66 H [zG1] w) [(1,.val (z0l v1 0)),(2,.val (z0l v2 0)),(4,.val (nv 0))] [(1,some (v1,.box 243 [.rd z2c a0])),(2,some (v2,.box 45 [.rd aZ (Vector.replicate 32 0)])),(3,some ((nv 0),.list u8R 5 s8)),zG1] aa ww) ?_ (fun s8=>?_)
 ·refine gSR<|Zb Z<|z3v (fun (s9:(List UInt8) × Int) aa ww=>∃ nv:Nat→Value,Sta (ctx 66 H [zG1] w) [(1,.val (z0l v1 0)),(2,.val (z0l v2 0)),(3,.rd z23 y3),(4,.val (nv 0)),(5,.rd z0k s9.2)] [(1,some (v1,.box 243 [.rd z2c a0])),(2,some (v2,.box 45 [.rd aZ (Vector.replicate 32 0)])),(3,some ((nv 0),.list u8R 5 s9.1)),zG1] aa ww) (fun aa ww h=>⟨nvl [v7],Zu h [1,2,3,1001]⟩) (fun s9=>?_)
  refine gEx fun n10=>z1h<|gSR<|Zm Z<|Zq (I.geq Z Z)<|Zj Z (fun h11=>?_) (fun h11=>?_)
  ·refine Zt<|z1h<|z95<|z2x<|Zm Z<|Zm Z<|Zm Z<|z0u fun u12 h13=>Zq (U.shr Z Z (z9f h13))<|Zq (U.toB Z tu35 tu5)<|Ef Z (lit (R:=u8R) ([(z5p y3 ((s9.2:Int).toNat)).toUInt8]:List UInt8) 1100 (pP Z Z<|pN) Z tu52 ti5 Z Z) fun v14=>z0u fun x15 h16=>Ef Z (apn 3 Z Z Z (.own 1100 Z) h16 tu52 ti5 Z Z Z) fun v17=>Za Z<|z2i<|z5x<|z1r<|z2x<|Zm Z<|Zq (I.sub Z Z)<|Za Z<|z2z 5 Z fun y18=>z2i<|z2r (fun aa ww h=>⟨nvl [v17],Zu h [1,2,3,1001]⟩)
  ·refine z3u<|z2a<|z2b<|z4j (fun aa ww h=>⟨nvl [(n10 0)],Zu h [1,2,3,1001]⟩)
 ·refine gEx fun n19=>zas (fun (s20:V3) aa ww=>Sta (ctx 66 H [zG1] w) [(2,.val (z0l v2 0))] [(2,some (v2,.box 45 [.rd aZ s20])),zG1] aa ww) ?_ (fun s20=>?_)
  ·refine gSR<|Zq (ld 1 Z Z fH zoh Z)<|Zm Z<|z8q 3 [4,31] Z (fS Z<|fS Z<|fN)<|Zc [1001] [] Tryz.func198 Z (zg8 _ _) fun r21 n22=>Zq (fldV Z (zdo _) Z Tryz.underlying243 Z z17b)<|Zm Z<|Zn<|z3v (fun (s23:V3 × Int) aa ww=>Sta (ctx 66 H [zG1] w) [(2,.val (z0l v2 0)),(33,.rd (z4i 8 z11) r21.Words),(34,.rd z0k s23.2)] [(2,some (v2,.box 45 [.rd aZ s23.1])),zG1] aa ww) (fun aa ww h=>Zu h [2,1001]) (fun s23=>?_)
   refine gSR<|Zq (I.lss Z Z)<|Zn<|z1h<|gIf Z Z (fun h24=>?_) (fun h24=>?_)
   ·refine Zt<|z1h<|z95<|gSR<|Zm Z<|z0u fun x25 h26=>Zq (idxV Z Z h26 tu149 z93 zd7)<|Za Z<|Zb Z<|z2x<|Zm Z<|Zq (I.mul Z Z)<|Zm Z<|Zq (I.mul Z Z)<|Zq (I.add Z Z)<|Zm Z<|Zq (I.mul Z Z)<|Zq (I.add Z Z)<|Zm Z<|Zq (I.mul Z Z)<|Zq (I.add Z Z)<|Zm Z<|Zq (W.shr Z Z (Int.natCast_nonneg _))<|Zq (W.toB Z tu34 tu5)<|Zm Z<|Zq (W.shr Z Z (Int.natCast_nonneg _))<|Zq (W.toB Z tu34 tu5)<|Zm Z<|Zq (W.shr Z Z (Int.natCast_nonneg _))<|Zq (W.toB Z tu34 tu5)<|Zm Z<|Zq (W.toB Z tu34 tu5)<|z0u fun x27 h28=>Zq (ixB 2 Z Z Z h28 tu45 ti5)<|Es (sto 2 Z Z (fP (.el h28)) Z ti5)<|z0u fun x29 h30=>Zq (ixB 2 Z Z Z h30 tu45 ti5)<|Es (sto 2 Z Z (fP (.el h30)) Z ti5)<|z0u fun x31 h32=>Zq (ixB 2 Z Z Z h32 tu45 ti5)<|Es (sto 2 Z Z (fP (.el h32)) Z ti5)<|z0u fun x33 h34=>Zq (ixB 2 Z Z Z h34 tu45 ti5)<|Es (sto 2 Z Z (fP (.el h34)) Z ti5)<|z2i<|z5x<|z1r<|z2x<|Zq (I.add Z Z)<|Zm Z<|z2i<|z2r (fun aa ww h=>Zu h [2,1001])
   ·refine z3u<|z2a<|z2b<|z4j (fun aa ww h=>Zu h [2,1001])
  ·refine gSR<|Zq (ld 2 Z Z fH z8w Z)<|Es (sto 2 Z Z fH Z z3z)<|Zn<|z14<|zen [] [1001] Z (eC 2 Z Z z8w<|eN) (y1 Z)
def z15 (a0:List (List UInt8)) (s2:Int):Option (Sum (Sum Int Unit) Int) :=
 if decide (s2<(a0.length:Int)) then
  idx a0 s2 >>= fun x4 =>
  zc0 x4 >>= fun r6 =>
  if r6 then
   some (.inl (.inl s2))
  else
   some (.inr (w64 (s2+1)))
 else
  some (.inl (.inr ()))
def z2f (a0:List (List UInt8)):Option (Int) :=
 z59 (iter (z15 a0) 0) fun s1 =>
 some (-1)
theorem z5y (a0:List (List UInt8)):z2v Tryz.prog 223 [.rd (z02 (z02 u8R)) a0,.val (.func (.func 196) #[] #[])] [] (z2f a0) (fun r nv=>⟨[.rd z0k r],[]⟩):=by
 refine z3y 19 Tryz.func223 Z Z Z fun H w=>?_
 refine gSR<|Zb Z<|zbk (fun (s1:Unit) aa ww=>Sta (ctx 19 H [] w) [] [] aa ww) ?_ (fun s1=>?_)
 ·refine gSR<|Zm Z<|Zq (z4u Z .rd Z tu193)<|Zm Z<|Zn<|z3v (fun (s2:Int) aa ww=>Sta (ctx 19 H [] w) [(0,.rd (z02 (z02 u8R)) a0),(1,.val (.func (.func 196) #[] #[])),(7,.rd z0k (a0.length:Int)),(8,.rd z0k s2)] [] aa ww) (fun aa ww h=>Zu h []) (fun s2=>?_)
  refine gSR<|Zq (I.lss Z Z)<|Zn<|z1h<|gIf Z Z (fun h3=>?_) (fun h3=>?_)
  ·refine Zt<|z1h<|z95<|gSR<|Zm Z<|Zb Z<|gSR<|Zm Z<|Zm Z<|Zm Z<|z0u fun x4 h5=>Zq (ixR Z Z h5 tu193 zdf Z)<|Zq (ldR Z zjx)<|zn3 [] [] (gd0 Z) Z Z Tryz.func196 Z Z (zhb _) (Y1 Z) (cN) rN fun r6 n7=>Zj Z (fun h8=>?_) (fun h8=>?_)
   ·refine gSR<|Zm Z<|Zb Z<|z14<|z8k<|z1c<|zbj<|z9x<|Ze [] [] Z
   ·refine z6o<|z5x<|z1r<|z2x<|Zq (I.add Z Z)<|Zm Z<|z2i<|z2r (fun aa ww h=>Zu h [])
  ·refine z3u<|z2a<|z2b<|z9t (fun aa ww h=>Zu h [])
 ·refine gSR<|Zb Z<|z14<|Ze [] [] Z
def z1i (a0:List (List UInt8)):Option (Bool) :=
 z2f a0 >>= fun r1 =>
 some (decide (0≤r1)) >>= fun y3 =>
 some y3
theorem z5a (a0:List (List UInt8)):z2v Tryz.prog 195 [.rd (z02 (z02 u8R)) a0,.val (.func (.func 196) #[] #[])] [] (z1i a0) (fun r nv=>⟨[.rd z0o r],[]⟩):=by
 refine z3y 9 Tryz.func195 Z Z Z fun H w=>?_
 refine gSR<|Zb Z<|gSR<|Zm Z<|Zm Z<|Zc [] [] Tryz.func223 Z (z5y _) fun r1 n2=>Zq (I.geq Z Z)<|Za Z<|z2z 4 Z fun y3=>Zn<|z14<|Ze [] [] Z
def z6q (a0:List (List UInt8)) (s11:z26 × Int):Option (Sum z26 (z26 × Int)) :=
 if decide (s11.2<(a0.length:Int)) then
  idx a0 s11.2 >>= fun x13 =>
  zaa s11.1 x13 >>= fun r15 =>
  some (.inr (r15,w64 (s11.2+1)))
 else
  some (.inl s11.1)
def z9p (a0:List (List UInt8)):Option (V3 × Int) :=
 (if decide (20<(a0.length:Int)) then
  some true
 else
  z1i a0 >>= fun r4 =>
  some r4) >>= fun s2 =>
 if s2 then
  some ((Vector.replicate 32 0),4)
 else
  zcx >>= fun r7 =>
  (iter (z6q a0) (r7,0)) >>= fun s10 =>
  zfo s10 >>= fun r17 =>
  some (r17,0)
theorem zee (a0:List (List UInt8)):z2v Tryz.prog 160 [.rd (z02 (z02 u8R)) a0] [zG1] (z9p a0) (fun r nv=>⟨[.rd aZ r.1,.rd z0k r.2],[(1001,some (.bool true,.glob 1 (z4i 64 z11) z69))]⟩):=by
 refine z3y 28 Tryz.func160 Z Z Z fun H w=>?_
 refine gSR<|Eb Z (z9w 1 z3z (.zr (R:=aZ) (x:=(Vector.replicate 32 0)) zgp)) fun v1=>Zb Z<|z1h<|zas (fun (s2:Bool) aa ww=>Sta (ctx 28 H [zG1] w) [(0,.rd (z02 (z02 u8R)) a0),(2,.val (z0l v1 0)),(13,.rd z0o s2)] [(1,some (v1,.box 45 [.rd aZ (Vector.replicate 32 0)])),zG1] aa ww) ?_ (fun s2=>?_)
 ·refine z2x<|Zm Z<|Zq (z4u Z .rd Z tu193)<|Zq (I.gtr Z Z)<|Zm Z<|z1d 10 Z (fun h3=>?_) (fun h3=>?_)
  ·refine lKn 9 Z h3<|Zk Z<|Zk Z<|Zq (pkT Z Z)<|z2i<|z4j (fun aa ww h=>Zu h [1,1001])
  ·refine lKn 9 Z h3<|z1q Zx Z Z (mv Z)<|z9o [] [] Zx Z Tryz.func195 Z Z (z5a _) (Y2 Z Z) rN fun r4 n5=>Zq (pkF Z Z)<|z2i<|z4j (fun aa ww h=>Zu h [1,1001])
 ·refine gIf Z Z (fun h6=>?_) (fun h6=>?_)
  ·refine gSR<|Zq (bldG (x':=((Vector.replicate 32 0):V3)) tu45 z3z zgp ti5 (Bld.done Z))<|Es (sto 1 Z Z fH Z z3z)<|Zb Z<|z14<|z1c<|zen [] [1001] Z (eC 1 Z Z z8w<|eE Z<|eN) (y1 Z)
  ·refine Zt<|gSR<|Zc [] [] Tryz.func197 Z (zkv) fun r7 n8=>Eb Z (z9w 1100 zlb (ZrE.rd (R:=(z4i 8 z11)) (x:=(Vector.replicate 8 0)) z10d (ZrE.nilS (ZrE.rd (R:=z0k) (x:=0) (Zr.num Z) ZrE.nil Z)) Z)) fun v9=>znn u8R [.rd (z4i 8 z11) (Vector.replicate 8 0),.rd (z02 u8R) [],.rd z0k 0] 1100 [.rd (z4i 8 z11) (Vector.replicate 8 0)] [.rd z0k 0] Z Z Z<|zkn (R:=z2c) (⟨(Vector.replicate 8 0),[],0⟩:z26) 1100 Z (Sp.via (Sp.prod (Sp.prod (Sp.prod Sp.unit))))<|Es (sto 1100 Z Z fH Z zlb)<|Zn<|zas (fun (s10:z26) aa ww=>Sta (ctx 28 H [zG1] w) [(2,.val (z0l v1 0)),(4,.val (z0l v9 0))] [(1,some (v1,.box 45 [.rd aZ (Vector.replicate 32 0)])),(1100,some (v9,.box 243 [.rd z2c s10])),zG1] aa ww) ?_ (fun s10=>?_)
   ·refine gSR<|Zm Z<|Zq (z4u Z .rd Z tu193)<|Zm Z<|Zn<|z3v (fun (s11:z26 × Int) aa ww=>Sta (ctx 28 H [zG1] w) [(2,.val (z0l v1 0)),(4,.val (z0l v9 0)),(16,.rd (z02 (z02 u8R)) a0),(17,.rd z0k (a0.length:Int)),(18,.rd z0k s11.2)] [(1,some (v1,.box 45 [.rd aZ (Vector.replicate 32 0)])),(1100,some (v9,.box 243 [.rd z2c s11.1])),zG1] aa ww) (fun aa ww h=>Zu h [1,1100,1001]) (fun s11=>?_)
    refine gSR<|Zq (I.lss Z Z)<|Zn<|z1h<|gIf Z Z (fun h12=>?_) (fun h12=>?_)
    ·refine Zt<|z1h<|z95<|gSR<|z0u fun x13 h14=>Zq (ixR Z Z h14 tu193 zdf Z)<|Zq (ldR Z zjx)<|Zb Z<|z2x<|Zq (ld 1100 Z Z fH zoh Z)<|Zm Z<|Zc [1001] [] Tryz.func198 Z (zg8 _ _) fun r15 n16=>Es (sto 1100 Z Z fH Z zlb)<|z2i<|z5x<|z1r<|z2x<|Zq (I.add Z Z)<|Zm Z<|z2i<|z2r (fun aa ww h=>Zu h [1,1100,1001])
    ·refine z3u<|z2a<|z2b<|z4j (fun aa ww h=>Zu h [1,1100,1001])
   ·refine gSR<|Zq (ld 1100 Z Z fH zoh Z)<|Zc [1001] [] Tryz.func199 Z (zmv _) fun r17 n18=>Es (sto 1 Z Z fH Z z3z)<|Zb Z<|z14<|zen [] [1001] Z (eC 1 Z Z z8w<|eE Z<|eN) (y1 Z)
def zfu (a0:List UInt8):Option (V3 × Int) :=
 z9p [a0] >>= fun r3 =>
 some (r3.1,r3.2)
theorem zn4 (a0:List UInt8):z2v Tryz.prog 115 [.rd (z02 u8R) a0] [zG1] (zfu a0) (fun r nv=>⟨[.rd aZ r.1,.rd z0k r.2],[(1001,some (.bool true,.glob 1 (z4i 64 z11) z69))]⟩):=by
 refine z3y 9 Tryz.func115 Z Z Z fun H w=>?_
 refine gSR<|Eb Z (z9w 1 z3z (.zr (R:=aZ) (x:=(Vector.replicate 32 0)) zgp)) fun v1=>Zb Z<|gSR<|Zm Z<|Ef Z (lit (R:=(z02 u8R)) ([a0]:List (List UInt8)) 2 (pP Z Z<|pN) Z tu193 zdf Z Z) fun v2=>z8q 2 [5] Z (fS Z<|fN)<|Zc [1001] [] Tryz.func160 Z (zee _) fun r3 n4=>Zq (ext Z Z)<|Zq (ext Z Z)<|Es (sto 1 Z Z fH Z z3z)<|Zb Z<|z14<|zen [] [1001] Z (eC 1 Z Z z8w<|eE Z<|eN) (y1 Z)
def zpb (a0:z01):Option (V3 × Int) :=
 zby a0 >>= fun r3 =>
 if r3.2 != 0 then
  some ((Vector.replicate 32 0),r3.2)
 else
  zfu r3.1 >>= fun r6 =>
  some (r6.1,r6.2)
theorem zj1 (a0:z01):z2v Tryz.prog 65 [.rd z04 a0] [zG1] (zpb a0) (fun r nv=>⟨[.rd aZ r.1,.rd z0k r.2],[(1001,some (.bool true,.glob 1 (z4i 64 z11) z69))]⟩):=by
 refine z3y 19 Tryz.func65 Z Z Z fun H w=>?_
 refine gSR<|Eb Z (bx 1 Z) fun v1=>Eb Z (z9w 2 z3z (.zr (R:=aZ) (x:=(Vector.replicate 32 0)) zgp)) fun v2=>Zb Z<|gSR<|Zq (ld 1 Z Z fH z9s Z)<|Zc [] [(100,3)] Tryz.func58 Z (zir _) fun r3 n4=>Zm Z<|Zq (ext Z Z)<|Zq (ext Z Z)<|Za Z<|Zb Z<|z1h<|gSR<|Zm Z<|Zq (I.neq Z Z)<|Zj Z (fun h5=>?_) (fun h5=>?_)
 ·refine gSR<|Zq (bldG (x':=((Vector.replicate 32 0):V3)) tu45 z3z zgp ti5 (Bld.done Z))<|Zm Z<|Es (sto 2 Z Z fH Z z3z)<|Zb Z<|z14<|z1c<|zen [] [1001] Z (eC 2 Z Z z8w<|eE Z<|eN) (y1 Z)
 ·refine Zt<|gSR<|Zm Z<|z8q 3 [9,4,15] Z (fS Z<|fS Z<|fS Z<|fN)<|Zc [1001] [] Tryz.func115 Z (zn4 _) fun r6 n7=>Zq (ext Z Z)<|Zq (ext Z Z)<|Es (sto 2 Z Z fH Z z3z)<|Zb Z<|z14<|zen [] [1001] Z (eC 2 Z Z z8w<|eE Z<|eN) (y1 Z)
def z3w (a0:List UInt32) (s2:Int):Option (Sum (Sum Bool Unit) Int) :=
 if decide (s2<(a0.length:Int)) then
  idx a0 s2 >>= fun x4 =>
  zfm x4 >>= fun r6 =>
  if !r6 then
   some (.inl (.inl false))
  else
   some (.inr (w64 (s2+1)))
 else
  some (.inl (.inr ()))
def zbu (a0:List UInt32):Option (Bool) :=
 z59 (iter (z3w a0) 0) fun s1 =>
 some true
theorem zil (a0:List UInt32):z2v Tryz.prog 206 [.rd (z02 z11) a0] [] (zbu a0) (fun r nv=>⟨[.rd z0o r],[]⟩):=by
 refine z3y 15 Tryz.func206 Z Z Z fun H w=>?_
 refine gSR<|Zb Z<|zbk (fun (s1:Unit) aa ww=>Sta (ctx 15 H [] w) [] [] aa ww) ?_ (fun s1=>?_)
 ·refine gSR<|Zm Z<|Zq (z4u Z .rd Z tu232)<|Zm Z<|Zn<|z3v (fun (s2:Int) aa ww=>Sta (ctx 15 H [] w) [(5,.rd (z02 z11) a0),(6,.rd z0k (a0.length:Int)),(7,.rd z0k s2)] [] aa ww) (fun aa ww h=>Zu h []) (fun s2=>?_)
  refine gSR<|Zq (I.lss Z Z)<|Zn<|z1h<|gIf Z Z (fun h3=>?_) (fun h3=>?_)
  ·refine Zt<|z1h<|z95<|gSR<|z0u fun x4 h5=>Zq (ixR Z Z h5 tu232 z93 Z)<|Zq (ldR Z zd7)<|Zb Z<|gSR<|Zm Z<|Zc [] [] Tryz.func147 Z (zgm _) fun r6 n7=>Zq (zjc Z)<|Zj Z (fun h8=>?_) (fun h8=>?_)
   ·refine gSR<|Zb Z<|z14<|z8k<|z1c<|zbj<|z9x<|Ze [] [] Z
   ·refine z6o<|z5x<|z1r<|z2x<|Zq (I.add Z Z)<|Zm Z<|z2i<|z2r (fun aa ww h=>Zu h [])
  ·refine z3u<|z2a<|z2b<|z9t (fun aa ww h=>Zu h [])
 ·refine gSR<|Zb Z<|z14<|Ze [] [] Z
def zk9 (a0:UInt32) (a1:UInt64):Option (UInt32 × Int) :=
 zbu [a0] >>= fun r2 =>
 if !r2 then
  some (0,2)
 else
  zdb a0 a1 >>= fun r5 =>
  some (r5,0)
end
section
open Go Go.RowKit
set_option maxRecDepth 100000
theorem zot (a0:UInt32) (a1:UInt64):z2v Tryz.prog 166 [.rd z11 a0,.rd z23 a1] [] (zk9 a0 a1) (fun r nv=>⟨[.rd z11 r.1,.rd z0k r.2],[]⟩):=by
 refine z3y 13 Tryz.func166 Z Z Z fun H w=>?_
 refine gSR<|Za Z<|Zb Z<|z1h<|gSR<|Zm Z<|Ef Z (lit (R:=z11) ([a0]:List UInt32) 1 (pP Z Z<|pN) Z tu232 z93 Z Z) fun v1=>z8q 1 [7] Z (fS Z<|fN)<|Zc [] [] Tryz.func206 Z (zil _) fun r2 n3=>Zq (zjc Z)<|Zj Z (fun h4=>?_) (fun h4=>?_)
 ·refine gSR<|Za Z<|Zb Z<|z14<|z1c<|Ze [] [] Z
 ·refine Zt<|gSR<|Zm Z<|Zm Z<|Zc [] [] Tryz.func189 Z (zer _ _) fun r5 n6=>Za Z<|Zb Z<|z14<|Ze [] [] Z
def zhy (a0:UInt64):Option (UInt32) :=
 zdb 4 a0 >>= fun r1 =>
 some r1
theorem zng (a0:UInt64):z2v Tryz.prog 168 [.rd z23 a0] [] (zhy a0) (fun r nv=>⟨[.rd z11 r],[]⟩):=by
 refine z3y 5 Tryz.func168 Z Z Z fun H w=>?_
 refine gSR<|Zb Z<|gSR<|Zm Z<|Zc [] [] Tryz.func189 Z (zer _ _) fun r1 n2=>Zb Z<|z14<|Ze [] [] Z
def zku (a0:UInt32) (a1:UInt32):Option (UInt32 × Int) :=
 zbu [a0,a1] >>= fun r2 =>
 if !r2 then
  some (0,2)
 else
  zdj 1000000007 [a0,a1] >>= fun r6 =>
  some (r6,0)
theorem zpm (a0:UInt32) (a1:UInt32):z2v Tryz.prog 167 [.rd z11 a0,.rd z11 a1] [] (zku a0 a1) (fun r nv=>⟨[.rd z11 r.1,.rd z0k r.2],[]⟩):=by
 refine z3y 15 Tryz.func167 Z Z Z fun H w=>?_
 refine gSR<|Za Z<|Zb Z<|z1h<|gSR<|Zm Z<|Zm Z<|Ef Z (lit (R:=z11) ([a0,a1]:List UInt32) 1 (pP Z Z<|pP Z Z<|pN) Z tu232 z93 Z Z) fun v1=>z8q 1 [8] Z (fS Z<|fN)<|Zc [] [] Tryz.func206 Z (zil _) fun r2 n3=>Zq (zjc Z)<|Zj Z (fun h4=>?_) (fun h4=>?_)
 ·refine gSR<|Za Z<|Zb Z<|z14<|z1c<|Ze [] [] Z
 ·refine Zt<|gSR<|Zm Z<|Zm Z<|Ef Z (lit (R:=z11) ([a0,a1]:List UInt32) 2 (pP Z Z<|pP Z Z<|pN) Z tu232 z93 Z Z) fun v5=>z8q 2 [13] Z (fS Z<|fN)<|Zc [] [] Tryz.func207 Z (zf2 _ _) fun r6 n7=>Za Z<|Zb Z<|z14<|Ze [] [] Z
def z6e (a2:List UInt32) (s4:(List UInt8) × Int):Option (Sum ((List UInt8)) ((List UInt8) × Int)) :=
 if decide (s4.2<(a2.length:Int)) then
  idx a2 s4.2 >>= fun x7 =>
  app 1 s4.1 [(z51 x7 24).toUInt8,(z51 x7 16).toUInt8,(z51 x7 8).toUInt8,x7.toUInt8] >>= fun x10 =>
  some (.inr (x10,w64 (s4.2+1)))
 else
  some (.inl s4.1)
def zar (r15:V3 × Int) (s19:UInt64 × Int):Option (Sum UInt64 (UInt64 × Int)) :=
 if decide (s19.2<(((r15.1.toList.drop 0).take 8).length:Int)) then
  idx ((r15.1.toList.drop 0).take 8) s19.2 >>= fun x21 =>
  some ((zh8 s19.1 8) ||| x21.toUInt64) >>= fun y23 =>
  some (.inr (y23,w64 (s19.2+1)))
 else
  some (.inl s19.1)
def zhh (a0:UInt8) (a1:List UInt8) (a2:List UInt32):Option (UInt64 × Int) :=
 if decide (9991<(a1.length:Int)) then
  some (0,4)
 else
  (iter (z6e a2) ([a0],0)) >>= fun s3 =>
  z9p [s3,a1] >>= fun r15 =>
  (iter (zar r15) (0,0)) >>= fun s18 =>
  some (s18,r15.2)
theorem zo9 (a0:UInt8) (a1:List UInt8) (a2:List UInt32):z2v Tryz.prog 208 [.rd u8R a0,.rd (z02 u8R) a1,.rd (z02 z11) a2] [zG1] (zhh a0 a1 a2) (fun r nv=>⟨[.rd z23 r.1,.rd z0k r.2],[(1001,some (.bool true,.glob 1 (z4i 64 z11) z69))]⟩):=by
 refine z3y 63 Tryz.func208 Z Z Z fun H w=>?_
 refine gSR<|Za Z<|Zb Z<|z1h<|gSR<|Zm Z<|Zq (z4u Z .rd Z tu52)<|Zq (I.gtr Z Z)<|Zj Z (fun h1=>?_) (fun h1=>?_)
 ·refine gSR<|Za Z<|Zb Z<|z14<|z1c<|Ze [] [1001] Z
 ·refine Zt<|gSR<|Zm Z<|Ef Z (lit (R:=u8R) ([a0]:List UInt8) 1 (pP Z Z<|pN) Z tu52 ti5 Z Z) fun v2=>Zb Z<|zas (fun (s3:(List UInt8)) aa ww=>∃ nv:Nat→Value,Sta (ctx 63 H [zG1] w) [(1,.rd (z02 u8R) a1),(8,.val (nv 0))] [(1,some ((nv 0),.list u8R 5 s3)),zG1] aa ww) ?_ (fun s3=>?_)
  ·refine gSR<|Zm Z<|Zq (z4u Z .rd Z tu232)<|Zm Z<|Zn<|z3v (fun (s4:(List UInt8) × Int) aa ww=>∃ nv:Nat→Value,Sta (ctx 63 H [zG1] w) [(1,.rd (z02 u8R) a1),(8,.val (nv 0)),(21,.rd (z02 z11) a2),(22,.rd z0k (a2.length:Int)),(23,.rd z0k s4.2)] [(1,some ((nv 0),.list u8R 5 s4.1)),zG1] aa ww) (fun aa ww h=>⟨nvl [v2],Zu h [1,1001]⟩) (fun s4=>?_)
   refine gEx fun n5=>gSR<|Zq (I.lss Z Z)<|Zn<|z1h<|gIf Z Z (fun h6=>?_) (fun h6=>?_)
   ·refine Zt<|z1h<|z95<|gSR<|z0u fun x7 h8=>Zq (ixR Z Z h8 tu232 z93 Z)<|Zq (ldR Z zd7)<|Zb Z<|z2x<|Zm Z<|Zm Z<|Zq (W.shr Z Z (Int.natCast_nonneg _))<|Zq (W.toB Z tu34 tu5)<|Zm Z<|Zq (W.shr Z Z (Int.natCast_nonneg _))<|Zq (W.toB Z tu34 tu5)<|Zm Z<|Zq (W.shr Z Z (Int.natCast_nonneg _))<|Zq (W.toB Z tu34 tu5)<|Zm Z<|Zq (W.toB Z tu34 tu5)<|Ef Z (lit (R:=u8R) ([(z51 x7 24).toUInt8,(z51 x7 16).toUInt8,(z51 x7 8).toUInt8,x7.toUInt8]:List UInt8) 1100 (pP Z Z<|pP Z Z<|pP Z Z<|pP Z Z<|pN) Z tu52 ti5 Z Z) fun v9=>z0u fun x10 h11=>Ef Z (apn 1 Z Z Z (.own 1100 Z) h11 tu52 ti5 Z Z Z) fun v12=>Za Z<|z2i<|z5x<|z1r<|z2x<|Zq (I.add Z Z)<|Zm Z<|z2i<|z2r (fun aa ww h=>⟨nvl [v12],Zu h [1,1001]⟩)
   ·refine z3u<|z2a<|z2b<|z4j (fun aa ww h=>⟨nvl [(n5 0)],Zu h [1,1001]⟩)
  ·refine gEx fun n13=>gSR<|Zm Z<|Zm Z<|z8q 1 [8,43] Z (fS Z<|fS Z<|fN)<|Ef Z (lit (R:=(z02 u8R)) ([s3,a1]:List (List UInt8)) 1101 (pP Z Z<|pP Z Z<|pN) Z tu193 zdf Z Z) fun v14=>z8q 1101 [45] Z (fS Z<|fN)<|Zc [1001] [] Tryz.func160 Z (zee _) fun r15 n16=>Zm Z<|Zq (ext Z Z)<|Zq (ext Z Z)<|Eb Z (z9w 1102 z3z (.zr (R:=aZ) (x:=(Vector.replicate 32 0)) zgp)) fun v17=>Es (sto 1102 Z Z fH Z z3z)<|Zb Z<|gSR<|Zb Z<|zas (fun (s18:UInt64) aa ww=>Sta (ctx 63 H [zG1] w) [(12,.rd z0k r15.2),(13,.rd z23 s18)] [zG1] aa ww) ?_ (fun s18=>?_)
   ·refine gSR<|z14q 1102 11 Z Z<|Zq (z17f (i:=0) (j:=8) Z .no (.to Z) tu45 ti5 (by decide) Z Z Z)<|Zq (z4u Z .rd Z tu52)<|Zm Z<|Zn<|z3v (fun (s19:UInt64 × Int) aa ww=>Sta (ctx 63 H [zG1] w) [(12,.rd z0k r15.2),(13,.rd z23 s19.1),(49,.rd (z02 u8R) ((r15.1.toList.drop 0).take 8)),(50,.rd z0k (((r15.1.toList.drop 0).take 8).length:Int)),(51,.rd z0k s19.2)] [zG1] aa ww) (fun aa ww h=>Zu h [1001]) (fun s19=>?_)
    refine gSR<|Zq (I.lss Z Z)<|Zn<|z1h<|gIf Z Z (fun h20=>?_) (fun h20=>?_)
    ·refine Zt<|z1h<|z95<|gSR<|z0u fun x21 h22=>Zq (ixR Z Z h22 tu52 ti5 Z)<|Zq (ldR Z ty5)<|Zb Z<|z2x<|Zm Z<|Zq (U.shl Z Z (Int.natCast_nonneg _))<|Zm Z<|Zq (B.toU Z tu5 tu35)<|Zq (U.or Z Z)<|Za Z<|z2z 13 Z fun y23=>z2i<|z5x<|z1r<|z2x<|Zq (I.add Z Z)<|Zm Z<|z2i<|z2r (fun aa ww h=>Zu h [1001])
    ·refine z3u<|z2a<|z2b<|z4j (fun aa ww h=>Zu h [1001])
   ·refine gSR<|Zm Z<|Zm Z<|Za Z<|Zb Z<|z14<|Ze [] [1001] Z
def zae (a0:UInt32) (a1:UInt32) (a2:List UInt8):Option (UInt32 × Int) :=
 zhh 99 a2 [a0,a1] >>= fun r2 =>
 if r2.2 != 0 then
  some (0,r2.2)
 else
  some ((r2.1 % 500000003).toUInt32) >>= fun y5 =>
  some (y5,0)
theorem zhu (a0:UInt32) (a1:UInt32) (a2:List UInt8):z2v Tryz.prog 169 [.rd z11 a0,.rd z11 a1,.rd (z02 u8R) a2] [zG1] (zae a0 a1 a2) (fun r nv=>⟨[.rd z11 r.1,.rd z0k r.2],[(1001,some (.bool true,.glob 1 (z4i 64 z11) z69))]⟩):=by
 refine z3y 24 Tryz.func169 Z Z Z fun H w=>?_
 refine gSR<|Za Z<|Zb Z<|gSR<|Zm Z<|Zm Z<|Zm Z<|Ef Z (lit (R:=z11) ([a0,a1]:List UInt32) 1 (pP Z Z<|pP Z Z<|pN) Z tu232 z93 Z Z) fun v1=>z8q 1 [14] Z (fS Z<|fN)<|Zc [1001] [] Tryz.func208 Z (zo9 _ _ _) fun r2 n3=>Zm Z<|Zq (ext Z Z)<|Zq (ext Z Z)<|Za Z<|Zb Z<|z1h<|gSR<|Zm Z<|Zq (I.neq Z Z)<|Zj Z (fun h4=>?_) (fun h4=>?_)
 ·refine gSR<|Zm Z<|Za Z<|Zb Z<|z14<|z1c<|Ze [] [1001] Z
 ·refine Zt<|gSR<|Zm Z<|Zq (U.rem Z Z (by decide))<|Zq (U.toW Z tu35 tu34)<|Za Z<|z2z 6 Z fun y5=>Zb Z<|z14<|Ze [] [1001] Z
def ze4 (a0:UInt32) (a1:List UInt8) (a2:z05):Option (Int) :=
 zfm a0 >>= fun r2 =>
 if !r2 then
  some 2
 else
  if decide (9991<(a1.length:Int)) then
   some 4
  else
   if decide (500000003≤(max a2.E a2.S)) then
    some 22
   else
    zk9 a0 (500000003 - a2.E.toUInt64) >>= fun r7 =>
    zhy a2.S.toUInt64 >>= fun r9 =>
    zku r9 r7.1 >>= fun r11 =>
    zae r11.1 a0 a1 >>= fun r13 =>
    if r13.2 != 0 then
     some 22
    else
     if r13.1 != a2.E then
      some 22
     else
      some 0
theorem zlf (a0:UInt32) (a1:List UInt8) (a2:z05):z2v Tryz.prog 122 [.rd z11 a0,.rd (z02 u8R) a1,.rd z09 a2] [zG1] (ze4 a0 a1 a2) (fun r nv=>⟨[.rd z0k r],[(1001,some (.bool true,.glob 1 (z4i 64 z11) z69))]⟩):=by
 refine z3y 58 Tryz.func122 Z Z Z fun H w=>?_
 refine gSR<|Eb Z (bx 1 Z) fun v1=>Zb Z<|z1h<|gSR<|Zm Z<|Zc [] [] Tryz.func147 Z (zgm _) fun r2 n3=>Zq (zjc Z)<|Zj Z (fun h4=>?_) (fun h4=>?_)
 ·refine gSR<|Zb Z<|z14<|z1c<|Ze [] [1001] Z
 ·refine Zt<|z1h<|gSR<|Zm Z<|Zq (z4u Z .rd Z tu52)<|Zq (I.gtr Z Z)<|Zj Z (fun h5=>?_) (fun h5=>?_)
  ·refine gSR<|Zb Z<|z14<|z1c<|Ze [] [1001] Z
  ·refine Zt<|z1h<|gSR<|Zq (faB 1 Z Z Tryz.underlying41 Z (by exact z93))<|Zq (ld 1 Z Z (fP (z7m _)) zd7 Z)<|Zq (faB 1 Z Z Tryz.underlying41 Z (by exact z93))<|Zq (ld 1 Z Z (fP (z8x _)) zd7 Z)<|Zq (W.max Z Z)<|Zq (W.geq Z Z)<|Zj Z (fun h6=>?_) (fun h6=>?_)
   ·refine gSR<|Zb Z<|z14<|z1c<|Ze [] [1001] Z
   ·refine Zt<|gSR<|Zm Z<|Zq (faB 1 Z Z Tryz.underlying41 Z (by exact z93))<|Zq (ld 1 Z Z (fP (z7m _)) zd7 Z)<|Zq (W.toU Z tu34 tu35)<|Zq (U.sub Z Z)<|Zc [] [] Tryz.func166 Z (zot _ _) fun r7 n8=>Zm Z<|Zq (ext Z Z)<|Zq (ext Z Z)<|Za Z<|Zb Z<|gSR<|Zq (faB 1 Z Z Tryz.underlying41 Z (by exact z93))<|Zq (ld 1 Z Z (fP (z8x _)) zd7 Z)<|Zq (W.toU Z tu34 tu35)<|Zc [] [] Tryz.func168 Z (zng _) fun r9 n10=>Zm Z<|Zc [] [] Tryz.func167 Z (zpm _ _) fun r11 n12=>Zm Z<|Zq (ext Z Z)<|Zq (ext Z Z)<|Za Z<|Zb Z<|z1h<|gSR<|Zm Z<|Zm Z<|Zm Z<|Zc [1001] [] Tryz.func169 Z (zhu _ _ _) fun r13 n14=>Zm Z<|Zq (ext Z Z)<|Zq (ext Z Z)<|Za Z<|Zb Z<|gSR<|Zm Z<|Zq (I.neq Z Z)<|Zm Z<|z1d 52 Z (fun h15=>?_) (fun h15=>?_)
    ·refine lKn 51 Z h15<|Zk Z<|Zk Z<|Zk Z<|Zk Z<|Zq (pkT Z Z)<|Zn<|zhe Z<|gSR<|Zb Z<|z14<|z1c<|Ze [] [1001] Z
    ·refine lKn 51 Z h15<|z1q Zx Z Z (mv Z)<|z1q Zx Z Z (faB 1 Z Z Tryz.underlying41 Z (by exact z93))<|z1q Zx Z Z (ld 1 Z Z (fP (z7m _)) zd7 Z)<|z1q Zx Z Z (W.neq Z Z)<|Zq (pkF Z Z)<|Zj Z (fun h16=>?_) (fun h16=>?_)
     ·refine gKn 56 Z h16<|gSR<|Zb Z<|z14<|z1c<|Ze [] [1001] Z
     ·refine gKn 56 Z h16<|Zt<|gSR<|Zb Z<|z14<|Ze [] [1001] Z
def zhj (a0:z01):Option (Int) :=
 zcm a0 >>= fun r2 =>
 if r2 != 0 then
  some r2
 else
  zdk a0 >>= fun r5 =>
  ze4 a0.Author r5.1 a0.Sig >>= fun r7 =>
  some r7
theorem zoi (a0:z01):z2v Tryz.prog 74 [.rd z04 a0] [zG1] (zhj a0) (fun r nv=>⟨[.rd z0k r],[(1001,some (.bool true,.glob 1 (z4i 64 z11) z69))]⟩):=by
 refine z3y 22 Tryz.func74 Z Z Z fun H w=>?_
 refine gSR<|Eb Z (bx 1 Z) fun v1=>Zb Z<|z1h<|gSR<|Zq (ld 1 Z Z fH z9s Z)<|Zc [] [] Tryz.func106 Z (zdy _) fun r2 n3=>Zb Z<|gSR<|Zm Z<|Zq (I.neq Z Z)<|Zj Z (fun h4=>?_) (fun h4=>?_)
 ·refine gSR<|Zm Z<|Zb Z<|z14<|z1c<|Ze [] [1001] Z
 ·refine Zt<|gSR<|Zq (ld 1 Z Z fH z9s Z)<|Zc [] [(100,2)] Tryz.func107 Z (zho _) fun r5 n6=>Zm Z<|Zq (ext Z Z)<|Zq (ext Z Z)<|Za Z<|Zb Z<|gSR<|Zq (faB 1 Z Z Tryz.underlying43 Z (by exact z93))<|Zq (ld 1 Z Z (fP (z58 _)) zd7 Z)<|Zm Z<|Zq (faB 1 Z Z Tryz.underlying43 Z (by exact zsk))<|Zq (ld 1 Z Z (fP (z5g _)) ty41 Z)<|z8q 2 [14,4,18] Z (fS Z<|fS Z<|fS Z<|fN)<|Zc [1001] [] Tryz.func122 Z (zlf _ _ _) fun r7 n8=>Zb Z<|z14<|Ze [] [1001] Z
def z48 (s4:UInt64 × (List UInt8)):Option (Sum ((List UInt8)) (UInt64 × (List UInt8))) :=
 if decide (0<s4.1) then
  app 1 s4.2 [(s4.1 % 256).toUInt8] >>= fun x8 =>
  some (.inr (s4.1 / 256,x8))
 else
  some (.inl s4.2)
def z4b (s3:(List UInt8)) (s15:(List UInt8) × Int):Option (Sum ((List UInt8)) ((List UInt8) × Int)) :=
 if decide (0≤s15.2) then
  idx s3 s15.2 >>= fun x18 =>
  app 1 s15.1 [x18] >>= fun x21 =>
  some (w64 (s15.2 - 1)) >>= fun y24 =>
  some (.inr (x21,y24))
 else
  some (.inl s15.1)
def z2j (a0:UInt64):Option ((List UInt8)) :=
 if decide (a0≤247) then
  some [a0.toUInt8]
 else
  (iter (z48) (a0,[])) >>= fun s3 =>
  (some (w64 ((s3.length:Int) - 1)) >>= fun y14 =>
  iter (z4b s3) ([UInt8.ofInt (w64 (247+(s3.length:Int)))],y14)) >>= fun s13 =>
  some s13
def z5h (a0:List V3) (s4:(List UInt8) × Int):Option (Sum ((List UInt8)) ((List UInt8) × Int)) :=
 if decide (s4.2<(a0.length:Int)) then
  idx a0 s4.2 >>= fun x7 =>
  app 1 s4.1 x7.toList >>= fun x9 =>
  some (w64 (s4.2+1)) >>= fun y12 =>
  some (.inr (x9,y12))
 else
  some (.inl s4.1)
def zc5 (a0:List V3):Option ((List UInt8)) :=
 z2j (UInt64.ofInt (a0.length:Int)) >>= fun r1 =>
 (iter (z5h a0) (r1,0)) >>= fun s3 =>
 some s3
def z7n (a0:List UInt8):Option ((List UInt8)) :=
 z2j (UInt64.ofInt (a0.length:Int)) >>= fun r1 =>
 app 1 r1 a0 >>= fun x3 =>
 some x3
def za2 (a0:Int):Option ((List UInt8)) :=
 if decide (0≤a0) then
  z2j (2 * (UInt64.ofInt a0)) >>= fun r2 =>
  some r2
 else
  z2j ((2 * (UInt64.ofInt (w64 (0 - (w64 (a0+1))))))+1) >>= fun r4 =>
  some r4
def z4s (a0:z00) (s11:(List UInt8) × Int):Option (Sum ((List UInt8)) ((List UInt8) × Int)) :=
 if decide (0≤s11.2) then
  chk (0≤w64 (8 * s11.2)) >>= fun u14 =>
  app 1 s11.1 [(z5p a0.Bits ((w64 (8 * s11.2):Int).toNat)).toUInt8] >>= fun x17 =>
  some (w64 (s11.2 - 1)) >>= fun y20 =>
  some (.inr (x17,y20))
 else
  some (.inl s11.1)
def zb4 (a0:z00):Option ((List UInt8)) :=
 if a0.Kind==1 then
  za2 a0.Num >>= fun r4 =>
  app 1 [a0.Kind] r4 >>= fun x6 =>
  some x6
 else
  if a0.Kind==2 then
   (iter (z4s a0) ([a0.Kind],7)) >>= fun s10 =>
   some s10
  else
   chk (a0.Text.length≤281474976710656) >>= fun u22 =>
   z7n a0.Text >>= fun r24 =>
   app 1 [a0.Kind] r24 >>= fun x26 =>
   some x26
def z9b (a0:z01):Option ((List UInt8)) :=
 z2j a0.Author.toUInt64 >>= fun r3 =>
 app 1 [111] r3 >>= fun x5 =>
 zc5 a0.Preds >>= fun r8 =>
 app 1 x5 r8 >>= fun x10 =>
 z2j a0.Stamp >>= fun r13 =>
 app 1 x10 r13 >>= fun x15 =>
 app 1 x15 [a0.Act.Kind] >>= fun x19 =>
 (if a0.Act.Kind != 1 then
  chk (a0.Act.Key.length≤281474976710656) >>= fun u24 =>
  z7n a0.Act.Key >>= fun r26 =>
  app 1 x19 r26 >>= fun x28 =>
  some x28
 else
  some x19) >>= fun s22 =>
 if a0.Act.Kind==4 then
  zb4 a0.Act.Value >>= fun r33 =>
  app 1 s22 r33 >>= fun x35 =>
  some x35
 else
  some s22
def zax (a0:z01):Option ((List UInt8)) :=
 z9b a0 >>= fun r2 =>
 z2j a0.Sig.E.toUInt64 >>= fun r4 =>
 app 1 r2 r4 >>= fun x6 =>
 z2j a0.Sig.S.toUInt64 >>= fun r9 =>
 app 1 x6 r9 >>= fun x11 =>
 some x11
def zei  : Option ((Vector UInt32 8)) :=
 some (#v[1779033703,3144134277,1013904242,2773480762,1359893119,2600822924,528734635,1541459225]:Vector UInt32 8)
def z5m (a0:Int) (s3:(List UInt8)):Option (Sum ((List UInt8)) ((List UInt8))) :=
 if (Int.tmod (w64 ((w64 (a0+(s3.length:Int)))+8)) 64) != 0 then
  app 1 s3 [0] >>= fun x7 =>
  some (.inr x7)
 else
  some (.inl s3)
def z5k (a0:Int) (s12:(List UInt8) × Int):Option (Sum ((List UInt8)) ((List UInt8) × Int)) :=
 if decide (0≤s12.2) then
  chk (0≤w64 (8 * s12.2)) >>= fun u15 =>
  app 1 s12.1 [(z5p (8 * (UInt64.ofInt a0)) ((w64 (8 * s12.2):Int).toNat)).toUInt8] >>= fun x18 =>
  some (w64 (s12.2 - 1)) >>= fun y21 =>
  some (.inr (x18,y21))
 else
  some (.inl s12.1)
def zc2 (a0:Int):Option ((List UInt8)) :=
 (iter (z5m a0) [128]) >>= fun s2 =>
 (iter (z5k a0) (s2,7)) >>= fun s11 =>
 some s11
def z2g (a0:UInt32) (a1:Int):Option (UInt32) :=
 chk (0≤a1) >>= fun u1 =>
 chk (0≤w64 (32 - a1)) >>= fun u3 =>
 some ((z51 a0 ((a1:Int).toNat)) ||| (zn2 a0 ((w64 (32 - a1):Int).toNat))) >>= fun y5 =>
 some y5
def zbb  : Option ((List UInt32)) :=
 some [1116352408,1899447441,3049323471,3921009573,961987163,1508970993,2453635748,2870763221,3624381080,310598401,607225278,1426881987,1925078388,2162078206,2614888103,3248222580,3835390401,4022224774,264347078,604807628,770255983,1249150122,1555081692,1996064986,2554220882,2821834349,2952996808,3210313671,3336571891,3584528711,113926993,338241895,666307205,773529912,1294757372,1396182291,1695183700,1986661051,2177026350,2456956037,2730485921,2820302411,3259730800,3345764771,3516065817,3600352804,4094571909,275423344,430227734,506948616,659060556,883997877,958139571,1322822218,1537002063,1747873779,1955562222,2024104815,2227730452,2361852424,2428436474,2756734187,3204031479,3329325298]
def z47 (a1:List UInt8) (s4:(List UInt32) × Int):Option (Sum ((List UInt32)) ((List UInt32) × Int)) :=
 if decide (s4.2<16) then
  idx a1 (w64 (4 * s4.2)) >>= fun x7 =>
  idx a1 (w64 ((w64 (4 * s4.2))+1)) >>= fun x9 =>
  idx a1 (w64 ((w64 (4 * s4.2))+2)) >>= fun x11 =>
  idx a1 (w64 ((w64 (4 * s4.2))+3)) >>= fun x13 =>
  app 4 s4.1 [(((((x7.toUInt32 * 256)+x9.toUInt32) * 256)+x11.toUInt32) * 256)+x13.toUInt32] >>= fun x16 =>
  some (w64 (s4.2+1)) >>= fun y19 =>
  some (.inr (x16,y19))
 else
  some (.inl s4.1)
def z4a (s22:(List UInt32) × Int):Option (Sum ((List UInt32)) ((List UInt32) × Int)) :=
 if decide (s22.2<64) then
  idx s22.1 (w64 (s22.2 - 15)) >>= fun x25 =>
  idx s22.1 (w64 (s22.2 - 2)) >>= fun x27 =>
  idx s22.1 (w64 (s22.2 - 16)) >>= fun x29 =>
  idx s22.1 (w64 (s22.2 - 7)) >>= fun x31 =>
  z2g x25 7 >>= fun r33 =>
  z2g x25 18 >>= fun r36 =>
  z2g x27 17 >>= fun r39 =>
  z2g x27 19 >>= fun r42 =>
  app 4 s22.1 [((x29+x31)+((r33 ^^^ r36) ^^^ (z51 x25 3)))+((r39 ^^^ r42) ^^^ (z51 x27 10))] >>= fun x45 =>
  some (w64 (s22.2+1)) >>= fun y48 =>
  some (.inr (x45,y48))
 else
  some (.inl s22.1)
def z2o (s21:(List UInt32)) (r50:(List UInt32)) (s54:(Vector UInt32 8) × Int):Option (Sum ((Vector UInt32 8)) ((Vector UInt32 8) × Int)) :=
 if decide (s54.2<64) then
  z67 s54.1 0 >>= fun x56 =>
  z67 s54.1 1 >>= fun x58 =>
  z67 s54.1 2 >>= fun x60 =>
  z67 s54.1 4 >>= fun x62 =>
  z67 s54.1 5 >>= fun x64 =>
  z67 s54.1 6 >>= fun x66 =>
  z67 s54.1 7 >>= fun x68 =>
  idx r50 s54.2 >>= fun x70 =>
  idx s21 s54.2 >>= fun x72 =>
  z2g x62 6 >>= fun r74 =>
  z2g x62 11 >>= fun r76 =>
  z2g x62 25 >>= fun r78 =>
  some ((((x68+((r74 ^^^ r76) ^^^ r78))+((x62 &&& x64) ^^^ ((~~~x62) &&& x66)))+x70)+x72) >>= fun y80 =>
  z2g x56 2 >>= fun r81 =>
  z2g x56 13 >>= fun r83 =>
  z2g x56 22 >>= fun r85 =>
  some (((r81 ^^^ r83) ^^^ r85)+(((x56 &&& x58) ^^^ (x56 &&& x60)) ^^^ (x58 &&& x60))) >>= fun y87 =>
  z67 s54.1 3 >>= fun x88 =>
  some (w64 (s54.2+1)) >>= fun y90 =>
  some (.inr ((#v[y80+y87,x56,x58,x60,x88+y80,x62,x64,x66]:Vector UInt32 8),y90))
 else
  some (.inl s54.1)
def z1n (s53:(Vector UInt32 8)) (s92:(Vector UInt32 8) × Int):Option (Sum ((Vector UInt32 8)) ((Vector UInt32 8) × Int)) :=
 if decide (s92.2<8) then
  z67 s92.1 s92.2 >>= fun x94 =>
  z67 s53 s92.2 >>= fun x96 =>
  z67 s92.1 s92.2 >>= fun x98 =>
  some (w64 (s92.2+1)) >>= fun y100 =>
  some (.inr (z7d s92.1 s92.2 (x94+x96),y100))
 else
  some (.inl s92.1)
def z9y (a0:Vector UInt32 8) (a1:List UInt8):Option ((Vector UInt32 8)) :=
 (iter (z47 a1) ([],0)) >>= fun s3 =>
 (iter (z4a) (s3,16)) >>= fun s21 =>
 zbb >>= fun r50 =>
 (iter (z2o s21 r50) (a0,0)) >>= fun s53 =>
 (iter (z1n s53) (a0,0)) >>= fun s91 =>
 some s91
def z44 (a1:List UInt8) (s4:(Vector UInt32 8) × Int):Option (Sum ((Vector UInt32 8)) ((Vector UInt32 8) × Int)) :=
 if decide ((w64 (s4.2+64))≤(a1.length:Int)) then
  cut a1 s4.2 (w64 (s4.2+64)) >>= fun x6 =>
  z9y s4.1 x6 >>= fun r8 =>
  some (w64 (s4.2+64)) >>= fun y10 =>
  some (.inr (r8,y10))
 else
  some (.inl s4.1)
def za3 (a0:Vector UInt32 8) (a1:List UInt8):Option ((Vector UInt32 8)) :=
 (iter (z44 a1) (a0,0)) >>= fun s3 =>
 some s3
def z3r (a0:Vector UInt32 8) (s5:V3 × Int):Option (Sum (V3) (V3 × Int)) :=
 if decide (s5.2<32) then
  z67 a0 (w64 (Int.tdiv s5.2 4)) >>= fun x7 =>
  chk (0≤w64 (24 - (w64 (8 * (Int.tmod s5.2 4))))) >>= fun u9 =>
  z67 s5.1 s5.2 >>= fun x11 =>
  some (w64 (s5.2+1)) >>= fun y13 =>
  some (.inr (z7d s5.1 s5.2 ((z51 x7 ((w64 (24 - (w64 (8 * (Int.tmod s5.2 4)))):Int).toNat)).toUInt8),y13))
 else
  some (.inl s5.1)
def z97 (a0:Vector UInt32 8):Option (V3) :=
 (iter (z3r a0) ((Vector.replicate 32 0),0)) >>= fun s4 =>
 some s4
def zbf (a0:List UInt8):Option (V3) :=
 zei >>= fun r2 =>
 app 1 ([]:List UInt8) a0 >>= fun x5 =>
 zc2 (a0.length:Int) >>= fun r8 =>
 app 1 x5 r8 >>= fun x10 =>
 za3 r2 x10 >>= fun r13 =>
 z97 r13 >>= fun r15 =>
 some r15
def zbp (a0:z01):Option (V3) :=
 zax a0 >>= fun r3 =>
 zbf r3 >>= fun r5 =>
 some r5
def z6a (a0:V3) (a1:V3) (s4:Int):Option (Sum (Sum Int Unit) Int) :=
 if decide (s4<32) then
  z67 a0 s4 >>= fun x6 =>
  z67 a1 s4 >>= fun x8 =>
  if decide (x6<x8) then
   some (.inl (.inl (-1)))
  else
   z67 a0 s4 >>= fun x11 =>
   z67 a1 s4 >>= fun x13 =>
   if decide (x13<x11) then
    some (.inl (.inl 1))
   else
    some (.inr (w64 (s4+1)))
 else
  some (.inl (.inr ()))
def z6z (a0:V3) (a1:V3):Option (Int) :=
 z59 (iter (z6a a0 a1) 0) fun s3 =>
 some 0
def z3b (a0:List V3) (s2:Int):Option (Sum (Sum Bool Unit) Int) :=
 if decide (s2<(a0.length:Int)) then
  idx a0 (w64 (s2 - 1)) >>= fun x4 =>
  idx a0 s2 >>= fun x6 =>
  z6z x4 x6 >>= fun r8 =>
  if decide (0≤r8) then
   some (.inl (.inl false))
  else
   some (.inr (w64 (s2+1)))
 else
  some (.inl (.inr ()))
def z7z (a0:List V3):Option (Bool) :=
 z59 (iter (z3b a0) 1) fun s1 =>
 some true
def z4o (a2:UInt64) (s2:UInt64 × UInt64 × UInt64):Option (Sum UInt64 (UInt64 × UInt64 × UInt64)) :=
 if decide (0<s2.2.1) then
  (if (s2.2.1 % 2)==1 then
   chk (a2≠0) >>= fun u6 =>
   some ((s2.2.2 * s2.1) % a2) >>= fun y8 =>
   some y8
  else
   some s2.2.2) >>= fun s4 =>
  chk (a2≠0) >>= fun u9 =>
  some ((s2.1 * s2.1) % a2) >>= fun y11 =>
  some (.inr (y11,s2.2.1 / 2,s4))
 else
  some (.inl s2.2.2)
def z8l (a0:UInt64) (a1:UInt64) (a2:UInt64):Option (UInt64) :=
 (iter (z4o a2) (a0,a1,1)) >>= fun s1 =>
 some s1
def zbl (a0:UInt32):Option (Bool) :=
 if decide (1≤a0) then
  if decide (a0<1000000007) then
   z8l a0.toUInt64 500000003 1000000007 >>= fun r3 =>
   some (r3==1)
  else
   some false
 else
  some false
def z5f (a0:List UInt8) (s4:Int):Option (Sum (Sum Bool Unit) Int) :=
 if decide (s4<(a0.length:Int)) then
  idx a0 s4 >>= fun x6 =>
  if decide (x6<33) then
   some (.inl (.inl false))
  else
   idx a0 s4 >>= fun x9 =>
   if decide (126<x9) then
    some (.inl (.inl false))
   else
    some (.inr (w64 (s4+1)))
 else
  some (.inl (.inr ()))
def z99 (a0:List UInt8):Option (Bool) :=
 if decide ((a0.length:Int)<1) then
  some false
 else
  if decide (20<(a0.length:Int)) then
   some false
  else
   z59 (iter (z5f a0) 0) fun s3 =>
   some true
def z8v (a0:UInt64):Option (Int) :=
 some (w64 (((a0 % 9223372036854775808) / 4503599627370496).toNat:Int)) >>= fun y1 =>
 some y1
def zc7 (a0:UInt64):Option (UInt64) :=
 some (a0 % 4503599627370496) >>= fun y1 =>
 some y1
def zb2 (a0:UInt64):Option (UInt8) :=
 z8v a0 >>= fun r1 =>
 zc7 a0 >>= fun r3 =>
 z59 (if r1==0 then
  if r3==0 then
   some (.inl 1)
  else
   some (.inr ())
 else
  some (.inr ())) fun s5 =>
 if r1==0 then
  some 2
 else
  if decide (r1<2047) then
   some 3
  else
   if r3==0 then
    some 4
   else
    some 5
def zaz (a0:UInt64):Option (UInt64) :=
 zb2 a0 >>= fun r1 =>
 if r1==5 then
  some 9221120237041090560
 else
  some a0
def z36 (a0:List UInt8) (s2:Int):Option (Sum (Sum Bool Unit) Int) :=
 if decide (s2<(a0.length:Int)) then
  idx a0 s2 >>= fun x4 =>
  if decide (x4<32) then
   some (.inl (.inl false))
  else
   idx a0 s2 >>= fun x7 =>
   if decide (126<x7) then
    some (.inl (.inl false))
   else
    some (.inr (w64 (s2+1)))
 else
  some (.inl (.inr ()))
def z88 (a0:List UInt8):Option (Bool) :=
 z59 (iter (z36 a0) 0) fun s1 =>
 some true
def zay (a0:z00):Option (Int) :=
 if a0.Kind==1 then
  if a0.Bits==0 then
   if a0.Text==[] then
    some 0
   else
    some 8
  else
   some 8
 else
  if a0.Kind==2 then
   (if a0.Num==0 then
    if a0.Text==[] then
     zaz a0.Bits >>= fun r9 =>
     some (r9==a0.Bits)
    else
     some false
   else
    some false) >>= fun s6 =>
   if s6 then
    some 0
   else
    some 8
  else
   if a0.Kind==3 then
    (if a0.Num==0 then
     if a0.Bits==0 then
      if decide ((a0.Text.length:Int)≤30) then
       z88 a0.Text >>= fun r17 =>
       some r17
      else
       some false
     else
      some false
    else
     some false) >>= fun s13 =>
    if s13 then
     some 0
    else
     some 8
   else
    some 8
def z8r (a0:z06):Option (Int) :=
 some (decide (a0.Value=(⟨0,0,0,[]⟩:z00))) >>= fun y2 =>
 if a0.Kind==1 then
  if a0.Key==[] then
   if y2 then
    some 0
   else
    some 8
  else
   some 8
 else
  (if a0.Kind==2 then
   some true
  else
   some (a0.Kind==3)) >>= fun s6 =>
  if s6 then
   z99 a0.Key >>= fun r9 =>
   if r9 then
    if y2 then
     some 0
    else
     some 8
   else
    some 8
  else
   if a0.Kind==4 then
    z99 a0.Key >>= fun r14 =>
    if r14 then
     zay a0.Value >>= fun r17 =>
     if r17==0 then
      some 0
     else
      some 8
    else
     some 8
   else
    some 8
def z3l (a0:UInt32):Option (Bool) :=
 some (decide (a0.toUInt64<500000003)) >>= fun y1 =>
 some y1
def z6w (a0:z01):Option (Int) :=
 if decide (4<(a0.Preds.length:Int)) then
  some 4
 else
  z7z a0.Preds >>= fun r3 =>
  if !r3 then
   some 32
  else
   (zbl a0.Author >>= fun r7 =>
   if !r7 then
    some true
   else
    if decide (1000000000000<a0.Stamp) then
     some true
    else
     z8r a0.Act >>= fun r11 =>
     if r11 != 0 then
      some true
     else
      z3l a0.Sig.E >>= fun r14 =>
      if !r14 then
       some true
      else
       z3l a0.Sig.S >>= fun r17 =>
       some (!r17)) >>= fun s6 =>
   if s6 then
    some 8
   else
    some 0
def z62 (a0:UInt32) (a1:UInt64):Option (UInt32) :=
 z8l a0.toUInt64 a1 1000000007 >>= fun r1 =>
 some r1.toUInt32
def zg9 (a0:UInt32):Option (UInt32 × Int) :=
 zbl a0 >>= fun r1 =>
 if !r1 then
  some (0,2)
 else
  z62 a0 500000002 >>= fun r4 =>
  some (r4,0)
def zep (a0:UInt64):Option (UInt32) :=
 z62 4 a0 >>= fun r1 =>
 some r1
def zgb (a0:UInt32):Option (UInt32) :=
 zep a0.toUInt64 >>= fun r1 =>
 some r1
def zcq (a0:UInt32) (a1:UInt32):Option (UInt32) :=
 some (((a0.toUInt64 * a1.toUInt64) % 1000000007).toUInt32) >>= fun y1 =>
 some y1
def z9d (a0:UInt32):Option ((List UInt8)) :=
 some [(a0 / 16777216).toUInt8,((a0 / 65536) % 256).toUInt8,((a0 / 256) % 256).toUInt8,(a0 % 256).toUInt8]
def z4d (r1:V3) (s5:UInt64 × Int):Option (Sum UInt64 (UInt64 × Int)) :=
 if decide (s5.2<8) then
  z67 r1 s5.2 >>= fun x7 =>
  some ((256 * s5.1)+x7.toUInt64) >>= fun y9 =>
  some (w64 (s5.2+1)) >>= fun y10 =>
  some (.inr (y9,y10))
 else
  some (.inl s5.1)
def za6 (a0:List UInt8):Option (UInt64) :=
 zbf a0 >>= fun r1 =>
 (iter (z4d r1) (0,0)) >>= fun s4 =>
 some s4
def z89 (a0:UInt32) (a1:UInt32) (a2:List UInt8):Option (UInt32) :=
 z9d a0 >>= fun r2 =>
 app 1 [99] r2 >>= fun x4 =>
 z9d a1 >>= fun r7 =>
 app 1 x4 r7 >>= fun x9 =>
 app 1 x9 a2 >>= fun x12 =>
 za6 x12 >>= fun r15 =>
 some ((r15 % 500000003).toUInt32) >>= fun y17 =>
 some y17
def zav (a0:UInt32) (a1:List UInt8) (a2:z05):Option (Bool) :=
 z3l a2.E >>= fun r2 =>
 if !r2 then
  some false
 else
  z3l a2.S >>= fun r5 =>
  if !r5 then
   some false
  else
   z62 a0 a2.E.toUInt64 >>= fun r8 =>
   zg9 r8 >>= fun r10 =>
   zgb a2.S >>= fun r12 =>
   zcq r12 r10.1 >>= fun r14 =>
   z89 r14 a0 a1 >>= fun r16 =>
   some (r16==a2.E)
def zd6 (a0:z01):Option (Bool) :=
 z9b a0 >>= fun r2 =>
 zav a0.Author r2 a0.Sig >>= fun r4 =>
 some r4
def za1 (a0:z01):Option (Int) :=
 z6w a0 >>= fun r2 =>
 if r2 != 0 then
  z6w a0 >>= fun r5 =>
  some r5
 else
  zd6 a0 >>= fun r7 =>
  if !r7 then
   some 22
  else
   some 0
end
section
open Go Go.RowKit
set_option maxRecDepth 100000
def z0g (a0:List V3) (a1:V3) (s4:Int × Int):Option (Sum Int (Int × Int)) :=
 if decide (s4.1<s4.2) then
  some (w64 ((z5p (UInt64.ofInt (w64 (s4.1+s4.2))) 1).toNat:Int)) >>= fun y6 =>
  idx a0 y6 >>= fun x7 =>
  z83 x7 a1 >>= fun r9 =>
  if decide (r9<0) then
   some (.inr (w64 (y6+1),s4.2))
  else
   some (.inr (s4.1,y6))
 else
  some (.inl s4.1)
def z12 (a0:List V3) (a1:V3):Option (Int × Bool) :=
 some (a0.length:Int) >>= fun y2 =>
 (iter (z0g a0 a1) (0,y2)) >>= fun s3 =>
 if decide (s3<y2) then
  idx a0 s3 >>= fun x13 =>
  z83 x13 a1 >>= fun r15 =>
  some (s3,r15==0)
 else
  some (s3,false)
theorem z3q (a0:List V3) (a1:V3):z2v Tryz.prog 129 [.rd (z02 aZ) a0,.rd aZ a1,.val (.func (.func 48) #[] #[])] [] (z12 a0 a1) (fun r nv=>⟨[.rd z0k r.1,.rd z0o r.2],[]⟩):=by
 refine z3y 49 Tryz.func129 Z Z Z fun H w=>?_
 refine gSR<|Eb Z (bx 1 Z) fun v1=>Za Z<|Zb Z<|gSR<|Zm Z<|Zq (z4u Z .rd Z tu29)<|Za Z<|z2z 8 Z fun y2=>Zn<|gSR<|Zm Z<|Za Z<|Zb Z<|zas (fun (s3:Int) aa ww=>Sta (ctx 49 H [] w) [(0,.rd (z02 aZ) a0),(2,.val (.func (.func 48) #[] #[])),(4,.val (z0l v1 0)),(8,.rd z0k y2),(9,.rd z0k s3)] [(1,some (v1,.box 45 [.rd aZ a1]))] aa ww) ?_ (fun s3=>?_)
 ·refine z3v (fun (s4:Int × Int) aa ww=>Sta (ctx 49 H [] w) [(0,.rd (z02 aZ) a0),(2,.val (.func (.func 48) #[] #[])),(4,.val (z0l v1 0)),(8,.rd z0k y2),(9,.rd z0k s4.1),(10,.rd z0k s4.2)] [(1,some (v1,.box 45 [.rd aZ a1]))] aa ww) (fun aa ww h=>Zu h [1]) (fun s4=>?_)
  refine z1h<|gSR<|Zm Z<|Zm Z<|Zq (I.lss Z Z)<|Zj Z (fun h5=>?_) (fun h5=>?_)
  ·refine Zt<|z95<|gSR<|Zm Z<|Zm Z<|Zq (I.add Z Z)<|Zq (I.toU Z tu3 Tryz.underlying143)<|Zq (U.shr Z Z (Int.natCast_nonneg _))<|Zq (U.toI Z Tryz.underlying143 tu3)<|Za Z<|z2z 11 Z fun y6=>Zn<|z1h<|zds [] mixed Z Z<|hTk 0 Z Z (mv Z)<|hTk 1 Z Z (mv Z)<|hTk 2 Z Z (mv Z)<|zal fun x7 h8=>hTk 3 Z Z (ixR Z Z h8 tu29 z3z Z)<|hTk 4 Z Z (ldR Z z8w)<|hTk 5 Z Z (ld 1 Z Z fH z8w Z)<|zqz 6 [] [] Z (by kernel_rfl) Z (gd0 Z) Z Tryz.func48 Z Z Z (z94 _ _) (Y2 Z Z) (cN) Z rN Z (fun _ _=>z7w) fun r9 n10=>hTk 7 Z Z (I.lss Z Z)<|z9v (by kernel_rfl)<|z1r<|gIf Z Z (fun h11=>?_) (fun h11=>?_)
   ·refine z2x<|Zm Z<|Zq (I.add Z Z)<|Za Z<|z2i<|z5x<|z2r (fun aa ww h=>Zu h [1])
   ·refine z2x<|Zm Z<|Za Z<|z2i<|z5x<|z2r (fun aa ww h=>Zu h [1])
  ·refine z3u<|z2a<|z2b<|z4j (fun aa ww h=>Zu h [1])
 ·refine z1h<|zds [] mixed Z Z<|hTk 0 Z Z (mv Z)<|hTk 1 Z Z (mv Z)<|hTk 2 Z Z (mv Z)<|hTk 3 Z Z (I.lss Z Z)<|hTk 4 Z Z (mv Z)<|hIf 39 Z Z (fun h12=>?_) (fun h12=>?_)
  ·refine hKn 38 Z Z h12<|Zg 5 Z Z (mv Z)<|Zg 6 Z Z (mv Z)<|Zg 7 Z Z (mv Z)<|zal fun x13 h14=>Zg 8 Z Z (ixR Z Z h14 tu29 z3z Z)<|Zg 9 Z Z (ldR Z z8w)<|Zg 10 Z Z (ld 1 Z Z fH z8w Z)<|zqz 11 [] [] Z (by kernel_rfl) Z Zx Z Tryz.func48 Z Z Z (z94 _ _) (Y2 Z Z) (cN) Z rN Z (fun _ _=>z7w) fun r15 n16=>Zg 12 Z Z (I.eql Z Z)<|hTk 13 Z Z (pkT Z Z)<|hTk 14 Z Z (asg Z)<|hTk 15 Z Z (asg Z)<|z9v (by kernel_rfl)<|z1r<|z14<|Ze [] [] Z
  ·refine hKn 38 Z Z h12<|hSk 5 Z Z<|hSk 6 Z Z<|hSk 7 Z Z<|hSk 8 Z Z<|hSk 9 Z Z<|hSk 10 Z Z<|hSk 11 Z Z<|hSk 12 Z Z<|hTk 13 Z Z (pkF Z Z)<|hTk 14 Z Z (asg Z)<|hTk 15 Z Z (asg Z)<|z9v (by kernel_rfl)<|z1r<|z14<|Ze [] [] Z
def zj3 (a0:z0d) (a1:V3):Option (Int × Bool) :=
 z12 a0.IDs a1 >>= fun r3 =>
 some (r3.1,r3.2)
theorem zqg (a0:z0d) (a1:V3):z2v Tryz.prog 85 [.rd z1l a0,.rd aZ a1] [] (zj3 a0 a1) (fun r nv=>⟨[.rd z0k r.1,.rd z0o r.2],[]⟩):=by
 refine z3y 12 Tryz.func85 Z Z Z fun H w=>?_
 refine gSR<|Eb Z (bx 1 Z) fun v1=>Eb Z (bx 2 Z) fun v2=>Za Z<|Zb Z<|gSR<|Zq (faB 1 Z Z Tryz.underlying66 Z (by exact zd4))<|Zq (ld 1 Z Z (fP (z3e _)) zi6 Z)<|Zq (ld 2 Z Z fH z8w Z)<|Zc [] [] Tryz.func129 Z (z3q _ _) fun r3 n4=>Zq (ext Z Z)<|Zq (ext Z Z)<|Za Z<|Zb Z<|z14<|Ze [] [] Z
def z7l (a0:z0d) (s3:Int):Option (Sum (Sum Int Unit) Int) :=
 if decide (s3<(a0.IDs.length:Int)) then
  idx a0.IDs (w64 (s3 - 1)) >>= fun x5 =>
  idx a0.IDs s3 >>= fun x7 =>
  z83 x5 x7 >>= fun r9 =>
  if decide (0≤r9) then
   some (.inl (.inl 32))
  else
   some (.inr (w64 (s3+1)))
 else
  some (.inl (.inr ()))
def z8z (a0:z0d) (s19:(List Int) × (List (List Int)) × (List Int) × Int) (x22:z01) (s26:(List (List Int)) × Int):Option (Sum (Sum (Sum (Sum Int ((List Int) × (List (List Int)) × (List Int))) ((List Int) × (List (List Int)) × (List Int) × Int)) ((List (List Int)))) ((List (List Int)) × Int)) :=
 if decide (s26.2<(x22.Preds.length:Int)) then
  idx x22.Preds s26.2 >>= fun x29 =>
  zj3 a0 x29 >>= fun r32 =>
  if !r32.2 then
   some (.inl (.inl (.inl (.inl 40))))
  else
   idx s26.1 r32.1 >>= fun x35 =>
   app 8 x35 [s19.2.2.2] >>= fun x38 =>
   some (.inr (s26.1.set (r32.1:Int).toNat x38,w64 (s26.2+1)))
 else
  some (.inl (.inr s26.1))
def z91 (a0:z0d) (s19:(List Int) × (List (List Int)) × (List Int) × Int):Option (Sum (Sum Int ((List Int) × (List (List Int)) × (List Int))) ((List Int) × (List (List Int)) × (List Int) × Int)) :=
 if decide (s19.2.2.2<(a0.Ops.length:Int)) then
  idx a0.Ops s19.2.2.2 >>= fun x22 =>
  z59 (iter (z8z a0 s19 x22) (s19.2.1,0)) fun s25 =>
  idx s19.1 s19.2.2.2 >>= fun x42 =>
  idx (s19.1.set (s19.2.2.2:Int).toNat (x22.Preds.length:Int)) s19.2.2.2 >>= fun x44 =>
  if x44==0 then
   app 8 s19.2.2.1 [s19.2.2.2] >>= fun x48 =>
   some (.inr (s19.1.set (s19.2.2.2:Int).toNat (x22.Preds.length:Int),s25,x48,w64 (s19.2.2.2+1)))
  else
   some (.inr (s19.1.set (s19.2.2.2:Int).toNat (x22.Preds.length:Int),s25,s19.2.2.1,w64 (s19.2.2.2+1)))
 else
  some (.inl (.inr (s19.1,s19.2.1,s19.2.2.1)))
def z90 (x59:List Int) (s61:(List Int) × (List Int) × Int):Option (Sum ((List Int) × (List Int)) ((List Int) × (List Int) × Int)) :=
 if decide (s61.2.2<(x59.length:Int)) then
  idx x59 s61.2.2 >>= fun x64 =>
  idx s61.1 x64 >>= fun x66 =>
  idx s61.1 x64 >>= fun x68 =>
  idx (s61.1.set (x64:Int).toNat (w64 (x66 - 1))) x64 >>= fun x70 =>
  if x70==0 then
   app 8 s61.2.1 [x64] >>= fun x74 =>
   some (.inr (s61.1.set (x64:Int).toNat (w64 (x66 - 1)),x74,w64 (s61.2.2+1)))
  else
   some (.inr (s61.1.set (x64:Int).toNat (w64 (x66 - 1)),s61.2.1,w64 (s61.2.2+1)))
 else
  some (.inl (s61.1,s61.2.1))
def zap (s18:(List Int) × (List (List Int)) × (List Int)) (s53:(List Int) × (List Int) × Int):Option (Sum Int ((List Int) × (List Int) × Int)) :=
 if decide (s53.2.2<(s53.2.1.length:Int)) then
  (idx s53.2.1 s53.2.2 >>= fun x57 =>
  idx s18.2.1 x57 >>= fun x59 =>
  iter (z90 x59) (s53.1,s53.2.1,0)) >>= fun s56 =>
  some (w64 (s53.2.2+1)) >>= fun y78 =>
  some (.inr (s56.1,s56.2,y78))
 else
  some (.inl s53.2.2)
def zf7 (a0:z0d):Option (Int) :=
 z59 (iter (z7l a0) 1) fun s2 =>
 mkn 8 0 (a0.Ops.length:Int) >>= fun x12 =>
 mkn 24 ([]:List Int) (a0.Ops.length:Int) >>= fun x15 =>
 z59 (iter (z91 a0) (x12,x15,[],0)) fun s18 =>
 (iter (zap s18) (s18.1,s18.2.2,0)) >>= fun s52 =>
 if decide (s52<(a0.Ops.length:Int)) then
  some 36
 else
  some 0
theorem zpv (a0:z0d):z2v Tryz.prog 76 [.rd z1l a0] [] (zf7 a0) (fun r nv=>⟨[.rd z0k r],[]⟩):=by
 refine z3y 133 Tryz.func76 Z Z Z fun H w=>?_
 refine gSR<|Eb Z (bx 1 Z) fun v1=>Zb Z<|zbk (fun (s2:Unit) aa ww=>Sta (ctx 133 H [] w) [(1,.val (z0l v1 0))] [(1,some (v1,.box 66 [.rd z1l a0]))] aa ww) ?_ (fun s2=>?_)
 ·refine gSR<|Zb Z<|z3v (fun (s3:Int) aa ww=>Sta (ctx 133 H [] w) [(1,.val (z0l v1 0)),(3,.rd z0k s3)] [(1,some (v1,.box 66 [.rd z1l a0]))] aa ww) (fun aa ww h=>h.sub [1] (sS Z<|sS Z<|sN) (y1 Z)) (fun s3=>?_)
  refine z1h<|gSR<|Zm Z<|Zq (faB 1 Z Z Tryz.underlying66 Z (by exact zd4))<|Zq (ld 1 Z Z (fP (z3e _)) zi6 Z)<|Zq (z4u Z .rd Z tu29)<|Zq (I.lss Z Z)<|Zj Z (fun h4=>?_) (fun h4=>?_)
  ·refine Zt<|z1h<|z95<|z1h<|zds [] mixed Z Z<|hTk 0 Z Z (faB 1 Z Z Tryz.underlying66 Z (by exact zd4))<|hTk 1 Z Z (ld 1 Z Z (fP (z3e _)) zi6 Z)<|hTk 2 Z Z (mv Z)<|hTk 3 Z Z (I.sub Z Z)<|zal fun x5 h6=>hTk 4 Z Z (ixR Z Z h6 tu29 z3z Z)<|hTk 5 Z Z (ldR Z z8w)<|hTk 6 Z Z (faB 1 Z Z Tryz.underlying66 Z (by exact zd4))<|hTk 7 Z Z (ld 1 Z Z (fP (z3e _)) zi6 Z)<|hTk 8 Z Z (mv Z)<|zal fun x7 h8=>hTk 9 Z Z (ixR Z Z h8 tu29 z3z Z)<|hTk 10 Z Z (ldR Z z8w)<|zcl 11 [] [] Z (by kernel_rfl) Z (gd0 Z) Z Tryz.func48 Z Z (z94 _ _) (Y2 Z Z) rN Z (fun _ _=>z7w) fun r9 n10=>hTk 12 Z Z (I.geq Z Z)<|z9v (by kernel_rfl)<|z1r<|gIf Z Z (fun h11=>?_) (fun h11=>?_)
   ·refine gSR<|Zb Z<|z14<|z8k<|z1c<|zbj<|z9x<|zen [] [] Z (eE Z<|eN) (rN)
   ·refine z6o<|z5x<|z1r<|z2x<|Zm Z<|Zq (I.add Z Z)<|Za Z<|z2i<|z2r (fun aa ww h=>h.sub [1] (sS Z<|sS Z<|sN) (y1 Z))
  ·refine z3u<|z2a<|z2b<|z9t (fun aa ww h=>h.sub [1] (sS Z<|sN) (y1 Z))
 ·refine gSR<|Zq (faB 1 Z Z Tryz.underlying66 Z (by exact ti22))<|Zq (ld 1 Z Z (fP (z3d _)) ty22 Z)<|Zq (z4u Z .rd Z tu22)<|z0u fun x12 h13=>Ef Z (mks (R:=z0k) 44 Z Z h13 tu86 ti3 (Zr.num Z) Z) fun v14=>Zb Z<|gSR<|Zq (faB 1 Z Z Tryz.underlying66 Z (by exact ti22))<|Zq (ld 1 Z Z (fP (z3d _)) ty22 Z)<|Zq (z4u Z .rd Z tu22)<|z0u fun x15 h16=>Ef Z (mksF 45 Z Z h16 Tryz.underlying173 ti86 Z) fun v17=>z16m (base:=100000) (lits:=[(1,some (v1,.box 66 [.rd z1l a0])),(44,some (v14,.list z0k 3 x12)),(45,some (v17,.list zg3 86 (z9k (fun _=>Value.slice none 0 0) x15)))]) z0k 3 [1,44,45] (z13b h16) (Zi Z<|Zi Z<|Zi Z<|rN)<|Zb Z<|gSR<|Zb Z<|zbk (fun (s18:(List Int) × (List (List Int)) × (List Int)) aa ww=>∃ nv:Nat→Value,Sta (ctx 133 H [] w) [(1,.val (z0l v1 0)),(4,.val v14),(5,.val v17),(6,.val (nv 0))] ([(1,some (v1,.box 66 [.rd z1l a0])),(44,some (v14,.list z0k 3 s18.1)),(45,some (v17,.list zg3 86 (z9k (fun j=>nv (j+1)) s18.2.1))),(50,some ((nv 0),.list z0k 3 s18.2.2))]++znq 100000 z0k 3 (fun j=>nv (j+1)) s18.2.1 0) aa ww) ?_ (fun s18=>?_)
  ·refine gSR<|Zq (faB 1 Z Z Tryz.underlying66 Z (by exact ti22))<|Zq (ld 1 Z Z (fP (z3d _)) ty22 Z)<|Zq (z4u Z .rd Z tu22)<|Zm Z<|Zn<|gNew z0k 3 56<|z3v (fun (s19:(List Int) × (List (List Int)) × (List Int) × Int) aa ww=>∃ nv:Nat→Value,Sta (ctx 133 H [] w) [(1,.val (z0l v1 0)),(4,.val v14),(5,.val v17),(6,.val (nv 0)),(45,.rd (z02 z04) a0.Ops),(46,.rd z0k (a0.Ops.length:Int)),(47,.rd z0k s19.2.2.2)] ([(1,some (v1,.box 66 [.rd z1l a0])),(44,some (v14,.list z0k 3 s19.1)),(45,some (v17,.list zg3 86 (z9k (fun j=>nv (j+1)) s19.2.1))),(55,some ((nv 0),.list z0k 3 s19.2.2.1))]++znq 100000 z0k 3 (fun j=>nv (j+1)) s19.2.1 0) aa ww) (fun aa ww h=>⟨nvlF [(.slice none 0 0)] (fun _=>Value.slice none 0 0),h.subF (by repeat (first | refine z5t.cons Z ?_ | exact z5t.tail)) [1,44,45,56] (Zs Z Z Z Z<|sS Z<|sS Z<|sS Z<|sN) (Zi Z<|Zi Z<|Zi Z<|Zi Z<|rN) rfl⟩) (fun s19=>?_)
   refine gEx fun n20=>gSR<|Zq (I.lss Z Z)<|Zn<|z1h<|gIf Z Z (fun h21=>?_) (fun h21=>?_)
   ·refine Zt<|z1h<|z95<|gSR<|Zm Z<|z0u fun x22 h23=>Zq (ixR Z Z h23 tu22 z6n Z)<|Zq (ldR Z z9s)<|Eb Z (z9w 57 z6n (ZrE.rd (R:=z11) (x:=0) (Zr.num Z) (ZrE.nilS (ZrE.rd (R:=z23) (x:=0) (Zr.num Z) (ZrE.rd (R:=z08) (x:=(⟨0,[],(⟨0,0,0,[]⟩:z00)⟩:z06)) zia (ZrE.rd (R:=z09) (x:=(⟨0,0⟩:z05)) zi0 ZrE.nil Z) Z) Z)) Z)) fun v24=>Za Z<|znn aZ [.rd z11 0,.rd (z02 aZ) [],.rd z23 0,.rd z08 (⟨0,[],(⟨0,0,0,[]⟩:z00)⟩:z06),.rd z09 (⟨0,0⟩:z05)] 57 [.rd z11 0] [.rd z23 0,.rd z08 (⟨0,[],(⟨0,0,0,[]⟩:z00)⟩:z06),.rd z09 (⟨0,0⟩:z05)] Z Z Z<|zkn (R:=z04) (⟨0,[],0,(⟨0,[],(⟨0,0,0,[]⟩:z00)⟩:z06),(⟨0,0⟩:z05)⟩:z01) 57 Z (Sp.via (Sp.prod (Sp.prod (Sp.prod (Sp.prod (Sp.prod Sp.unit))))))<|Es (sto 57 Z Z fH Z z6n)<|Zn<|zbk (fun (s25:(List (List Int))) aa ww=>∃ nv:Nat→Value,Sta (ctx 133 H [] w) [(1,.val (z0l v1 0)),(4,.val v14),(5,.val v17),(6,.val (n20 0)),(7,.rd z0k s19.2.2.2),(8,.val (z0l v24 0)),(45,.rd (z02 z04) a0.Ops),(46,.rd z0k (a0.Ops.length:Int)),(47,.rd z0k s19.2.2.2)] ([(1,some (v1,.box 66 [.rd z1l a0])),(44,some (v14,.list z0k 3 s19.1)),(45,some (v17,.list zg3 86 (z9k (fun j=>nv (j+0)) s25))),(55,some ((n20 0),.list z0k 3 s19.2.2.1)),(57,some (v24,.box 43 [.rd z04 x22]))]++znq 100000 z0k 3 (fun j=>nv (j+0)) s25 0) aa ww) ?_ (fun s25=>?_)
    ·refine gSR<|Zq (faB 57 Z Z Tryz.underlying43 Z (by exact zd4))<|Zq (ld 57 Z Z (fP (z1m _)) zi6 Z)<|Zq (z4u Z .rd Z tu29)<|Zm Z<|Zn<|z3v (fun (s26:(List (List Int)) × Int) aa ww=>∃ nv:Nat→Value,Sta (ctx 133 H [] w) [(1,.val (z0l v1 0)),(4,.val v14),(5,.val v17),(6,.val (n20 0)),(7,.rd z0k s19.2.2.2),(8,.val (z0l v24 0)),(45,.rd (z02 z04) a0.Ops),(46,.rd z0k (a0.Ops.length:Int)),(47,.rd z0k s19.2.2.2),(53,.rd (z02 aZ) x22.Preds),(54,.rd z0k (x22.Preds.length:Int)),(55,.rd z0k s26.2)] ([(1,some (v1,.box 66 [.rd z1l a0])),(44,some (v14,.list z0k 3 s19.1)),(45,some (v17,.list zg3 86 (z9k (fun j=>nv (j+0)) s26.1))),(55,some ((n20 0),.list z0k 3 s19.2.2.1)),(57,some (v24,.box 43 [.rd z04 x22]))]++znq 100000 z0k 3 (fun j=>nv (j+0)) s26.1 0) aa ww) (fun aa ww h=>⟨nvlF [] (fun j=>n20 (j+1)),h.subF (by repeat (first | refine z5t.cons Z ?_ | exact z5t.tail)) [1,44,45,55,57] (Zs Z Z Z Z<|Zs Z Z Z Z<|Zs Z Z Z Z<|sN) (Zi Z<|Zi Z<|Zi Z<|Zi Z<|Zi Z<|rN) rfl⟩) (fun s26=>?_)
     refine gEx fun n27=>gSR<|Zq (I.lss Z Z)<|Zn<|z1h<|gIf Z Z (fun h28=>?_) (fun h28=>?_)
     ·refine Zt<|z1h<|z95<|gSR<|z0u fun x29 h30=>Zq (ixR Z Z h30 tu29 z3z Z)<|Zq (ldR Z z8w)<|Eb Z (z9w 58 z3z (.zr (R:=aZ) (x:=(Vector.replicate 32 0)) zgp)) fun v31=>Es (sto 58 Z Z fH Z z3z)<|Zn<|gSR<|Zq (ld 1 Z Z fH ty66 Z)<|Zq (ld 58 Z Z fH z8w Z)<|call [] [] Z Tryz.func85 Z Z (zqg _ _) (Y2 Z Z) rN fun r32 n33=>Zm Z<|Zq (ext Z Z)<|Zq (ext Z Z)<|Za Z<|Zb Z<|z1h<|gSR<|Zm Z<|Zq (zjc Z)<|Zj Z (fun h34=>?_) (fun h34=>?_)
      ·refine gSR<|Zb Z<|z14<|z1c<|z8k<|z1c<|zbj<|z9x<|z8k<|z1c<|zbj<|z9x<|zen [] [] Z (eE Z<|eN) (rN)
      ·refine Zt<|z2x<|Zm Z<|Zm Z<|Zm Z<|Zm Z<|z0u fun x35 h36=>Zq (ixO 45 Z Z Z (zmw h36) Tryz.underlying173 ti86)<|Zq (ldF 45 Z Z h36 ty86 Z)<|Zm Z<|Ef Z (lit (R:=z0k) ([s19.2.2.2]:List Int) 59 (pP Z Z<|pN) Z tu86 ti3 Z Z) fun v37=>z0u fun x38 h39=>lApF (base:=100000) (lits:=[(1,some (v1,.box 66 [.rd z1l a0])),(44,some (v14,.list z0k 3 s19.1)),(55,some ((n20 0),.list z0k 3 s19.2.2.1)),(57,some (v24,.box 43 [.rd z04 x22])),(58,some (v31,.box 45 [.rd aZ x29])),(59,some (v37,.list z0k 3 [s19.2.2.2]))]) 45 [1,44,55,57,58,59] (by repeat (first | refine z5t.cons Z ?_ | exact z5t.tail)) Z Z Z h36 Z Z Z Z (.own 59 Z) h39 Z (fun _ h=>by cases h; rfl) (fun _ h=>by cases h; rfl) Z Z tu86 ti3 Z Z Z Tryz.underlying173 ti86 ty86 (Zi Z<|Zi Z<|Zi Z<|Zi Z<|Zi Z<|Zi Z<|rN) Z fun v40=>z2i<|z5x<|z1r<|z2x<|Zq (I.add Z Z)<|Zm Z<|z2i<|z2r (fun aa ww h=>⟨nvlF [] (zy9 (fun j=>n27 (j+0)) (r32.1:Int).toNat v40),h.subF (by repeat (first | refine z5t.cons Z ?_ | exact z5t.tail)) [1,44,45,55,57] (Zs Z Z Z Z<|Zs Z Z Z Z<|Zs Z Z Z Z<|sN) (Zi Z<|Zi Z<|Zi Z<|Zi Z<|Zi Z<|rN) rfl⟩)
     ·refine z3u<|z2a<|z2b<|z9t (fun aa ww h=>⟨nvlF [] (fun j=>n27 (j+0)),h.subF (by repeat (first | refine z5t.cons Z ?_ | exact z5t.tail)) [1,44,45,55,57] (Zs Z Z Z Z<|Zs Z Z Z Z<|sS Z<|sN) (Zi Z<|Zi Z<|Zi Z<|Zi Z<|Zi Z<|rN) rfl⟩)
    ·refine gEx fun n41=>gSR<|Zm Z<|Zm Z<|Zq (faB 57 Z Z Tryz.underlying43 Z (by exact zd4))<|Zq (ld 57 Z Z (fP (z1m _)) zi6 Z)<|Zq (z4u Z .rd Z tu29)<|z0u fun x42 h43=>Zq (ixO 44 Z Z Z h43 tu86 ti3)<|Es (sto 44 Z Z (Foc.el h43) Z ti3)<|Zn<|gSR<|Zm Z<|Zm Z<|z0u fun x44 h45=>Zq (ixO 44 Z Z Z h45 tu86 ti3)<|Zq (ld 44 Z Z (Foc.el h45) ty3 Z)<|Zq (I.eql Z Z)<|Zj Z (fun h46=>?_) (fun h46=>?_)
     ·refine z2x<|Zm Z<|Zm Z<|Ef Z (lit (R:=z0k) ([s19.2.2.2]:List Int) 60 (pP Z Z<|pN) Z tu86 ti3 Z Z) fun v47=>z0u fun x48 h49=>Ef Z (apn 55 Z Z Z (.own 60 Z) h49 tu86 ti3 Z Z Z) fun v50=>Za Z<|z2i<|z5x<|z1r<|z2x<|Zq (I.add Z Z)<|Zm Z<|z2i<|z2r (fun aa ww h=>⟨nvlF [v50] (fun j=>n41 (j+0)),h.subF (by repeat (first | refine z5t.cons Z ?_ | exact z5t.tail)) [1,44,45,55] (Zs Z Z Z Z<|sS Z<|sS Z<|sS Z<|sN) (Zi Z<|Zi Z<|Zi Z<|Zi Z<|rN) rfl⟩)
     ·refine z6o<|z5x<|z1r<|z2x<|Zq (I.add Z Z)<|Zm Z<|z2i<|z2r (fun aa ww h=>⟨nvlF [(n20 0)] (fun j=>n41 (j+0)),h.subF (by repeat (first | refine z5t.cons Z ?_ | exact z5t.tail)) [1,44,45,55] (Zs Z Z Z Z<|sS Z<|sS Z<|sS Z<|sN) (Zi Z<|Zi Z<|Zi Z<|Zi Z<|rN) rfl⟩)
   ·refine z3u<|z2a<|z2b<|z9t (fun aa ww h=>⟨nvlF [(n20 0)] (fun j=>n20 (j+1)),h.subF (by repeat (first | refine z5t.cons Z ?_ | exact z5t.tail)) [1,44,45,55] (Zs Z Z Z Z<|sN) (Zi Z<|Zi Z<|Zi Z<|Zi Z<|rN) rfl⟩)
  ·refine gEx fun n51=>gSR<|Zb Z<|zas (fun (s52:Int) aa ww=>Sta (ctx 133 H [] w) [(1,.val (z0l v1 0)),(13,.rd z0k s52)] [(1,some (v1,.box 66 [.rd z1l a0]))] aa ww) ?_ (fun s52=>?_)
   ·refine z177 (base:=100000) (T:=3) (lits:=[(1,some (v1,.box 66 [.rd z1l a0])),(44,some (v14,.list z0k 3 s18.1)),(50,some ((n51 0),.list z0k 3 s18.2.2))]) (by repeat (first | refine z5t.cons Z ?_ | exact z5t.tail)) 45 Z [1,44,50] (Zi Z<|Zi Z<|Zi Z<|rN) Z Z<|z3v (fun (s53:(List Int) × (List Int) × Int) aa ww=>∃ nv:Nat→Value,Sta (ctx 133 H [] w) [(1,.val (z0l v1 0)),(4,.val v14),(5,.val v17),(6,.val (nv 0)),(13,.rd z0k s53.2.2)] [(1,some (v1,.box 66 [.rd z1l a0])),(44,some (v14,.list z0k 3 s53.1)),(45,some (v17,.list (z02 z0k) 86 s18.2.1)),(50,some ((nv 0),.list z0k 3 s53.2.1))] aa ww) (fun aa ww h=>⟨nvl [(n51 0)],h.sub [1,44,45,50] (Zs Z Z Z Z<|sS Z<|sN) (Zi Z<|Zi Z<|Zi Z<|Zi Z<|rN)⟩) (fun s53=>?_)
    refine gEx fun n54=>z1h<|gSR<|Zm Z<|Zm Z<|Zq (z4u Z (.own 50 Z) Z tu86)<|Zq (I.lss Z Z)<|Zj Z (fun h55=>?_) (fun h55=>?_)
    ·refine Zt<|zas (fun (s56:(List Int) × (List Int)) aa ww=>∃ nv:Nat→Value,Sta (ctx 133 H [] w) [(1,.val (z0l v1 0)),(4,.val v14),(5,.val v17),(6,.val (nv 0)),(13,.rd z0k s53.2.2)] [(1,some (v1,.box 66 [.rd z1l a0])),(44,some (v14,.list z0k 3 s56.1)),(45,some (v17,.list (z02 z0k) 86 s18.2.1)),(50,some ((nv 0),.list z0k 3 s56.2))] aa ww) ?_ (fun s56=>?_)
     ·refine z95<|gSR<|Zm Z<|Zm Z<|Zm Z<|z0u fun x57 h58=>Zq (ixO 50 Z Z Z h58 tu86 ti3)<|Zq (ld 50 Z Z (Foc.el h58) ty3 Z)<|z0u fun x59 h60=>Zq (ixO 45 Z Z Z h60 Tryz.underlying173 ti86)<|Zq (ld 45 Z Z (Foc.el h60) ty86 Z)<|Zq (z4u Z .rd Z tu86)<|Zm Z<|Zn<|z3v (fun (s61:(List Int) × (List Int) × Int) aa ww=>∃ nv:Nat→Value,Sta (ctx 133 H [] w) [(1,.val (z0l v1 0)),(4,.val v14),(5,.val v17),(6,.val (nv 0)),(13,.rd z0k s53.2.2),(106,.rd (z02 z0k) x59),(107,.rd z0k (x59.length:Int)),(108,.rd z0k s61.2.2)] [(1,some (v1,.box 66 [.rd z1l a0])),(44,some (v14,.list z0k 3 s61.1)),(45,some (v17,.list (z02 z0k) 86 s18.2.1)),(50,some ((nv 0),.list z0k 3 s61.2.1))] aa ww) (fun aa ww h=>⟨nvl [(n54 0)],h.sub [1,44,45,50] (Zs Z Z Z Z<|Zs Z Z Z Z<|sN) (Zi Z<|Zi Z<|Zi Z<|Zi Z<|rN)⟩) (fun s61=>?_)
      refine gEx fun n62=>gSR<|Zq (I.lss Z Z)<|Zn<|z1h<|gIf Z Z (fun h63=>?_) (fun h63=>?_)
      ·refine Zt<|z1h<|z95<|gSR<|z0u fun x64 h65=>Zq (ixR Z Z h65 tu86 ti3 Z)<|Zq (ldR Z ty3)<|Zb Z<|gSR<|Zm Z<|Zm Z<|z0u fun x66 h67=>Zq (ixO 44 Z Z Z h67 tu86 ti3)<|Zq (ld 44 Z Z (Foc.el h67) ty3 Z)<|Zq (I.sub Z Z)<|z0u fun x68 h69=>Zq (ixO 44 Z Z Z h69 tu86 ti3)<|Es (sto 44 Z Z (Foc.el h69) Z ti3)<|Zn<|gSR<|Zm Z<|Zm Z<|z0u fun x70 h71=>Zq (ixO 44 Z Z Z h71 tu86 ti3)<|Zq (ld 44 Z Z (Foc.el h71) ty3 Z)<|Zq (I.eql Z Z)<|Zj Z (fun h72=>?_) (fun h72=>?_)
       ·refine z2x<|Zm Z<|Zm Z<|Ef Z (lit (R:=z0k) ([x64]:List Int) 61 (pP Z Z<|pN) Z tu86 ti3 Z Z) fun v73=>z0u fun x74 h75=>Ef Z (apn 50 Z Z Z (.own 61 Z) h75 tu86 ti3 Z Z Z) fun v76=>Za Z<|z2i<|z5x<|z1r<|z2x<|Zq (I.add Z Z)<|Zm Z<|z2i<|z2r (fun aa ww h=>⟨nvl [v76],h.sub [1,44,45,50] (Zs Z Z Z Z<|Zs Z Z Z Z<|sN) (Zi Z<|Zi Z<|Zi Z<|Zi Z<|rN)⟩)
       ·refine z6o<|z5x<|z1r<|z2x<|Zq (I.add Z Z)<|Zm Z<|z2i<|z2r (fun aa ww h=>⟨nvl [(n62 0)],h.sub [1,44,45,50] (Zs Z Z Z Z<|Zs Z Z Z Z<|sN) (Zi Z<|Zi Z<|Zi Z<|Zi Z<|rN)⟩)
      ·refine z3u<|z2a<|z2b<|z5x<|z4j (fun aa ww h=>⟨nvl [(n62 0)],h.sub [1,44,45,50] (Zs Z Z Z Z<|sS Z<|sN) (Zi Z<|Zi Z<|Zi Z<|Zi Z<|rN)⟩)
     ·refine gEx fun n77=>z2x<|Zm Z<|Zq (I.add Z Z)<|Za Z<|z2z 13 Z fun y78=>z2i<|z2r (fun aa ww h=>⟨nvl [(n77 0)],h.sub [1,44,45,50] (Zs Z Z Z Z<|sS Z<|sN) (Zi Z<|Zi Z<|Zi Z<|Zi Z<|rN)⟩)
    ·refine z3u<|z2a<|z2b<|z4j (fun aa ww h=>h.sub [1] (sS Z<|sS Z<|sN) (y1 Z))
   ·refine z1h<|gSR<|Zm Z<|Zq (faB 1 Z Z Tryz.underlying66 Z (by exact ti22))<|Zq (ld 1 Z Z (fP (z3d _)) ty22 Z)<|Zq (z4u Z .rd Z tu22)<|Zq (I.lss Z Z)<|Zj Z (fun h79=>?_) (fun h79=>?_)
    ·refine gSR<|Zb Z<|z14<|z1c<|zen [] [] Z (eE Z<|eN) (rN)
    ·refine Zt<|gSR<|Zb Z<|z14<|zen [] [] Z (eE Z<|eN) (rN)
def zao (a0:z0d) (s5:Int):Option (Sum (Sum Int Unit) Int) :=
 if decide (s5<(a0.Ops.length:Int)) then
  idx a0.Ops s5 >>= fun x7 =>
  zpb x7 >>= fun r10 =>
  (if r10.2 != 0 then
   some true
  else
   idx a0.IDs s5 >>= fun x15 =>
   if !decide (r10.1=x15) then
    some true
   else
    zhj x7 >>= fun r18 =>
    some (r18 != 0)) >>= fun s13 =>
  if s13 then
   some (.inl (.inl 8))
  else
   some (.inr (w64 (s5+1)))
 else
  some (.inl (.inr ()))
def zbw (a0:z0d):Option (Int) :=
 if decide (60<(a0.Ops.length:Int)) then
  some 4
 else
  if (a0.IDs.length:Int) != (a0.Ops.length:Int) then
   some 8
  else
   z59 (iter (zao a0) 0) fun s4 =>
   zf7 a0 >>= fun r21 =>
   some r21
theorem zoz (a0:z0d):z2v Tryz.prog 70 [.rd z1l a0] [zG1] (zbw a0) (fun r nv=>⟨[.rd z0k r],[(1001,some (.bool true,.glob 1 (z4i 64 z11) z69))]⟩):=by
 refine z3y 50 Tryz.func70 Z Z Z fun H w=>?_
 refine gSR<|Eb Z (bx 1 Z) fun v1=>Zb Z<|z1h<|gSR<|Zq (faB 1 Z Z Tryz.underlying66 Z (by exact ti22))<|Zq (ld 1 Z Z (fP (z3d _)) ty22 Z)<|Zq (z4u Z .rd Z tu22)<|Zq (I.gtr Z Z)<|Zj Z (fun h2=>?_) (fun h2=>?_)
 ·refine gSR<|Zb Z<|z14<|z1c<|Ze [] [1001] Z
 ·refine Zt<|z1h<|gSR<|Zq (faB 1 Z Z Tryz.underlying66 Z (by exact zd4))<|Zq (ld 1 Z Z (fP (z3e _)) zi6 Z)<|Zq (z4u Z .rd Z tu29)<|Zq (faB 1 Z Z Tryz.underlying66 Z (by exact ti22))<|Zq (ld 1 Z Z (fP (z3d _)) ty22 Z)<|Zq (z4u Z .rd Z tu22)<|Zq (I.neq Z Z)<|Zj Z (fun h3=>?_) (fun h3=>?_)
  ·refine gSR<|Zb Z<|z14<|z1c<|Ze [] [1001] Z
  ·refine Zt<|zbk (fun (s4:Unit) aa ww=>Sta (ctx 50 H [zG1] w) [(1,.val (z0l v1 0))] [(1,some (v1,.box 66 [.rd z1l a0])),zG1] aa ww) ?_ (fun s4=>?_)
   ·refine gSR<|Zq (faB 1 Z Z Tryz.underlying66 Z (by exact ti22))<|Zq (ld 1 Z Z (fP (z3d _)) ty22 Z)<|Zq (z4u Z .rd Z tu22)<|Zm Z<|Zn<|z3v (fun (s5:Int) aa ww=>Sta (ctx 50 H [zG1] w) [(1,.val (z0l v1 0)),(19,.rd (z02 z04) a0.Ops),(20,.rd z0k (a0.Ops.length:Int)),(21,.rd z0k s5)] [(1,some (v1,.box 66 [.rd z1l a0])),zG1] aa ww) (fun aa ww h=>Zu h [1,1001]) (fun s5=>?_)
    refine gSR<|Zq (I.lss Z Z)<|Zn<|z1h<|gIf Z Z (fun h6=>?_) (fun h6=>?_)
    ·refine Zt<|z1h<|z95<|gSR<|Zm Z<|z0u fun x7 h8=>Zq (ixR Z Z h8 tu22 z6n Z)<|Zq (ldR Z z9s)<|Eb Z (z9w 1100 z6n (ZrE.rd (R:=z11) (x:=0) (Zr.num Z) (ZrE.nilS (ZrE.rd (R:=z23) (x:=0) (Zr.num Z) (ZrE.rd (R:=z08) (x:=(⟨0,[],(⟨0,0,0,[]⟩:z00)⟩:z06)) zia (ZrE.rd (R:=z09) (x:=(⟨0,0⟩:z05)) zi0 ZrE.nil Z) Z) Z)) Z)) fun v9=>Za Z<|znn aZ [.rd z11 0,.rd (z02 aZ) [],.rd z23 0,.rd z08 (⟨0,[],(⟨0,0,0,[]⟩:z00)⟩:z06),.rd z09 (⟨0,0⟩:z05)] 1100 [.rd z11 0] [.rd z23 0,.rd z08 (⟨0,[],(⟨0,0,0,[]⟩:z00)⟩:z06),.rd z09 (⟨0,0⟩:z05)] Z Z Z<|zkn (R:=z04) (⟨0,[],0,(⟨0,[],(⟨0,0,0,[]⟩:z00)⟩:z06),(⟨0,0⟩:z05)⟩:z01) 1100 Z (Sp.via (Sp.prod (Sp.prod (Sp.prod (Sp.prod (Sp.prod Sp.unit))))))<|Es (sto 1100 Z Z fH Z z6n)<|Zn<|gSR<|Zq (ld 1100 Z Z fH z9s Z)<|Zc [1001] [] Tryz.func65 Z (zj1 _) fun r10 n11=>Zm Z<|Zq (ext Z Z)<|Zq (ext Z Z)<|Eb Z (z9w 1101 z3z (.zr (R:=aZ) (x:=(Vector.replicate 32 0)) zgp)) fun v12=>Es (sto 1101 Z Z fH Z z3z)<|Zb Z<|zas (fun (s13:Bool) aa ww=>Sta (ctx 50 H [zG1] w) [(1,.val (z0l v1 0)),(19,.rd (z02 z04) a0.Ops),(20,.rd z0k (a0.Ops.length:Int)),(21,.rd z0k s5),(46,.rd z0o s13)] [(1,some (v1,.box 66 [.rd z1l a0])),zG1] aa ww) ?_ (fun s13=>?_)
     ·refine zds [1001] mixed Z Z<|hTk 0 Z Z (mv Z)<|hTk 1 Z Z (I.neq Z Z)<|hTk 2 Z Z (mv Z)<|hIf 33 Z Z (fun h14=>?_) (fun h14=>?_)
      ·refine hKn 32 Z Z h14<|hSk 3 Z Z<|hSk 4 Z Z<|hSk 5 Z Z<|hSk 6 Z Z<|hSk 7 Z Z<|hSk 8 Z Z<|hSk 9 Z Z<|hTk 10 Z Z (pkT Z Z)<|hTk 11 Z Z (mv Z)<|hSk 12 Z Z<|hSk 13 Z Z<|hSk 14 Z Z<|hTk 15 Z Z (pkT Z Z)<|z9v (by kernel_rfl)<|z4j (fun aa ww h=>Zu h [1,1001])
      ·refine hKn 32 Z Z h14<|Zg 3 Z Z (ld 1101 Z Z fH z8w Z)<|Zg 4 Z Z (faB 1 Z Z Tryz.underlying66 Z (by exact zd4))<|Zg 5 Z Z (ld 1 Z Z (fP (z3e _)) zi6 Z)<|Zg 6 Z Z (mv Z)<|zal fun x15 h16=>Zg 7 Z Z (ixR Z Z h16 tu29 z3z Z)<|Zg 8 Z Z (ldR Z z8w)<|Zg 9 Z Z (neA Z Z eq45 Z Z gq45)<|hTk 10 Z Z (pkF Z Z)<|hTk 11 Z Z (mv Z)<|hIf 42 Z Z (fun h17=>?_) (fun h17=>?_)
       ·refine hKn 40 Z Z h17<|hKn 41 Z Z h17<|hSk 12 Z Z<|hSk 13 Z Z<|hSk 14 Z Z<|hTk 15 Z Z (pkT Z Z)<|z9v (by kernel_rfl)<|z4j (fun aa ww h=>Zu h [1,1001])
       ·refine hKn 40 Z Z h17<|hKn 41 Z Z h17<|Zg 12 Z Z (ld 1100 Z Z fH z9s Z)<|zcl 13 [1001] [] Z (by kernel_rfl) Z Zx Z Tryz.func74 Z Z (zoi _) (Y1 Z) (y1 Z) Z (fun _ _=>z7w) fun r18 n19=>Zg 14 Z Z (I.neq Z Z)<|hTk 15 Z Z (pkF Z Z)<|z9v (by kernel_rfl)<|z4j (fun aa ww h=>Zu h [1,1001])
     ·refine gIf Z Z (fun h20=>?_) (fun h20=>?_)
      ·refine gSR<|Zb Z<|z14<|z8k<|z1c<|zbj<|z9x<|Ze [] [1001] Z
      ·refine z6o<|z5x<|z1r<|z2x<|Zq (I.add Z Z)<|Zm Z<|z2i<|z2r (fun aa ww h=>Zu h [1,1001])
    ·refine z3u<|z2a<|z2b<|z9t (fun aa ww h=>Zu h [1,1001])
   ·refine gSR<|Zq (ld 1 Z Z fH ty66 Z)<|Zc [] [] Tryz.func76 Z (zpv _) fun r21 n22=>Zb Z<|z14<|Ze [] [1001] Z
def z2s (a0:List V3) (a1:V3) (s3:Int):Option (Sum (Sum Int Unit) Int) :=
 if decide (s3<(a0.length:Int)) then
  idx a0 s3 >>= fun x5 =>
  if decide (x5=a1) then
   some (.inl (.inl s3))
  else
   some (.inr (w64 (s3+1)))
 else
  some (.inl (.inr ()))
def z4e (a0:List V3) (a1:V3):Option (Int) :=
 z59 (iter (z2s a0 a1) 0) fun s2 =>
 some (-1)
def z64 (a0:List V3) (a1:List V3) (s2:Int):Option (Sum (Sum Bool Unit) Int) :=
 if decide (s2<(a1.length:Int)) then
  idx a1 s2 >>= fun x4 =>
  z4e a0 x4 >>= fun r6 =>
  if decide (r6<0) then
   some (.inl (.inl false))
  else
   some (.inr (w64 (s2+1)))
 else
  some (.inl (.inr ()))
def z4h (a0:List V3) (a1:List V3):Option (Bool) :=
 z59 (iter (z64 a0 a1) 0) fun s1 =>
 some true
def z2u (a0:z0d) (s6:(List Int) × (List V3) × (List Bool) × Bool) (s9:Int):Option (Sum (Sum ((List Int)) ((List Int) × (List V3) × (List Bool) × Bool)) Int) :=
 if decide (s9<(a0.Ops.length:Int)) then
  (idx s6.2.2.1 s9 >>= fun x12 =>
  if !x12 then
   idx a0.Ops s9 >>= fun x15 =>
   z4h s6.2.1 x15.Preds >>= fun r17 =>
   some r17
  else
   some false) >>= fun s11 =>
  if s11 then
   app 8 s6.1 [s9] >>= fun x20 =>
   idx a0.IDs s9 >>= fun x22 =>
   app 32 s6.2.1 [x22] >>= fun x24 =>
   idx s6.2.2.1 s9 >>= fun x26 =>
   some (.inl (.inr (x20,x24,s6.2.2.1.set (s9:Int).toNat true,true)))
  else
   some (.inr (w64 (s9+1)))
 else
  some (.inl (.inr (s6.1,s6.2.1,s6.2.2.1,false)))
def z6g (a0:z0d) (s6:(List Int) × (List V3) × (List Bool) × Bool):Option (Sum ((List Int)) ((List Int) × (List V3) × (List Bool) × Bool)) :=
 if s6.2.2.2 then
  iter (z2u a0 s6) 0
 else
  some (.inl s6.1)
def zb7 (a0:z0d):Option ((List Int)) :=
 mkn 1 false (a0.Ops.length:Int) >>= fun x2 =>
 (iter (z6g a0) ([],[],x2,true)) >>= fun s5 =>
 some s5
def z4n (a0:z0d) (s6:Int):Option (Sum (Sum Int Unit) Int) :=
 if decide (s6<(a0.Ops.length:Int)) then
  idx a0.Ops s6 >>= fun x8 =>
  z4h a0.IDs x8.Preds >>= fun r10 =>
  if !r10 then
   some (.inl (.inl 40))
  else
   some (.inr (w64 (s6+1)))
 else
  some (.inl (.inr ()))
def zb9 (a0:z0d):Option (Int) :=
 z7z a0.IDs >>= fun r2 =>
 if !r2 then
  some 32
 else
  z59 (iter (z4n a0) 0) fun s5 =>
  zb7 a0 >>= fun r13 =>
  if decide ((r13.length:Int)<(a0.Ops.length:Int)) then
   some 36
  else
   some 0
def z4q (a0:z0d) (s5:Int):Option (Sum (Sum Int Unit) Int) :=
 if decide (s5<(a0.Ops.length:Int)) then
  idx a0.Ops s5 >>= fun x7 =>
  za1 x7 >>= fun r9 =>
  if r9 != 0 then
   some (.inl (.inl 8))
  else
   idx a0.Ops s5 >>= fun x12 =>
   idx a0.IDs s5 >>= fun x14 =>
   zbp x12 >>= fun r16 =>
   if !decide (r16=x14) then
    some (.inl (.inl 8))
   else
    some (.inr (w64 (s5+1)))
 else
  some (.inl (.inr ()))
def zej (a0:z0d):Option (Int) :=
 if decide (60<(a0.Ops.length:Int)) then
  some 4
 else
  if (a0.IDs.length:Int) != (a0.Ops.length:Int) then
   some 8
  else
   z59 (iter (z4q a0) 0) fun s4 =>
   zb9 a0 >>= fun r19 =>
   some r19
end
section
open Go Go.Shelf
def zwf:Go.Shelf.Ren:=⟨fun | 6=>47 | 15=>94 | 14=>93 | 28=>139 | 29=>105 | 20=>131 | 21=>132 | 22=>133 | 23=>134 | 24=>135 | 25=>136 | 26=>137 | 27=>138 | 46=>180 | 47=>181 | 48=>182 | 49=>183 | 50=>184 | 57=>213 | n=>n, fun | 22=>29 | 24=>45 | 25=>48 | 3=>3 | 39=>143 | 0=>0 | 53=>34 | 55=>35 | 4=>4 | 46=>181 | 45=>180 | 50=>106 | 5=>5 | 9=>9 | 66=>225 | 70=>229 | 76=>260 | 77=>261 | n=>n, fun | n=>n⟩
theorem z14w:Go.Proofs.SlLaysF0.n6 Tryz.prog zwf:={
 mixed:=by kernel_rfl
 f6:=⟨Tryz.f47.name, by decide,Tryz.func47.trans (congrArg some (by kernel_rfl))⟩
 f14:=⟨Tryz.f93.name, by decide,Tryz.func93.trans (congrArg some (by kernel_rfl))⟩
 f15:=Tryz.func94.trans (congrArg some (by kernel_rfl))
 f20:=⟨Tryz.f131.name, by decide,Tryz.func131.trans (congrArg some (by kernel_rfl))⟩
 f21:=⟨Tryz.f132.name, by decide,Tryz.func132.trans (congrArg some (by kernel_rfl))⟩
 f22:=⟨Tryz.f133.name, by decide,Tryz.func133.trans (congrArg some (by kernel_rfl))⟩
 f23:=⟨Tryz.f134.name, by decide,Tryz.func134.trans (congrArg some (by kernel_rfl))⟩
 f24:=⟨Tryz.f135.name, by decide,Tryz.func135.trans (congrArg some (by kernel_rfl))⟩
 f25:=⟨Tryz.f136.name, by decide,Tryz.func136.trans (congrArg some (by kernel_rfl))⟩
 f26:=⟨Tryz.f137.name, by decide,Tryz.func137.trans (congrArg some (by kernel_rfl))⟩
 f27:=⟨Tryz.f138.name, by decide,Tryz.func138.trans (congrArg some (by kernel_rfl))⟩
 f28:=Tryz.func139.trans (congrArg some (by kernel_rfl))
 f29:=Tryz.func105.trans (congrArg some (by kernel_rfl))
 f46:=⟨Tryz.f180.name, by decide,Tryz.func180.trans (congrArg some (by kernel_rfl))⟩
 f47:=Tryz.func181.trans (congrArg some (by kernel_rfl))
 f48:=Tryz.func182.trans (congrArg some (by kernel_rfl))
 f49:=⟨Tryz.f183.name, by decide,Tryz.func183.trans (congrArg some (by kernel_rfl))⟩
 f50:=⟨Tryz.f184.name, by decide,Tryz.func184.trans (congrArg some (by kernel_rfl))⟩
 f57:=⟨Tryz.f213.name, by decide,Tryz.func213.trans (congrArg some (by kernel_rfl))⟩
 t0:=Tryz.underlying0
 a0:=Tryz.isAgg0
 z0:=Tryz.sizeOf0
 v0:=Tryz.zeroValue0
 t3:=Tryz.underlying3
 a3:=Tryz.isAgg3
 z3:=Tryz.sizeOf3
 v3:=Tryz.zeroValue3
 t4:=Tryz.underlying4
 a4:=Tryz.isAgg4
 z4:=Tryz.sizeOf4
 v4:=Tryz.zeroValue4
 t5:=Tryz.underlying5
 a5:=Tryz.isAgg5
 z5:=Tryz.sizeOf5
 v5:=Tryz.zeroValue5
 t9:=Tryz.underlying9
 a9:=Tryz.isAgg9
 z9:=Tryz.sizeOf9
 v9:=Tryz.zeroValue9
 t22:=Tryz.underlying29
 a22:=Tryz.isAgg29
 z22:=Tryz.sizeOf29
 v22:=Tryz.zeroValue29
 t25:=Tryz.underlying48
 a25:=Tryz.isAgg48
 z25:=Tryz.sizeOf48
 v25:=Tryz.zeroValue48
 t39:=Tryz.underlying143
 a39:=Tryz.isAgg143
 z39:=Tryz.sizeOf143
 v39:=Tryz.zeroValue143
 t45:=Tryz.underlying180
 a45:=Tryz.isAgg180
 z45:=Tryz.sizeOf180
 v45:=Tryz.zeroValue180
 t46:=Tryz.underlying181
 a46:=Tryz.isAgg181
 z46:=Tryz.sizeOf181
 v46:=Tryz.zeroValue181
 t50:=Tryz.underlying106
 a50:=Tryz.isAgg106
 z50:=Tryz.sizeOf106
 v50:=Tryz.zeroValue106
 t53:=Tryz.underlying34
 a53:=Tryz.isAgg34
 z53:=Tryz.sizeOf34
 v53:=Tryz.zeroValue34
 t55:=Tryz.underlying35
 a55:=Tryz.isAgg35
 z55:=Tryz.sizeOf35
 v55:=Tryz.zeroValue35
 t66:=Tryz.underlying225
 a66:=Tryz.isAgg225
 z66:=Tryz.sizeOf225
 v66:=Tryz.zeroValue225
 t70:=Tryz.underlying229
 a70:=Tryz.isAgg229
 z70:=Tryz.sizeOf229
 v70:=Tryz.zeroValue229
 t76:=Tryz.underlying260
 a76:=Tryz.isAgg260
 z76:=Tryz.sizeOf260
 v76:=Tryz.zeroValue260
 t77:=Tryz.underlying261
 a77:=Tryz.isAgg261
 z77:=Tryz.sizeOf261
 v77:=Tryz.zeroValue261 }
end
section
open Go Go.Shelf Go.RowKit Go.Lib Go.Sort
def z4w (x:V3):List Value:=x.toList.map fun c=>Value.int .u8 (c.toNat:Int)
theorem zdn (x:V3):(z4w x).length=32:=by simp [z4w]
theorem z103 (x y:V3) (b c:Nat) (W:World) (hx:∀ j u,(z4w x)[j]? = some u→W.cell? ⟨b,0+j,none⟩=some u) (hy:∀ j u,(z4w y)[j]? = some u→W.cell? ⟨c,0+j,none⟩=some u) :
  (callFunc 140 #[.slice (some ⟨b,0,none⟩) 32 32,.slice (some ⟨c,0,none⟩) 32 32]).run Tryz.prog W=.ok (.value (.int .i64 (Lib.compareBytes x.toList y.toList))) W:=by
 have lx:x.toList.length=32:=by simp
 have ly:y.toList.length=32:=by simp
 have e:=zie (P:=Tryz.prog) (w:=W) (p:=some ⟨b,0,none⟩) (q:=some ⟨c,0,none⟩) (c:=32) (d:=32) (x:=x.toList) (y:=y.toList) (xs:=z4w x) (ys:=z4w y)
  ⟨by rw [zdn,lx],.inr ⟨b,0,none,32, by rfl, by omega, by decide,.inr rfl,hx⟩⟩ rfl ⟨by rw [zdn,ly],.inr ⟨c,0,none,32, by rfl, by omega, by decide,.inr rfl,hy⟩⟩ rfl
 rw [lx,ly] at e
 rw [run_callFunc_extern Tryz.func140 rfl rfl (by kernel_rfl) (by kernel_rfl),e]
 rfl
set_option maxHeartbeats 1000000 in
set_option maxRecDepth 100000 in
theorem zn8 (x y:V3) (b c:Nat) (W:World) (hx:∀ j u,(z4w x)[j]? = some u→W.cell? ⟨b,0+j,none⟩=some u) (hy:∀ j u,(z4w y)[j]? = some u→W.cell? ⟨c,0+j,none⟩=some u) :
  Calls Tryz.prog 95 #[.slice (some ⟨b,0,none⟩) 32 32,.slice (some ⟨c,0,none⟩) 32 32] W fun e w'=>e=.returned (.int .i64 (Lib.compareBytes x.toList y.toList))∧w'=W:=by
 have e:=z103 x y b c W hx hy
 go_enter Tryz.func95,Tryz.ntmps95
 go_wp2
 go_ret
 exact ⟨rfl,rfl⟩
theorem zqq {w:World} {b j:Nat} {c:Array Value} {T:TypeId} {fr:Nat × Nat} {u:Value} (h:w.heap[b]? = some (.cells c T fr)) (hj:c[j]? = some u):w.cell? ⟨b,0+j,none⟩=some u:=by
 unfold World.cell?
 rw [h]
 simpa using hj
theorem z11y (W:World) (xs ys:List Value) (n j:Nat) (u:Value) (h:xs[j]? = some u):(((W.alloc (.cells xs.toArray 45)).alloc (.cells ys.toArray 45)).drewN n).cell? ⟨W.heap.size,0+j,none⟩=some u :=
 zqq (c:=xs.toArray) (T:=45) (fr:=(0,0)) (by
  show ((W.heap.push _).push _)[W.heap.size]? = _
  rw [Array.getElem?_push_lt (by simp)]; simp) (by simpa using h)
theorem z11s (W:World) (xs ys:List Value) (n j:Nat) (u:Value) (h:ys[j]? = some u):(((W.alloc (.cells xs.toArray 45)).alloc (.cells ys.toArray 45)).drewN n).cell? ⟨W.heap.size+1,0+j,none⟩=some u :=
 zqq (c:=ys.toArray) (T:=45) (fr:=(0,0)) (by
  show ((W.heap.push _).push _)[W.heap.size+1]? = _
  have:W.heap.size+1=(W.heap.push (Obj.cells xs.toArray 45)).size:=by simp
  rw [this,Array.getElem?_push_size]) (by simpa using h)
set_option maxHeartbeats 1000000 in
set_option maxRecDepth 100000 in
theorem zls (x y:V3) (W:World):Calls Tryz.prog 48 #[.agg (z4w x).toArray,.agg (z4w y).toArray] W fun e w'=>e=.returned (.int .i64 (Lib.compareBytes x.toList y.toList))∧∃ q os',w'=grow (W.drewN q) os':=by
 have c0:=z11y W (z4w x) (z4w y)
 have c1:=z11s W (z4w x) (z4w y)
 go_enter Tryz.func48,Tryz.ntmps48
 go_wp2
 go_quiet (first | (go_at_call 95; refine Calls.quiet_of_same (zn8 x y _ _ _ (c0 _) (c1 _))))
 go_wp2
 go_ret
 exact ⟨rfl,nq,#[.cells (z4w x).toArray 45,.cells (z4w y).toArray 45],rfl⟩
end
section
open Go Go.RowKit Go.Sort
theorem z11j {α:Type} [Inhabited α] (enc:α→List Value) (k:Nat) (hk:∀ x,(enc x).length=k):∀ (l:List α) (t:Nat),t<l.length * k→(l.flatMap enc)[t]! = (enc l[t / k]!)[t % k]!
 | [],t,h=>by simp at h
 | x::l,t,h=>by
  have hx:=hk x
  have k0:0<k:=by
   rcases Nat.eq_zero_or_pos k with e | e
   ·subst e; simp at h
   ·exact e
  rw [List.flatMap_cons]
  by_cases ht:t<k
  ·rw [List.getElem!_eq_getElem?_getD,List.getElem?_append_left (by omega),Nat.div_eq_of_lt ht,Nat.mod_eq_of_lt ht]
   simp
  ·have hl:t - k<l.length * k:=by
    simp only [List.length_cons,Nat.add_mul,Nat.one_mul] at h; omega
   have ih:=z11j enc k hk l (t - k) hl
   have e1:t / k=(t - k) / k+1:=by
    have h2:=Nat.add_div_right (t - k) k0
    rw [Nat.sub_add_cancel (by omega)] at h2; exact h2
   have e2:t % k=(t - k) % k:=by rw [Nat.mod_eq_sub_mod (by omega)]
   rw [List.getElem!_eq_getElem?_getD,List.getElem?_append_right (by omega),hx,e1,e2,← List.getElem!_eq_getElem?_getD,ih]
   simp
theorem zpt {α:Type} (enc:α→List Value) (k:Nat) (hk:∀ x,(enc x).length=k):∀ l:List α,(l.flatMap enc).length=l.length * k
 | []=>by simp
 | x::l=>by rw [List.flatMap_cons,List.length_append,hk,zpt enc k hk l,List.length_cons,Nat.add_mul,Nat.one_mul,Nat.add_comm]
theorem zuo {α:Type} [Inhabited α] (enc:α→List Value) (k:Nat) (hk:∀ x,(enc x).length=k) (l:List α):flatK enc k l.toArray=(l.flatMap enc).toArray:=by
 refine ext_get! (by rw [size_flatK]; simp only [List.size_toArray,zpt enc k hk]) fun t ht=>?_
 rw [size_flatK,List.size_toArray] at ht
 rw [get_flatK _ _ _ _ (by simpa using ht)]
 have:=z11j enc k hk l t ht
 simp at this ⊢
 rw [this]
theorem zii {α:Type} [Inhabited α] (enc:α→List Value) (k:Nat) (hk:∀ x,(enc x).length=k) {w:World} {b:Nat} {C:Array Value} {T:TypeId} (l:List α) (hb:w.heap[b]? = some (.cells C T (0,0))) (hc:C.toList.take (l.length * k)=l.flatMap enc):HoldsK enc k w b 0 l.toArray:=by
 intro j hj
 rw [zuo enc k hk] at hj ⊢
 have hj':j<(l.flatMap enc).length:=by simpa using hj
 constructor
 ·refine zqq hb ?_
  have e:(C.toList.take (l.length * k))[j]? = (l.flatMap enc)[j]? := by rw [hc]
  rw [List.getElem?_take_of_lt (by rw [zpt enc k hk] at hj'; exact hj'),List.getElem?_eq_getElem hj'] at e
  rw [← Array.getElem?_toList,e]
  have:((l.flatMap enc).toArray)[j]! = (l.flatMap enc)[j]:=by rw [getElem!_pos _ j (by simpa using hj')]; simp
  rw [this]; rfl
 ·simp [World.frozen?,hb]
theorem zhz {α:Type} [Inhabited α] (enc:α→List Value) (k:Nat) (w:World) (b n:Nat) (d:Array α) (os:Array Obj) {i:Nat} (hi:i<w.heap.size) (hne:i≠b):(sortWorldK enc k w b 0 n d os).heap[i]? = w.heap[i]? := by
 show (w.heap.modify b _++os)[i]? = _
 rw [Array.getElem?_append_left (by simpa using hi),Array.getElem?_modify,if_neg (fun e=>hne e.symm)]
theorem zy2 {α:Type} [Inhabited α] (enc:α→List Value) (k:Nat) (w:World) {b:Nat} (n:Nat) (d:Array α) (os:Array Obj) {C:Array Value} {T:TypeId} {fr:Nat × Nat} (hb:w.heap[b]? = some (.cells C T fr)):(sortWorldK enc k w b 0 n d os).heap[b]? = some (.cells (putCells id 0 (flatK enc k d) C) T fr):=by
 have hlt:b<w.heap.size:=(Array.getElem?_eq_some_iff.1 hb).1
 show (w.heap.modify b _++os)[b]? = _
 rw [Array.getElem?_append_left (by simpa using hlt),Array.getElem?_modify,if_pos rfl,hb]
 rfl
theorem zso {α:Type} [Inhabited α] (enc:α→List Value) (k:Nat) (hk:∀ x,(enc x).length=k) (l:List α) (C:Array Value) (hC:l.length * k≤C.size):(putCells id 0 (flatK enc k l.toArray) C).toList.take (l.length * k)=l.flatMap enc:=by
 rw [zuo enc k hk]
 apply List.ext_getElem?
 intro t
 by_cases ht:t<l.length * k
 ·rw [List.getElem?_take_of_lt ht,Array.getElem?_toList]
  have hl:t<(l.flatMap enc).length:=by rw [zpt enc k hk]; exact ht
  simp only [putCells,Array.getElem?_mapIdx,Nat.sub_zero,Nat.zero_add,List.size_toArray,Nat.zero_le,true_and]
  rw [Array.getElem?_eq_getElem (by omega),Option.map_some,if_pos hl,List.getElem?_eq_getElem hl]
  have:((l.flatMap enc).toArray)[t]! = (l.flatMap enc)[t]:=by rw [getElem!_pos _ t (by simpa using hl)]; simp
  rw [this]; rfl
 ·rw [List.getElem?_eq_none (by simp; omega),List.getElem?_eq_none (by rw [zpt enc k hk]; omega)]
theorem zp1 {S:Blk} {w:World}:∀ {l:List V3} {cs:List Value},z5u (z4i 32 u8R) S w cs l→cs=l.flatMap z4w
 | [],cs,h=>h
 | x::l,cs,h=>by
  obtain ⟨c,d,rfl,h1,h2⟩:=h
  rw [List.flatMap_cons,zp1 h2,zgi h1]; rfl
theorem zpe {S:Blk} {w:World}:∀ (l:List V3),z5u (z4i 32 u8R) S w (l.flatMap z4w) l
 | []=>rfl
 | x::l=>⟨z4w x,l.flatMap z4w,List.flatMap_cons,zkk x.toList,zpe l⟩
theorem z10j {P:Program} {f g T:Nat} (srt:List V3→List V3) (hlen:∀ l,(srt l).length=l.length)
  (hnone:∀ (cap:Nat) (w:World),Calls P f #[.slice none 0 cap,.func (.func g) #[] #[]] w fun e w'=>e=.returned (.tuple #[])∧w'=w)
  (hsome:∀ (blk cap:Nat) (d:Array V3) (w:World),HoldsK z4w 32 w blk 0 d→blk<w.heap.size→d.size<4611686018427387904 →
   Calls P f #[.slice (some ⟨blk,0,none⟩) d.size cap,.func (.func g) #[] #[]] w fun e w'=>e=.returned (.tuple #[])∧∃ n os,w'=sortWorldK z4w 32 w blk 0 n (srt d.toList).toArray os)
  (p0:Value) (c0:List V3):z2v P f [.val p0,.val (.func (.func g) #[] #[])] [(1,some (p0,.list (z4i 32 u8R) T c0))] (chk (c0.length≤1000000) >>= fun _=>some (srt c0))
   (fun r nv=>⟨[],[(1,some (p0,.list (z4i 32 u8R) T r))]⟩):=by
 intro r hr H vs w hvs hres
 have hb:c0.length≤1000000∧r=srt c0:=by
  unfold chk at hr
  split at hr
  ·rename_i h; simp at hr; exact ⟨h,hr.symm⟩
  ·simp at hr
 obtain ⟨hlen0,rfl⟩:=hb
 match vs,hvs with
 | [v0,v1],hvs =>
 obtain ⟨h0,h1,_⟩:=hvs
 have e0:v0=p0:=h0.1
 have e1:v1=.func (.func g) #[] #[]:=h1.1
 subst e0; subst e1
 have hc:=hres.conts 1 v0 _ rfl
 have only:∀ r v c (q:z31),lr [(1,some (v0,q))] r=some (v,c)→r=1∧v=v0∧c=q:=fun r v c q h=>by
  rw [z1f] at h
  split at h
  ·rename_i e; cases h; exact ⟨e.symm,rfl,rfl⟩
  ·simp [lr,lk] at h
 rcases hc with ⟨rfl,rfl⟩ | ⟨b,o,k1,k2,b',cap,C,k3,rfl,k4,k5,k6,k7⟩
 ·refine (hnone 0 w).mono fun e w' ⟨he,hw⟩=>?_
  subst hw
  refine ⟨fun _=>undef,[],he,trivial, fun r v c h=>?_, fun r v c r' v' c' h h' hne=>?_, fun r v c h b hb=>?_,zih.rfl'⟩
  ·obtain ⟨rfl,rfl,rfl⟩:=only _ _ _ _ h
   have:srt []=[]:=List.eq_nil_of_length_eq_zero (by rw [hlen]; rfl)
   exact .inl ⟨rfl,this⟩
  ·exact absurd ((only _ _ _ _ h).1.trans (only _ _ _ _ h').1.symm) hne
  ·obtain ⟨rfl,rfl,rfl⟩:=only _ _ _ _ h; cases hb
 ·subst k3
  simp only [z3h,Option.some.injEq] at k1
  subst k1
  have hlt:b'<w.heap.size:=(Array.getElem?_eq_some_iff.1 k2).1
  have hrow:=zp1 k7
  have hsz:(z4i 32 u8R).sz=32:=rfl
  rw [hsz] at k6 hrow
  have hC:c0.length * 32≤C.size:=by rw [k6]; exact Nat.mul_le_mul_right _ k4
  refine (hsome b' cap c0.toArray w (zii z4w 32 zdn c0 k2 hrow) hlt (by simp; omega)).mono fun e w' ⟨he,n,os,hw⟩=>?_
  subst hw
  refine ⟨fun _=>undef,[],he,trivial, fun r v c h=>?_, fun r v c r' v' c' h h' hne=>?_, fun r v c h b hb=>?_,rfl,rfl,rfl,?_, fun i hi=>?_⟩
  ·obtain ⟨rfl,rfl,rfl⟩:=only _ _ _ _ h
   refine .inr ⟨b',_,rfl,zy2 z4w 32 w n _ os k2,b',cap,_, by rw [hlen],rfl, by rw [hlen]; exact k4,k5,?_,?_⟩
   ·rw [hsz,← k6]; simp [putCells]
   ·rw [hsz,zso z4w 32 zdn (srt c0) C (by rw [hlen]; exact hC)]
    exact zpe _
  ·exact absurd ((only _ _ _ _ h).1.trans (only _ _ _ _ h').1.symm) hne
  ·obtain ⟨rfl,rfl,rfl⟩:=only _ _ _ _ h
   exact .inr ⟨1,_,_,rfl,hb⟩
  ·show w.heap.size≤(w.heap.modify b' _++os).size
   simp
  ·exact zhz z4w 32 w b' n _ os hi.1 fun e=>hi.2 ⟨1,_,_,rfl, by rw [e]; rfl⟩
end
section
open Go
section
variable {σ β α ρ τ:Type}
theorem bs (x:α) (f:α→Option β):(some x >>= f)=f x:=rfl
theorem bS (x:α) (f:α→Option β):(some x >>= f)=f x:=Eq.trans (rfl:(some x >>= f)=f x) rfl
theorem or_l (r:ρ) (k:τ→Option ρ):z59 (some (.inl r)) k=some r:=rfl
theorem znp (t:τ) (k:τ→Option ρ):z59 (some (.inr t)) k=k t:=rfl
theorem z1a {F:σ→Option (Sum β σ)} {s:σ} {b:β} (h:F s=some (.inl b)):iter F s=some b:=by rw [iter,h]; rfl
theorem z1s {F:σ→Option (Sum β σ)} {s s':σ} (h:F s=some (.inr s')):iter F s=iter F s':=by rw [iter,h]; rfl
theorem zgz {F:σ→Option (Sum β σ)} (I:σ→Prop) (μ:σ→Nat) (Q:β→Prop) (h:∀ s,I s→(∃ b,F s=some (.inl b)∧Q b)∨∃ s',F s=some (.inr s')∧I s'∧μ s'<μ s) (s:σ) (hs:I s):∃ b,iter F s=some b∧Q b:=by
 have key:∀ n s,μ s=n→I s→∃ b,iter F s=some b∧Q b:=by
  intro n
  induction n using Nat.strongRecOn with
  | _ n ih =>
   intro s hn hs
   rcases h s hs with ⟨b,h1,h2⟩ | ⟨s',h1,h2,h3⟩
   ·exact ⟨b,z1a h1,h2⟩
   ·rw [z1s h1]; exact ih (μ s') (hn ▸ h3) s' rfl h2
 exact key _ s rfl hs
theorem z7i {F:σ→Option (Sum β σ)} (n:Nat) (I:Nat→σ→Prop) (Q:β→Prop) (h1:∀ i s,i<n→I i s→∃ s',F s=some (.inr s')∧I (i+1) s') (h2:∀ s,I n s→∃ b,F s=some (.inl b)∧Q b) (s:σ) (i:Nat) (hi:i≤n) (hs:I i s):∃ b,iter F s=some b∧Q b:=by
 have key:∀ k i s,n - i=k→i≤n→I i s→∃ b,iter F s=some b∧Q b:=by
  intro k
  induction k with
  | zero =>
   intro i s hk hi hs
   have:i=n:=by omega
   subst this
   obtain ⟨b,h3,h4⟩:=h2 s hs
   exact ⟨b,z1a h3,h4⟩
  | succ k ih =>
   intro i s hk hi hs
   obtain ⟨s',h3,h4⟩:=h1 i s (by omega) hs
   rw [z1s h3]; exact ih (i+1) s' (by omega) (by omega) h4
 exact key _ i s rfl hi hs
theorem z3f {F:σ→Option (Sum β σ)} (n:Nat) (g:Nat→σ) {b:β} (h1:∀ i,i<n→F (g i)=some (.inr (g (i+1)))) (h2:F (g n)=some (.inl b)):iter F (g 0)=some b:=by
 obtain ⟨b',h3,rfl⟩:=z7i n (fun i s=>s=g i) (fun x=>x=b) (fun i s hi hs=>⟨_, by rw [hs]; exact h1 i hi,rfl⟩) (fun s hs=>⟨_, by rw [hs]; exact h2,rfl⟩) (g 0) 0 (Nat.zero_le _) rfl
 exact h3
theorem z0i {l:List α} {i:Nat} (h:i<l.length):idx l (i:Int)=some l[i]:=by simp [idx,h]
theorem z13s {l:List α} {i:Int} (h0:0≤i) (h:i.toNat<l.length):idx l i=some l[i.toNat]:=by simp [idx,h0,h]
theorem z78 {n:Nat} {v:Vector α n} {i:Nat} (h:i<n):z67 v (i:Int)=some v[i]:=by unfold z67; rw [z0i (by simpa using h)]; simp
theorem zea {n:Nat} {v:Vector α n} {i:Int} {x:α} {j:Nat} (hj:j<n):(z7d v i x)[j]=if i.toNat=j then x else v[j]:=by
 unfold z7d; rw [Vector.getElem_setIfInBounds hj]
theorem z2n {p:Prop} [Decidable p] (h:p):chk p=some ():=by simp [chk,h]
theorem z0x {by_:Nat} {b c:List α} (h:(b.length+c.length) * by_≤140737488355328):app by_ b c=some (b++c):=by simp [app,h]
theorem zcw {by_:Nat} {x:α} {n:Nat} (h:by_ * n≤281474976710656) (h2:n≤9223372036854775807):mkn by_ x (n:Int)=some (List.replicate n x):=by
 unfold mkn; rw [if_pos ⟨by omega, by simpa using h, by omega⟩]; simp
theorem z8g {b:List α} {i j:Nat} (h:i≤j) (hj:j≤b.length):cut b (i:Int) (j:Int)=some ((b.drop i).take (j - i)):=by
 unfold cut; rw [if_pos ⟨by omega, by omega, by omega⟩]; simp
end
theorem z0v {x:Int} (h1:-9223372036854775808≤x) (h2:x≤9223372036854775807):w64 x=x:=zeu h1 h2
theorem z0j {n:Nat} (h:n<9223372036854775807):w64 ((n:Int)+1)=((n+1:Nat):Int):=by rw [z0v (by omega) (by omega)]; omega
theorem z8s (a:UInt64) (n:Nat):(z5p a n).toNat=a.toNat / 2 ^ (min n 64):=by
 unfold z5p
 have h1:=UInt64.toNat_lt a
 have h2:a.toNat / 2 ^ (min n 64)≤a.toNat:=Nat.div_le_self _ _
 simp; omega
theorem zgl (a:UInt64) (n:Nat):(zh8 a n).toNat=a.toNat * 2 ^ (min n 64) % 18446744073709551616:=by
 unfold zh8; simp
theorem z16t (a:UInt64) (k:Nat) (hk:k<64):((z5p a k &&& 1)==1)=a.toNat.testBit k:=by
 rw [Bool.eq_iff_iff,beq_iff_eq,← UInt64.toNat_inj,UInt64.toNat_and,z8s,Nat.min_eq_left (by omega)]
 have:(1:UInt64).toNat=1:=rfl
 rw [this,Nat.and_one_is_mod,Nat.testBit_eq_decide_div_mod_eq]
 simp
end
section
open Go
def bitLen (n:Nat):Nat:=if n=0 then 0 else n.log2+1
theorem zcv (n k:Nat) (h:2 ^ k≤n):bitLen n=k+bitLen (n / 2 ^ k):=by
 have hp:0<2 ^ k:=Nat.pow_pos (by decide)
 have h1:n / 2 ^ k≠0:=by
  have:1≤n / 2 ^ k:=(Nat.le_div_iff_mul_le hp).2 (by rw [Nat.one_mul]; exact h)
  omega
 have h2:n≠0:=by omega
 unfold bitLen
 rw [if_neg h1,if_neg h2]
 have h3:n.log2=k+(n / 2 ^ k).log2:=by
  rw [Nat.log2_eq_iff h2]
  have h4:=(Nat.log2_eq_iff h1).1 rfl
  refine ⟨?_,?_⟩
  ·rw [Nat.pow_add,Nat.mul_comm]; exact (Nat.le_div_iff_mul_le hp).1 h4.1
  ·rw [Nat.add_assoc,Nat.pow_add,Nat.mul_comm]; exact (Nat.div_lt_iff_lt_mul hp).1 h4.2
 omega
theorem zet (n k:Nat) (h:n<2 ^ k):bitLen n≤k:=by
 unfold bitLen; split
 ·omega
 ·rename_i h0; have:=(Nat.log2_lt h0).2 h; omega
def zwb:ByteArray:=⟨#[0,1,2,2,3,3,3,3,4,4,4,4,4,4,4,4,5,5,5,5,5,5,5,5,5,5,5,5,5,5,5,5,6,6,6,6,6,6,6,6,6,6,6,6,6,6,6,6,6,6,6,6,6,6,6,6,6,6,6,6,6,6,6,6,7,7,7,7,7,7,7,7,7,7,7,7,7,7,7,7,7,7,7,7,7,7,7,7,7,7,7,7,7,7,7,7,7,7,7,7,7,7,7,7,7,7,7,7,7,7,7,7,7,7,7,7,7,7,7,7,7,7,7,7,7,7,7,7,8,8,8,8,8,8,8,8,8,8,8,8,8,8,8,8,8,8,8,8,8,8,8,8,8,8,8,8,8,8,8,8,8,8,8,8,8,8,8,8,8,8,8,8,8,8,8,8,8,8,8,8,8,8,8,8,8,8,8,8,8,8,8,8,8,8,8,8,8,8,8,8,8,8,8,8,8,8,8,8,8,8,8,8,8,8,8,8,8,8,8,8,8,8,8,8,8,8,8,8,8,8,8,8,8,8,8,8,8,8,8,8,8,8,8,8,8,8,8,8,8,8,8,8,8,8,8,8]⟩
set_option maxRecDepth 100000 in
theorem zz0:∀ x:Fin 256,zwb.data[x.val]? = some (UInt8.ofNat (bitLen x.val)):=by decide +kernel
def z1u (n:Nat):List UInt8:=if h:n=0 then [] else UInt8.ofNat n::z1u (n / 256)
termination_by n
theorem z7s:z1u 0=[]:=by rw [z1u]; simp
theorem z56 (n:Nat) (h:n≠0):z1u n=UInt8.ofNat n::z1u (n / 256):=by rw [z1u]; simp [h]
def z0c (n:Nat):List UInt8:=if n≤247 then [UInt8.ofNat n] else UInt8.ofNat (247+(z1u n).length)::(z1u n).reverse
theorem zhx (n:Nat):(z1u n).length=(bitLen n+7) / 8:=by
 induction n using Nat.strongRecOn with
 | _ n ih =>
  by_cases h:n=0
  ·subst h; rw [z7s]; simp [bitLen]
  ·rw [z56 n h,List.length_cons,ih (n / 256) (by omega)]
   by_cases h2:n<256
   ·have:n / 256=0:=by omega
    rw [this]
    have h3:bitLen n≤8:=zet n 8 h2
    have h4:1≤bitLen n:=by unfold bitLen; rw [if_neg h]; omega
    simp [bitLen] at h3 h4 ⊢
    rw [if_neg h] at h3 h4 ⊢; omega
   ·have:=zcv n 8 (by omega)
    rw [show (2:Nat) ^ 8=256 from rfl] at this
    omega
theorem zto (n:Nat):∀ (i:Nat),i<(z1u n).length→(z1u n)[i]? = some (UInt8.ofNat (n / 256 ^ i)):=by
 induction n using Nat.strongRecOn with
 | _ n ih =>
  intro i hi
  by_cases h:n=0
  ·subst h; rw [z7s] at hi; simp at hi
  ·rw [z56 n h] at hi ⊢
   cases i with
   | zero=>simp
   | succ i =>
    simp only [List.length_cons] at hi
    rw [List.getElem?_cons_succ,ih (n / 256) (by omega) i (by omega),Nat.div_div_eq_div_mul]
    congr 3
    rw [Nat.pow_succ,Nat.mul_comm]
theorem zhc (n:Nat) (h:n<18446744073709551616):(z1u n).length≤8:=by
 rw [zhx]; have:=zet n 64 (by simpa using h); omega
theorem z0m (n:Nat) (h:n<18446744073709551616):1≤(z0c n).length∧(z0c n).length≤9:=by
 unfold z0c; have:=zhc n h; split <;> simp <;> omega
def zb1 (n i:Nat):List UInt8:=UInt8.ofNat (247+(z1u n).length)::(List.replicate ((z1u n).length - i) 0++((z1u n).take i).reverse)
theorem zqf (n i:Nat) (h:i≤(z1u n).length):(zb1 n i).length=(z1u n).length+1:=by simp [zb1]; omega
theorem zo1 (n:Nat):(List.replicate ((z1u n).length+1) (0:UInt8)).set 0 (UInt8.ofNat (247+(z1u n).length))=zb1 n 0:=by
 simp [zb1,List.replicate_succ]
theorem zom (n i:Nat) (h:i<(z1u n).length):(zb1 n i).set ((z1u n).length - i) (UInt8.ofNat (n / 2 ^ (8 * i)))=zb1 n (i+1):=by
 have hg:=zto n i h
 have he:n / 2 ^ (8 * i)=n / 256 ^ i:=by rw [Nat.pow_mul]
 rw [he]
 unfold zb1
 obtain ⟨m,hm⟩:∃ m,(z1u n).length - i=m+1:=⟨(z1u n).length - i - 1, by omega⟩
 have hm2:(z1u n).length - (i+1)=m:=by omega
 rw [hm,hm2,List.set_cons_succ,List.take_succ_eq_append_getElem h,List.reverse_append,List.reverse_singleton,List.replicate_succ']
 rw [List.getElem?_eq_getElem h,Option.some.injEq] at hg
 rw [hg,List.append_assoc,List.set_append_right _ _ (by simp)]
 simp
theorem zpg (n:Nat) (h:247<n):zb1 n (z1u n).length=z0c n:=by
 unfold zb1 z0c; rw [if_neg (by omega)]; simp
theorem zp0 (n m:Nat) (ds:List UInt8) (hm:m≠0) (h:z1u n=ds++z1u m):z1u n=(ds++[UInt8.ofNat (m % 256)])++z1u (m / 256):=by
 rw [h,z56 m hm,List.append_assoc]
 have:UInt8.ofNat (m % 256)=UInt8.ofNat m:=by
  apply UInt8.toNat_inj.1; simp
 rw [this]; rfl
theorem zl9 {α} {l a b:List α} (h:l=a++b):a.length≤l.length:=by rw [h]; simp
def z6i (l:List UInt8):Nat:=l.foldl (fun n x=>256 * n+x.toNat) 0
theorem zfl (l:List UInt8) (x:UInt8):z6i (l++[x])=256 * z6i l+x.toNat:=by simp [z6i]
theorem zs4 (l:List UInt8):z6i l<256 ^ l.length:=by
 have:∀ (m:List UInt8),z6i m.reverse<256 ^ m.length:=by
  intro m
  induction m with
  | nil=>simp [z6i]
  | cons x m ih =>
   rw [List.reverse_cons,zfl,List.length_cons,Nat.pow_succ]
   have:=x.toNat_lt
   omega
 have h:=this l.reverse
 simpa using h
theorem zik:∀ (l:List UInt8),(∀ x,l.getLast? = some x→x≠0)→z1u (z6i l.reverse)=l
 | [],_=>by simp [z6i,z7s]
 | x::l,h=>by
  rw [List.reverse_cons,zfl]
  have hx:=x.toNat_lt
  have h1:(256 * z6i l.reverse+x.toNat) / 256=z6i l.reverse:=by omega
  have h2:UInt8.ofNat (256 * z6i l.reverse+x.toNat)=x:=by
   apply UInt8.toNat_inj.1; simp <;> omega
  have hl:z1u (z6i l.reverse)=l:=by
   apply zik
   intro y hy
   cases l with
   | nil=>simp at hy
   | cons z l=>exact h y (by rw [List.getLast?_cons_cons]; exact hy)
  by_cases h0:256 * z6i l.reverse+x.toNat=0
  ·exfalso
   cases l with
   | nil =>
    have:=h x (by simp)
    apply this
    apply UInt8.toNat_inj.1
    simp <;> omega
   | cons z l =>
    have:z6i (z::l).reverse=0:=by omega
    rw [this,z7s] at hl
    cases hl
  ·rw [z56 _ h0,h1,h2,hl]
theorem zp2 (n:Nat):z6i (z1u n).reverse=n:=by
 induction n using Nat.strongRecOn with
 | _ n ih =>
  by_cases h:n=0
  ·subst h; rw [z7s]; rfl
  ·rw [z56 n h,List.reverse_cons,zfl,ih (n / 256) (by omega)]
   simp; omega
theorem zr1 (n:Nat):∀ x,(z1u n).getLast? = some x→x≠0:=by
 induction n using Nat.strongRecOn with
 | _ n ih =>
  intro x hx
  by_cases h:n=0
  ·subst h; rw [z7s] at hx; simp at hx
  ·rw [z56 n h] at hx
   by_cases h2:n / 256=0
   ·rw [h2,z7s] at hx
    simp at hx
    subst hx
    intro e
    have:=congrArg UInt8.toNat e
    simp at this; omega
   ·rw [z56 _ h2,List.getLast?_cons_cons,← z56 _ h2] at hx
    exact ih _ (by omega) x hx
def z73 (b:List UInt8):Option (Nat × Nat) :=
 if b.length=0 then none
 else if (b.getD 0 0).toNat≤247 then some ((b.getD 0 0).toNat,1)
 else if b.length≤(b.getD 0 0).toNat - 247∨(b.getD 1 0).toNat=0∨((b.getD 0 0).toNat - 247=1∧(b.getD 1 0).toNat≤247) then none
 else some (z6i ((b.drop 1).take ((b.getD 0 0).toNat - 247)),(b.getD 0 0).toNat - 247+1)
def z0r (b:List UInt8):Nat × Nat × Nat :=
 match z73 b with
 | some (n,u)=>(n,u,0)
 | none=>(0,0,12)
theorem zst {b:List UInt8} (h:b.length≠0):b.take 1=[b.getD 0 0]:=by cases b <;> simp_all
theorem zgd {b:List UInt8} (k:Nat) (h:b.length≠0):b.take (k+1)=b.getD 0 0::(b.drop 1).take k:=by cases b <;> simp_all
theorem zg7 {b:List UInt8} {k:Nat} (h1:1≤k) (h:2≤b.length):(b.drop 1).take k=b.getD 1 0::((b.drop 1).take k).tail:=by
 obtain ⟨m,rfl⟩:∃ m,k=m+1:=⟨k - 1, by omega⟩
 match b,h with
 | x::y::t,_=>simp
theorem ofNat_toNat (x:UInt8):UInt8.ofNat x.toNat=x:=by simp
theorem zpz {k:Nat} (h:k≤8):256 ^ k≤18446744073709551616:=by
 have:256 ^ k≤256 ^ 8:=Nat.pow_le_pow_right (by decide) h
 simpa using this
theorem z2t (b:List UInt8) (n u:Nat):z73 b=some (n,u)↔n<18446744073709551616∧u=(z0c n).length∧b.take u=z0c n:=by
 constructor
 ·intro h
  unfold z73 at h
  by_cases h0:b.length=0
  ·rw [if_pos h0] at h; cases h
  ·rw [if_neg h0] at h
   have hx:=(b.getD 0 0).toNat_lt
   by_cases h1:(b.getD 0 0).toNat≤247
   ·rw [if_pos h1] at h
    simp only [Option.some.injEq,Prod.mk.injEq] at h
    obtain ⟨rfl,rfl⟩:=h
    refine ⟨by omega,?_,?_⟩
    ·unfold z0c; rw [if_pos h1]; rfl
    ·unfold z0c; rw [if_pos h1,zst h0,ofNat_toNat]
   ·rw [if_neg h1] at h
    by_cases h2:b.length≤(b.getD 0 0).toNat - 247∨(b.getD 1 0).toNat=0∨((b.getD 0 0).toNat - 247=1∧(b.getD 1 0).toNat≤247)
    ·rw [if_pos h2] at h; cases h
    ·rw [if_neg h2] at h
     simp only [Option.some.injEq,Prod.mk.injEq] at h
     obtain ⟨k,hk⟩:∃ k,(b.getD 0 0).toNat - 247=k:=⟨_,rfl⟩
     rw [hk] at h h2
     obtain ⟨hn,rfl⟩:=h
     have hk1:1≤k:=by omega
     have hk8:k≤8:=by omega
     have hlen:k<b.length:=by omega
     obtain ⟨d,hd⟩:∃ d,(b.drop 1).take k=d:=⟨_,rfl⟩
     rw [hd] at hn
     have hdl:d.length=k:=by rw [← hd]; simp; omega
     have hd0:d=b.getD 1 0::d.tail:=by
      rw [← hd]
      exact zg7 hk1 (by omega)
     have hdig:z1u n=d.reverse:=by
      rw [← hn]
      have:=zik d.reverse (by
       intro x hx
       rw [List.getLast?_reverse,hd0] at hx
       simp at hx
       subst hx
       intro e
       apply h2
       right; left
       have:=congrArg UInt8.toNat e
       simpa using this)
      rw [List.reverse_reverse] at this
      exact this
     have hlt:n<18446744073709551616:=by
      have h3:=zs4 d
      rw [hn,hdl] at h3
      exact Nat.lt_of_lt_of_le h3 (zpz hk8)
     have hgt:¬ n≤247:=by
      intro hle
      by_cases hk2:k=1
      ·apply h2
       right; right
       refine ⟨hk2,?_⟩
       have:d.tail=[]:=List.eq_nil_of_length_eq_zero (by simp [hdl,hk2])
       rw [hd0,this] at hn
       simp [z6i] at hn
       simp at hle ⊢
       omega
      ·have h3:(z1u n).length≤1:=by
        rw [zhx]
        have:=zet n 8 (by omega)
        omega
       rw [hdig,List.length_reverse,hdl] at h3
       omega
     refine ⟨hlt,?_,?_⟩
     ·unfold z0c; rw [if_neg hgt,hdig]; simp [hdl]
     ·unfold z0c
      rw [if_neg hgt,hdig,List.reverse_reverse,List.length_reverse,hdl,zgd k h0,hd]
      have h247:b.getD 0 0=UInt8.ofNat (247+k):=by
       apply UInt8.toNat_inj.1
       rw [UInt8.toNat_ofNat']
       omega
      rw [h247]
 ·rintro ⟨hn,rfl,hb⟩
  have hl:=congrArg List.length hb
  have h9:=z0m n hn
  rw [List.length_take] at hl
  have h0:b.length≠0:=by omega
  unfold z73
  rw [if_neg h0]
  by_cases h1:n≤247
  ·have hnb:z0c n=[UInt8.ofNat n]:=by unfold z0c; rw [if_pos h1]
   rw [hnb] at hb ⊢
   rw [show ([UInt8.ofNat n]:List UInt8).length=1 from rfl,zst h0] at hb
   injection hb with hb _
   have:(b.getD 0 0).toNat=n:=by rw [hb]; simp; omega
   rw [if_pos (by omega),this]
   rfl
  ·have hnb:z0c n=UInt8.ofNat (247+(z1u n).length)::(z1u n).reverse:=by unfold z0c; rw [if_neg h1]
   have hd8:=zhc n hn
   have hd1:1≤(z1u n).length:=by rw [z56 n (by omega)]; simp
   rw [hnb] at hb hl ⊢
   simp only [List.length_cons,List.length_reverse] at hb hl ⊢
   rw [zgd _ h0] at hb
   injection hb with hb1 hb2
   have hx:(b.getD 0 0).toNat=247+(z1u n).length:=by rw [hb1]; simp; omega
   rw [if_neg (by omega),hx,Nat.add_sub_cancel_left]
   have hy:∃ y,(z1u n).getLast? = some y∧b.getD 1 0=y:=by
    have h3:(z1u n).reverse.head? = some (b.getD 1 0):=by
     rw [← hb2,zg7 hd1 (by omega)]
     rfl
    rw [List.head?_reverse] at h3
    exact ⟨_,h3,rfl⟩
   obtain ⟨y,hy1,hy2⟩:=hy
   have hy0:=zr1 n y hy1
   have h2:¬ (b.length≤(z1u n).length∨(b.getD 1 0).toNat=0∨((z1u n).length=1∧(b.getD 1 0).toNat≤247)):=by
    rintro (h | h | ⟨h,h'⟩)
    ·omega
    ·rw [hy2] at h
     apply hy0
     apply UInt8.toNat_inj.1
     simpa using h
    ·rw [z56 n (by omega),List.length_cons] at h
     have h4:z1u (n / 256)=[]:=List.eq_nil_of_length_eq_zero (by omega)
     have h5:n / 256=0:=by
      by_cases h6:n / 256=0
      ·exact h6
      ·rw [z56 _ h6] at h4; cases h4
     rw [z56 n (by omega),h4] at hy1
     simp at hy1
     rw [hy2,← hy1] at h'
     simp at h'
     omega
   rw [if_neg h2,hb2,zp2]
theorem zbs {b:List UInt8} {n u:Nat} (h:z73 b=some (n,u)):n<18446744073709551616∧1≤u∧u≤9∧u≤b.length:=by
 obtain ⟨h1,h2,h3⟩:=(z2t b n u).1 h
 have h4:=z0m n h1
 have h5:=congrArg List.length h3
 rw [List.length_take] at h5
 omega
theorem zic {b:List UInt8} (h:z73 b=none):z0r b=(0,0,12):=by unfold z0r; rw [h]
theorem za4 {b:List UInt8} {n u:Nat} (h:z73 b=some (n,u)):z0r b=(n,u,0):=by unfold z0r; rw [h]
theorem z9z (b:List UInt8):(z73 b=none∧z0r b=(0,0,12))∨∃ n u,z73 b=some (n,u)∧z0r b=(n,u,0):=by
 cases h:z73 b with
 | none=>exact .inl ⟨rfl,zic h⟩
 | some x=>exact .inr ⟨x.1,x.2,rfl,za4 h⟩
theorem zfk (b:List UInt8):(z0r b).1<18446744073709551616∧(z0r b).2.1≤9∧((z0r b).2.2=0∨(z0r b).2.2=12):=by
 rcases z9z b with ⟨_,h⟩ | ⟨n,u,h1,h⟩
 ·rw [h]; simp
 ·rw [h]; have:=zbs h1; simp; omega
theorem zrj {b:List UInt8} (h:b.length=0):z73 b=none:=by unfold z73; rw [if_pos h]
theorem zn5 {b:List UInt8} (h:b.length≠0) (h1:(b.getD 0 0).toNat≤247):z73 b=some ((b.getD 0 0).toNat,1):=by unfold z73; rw [if_neg h,if_pos h1]
theorem zqc {b:List UInt8} (h:b.length≠0) (h1:¬ (b.getD 0 0).toNat≤247) (h2:b.length≤(b.getD 0 0).toNat - 247∨(b.getD 1 0).toNat=0∨((b.getD 0 0).toNat - 247=1∧(b.getD 1 0).toNat≤247)):z73 b=none:=by
 unfold z73; rw [if_neg h,if_neg h1,if_pos h2]
theorem zov {b:List UInt8} (h:b.length≠0) (h1:¬ (b.getD 0 0).toNat≤247) (h2:¬ (b.length≤(b.getD 0 0).toNat - 247∨(b.getD 1 0).toNat=0∨((b.getD 0 0).toNat - 247=1∧(b.getD 1 0).toNat≤247))) :
  z73 b=some (z6i ((b.drop 1).take ((b.getD 0 0).toNat - 247)),(b.getD 0 0).toNat - 247+1):=by
 unfold z73; rw [if_neg h,if_neg h1,if_neg h2]
theorem zw7 {l:List UInt8} {i:Nat} (h:i<l.length):l.take (i+1)=l.take i++[l.getD i 0]:=by
 rw [List.take_succ_eq_append_getElem h]; simp [List.getD,h]
theorem zhv {l:List UInt8} {i:Nat} (h:i<l.length):z6i (l.take (i+1))=256 * z6i (l.take i)+(l.getD i 0).toNat:=by rw [zw7 h,zfl]
theorem zgq {l:List UInt8} {i:Nat} (h:i<l.length) (h8:l.length≤8):z6i (l.take (i+1))<18446744073709551616∧256 * z6i (l.take i)+(l.getD i 0).toNat<18446744073709551616∧z6i (l.take i)<72057594037927936:=by
 have h1:=zs4 (l.take (i+1))
 rw [List.length_take,Nat.min_eq_left (by omega)] at h1
 have h2:=zpz (k:=i+1) (by omega)
 have h3:=zhv h
 omega
theorem zm5 (a b:Int):z8d .and .u64 a b=IntKind.u64.wrap ((BitVec.ofInt 64 a &&& BitVec.ofInt 64 b).toNat:Int):=rfl
theorem zro (a b:Int):z8d .xor .i64 a b=IntKind.i64.wrap ((BitVec.ofInt 64 a ^^^ BitVec.ofInt 64 b).toNat:Int):=rfl
def zig (n:Int):Nat:=if 0≤n then (2 * n).toNat else (-2 * n - 1).toNat
def zid (u:Nat):Int:=if u % 2=0 then ((u / 2:Nat):Int) else -((u / 2:Nat):Int) - 1
theorem z14k {n:Int} (h1:-9223372036854775808≤n) (h2:n≤9223372036854775807):zig n<18446744073709551616:=by unfold zig; split <;> omega
theorem zv0 (n:Int):zid (zig n)=n:=by unfold zig zid; split <;> split <;> omega
theorem zx4 (u:Nat):zig (zid u)=u:=by unfold zid; split <;> (unfold zig; split <;> omega)
theorem zkf {u:Nat} (h:u<18446744073709551616):-9223372036854775808≤zid u∧zid u≤9223372036854775807:=by unfold zid; split <;> omega
theorem ztn {u:Nat} (h:u<18446744073709551616) :
  z8d .xor .i64 (IntKind.i64.wrap (Int.fdiv ((u:Nat):Int) (2 ^ (min (1:Int).toNat IntKind.u64.bits)))) (IntKind.i64.wrap (0 - IntKind.i64.wrap (z8d .and .u64 ((u:Nat):Int) 1)))=zid u:=by
 have hb:IntKind.u64.bits=64:=rfl
 have hb2:IntKind.i64.bits=64:=rfl
 have e2:(2:Int) ^ (min (1:Int).toNat 64)=2:=by decide
 have ha:z8d .and .u64 ((u:Nat):Int) 1=((u % 2:Nat):Int):=by
  rw [zm5]
  have:(BitVec.ofInt 64 ((u:Nat):Int) &&& BitVec.ofInt 64 1).toNat=u % 2:=by
   rw [BitVec.toNat_and,BitVec.ofInt_natCast,BitVec.toNat_ofNat, show (BitVec.ofInt 64 1).toNat=1 by decide,Nat.and_one_is_mod]; omega
  rw [this]; exact zs3 (by omega) rfl
 rw [hb,e2,ha,Int.fdiv_eq_ediv_of_nonneg _ (by decide)]
 rw [znk (z:=((u:Nat):Int) / 2) (r:=((u / 2:Nat):Int)) (by omega) (by omega),znk (z:=((u % 2:Nat):Int)) (by omega) rfl]
 rw [zro]
 by_cases h0:u % 2=0
 ·rw [h0, show IntKind.i64.wrap (0 - ((0:Nat):Int))=0 by decide]
  have e6:(BitVec.ofInt 64 ((u / 2:Nat):Int) ^^^ BitVec.ofInt 64 0).toNat=u / 2:=by
   have:BitVec.ofInt 64 0=0#64:=rfl
   rw [this,BitVec.xor_zero,BitVec.toNat_ofInt]; omega
  rw [e6]; unfold zid; rw [if_pos h0]; exact znk (by omega) rfl
 ·rw [show u % 2=1 by omega, show IntKind.i64.wrap (0 - ((1:Nat):Int)) = -1 by decide]
  have e6:(BitVec.ofInt 64 ((u / 2:Nat):Int) ^^^ BitVec.ofInt 64 (-1)).toNat=18446744073709551615 - u / 2:=by
   have:BitVec.ofInt 64 (-1)=BitVec.allOnes 64:=by decide
   rw [this,BitVec.xor_allOnes,BitVec.toNat_not,BitVec.toNat_ofInt]; omega
  rw [e6]; unfold zid; rw [if_neg h0]
  simp only [IntKind.wrap,IntKind.signed,IntKind.bits,Bool.true_and,decide_eq_true_eq,ge_iff_le]
  split <;> omega
def zf5 (b:List UInt8):Int × Nat × Nat:=if (z0r b).2.2=0 then (zid (z0r b).1,(z0r b).2.1,0) else (0,0,(z0r b).2.2)
theorem zj9 {b:List UInt8} (h:(z0r b).2.2=0):zf5 b=(zid (z0r b).1,(z0r b).2.1,0):=by unfold zf5; rw [if_pos h]
theorem zmx {b:List UInt8} (h:¬ (z0r b).2.2=0):zf5 b=(0,0,(z0r b).2.2):=by unfold zf5; rw [if_neg h]
theorem zdg (b:List UInt8):(z0r b).2.1≤b.length:=by
 rcases z9z b with ⟨_,h⟩ | ⟨n,u,h1,h⟩
 ·rw [h]; simp
 ·rw [h]; exact (zbs h1).2.2.2
def z2k (b:List UInt8) (most:Int) (k:Nat):List UInt8 × Nat × Nat :=
 if most<0 then ([],0,2)
 else if (z0r b).2.2≠0∨most<((z0r b).1:Int)∨(b.length - (z0r b).2.1) / k<(z0r b).1 then ([],0,12)
 else ((b.drop (z0r b).2.1).take (k * (z0r b).1),(z0r b).2.1+k * (z0r b).1,0)
theorem zkj {b:List UInt8} {most:Int} {k:Nat} (h:most<0):z2k b most k=([],0,2):=by unfold z2k; rw [if_pos h]
theorem zhm {b:List UInt8} {most:Int} {k:Nat} (h:¬ most<0) (h2:(z0r b).2.2≠0∨most<((z0r b).1:Int)∨(b.length - (z0r b).2.1) / k<(z0r b).1):z2k b most k=([],0,12):=by
 unfold z2k; rw [if_neg h,if_pos h2]
theorem za7 {b:List UInt8} {most:Int} {k:Nat} (h:¬ most<0) (h2:¬ ((z0r b).2.2≠0∨most<((z0r b).1:Int)∨(b.length - (z0r b).2.1) / k<(z0r b).1)) :
  z2k b most k=((b.drop (z0r b).2.1).take (k * (z0r b).1),(z0r b).2.1+k * (z0r b).1,0):=by
 unfold z2k; rw [if_neg h,if_neg h2]
theorem zh3 {b:List UInt8} {k:Nat} (h2:¬ (b.length - (z0r b).2.1) / k<(z0r b).1):k * (z0r b).1≤b.length - (z0r b).2.1:=by
 have h3:(z0r b).1≤(b.length - (z0r b).2.1) / k:=by omega
 exact Nat.le_trans (Nat.mul_le_mul_left _ h3) (Nat.mul_div_le _ _)
theorem zpl (b:List UInt8) (most:Int) (k:Nat):(z2k b most k).1.length≤b.length:=by
 unfold z2k; split
 ·simp
 ·split
  ·simp
  ·simp only [List.length_take,List.length_drop]; omega
end
section
open Go Go.RowKit
def zok (x:z00):Prop:=(fun _=>True) x.Kind∧inI x.Num∧(fun _=>True) x.Bits∧(fun s:List UInt8=>s.length≤9223372036854775807) x.Text∧True
def ztt (x:z06):Prop:=(fun _=>True) x.Kind∧(fun s:List UInt8=>s.length≤9223372036854775807) x.Key∧zok x.Value∧True
def zte (x:z05):Prop:=(fun _=>True) x.E∧(fun _=>True) x.S∧True
def zpj (x:z01):Prop:=(fun _=>True) x.Author∧(fun l:List V3=>(∀ x∈l,(fun v:V3=>∀ x∈v.toList,(fun _=>True) x) x)∧l.length≤9223372036854775807) x.Preds∧(fun _=>True) x.Stamp∧ztt x.Act∧zte x.Sig∧True
def zcs (x:z0d):Prop:=(fun l:List V3=>(∀ x∈l,(fun v:V3=>∀ x∈v.toList,(fun _=>True) x) x)∧l.length≤9223372036854775807) x.IDs∧(fun l:List z01=>(∀ x∈l,zpj x)∧l.length≤9223372036854775807) x.Ops∧True
end
section
open Go
theorem z10m {n k:Nat} (hn:n<9223372036854775808) (hk:k<9223372036854775808):andI (n:Int) (k:Int)=((n &&& k:Nat):Int):=by
 show IntKind.i64.wrap (BitVec.toNat (BitVec.ofInt 64 (n:Int) &&& BitVec.ofInt 64 (k:Int)):Int)=_
 rw [BitVec.ofInt_natCast,BitVec.ofInt_natCast,BitVec.toNat_and,BitVec.toNat_ofNat,BitVec.toNat_ofNat,Nat.mod_eq_of_lt (by omega),Nat.mod_eq_of_lt (by omega)]
 have:=Nat.and_le_left (n:=n) (m:=k)
 exact zeu (by omega) (by omega)
def okb (c:UInt8):Bool:=decide (32≤c.toNat)&&decide (c.toNat≤126)
theorem zml {b:List UInt8} {q:Nat} (h:q<b.length) (ha:(b[q]).toNat<128):z84 b q=((b[q]).toNat,1):=by
 unfold z84
 exact decode_ascii ⟨b.toArray⟩ q (by show q<b.toArray.size; simpa using h) ha
theorem zxy {b:List UInt8} {q:Nat} (h:q<b.length) (ha:128≤(b[q]).toNat):128≤(z84 b q).1:=by
 unfold z84
 have e:((ByteArray.mk b.toArray).get! (q+0)).toNat=(b[q]).toNat:=by
  show ((ByteArray.mk b.toArray).get! q).toNat=_
  simp [ByteArray.get!,h]
 simp only [Utf8.decode,e]
 rw [if_neg (by omega)]
 repeat' split
 all_goals (first | (simp only [Utf8.runeError]; omega) | (rename_i h1; simp at h1; omega) | omega)
theorem zzk (x:Int):zcu x=some (decide (x<32) || decide (126<x)):=by
 unfold zcu
 cases decide (x<32) <;> rfl
theorem zs5 (b:List UInt8):∀ (rest pre:List UInt8),b=pre++rest →
  (rest.all okb=true→iter (z1j b true) pre.length=some (.inr ()))∧(rest.all okb=false→∃ i:Nat,iter (z1j b true) pre.length=some (.inl (i:Int)))
 | [],pre,e=>by
  refine ⟨fun _=>z1a ?_, fun h=>by simp at h⟩
  subst e
  unfold z1j
  simp
 | c::rest,pre,e=>by
  have hlen:pre.length<b.length:=by rw [e]; simp
  have hget:b[pre.length]'hlen=c:=by subst e; simp
  have hF:z1j b true pre.length=if ((decide (((z84 b pre.length).1:Int)<32) || decide (126<((z84 b pre.length).1:Int)))==true) then some (.inl (.inl (pre.length:Int))) else some (.inr (pre.length+(z84 b pre.length).2)):=by
   unfold z1j
   rw [if_pos hlen]
   simp only [bs,zzk]
  cases hc:okb c with
  | false =>
   refine ⟨fun h=>by simp [hc] at h, fun _=>⟨pre.length,z1a ?_⟩⟩
   rw [hF,if_pos]
   by_cases h8:c.toNat<128
   ·rw [zml hlen (by rw [hget]; exact h8),hget]
    simp only [okb,Bool.and_eq_false_iff,decide_eq_false_iff_not] at hc
    simp; omega
   ·have:=zxy hlen (by rw [hget]; omega)
    simp; omega
  | true =>
   simp only [okb,Bool.and_eq_true,decide_eq_true_eq] at hc
   rw [zml hlen (by rw [hget]; omega),hget,if_neg (by simp; omega)] at hF
   have ih:=zs5 b rest (pre++[c]) (by simp [e])
   simp only [List.length_append,List.length_cons,List.length_nil,Nat.zero_add] at ih
   rw [z1s hF]
   have hc':okb c=true:=by simp [okb,hc]
   simpa [hc'] using ih
theorem zij (b:List UInt8) (hb:b.length≤9223372036854775807):∀ (rest pre:List UInt8),b=pre++rest→iter (z36 b) (pre.length:Int)=some (if rest.all okb then .inr () else .inl false)
 | [],pre,e=>by
  refine z1a ?_
  subst e
  unfold z36
  simp
 | c::rest,pre,e=>by
  have hlen:pre.length<b.length:=by rw [e]; simp
  have hget:b[pre.length]'hlen=c:=by subst e; simp
  have hF:z36 b (pre.length:Int)=if okb c then some (.inr ((pre.length+1:Nat):Int)) else some (.inl (.inl false)):=by
   unfold z36
   rw [if_pos (by simp <;> omega)]
   simp only [z0i hlen,hget,bs,z0j (show pre.length<9223372036854775807 by omega)]
   simp only [okb,UInt8.lt_iff_toNat_lt,UInt8.reduceToNat]
   by_cases h1:c.toNat<32
   ·have:¬ 32≤c.toNat:=by omega
    simp [h1,this]
   ·by_cases h2:126<c.toNat
    ·have:¬ c.toNat≤126:=by omega
     simp [h1,h2,this]
    ·have h3:32≤c.toNat:=by omega
     have h4:c.toNat≤126:=by omega
     simp [h1,h2,h3,h4]
  cases hc:okb c with
  | false=>rw [hc] at hF; rw [z1a hF]; simp [hc]
  | true =>
   rw [hc] at hF
   rw [z1s hF]
   have ih:=zij b hb rest (pre++[c]) (by simp [e])
   simp only [List.length_append,List.length_cons,List.length_nil,Nat.zero_add] at ih
   rw [ih]; simp [hc]
theorem znr (b:List UInt8) (hb:b.length≤9223372036854775807):z88 b=some (b.all okb):=by
 have h:=zij b hb b [] rfl
 unfold z88
 rw [show (0:Int)=(([]:List UInt8).length:Int) from rfl,h]
 cases b.all okb <;> rfl
theorem z10c (b:List UInt8) (hb:b.length≤9223372036854775807):zfs b=some (if decide (30<(b.length:Int)) then (⟨0,0,0,[]⟩,4) else if b.all okb then (⟨3,0,0,b⟩,0) else (⟨0,0,0,[]⟩,8)):=by
 unfold zfs z3t z3s
 cases decide (30<(b.length:Int))
 ·simp only [Bool.false_eq_true,if_false]
  obtain ⟨h1,h2⟩:=zs5 b b [] rfl
  simp only [List.length_nil] at h1 h2
  cases h:b.all okb
  ·obtain ⟨i,hi⟩:=h2 h
   rw [hi]
   simp only [or_l,bs]
   rw [if_pos (by simp)]; rfl
  ·rw [h1 h]; rfl
 ·rfl
theorem zyh (a:UInt64):zec a=some (((a.toNat / 4503599627370496 % 2048:Nat):Int),a % 4503599627370496):=by
 unfold zec
 simp only [bs]
 have h0:=UInt64.toNat_lt a
 rw [z8s]
 have e1:(2:Nat) ^ (min 52 64)=4503599627370496:=by decide
 rw [e1,z0v (by omega) (by omega), show (2047:Int)=((2047:Nat):Int) from rfl,z10m (by omega) (by omega)]
 congr 2
 ·congr 1
  exact Nat.and_two_pow_sub_one_eq_mod _ 11
 ·apply UInt64.toNat_inj.1
  rw [UInt64.toNat_and,UInt64.toNat_mod]
  exact Nat.and_two_pow_sub_one_eq_mod _ 52
theorem z14m (a:UInt64):z8v a=some ((a.toNat / 4503599627370496 % 2048:Nat):Int):=by
 unfold z8v
 have h0:=UInt64.toNat_lt a
 simp only [bs,UInt64.toNat_div,UInt64.toNat_mod,UInt64.reduceToNat]
 rw [z0v (by omega) (by omega)]
 congr 2
 omega
def zq7 (a:UInt64):Nat:=a.toNat / 4503599627370496 % 2048
def zy6 (a:UInt64):Nat:=a.toNat % 4503599627370496
theorem z11p (a:UInt64):zq7 a<2048:=Nat.mod_lt _ (by omega)
def clsF (a:UInt64):UInt8:=if zq7 a=2047 then (if zy6 a=0 then 4 else 5) else if zq7 a=0 then (if zy6 a=0 then 1 else 2) else 3
theorem z11m (a:UInt64):(a % 4503599627370496==0)=decide (zy6 a=0):=by
 rw [Bool.eq_iff_iff]
 simp only [beq_iff_eq,decide_eq_true_eq,← UInt64.toNat_inj,UInt64.toNat_mod]
 rfl
theorem zxt (a:UInt64):zdt a=some (clsF a):=by
 unfold zdt clsF
 rw [zyh]
 simp only [bs]
 have hm:=z11m a
 have hne:(a % 4503599627370496 != 0)=!decide (zy6 a=0):=by rw [← hm]; rfl
 have he:((a.toNat / 4503599627370496 % 2048:Nat):Int)=(zq7 a:Int):=rfl
 rw [hne,he]
 by_cases h1:zq7 a=2047
 ·rw [h1]
  by_cases h2:zy6 a=0
  ·rw [decide_eq_true h2,if_pos h2]; rfl
  ·rw [decide_eq_false h2,if_neg h2]; rfl
 ·have e1:((zq7 a:Int)==2047)=false:=by simp; omega
  rw [if_neg h1,e1]
  simp only [Bool.false_eq_true,if_false,bs]
  by_cases h0:zq7 a=0
  ·rw [h0]
   by_cases h2:zy6 a=0
   ·rw [decide_eq_true h2,if_pos h2]; rfl
   ·rw [decide_eq_false h2,if_neg h2]; rfl
  ·have e0:((zq7 a:Int) != 0)=true:=by simp; omega
   rw [e0,if_neg h0]; rfl
theorem zuq (a:UInt64):zb2 a=some (clsF a):=by
 unfold zb2 zc7 clsF
 rw [z14m]
 simp only [bs]
 rw [z11m a]
 have hx:=z11p a
 show z59 (if ((zq7 a:Int)==0)=true then if decide (zy6 a=0)=true then some (.inl 1) else some (.inr ()) else some (.inr ())) (fun s5=>if ((zq7 a:Int)==0)=true then some 2 else if decide ((zq7 a:Int)<2047)=true then some 3 else if decide (zy6 a=0)=true then some 4 else some 5)=_
 by_cases h1:zq7 a=2047
 ·rw [h1]
  by_cases h2:zy6 a=0 <;> simp [h2,znp,or_l]
 ·by_cases h0:zq7 a=0
  ·rw [h0]
   by_cases h2:zy6 a=0 <;> simp [h2,znp,or_l]
  ·have e0:((zq7 a:Int)==0)=false:=by simp; omega
   have e2:decide ((zq7 a:Int)<2047)=true:=by simp; omega
   rw [e0,e2,if_neg h1,if_neg h0]; rfl
def zg2 (a:UInt64):UInt64:=if clsF a=5 then 9221120237041090560 else a
theorem zvg (a:UInt64):ze2 a=some (zg2 a):=by
 unfold ze2 zg2
 rw [zxt]
 simp only [bs]
 by_cases h:clsF a=5 <;> simp [h]
theorem zvh (a:UInt64):zaz a=some (zg2 a):=by
 unfold zaz zg2
 rw [zuq]
 simp only [bs]
 by_cases h:clsF a=5 <;> simp [h]
theorem zwi (a:UInt64):zdu a=some ⟨2,0,zg2 a,[]⟩:=by
 unfold zdu; rw [zvg]; rfl
def okV (v:z00):Bool :=
 if v.Kind=1 then decide (v.Bits=0)&&decide (v.Text=[])
 else if v.Kind=2 then decide (v.Num=0)&&decide (v.Text=[])&&decide (zg2 v.Bits=v.Bits)
 else if v.Kind=3 then decide (v.Num=0)&&decide (v.Bits=0)&&decide (v.Text.length≤30)&&v.Text.all okb
 else false
theorem zx5 (v:z00) (hb:v.Text.length≤9223372036854775807):zay v=some (if okV v then 0 else 8):=by
 obtain ⟨K,n,f,t⟩:=v
 unfold zay okV
 simp only at hb ⊢
 rw [zvh,znr t hb]
 by_cases h1:K=1
 ·subst h1
  by_cases hf:f=0 <;> by_cases ht:t=[] <;> simp [hf,ht]
 by_cases h2:K=2
 ·subst h2
  by_cases hn:n=0 <;> by_cases ht:t=[] <;> by_cases hc:zg2 f=f <;> simp [hn,ht,hc,bs]
 by_cases h3:K=3
 ·subst h3
  by_cases hl:t.length≤30
  ·have hl':(t.length:Int)≤30:=by omega
   by_cases hn:n=0 <;> by_cases hf:f=0 <;> cases t.all okb <;> simp [hn,hf,hl,hl',bs]
  ·have hl':¬ (t.length:Int)≤30:=by omega
   by_cases hn:n=0 <;> by_cases hf:f=0 <;> simp [hn,hf,hl,hl',bs]
 ·simp [h1,h2,h3]
theorem zko (v:z00) (hb:v.Text.length≤9223372036854775807):z7p v=some (if okV v then 0 else 8):=by
 obtain ⟨K,n,f,t⟩:=v
 unfold z7p zeo okV
 simp only at hb ⊢
 rw [zwi,z10c t hb]
 by_cases h1:K=1
 ·subst h1
  by_cases hf:f=0 <;> by_cases ht:t=[] <;> simp [hf,ht,bs]
 by_cases h2:K=2
 ·subst h2
  by_cases hc:zg2 f=f
  ·by_cases hn:n=0 <;> by_cases ht:t=[] <;> simp [hn,ht,hc,bs]
  ·have hc':¬ f=zg2 f:=fun e=>hc e.symm
   by_cases hn:n=0 <;> by_cases ht:t=[] <;> simp [hn,ht,hc,hc',bs]
 by_cases h3:K=3
 ·subst h3
  by_cases hl:30<(t.length:Int)
  ·have h4:¬ t.length≤30:=by omega
   rw [decide_eq_true hl,decide_eq_false h4]
   simp [bs]
  ·have h4:t.length≤30:=by omega
   rw [decide_eq_false hl,decide_eq_true h4]
   cases t.all okb <;> by_cases hn:n=0 <;> by_cases hf:f=0 <;> simp [hn,hf,bs]
 ·have e1:(K==1)=false:=by simpa using h1
  have e2:(K==2)=false:=by simpa using h2
  have e3:(K==3)=false:=by simpa using h3
  simp only [e1,e2,e3,Bool.false_eq_true,if_false,bs,h1,h2,h3]
  by_cases h0:K=0
  ·subst h0
   split <;> rfl
  ·simp [h0]
end
section
open Go
theorem zun:∀ (n:Nat) (a:UInt64) (ds:List UInt8) (N:Nat),a.toNat=n→z1u N=ds++z1u n→(z1u N).length≤8→iter z48 (a,ds)=some (z1u N):=by
 intro n
 induction n using Nat.strongRecOn with
 | _ n ih =>
  intro a ds N ha hd hl
  by_cases h0:n=0
  ·subst h0
   refine z1a ?_
   unfold z48
   rw [if_neg (by simp [UInt64.lt_iff_toNat_lt,ha])]
   rw [z7s,List.append_nil] at hd
   rw [hd]
  ·have hF:z48 (a,ds)=some (.inr (a / 256,ds++[(a % 256).toUInt8])):=by
    unfold z48
    rw [if_pos (by simp [UInt64.lt_iff_toNat_lt,ha]; omega)]
    have:ds.length≤8:=Nat.le_trans (zl9 hd) hl
    simp only [z0x (show (ds.length+[(a % 256).toUInt8].length) * 1≤140737488355328 by simp; omega),bs]
   rw [z1s hF]
   have hd2:=zp0 N n ds h0 hd
   refine ih (n / 256) (Nat.div_lt_self (by omega) (by omega)) _ _ N ?_ ?_ hl
   ·simp [ha]
   ·rw [hd2]
    congr 2
    congr 1
    apply UInt8.toNat_inj.1
    simp [ha]
theorem zph (s:List UInt8) (hl:s.length≤8):∀ (i:Nat) (acc:List UInt8),i≤s.length→acc.length+i≤100→iter (z4b s) (acc,(i:Int) - 1)=some (acc++(s.take i).reverse)
 | 0,acc,_,_=>by
  refine z1a ?_
  unfold z4b
  rw [if_neg (by simp)]; simp
 | i+1,acc,hi,ha=>by
  have hlt:i<s.length:=by omega
  have e:((i+1:Nat):Int) - 1=(i:Int):=by omega
  have hF:z4b s (acc,((i+1:Nat):Int) - 1)=some (.inr (acc++[s[i]],(i:Int) - 1)):=by
   unfold z4b
   rw [e,if_pos (by simp)]
   simp only [z0i hlt,bs]
   rw [z0x (by simp; omega)]
   simp only [bs,z0v (show -9223372036854775808≤(i:Int) - 1 by omega) (by omega)]
  rw [z1s hF,zph s hl i _ (by omega) (by simp; omega)]
  have:List.take (i+1) s=List.take i s++[s[i]]:=by rw [List.take_add_one,List.getElem?_eq_getElem hlt]; rfl
  rw [this]; simp only [List.reverse_append,List.reverse_cons,List.reverse_nil,List.nil_append,List.append_assoc]
theorem z6d (a:UInt64):z2j a=some (z0c a.toNat):=by
 unfold z2j z0c
 have h0:=UInt64.toNat_lt a
 by_cases h:a.toNat≤247
 ·have h':decide (a≤247)=true:=by simpa [UInt64.le_iff_toNat_le] using h
  rw [if_pos h',if_pos h]
  congr 2
 ·have h':¬ decide (a≤247)=true:=by simpa [UInt64.le_iff_toNat_le] using h
  rw [if_neg h',if_neg h]
  have hd:=zhc a.toNat h0
  rw [zun a.toNat a [] a.toNat rfl rfl hd]
  simp only [bs]
  rw [z0v (show -9223372036854775808≤((z1u a.toNat).length:Int) - 1 by omega) (by omega),z0v (show -9223372036854775808≤247+((z1u a.toNat).length:Int) by omega) (by omega)]
  rw [zph _ hd _ _ (Nat.le_refl _) (by simp; omega)]
  simp only [bs,List.take_length]
  rw [show (247+((z1u a.toNat).length:Int))=((247+(z1u a.toNat).length:Nat):Int) by omega]
  congr 1
  show _::_=_
  congr 1
  apply UInt8.toNat_inj.1
  simp [UInt8.ofInt]
  omega
theorem ztj (a:UInt64) (k:Nat) (hk:k=(z1u a.toNat).length) (hk8:k≤8):iter (zaf a (k:Int)) (zb1 a.toNat 0,0)=some (zb1 a.toNat k):=by
 refine z3f k (fun i=>(zb1 a.toNat i,(i:Int))) (fun i hi=>?_) ?_
 ·have hf:=zqf a.toNat i (by omega)
  unfold zaf
  rw [if_pos (by simp; omega)]
  simp only [z0v (show -9223372036854775808≤8 * (i:Int) by omega) (by omega),z2n (show (0:Int)≤8 * (i:Int) by omega),bs,z0v (show -9223372036854775808≤(k:Int) - (i:Int) by omega) (by omega),z0j (show i<9223372036854775807 by omega)]
  rw [z13s (by omega) (by omega)]
  simp only [bs]
  have:=zom a.toNat i (by omega)
  rw [← this]
  have e1:((k:Int) - (i:Int)).toNat=(z1u a.toNat).length - i:=by omega
  have e2:(z5p a (8 * (i:Int)).toNat).toUInt8=UInt8.ofNat (a.toNat / 2 ^ (8 * i)):=by
   apply UInt8.toNat_inj.1
   have e3:(8 * (i:Int)).toNat=8 * i:=by omega
   rw [e3]
   simp only [UInt64.toNat_toUInt8,z8s,Nat.min_eq_left (show 8 * i≤64 by omega)]
   simp
  rw [e1,e2]
 ·unfold zaf
  rw [if_neg (by simp)]
theorem zfd (a:UInt64) (k:Nat) (hk:k<64):(z5p a k).toNat=a.toNat / 2 ^ k:=by rw [z8s,Nat.min_eq_left (by omega)]
set_option maxRecDepth 100000 in
theorem zzg (a:UInt64):z96 a=some (bitLen a.toNat:Int):=by
 unfold z96
 have h0:=UInt64.toNat_lt a
 have s1:∃ (y:UInt64) (n:Nat),(if decide (4294967296≤a) then some (z5p a 32,(32:Int)) else some (a,0))=some (y,(n:Int))∧y.toNat<2 ^ 32∧n≤32∧bitLen a.toNat=n+bitLen y.toNat:=by
  by_cases h:4294967296≤a.toNat
  ·refine ⟨z5p a 32,32, by rw [if_pos (by simpa [UInt64.le_iff_toNat_le] using h)]; rfl,?_, by omega,?_⟩
   ·rw [zfd a 32 (by omega)]; omega
   ·rw [zfd a 32 (by omega)]; exact zcv _ 32 (by omega)
  ·exact ⟨a,0, by rw [if_neg (by simpa [UInt64.le_iff_toNat_le] using h)]; rfl, by omega, by omega, by omega⟩
 obtain ⟨y,n,e1,hy,hn,hb⟩:=s1
 rw [e1]; simp only [bs]
 have s2:∃ (z:UInt64) (k:Nat),(if decide (65536≤y) then some (z5p y 16) >>= fun y5=>some (w64 ((n:Int)+16)) >>= fun y6=>some (y5,y6) else some (y,(n:Int)))=some (z,(k:Int))∧z.toNat<2 ^ 16∧k≤48∧bitLen a.toNat=k+bitLen z.toNat:=by
  by_cases h:65536≤y.toNat
  ·refine ⟨z5p y 16,n+16, by rw [if_pos (by simpa [UInt64.le_iff_toNat_le] using h)]; simp only [bs,z0v (show -9223372036854775808≤(n:Int)+16 by omega) (by omega)]; rfl,?_, by omega,?_⟩
   ·rw [zfd y 16 (by omega)]; omega
   ·rw [zfd y 16 (by omega),hb,zcv y.toNat 16 (by omega)]; omega
  ·exact ⟨y,n, by rw [if_neg (by simpa [UInt64.le_iff_toNat_le] using h)], by omega, by omega,hb⟩
 obtain ⟨z,k,e2,hz,hk,hb2⟩:=s2
 simp only [bs] at e2
 rw [e2]; simp only [bs]
 have s3:∃ (x:UInt64) (j:Nat),(if decide (256≤z) then some (w64 ((k:Int)+8)) >>= fun y9=>some (z5p z 8,y9) else some (z,(k:Int)))=some (x,(j:Int))∧x.toNat<256∧j≤56∧bitLen a.toNat=j+bitLen x.toNat:=by
  by_cases h:256≤z.toNat
  ·refine ⟨z5p z 8,k+8, by rw [if_pos (by simpa [UInt64.le_iff_toNat_le] using h)]; simp only [bs,z0v (show -9223372036854775808≤(k:Int)+8 by omega) (by omega)]; rfl,?_, by omega,?_⟩
   ·rw [zfd z 8 (by omega)]; omega
   ·rw [zfd z 8 (by omega),hb2,zcv z.toNat 8 (by omega)]; omega
  ·exact ⟨z,k, by rw [if_neg (by simpa [UInt64.le_iff_toNat_le] using h)], by omega, by omega,hb2⟩
 obtain ⟨x,j,e3,hx,hj,hb3⟩:=s3
 simp only [bs] at e3
 rw [e3]; simp only [bs]
 have ht:=zz0 ⟨x.toNat,hx⟩
 have hx8:(x.toUInt8.toNat:Int)=((x.toNat:Nat):Int):=by simp; omega
 have hle:bitLen x.toNat≤8:=zet _ 8 (by omega)
 rw [hx8]
 have hlist:∀ (l:List UInt8),l=zwb.data.toList→idx l ((x.toNat:Nat):Int)=some (UInt8.ofNat (bitLen x.toNat)):=fun l hl=>by
  subst hl
  unfold idx
  rw [if_pos (by omega)]
  simpa using ht
 refine Eq.trans (congrArg (fun o:Option UInt8=>o >>= fun x10=>some (w64 ((j:Int)+(x10.toNat:Int)))) (hlist _ ?hh)) ?_
 case hh=>rfl
 simp only [bs]
 have e4:((UInt8.ofNat (bitLen x.toNat)).toNat:Int)=(bitLen x.toNat:Int):=by simp; omega
 rw [e4,z0v (by omega) (by omega),hb3]
 simp
theorem z3p (a:UInt64):z3m a=some (z0c a.toNat):=by
 unfold z3m
 have h0:=UInt64.toNat_lt a
 by_cases h:a.toNat≤247
 ·have h':decide (a≤247)=true:=by simpa [UInt64.le_iff_toNat_le] using h
  unfold z0c
  rw [if_pos h',if_pos h]
  congr 2
 ·have h':¬ decide (a≤247)=true:=by simpa [UInt64.le_iff_toNat_le] using h
  rw [if_neg h',zzg]
  have hd:=zhc a.toNat h0
  have hl:=zhx a.toNat
  have hb:bitLen a.toNat≤64:=zet _ 64 h0
  simp only [bs]
  rw [z0v (show -9223372036854775808≤(bitLen a.toNat:Int)+7 by omega) (by omega)]
  have e1:Int.tdiv ((bitLen a.toNat:Int)+7) 8=((z1u a.toNat).length:Int):=by
   rw [hl, show ((bitLen a.toNat:Int)+7)=((bitLen a.toNat+7:Nat):Int) by omega]
   rfl
  rw [e1,z0v (show -9223372036854775808≤((z1u a.toNat).length:Int) by omega) (by omega),z0j (by omega),zcw (by omega) (by omega)]
  simp only [bs]
  rw [show (0:Int)=((0:Nat):Int) from rfl,z0i (by simp)]
  simp only [bs,Int.toNat_natCast]
  rw [z0v (show -9223372036854775808≤247+((z1u a.toNat).length:Int) by omega) (by omega)]
  have e2:UInt8.ofInt (247+((z1u a.toNat).length:Int))=UInt8.ofNat (247+(z1u a.toNat).length):=by
   apply UInt8.toNat_inj.1
   rw [show (247+((z1u a.toNat).length:Int))=((247+(z1u a.toNat).length:Nat):Int) by omega]
   simp [UInt8.ofInt]
   omega
  have:=zo1 a.toNat
  rw [e2,this]
  have:=ztj a (z1u a.toNat).length rfl hd
  rw [show (0:Int)=((0:Nat):Int) from rfl] at this
  rw [this]
  simp only [bs]
  rw [zpg a.toNat (by omega)]
end
section
open Go
theorem okV1 {v:z00} (h:okV v=true) (k:v.Kind=1):v.Bits=0∧v.Text=[]:=by
 unfold okV at h; rw [if_pos k] at h; simpa using h
theorem okV2 {v:z00} (h:okV v=true) (k:v.Kind=2):v.Num=0∧v.Text=[]∧zg2 v.Bits=v.Bits:=by
 unfold okV at h; rw [if_neg (by rw [k]; decide),if_pos k] at h; simp at h; exact ⟨h.1.1,h.1.2,h.2⟩
theorem okV3 {v:z00} (h:okV v=true) (k:v.Kind=3):v.Num=0∧v.Bits=0∧v.Text.length≤30∧v.Text.all okb=true:=by
 unfold okV at h; rw [if_neg (by rw [k]; decide),if_neg (by rw [k]; decide),if_pos k] at h
 simp only [Bool.and_eq_true,decide_eq_true_eq] at h
 exact ⟨h.1.1.1,h.1.1.2,h.1.2,h.2⟩
theorem zfj {v:z00} (h:okV v=true):v.Kind=1∨v.Kind=2∨v.Kind=3:=by
 by_cases h1:v.Kind=1
 ·exact .inl h1
 by_cases h2:v.Kind=2
 ·exact .inr (.inl h2)
 by_cases h3:v.Kind=3
 ·exact .inr (.inr h3)
 ·unfold okV at h; simp [h1,h2,h3] at h
theorem zzw (x:UInt64):(x ^^^ 18446744073709551615).toNat=18446744073709551615 - x.toNat:=by
 have e:x ^^^ 18446744073709551615 = ~~~x:=by
  apply UInt64.eq_of_toBitVec_eq
  rw [UInt64.toBitVec_xor,UInt64.toBitVec_not]
  exact BitVec.xor_allOnes
 rw [e,UInt64.toNat_not]; rfl
theorem z8u (n:Int):(UInt64.ofInt n).toNat=(n % 18446744073709551616).toNat:=by
 simp [UInt64.ofInt]; omega
theorem z16y (n:Int) (h:inI n):((zh8 (UInt64.ofInt n) 1) ^^^ (UInt64.ofInt (shrI n 63))).toNat=zig n:=by
 obtain ⟨h1,h2⟩:=h
 have es:(zh8 (UInt64.ofInt n) 1).toNat=(n % 18446744073709551616).toNat * 2 % 18446744073709551616:=by
  rw [zgl,z8u]; rfl
 by_cases h0:0≤n
 ·have e:shrI n 63=0:=by
   unfold shrI
   rw [show (2:Int) ^ (min 63 64)=9223372036854775808 from rfl,Int.fdiv_eq_ediv_of_nonneg _ (by omega)]; omega
  rw [e, show UInt64.ofInt 0=0 from rfl,UInt64.xor_zero,es]
  unfold zig; rw [if_pos h0]; omega
 ·have e:shrI n 63 = -1:=by
   unfold shrI
   rw [show (2:Int) ^ (min 63 64)=9223372036854775808 from rfl,Int.fdiv_eq_ediv_of_nonneg _ (by omega)]; omega
  rw [e, show UInt64.ofInt (-1)=18446744073709551615 from rfl,zzw,es]
  unfold zig; rw [if_neg h0]; omega
theorem zvx (n:Int) (h:inI n):zeb n=some (z0c (zig n)):=by
 unfold zeb
 rw [z3p,z16y n h]; rfl
theorem zk3 (s:List UInt8) (h:s.length≤10000):za9 s=some (z0c s.length++s,0):=by
 unfold za9
 rw [if_neg (by simp; omega),z3p]
 have e:(UInt64.ofInt (s.length:Int)).toNat=s.length:=by rw [z8u]; omega
 have:=z0m s.length (by omega)
 simp only [bs,e]
 rw [z0x (by omega)]; rfl
def be8 (b:UInt64):List UInt8:=[(z5p b 56).toUInt8,(z5p b 48).toUInt8,(z5p b 40).toUInt8,(z5p b 32).toUInt8,(z5p b 24).toUInt8,(z5p b 16).toUInt8,(z5p b 8).toUInt8,(z5p b 0).toUInt8]
theorem zuk (v:z00) (l:List UInt8) (k:Nat) (hl:l.length≤100) (hk:k≤56):z7c v (l,(k:Int))=some (.inr (l++[(z5p v.Bits k).toUInt8],(k:Int) - 8)):=by
 unfold z7c
 rw [if_pos (by simp)]
 simp only
 rw [z2n (by omega)]
 simp only [bs,Int.toNat_natCast]
 rw [z0x (by simp; omega)]
 simp only [bs]
 rw [z0v (by omega) (by omega)]
theorem zyn (v:z00):iter (z7c v) ([v.Kind],56)=some (v.Kind::be8 v.Bits):=by
 have hs:=fun l k h1 h2=>zuk v l k h1 h2
 rw [show (56:Int)=((56:Nat):Int) from rfl,z1s (hs [v.Kind] 56 (by simp) (by omega))]
 simp only [List.cons_append,List.nil_append, show ((56:Nat):Int) - 8=((48:Nat):Int) from rfl]
 rw [z1s (hs _ 48 (by simp) (by omega))]
 simp only [List.cons_append,List.nil_append, show ((48:Nat):Int) - 8=((40:Nat):Int) from rfl]
 rw [z1s (hs _ 40 (by simp) (by omega))]
 simp only [List.cons_append,List.nil_append, show ((40:Nat):Int) - 8=((32:Nat):Int) from rfl]
 rw [z1s (hs _ 32 (by simp) (by omega))]
 simp only [List.cons_append,List.nil_append, show ((32:Nat):Int) - 8=((24:Nat):Int) from rfl]
 rw [z1s (hs _ 24 (by simp) (by omega))]
 simp only [List.cons_append,List.nil_append, show ((24:Nat):Int) - 8=((16:Nat):Int) from rfl]
 rw [z1s (hs _ 16 (by simp) (by omega))]
 simp only [List.cons_append,List.nil_append, show ((16:Nat):Int) - 8=((8:Nat):Int) from rfl]
 rw [z1s (hs _ 8 (by simp) (by omega))]
 simp only [List.cons_append,List.nil_append, show ((8:Nat):Int) - 8=((0:Nat):Int) from rfl]
 rw [z1s (hs _ 0 (by simp) (by omega))]
 simp only [List.cons_append,List.nil_append]
 refine z1a ?_
 unfold z7c
 rw [if_neg (by simp)]; rfl
def zq3 (v:z00):List UInt8:=v.Kind::(if v.Kind=1 then z0c (zig v.Num) else if v.Kind=2 then be8 v.Bits else z0c v.Text.length++v.Text)
theorem zry {n:Int} (h:inI n):zig n<18446744073709551616:=z14k h.1 h.2
theorem z14y (v:z00) (hI:inI v.Num) (hl:v.Text.length≤9223372036854775807):zct v=some (if okV v then (zq3 v,0) else ([],8)):=by
 unfold zct
 rw [zko v hl]
 cases hv:okV v
 ·rfl
 simp only [bs,if_true]
 rw [if_neg (by simp)]
 unfold zq3
 rcases zfj hv with k | k | k
 ·have h1:=z0m (zig v.Num) (zry hI)
  rw [k,zvx v.Num hI]
  simp only [bs]
  rw [if_pos (by decide),z0x (by simp; omega)]; simp [bs]
 ·rw [k,if_neg (by decide),if_pos (by decide),if_neg (by decide),if_pos rfl,← k,zyn]; rfl
 ·have h3:=(okV3 hv k).2.2.1
  have h1:=z0m v.Text.length (by omega)
  rw [k,zk3 v.Text (by omega)]
  rw [if_neg (by decide),if_neg (by decide),if_pos (by decide),if_neg (by decide),if_neg (by decide),z2n (by omega)]
  simp only [bs]
  rw [z0x (by simp; omega)]; rfl
theorem zob (n:Int) (h:inI n):za2 n=some (z0c (zig n)):=by
 obtain ⟨h1,h2⟩:=h
 unfold za2
 by_cases h0:0≤n
 ·rw [if_pos (by simpa using h0),z6d]
  have e:(2 * UInt64.ofInt n).toNat=zig n:=by
   rw [UInt64.toNat_mul,z8u, show (2:UInt64).toNat=2 from rfl]
   unfold zig; rw [if_pos h0]; omega
  rw [e]; rfl
 ·rw [if_neg (by simpa using h0),z6d]
  have e:((2 * UInt64.ofInt (w64 (0 - (w64 (n+1)))))+1).toNat=zig n:=by
   rw [z0v (x:=n+1) (by omega) (by omega),z0v (by omega) (by omega),UInt64.toNat_add,UInt64.toNat_mul,z8u, show (2:UInt64).toNat=2 from rfl, show (1:UInt64).toNat=1 from rfl]
   unfold zig; rw [if_neg h0]; omega
  rw [e]; rfl
theorem zly (s:List UInt8) (h:s.length≤100000):z7n s=some (z0c s.length++s):=by
 unfold z7n
 rw [z6d]
 have e:(UInt64.ofInt (s.length:Int)).toNat=s.length:=by rw [z8u]; omega
 have:=z0m s.length (by omega)
 rw [e]
 simp only [bs]
 rw [z0x (by omega)]; rfl
theorem zuf (v:z00) (l:List UInt8) (k:Nat) (hl:l.length≤100) (hk:k≤7):z4s v (l,(k:Int))=some (.inr (l++[(z5p v.Bits (8 * k)).toUInt8],(k:Int) - 1)):=by
 unfold z4s
 rw [if_pos (by simp)]
 simp only
 have e:w64 (8 * (k:Int))=((8 * k:Nat):Int):=by rw [z0v (by omega) (by omega)]; omega
 rw [e,z2n (by omega)]
 simp only [bs,Int.toNat_natCast]
 rw [z0x (by simp; omega)]
 simp only [bs]
 rw [z0v (by omega) (by omega)]
theorem zzo (v:z00):iter (z4s v) ([v.Kind],7)=some (v.Kind::be8 v.Bits):=by
 have hs:=fun l k h1 h2=>zuf v l k h1 h2
 rw [show (7:Int)=((7:Nat):Int) from rfl,z1s (hs [v.Kind] 7 (by simp) (by omega))]
 simp only [List.cons_append,List.nil_append, show ((7:Nat):Int) - 1=((6:Nat):Int) from rfl]
 rw [z1s (hs _ 6 (by simp) (by omega))]
 simp only [List.cons_append,List.nil_append, show ((6:Nat):Int) - 1=((5:Nat):Int) from rfl]
 rw [z1s (hs _ 5 (by simp) (by omega))]
 simp only [List.cons_append,List.nil_append, show ((5:Nat):Int) - 1=((4:Nat):Int) from rfl]
 rw [z1s (hs _ 4 (by simp) (by omega))]
 simp only [List.cons_append,List.nil_append, show ((4:Nat):Int) - 1=((3:Nat):Int) from rfl]
 rw [z1s (hs _ 3 (by simp) (by omega))]
 simp only [List.cons_append,List.nil_append, show ((3:Nat):Int) - 1=((2:Nat):Int) from rfl]
 rw [z1s (hs _ 2 (by simp) (by omega))]
 simp only [List.cons_append,List.nil_append, show ((2:Nat):Int) - 1=((1:Nat):Int) from rfl]
 rw [z1s (hs _ 1 (by simp) (by omega))]
 simp only [List.cons_append,List.nil_append, show ((1:Nat):Int) - 1=((0:Nat):Int) from rfl]
 rw [z1s (hs _ 0 (by simp) (by omega))]
 simp only [List.cons_append,List.nil_append]
 refine z1a ?_
 unfold z4s
 rw [if_neg (by simp)]; rfl
theorem zxl (v:z00) (hI:inI v.Num) (hv:okV v=true):zb4 v=some (zq3 v):=by
 unfold zq3 zb4
 rcases zfj hv with k | k | k
 ·have h1:=z0m (zig v.Num) (zry hI)
  rw [k,zob v.Num hI]
  simp only [bs]
  rw [if_pos (by decide),z0x (by simp; omega)]; simp [bs]
 ·rw [k,if_neg (by decide),if_pos (by decide),if_neg (by decide),if_pos rfl,← k,zzo]; rfl
 ·have h3:=(okV3 hv k).2.2.1
  have h1:=z0m v.Text.length (by omega)
  rw [k,zly v.Text (by omega)]
  rw [if_neg (by decide),if_neg (by decide),if_neg (by decide),if_neg (by decide),z2n (by omega)]
  simp only [bs]
  rw [z0x (by simp; omega)]; rfl
end
section
open Go
theorem z106 (a b:V3):∀ (n i:Nat),32 - i=n→i≤32→∃ r:Sum Int Unit,iter (z6a a b) (i:Int)=some r∧(z59 (some r) (fun _=>some 0)=some (Lib.compareBytes (a.toList.drop i) (b.toList.drop i))):=by
 intro n
 induction n with
 | zero =>
  intro i hn hi
  have:i=32:=by omega
  subst this
  refine ⟨.inr (),z1a ?_,?_⟩
  ·unfold z6a; rw [if_neg (by simp)]
  ·rw [List.drop_eq_nil_of_le (by simp),List.drop_eq_nil_of_le (by simp)]; rfl
 | succ n ih =>
  intro i hn hi
  have hlt:i<32:=by omega
  have da:a.toList.drop i=a[i]::a.toList.drop (i+1):=by rw [List.drop_eq_getElem_cons (by simpa using hlt)]; simp
  have db:b.toList.drop i=b[i]::b.toList.drop (i+1):=by rw [List.drop_eq_getElem_cons (by simpa using hlt)]; simp
  have hF:z6a a b (i:Int)=if decide (a[i]<b[i]) then some (.inl (.inl (-1))) else if decide (b[i]<a[i]) then some (.inl (.inl 1)) else some (.inr ((i+1:Nat):Int)):=by
   unfold z6a
   rw [if_pos (by simp; omega)]
   simp only [z78 hlt,bs,z0j (show i<9223372036854775807 by omega)]
  rw [da,db,Lib.compareBytes]
  by_cases h1:a[i]<b[i]
  ·rw [decide_eq_true h1] at hF
   exact ⟨_,z1a hF, by rw [if_pos h1]; rfl⟩
  ·rw [decide_eq_false h1] at hF
   by_cases h2:b[i]<a[i]
   ·rw [decide_eq_true h2] at hF
    exact ⟨_,z1a hF, by rw [if_neg h1,if_pos h2]; rfl⟩
   ·rw [decide_eq_false h2] at hF
    obtain ⟨r,k1,k2⟩:=ih (i+1) (by omega) (by omega)
    exact ⟨r, by rw [z1s hF]; exact k1, by rw [if_neg h1,if_neg h2]; exact k2⟩
theorem zpi (a b:V3):z6z a b=some (Lib.compareBytes a.toList b.toList):=by
 obtain ⟨r,h1,h2⟩:=z106 a b 32 0 rfl (by omega)
 unfold z6z
 rw [show (0:Int)=((0:Nat):Int) from rfl,h1]
 simpa using h2
theorem zqp (a b:V3):z83 a b=some (Lib.compareBytes a.toList b.toList):=by
 unfold z83 zdx; rfl
def z74:List V3→Bool
 | a::b::l=>!decide (0≤Lib.compareBytes a.toList b.toList)&&z74 (b::l)
 | _=>true
theorem zkc (l:List V3) (hl:l.length≤9223372036854775807):∀ (n i:Nat),l.length - i=n→1≤i→i≤l.length→iter (z3b l) (i:Int)=some (if z74 (l.drop (i - 1)) then .inr () else .inl false):=by
 intro n
 induction n with
 | zero =>
  intro i hn h1 hi
  have:i=l.length:=by omega
  refine z1a ?_
  have e:l.drop (i - 1)=[l[i - 1]'(by omega)]:=by
   rw [List.drop_eq_getElem_cons (by omega),List.drop_eq_nil_of_le (by omega)]
  rw [e]
  unfold z3b
  rw [if_neg (by simp; omega)]
  simp [z74]
 | succ n ih =>
  intro i hn h1 hi
  have hlt:i<l.length:=by omega
  have e:l.drop (i - 1)=l[i - 1]::l[i]::l.drop (i+1):=by
   rw [List.drop_eq_getElem_cons (by omega), show i - 1+1=i by omega,List.drop_eq_getElem_cons hlt]
  have e':l.drop (i+1 - 1)=l[i]::l.drop (i+1):=by rw [Nat.add_sub_cancel,List.drop_eq_getElem_cons hlt]
  have hF:z3b l (i:Int)=if decide (0≤Lib.compareBytes (l[i - 1]).toList (l[i]).toList) then some (.inl (.inl false)) else some (.inr ((i+1:Nat):Int)):=by
   unfold z3b
   rw [if_pos (by simp; omega),z0v (by omega) (by omega), show ((i:Int) - 1)=((i - 1:Nat):Int) by omega]
   simp only [z0i hlt,z0i (show i - 1<l.length by omega),bs,zpi,z0j (show i<9223372036854775807 by omega)]
  rw [e,z74]
  cases hc:decide (0≤Lib.compareBytes (l[i - 1]).toList (l[i]).toList) with
  | true=>rw [hc] at hF; rw [z1a hF]; rfl
  | false =>
   rw [hc] at hF
   rw [z1s hF,ih (i+1) (by omega) (by omega) (by omega),e']; simp
theorem zoc (l:List V3) (hl:l.length≤9223372036854775807):z7z l=some (z74 l):=by
 unfold z7z
 cases l with
 | nil =>
  rw [z1a (b:=.inr ()) (by unfold z3b; rw [if_neg (by simp)])]; rfl
 | cons x l =>
  have:=zkc (x::l) hl _ 1 rfl (by omega) (by simp)
  rw [show (1:Int)=((1:Nat):Int) from rfl,this]
  simp only [Nat.sub_self,List.drop_zero]
  cases z74 (x::l) <;> rfl
theorem zo7 (l:List V3) (hl:l.length≤9223372036854775806):∀ (n i:Nat),l.length - i=n→i≤l.length→∃ r,iter (z0n l l) ((i:Int),(i:Int))=some r∧(z74 (l.drop i)=true→∃ c,r=.inr c)∧(z74 (l.drop i)=false→∃ (k:Nat) (c:Int),r=.inl ((k:Int),c)):=by
 intro n
 induction n with
 | zero =>
  intro i hn hi
  have:i=l.length:=by omega
  refine ⟨.inr (i:Int),z1a ?_, fun _=>⟨_,rfl⟩, fun h=>?_⟩
  ·unfold z0n
   rw [if_neg (by simp; omega)]
  ·rw [List.drop_eq_nil_of_le (by omega)] at h; simp [z74] at h
 | succ n ih =>
  intro i hn hi
  have hlt:i<l.length:=by omega
  by_cases h2:i+1<l.length
  ·have e:l.drop i=l[i]::l[i+1]::l.drop (i+2):=by rw [List.drop_eq_getElem_cons hlt,List.drop_eq_getElem_cons h2]
   have e':l.drop (i+1)=l[i+1]::l.drop (i+2):=by rw [List.drop_eq_getElem_cons h2]
   have hF:z0n l l ((i:Int),(i:Int))=if decide (0≤Lib.compareBytes (l[i]).toList (l[i+1]).toList) then some (.inl (.inl ((i:Int),((i+1:Nat):Int)))) else some (.inr (((i+1:Nat):Int),((i+1:Nat):Int))):=by
    unfold z0n zbn
    rw [if_pos (by simp; omega)]
    simp only [z0i hlt,bs,z0j (show i<9223372036854775807 by omega)]
    rw [if_pos (by simp; omega),z0v (by omega) (by omega), show ((i+1:Nat):Int) - 1=(i:Int) by omega]
    simp only [z0i hlt,z0i h2,bs,zqp]
   rw [e,z74]
   cases hc:decide (0≤Lib.compareBytes (l[i]).toList (l[i+1]).toList) with
   | true =>
    rw [hc] at hF
    exact ⟨_,z1a hF, fun h=>by simp at h, fun _=>⟨i,_,rfl⟩⟩
   | false =>
    rw [hc] at hF
    obtain ⟨r,k1,k2,k3⟩:=ih (i+1) (by omega) (by omega)
    rw [e'] at k2 k3
    exact ⟨r, by rw [z1s hF]; exact k1, fun h=>k2 (by simpa using h), fun h=>k3 (by simpa using h)⟩
  ·have e:l.drop i=[l[i]]:=by rw [List.drop_eq_getElem_cons hlt,List.drop_eq_nil_of_le (by omega)]
   have hF:z0n l l ((i:Int),(i:Int))=some (.inr (((i+1:Nat):Int),((i+1:Nat):Int))):=by
    unfold z0n zbn
    rw [if_pos (by simp; omega)]
    simp only [z0i hlt,bs,z0j (show i<9223372036854775807 by omega)]
    rw [if_neg (by simp; omega)]
    simp only [bs]; rfl
   obtain ⟨r,k1,k2,k3⟩:=ih (i+1) (by omega) (by omega)
   rw [List.drop_eq_nil_of_le (by omega)] at k2 k3
   exact ⟨r, by rw [z1s hF]; exact k1, fun _=>k2 rfl, fun h=>by rw [e] at h; simp [z74] at h⟩
theorem zmf (l:List V3) (hl:l.length≤9223372036854775806):zc9 l=some (z74 l):=by
 obtain ⟨r,k1,k2,k3⟩:=zo7 l hl _ 0 rfl (by omega)
 unfold zc9 z21 z28
 rw [show ((0:Int),(0:Int))=(((0:Nat):Int),((0:Nat):Int)) from rfl,k1]
 simp only [List.drop_zero] at k2 k3
 cases h:z74 l with
 | true=>obtain ⟨c,rfl⟩:=k2 h; rfl
 | false =>
  obtain ⟨k,c,rfl⟩:=k3 h
  simp only [or_l,bs]
  rw [decide_eq_true (by omega)]; rfl
def zdl (l:List V3):List UInt8:=l.flatMap Vector.toList
theorem zfi (l:List V3):(zdl l).length=32 * l.length:=by
 induction l with
 | nil=>rfl
 | cons x l ih=>unfold zdl at ih ⊢; rw [List.flatMap_cons,List.length_append,ih]; simp; omega
theorem znz (l:List V3) (i:Nat) (hi:i<l.length):zdl (l.take (i+1))=zdl (l.take i)++(l[i]).toList:=by
 rw [List.take_add_one,List.getElem?_eq_getElem hi]; unfold zdl; rw [List.flatMap_append,Option.toList_some,List.flatMap_cons,List.flatMap_nil,List.append_nil]
theorem z133 (l:List V3) (h:l.length≤1000) (s:List UInt8) (hs:s.length≤9):iter (z5h l) (s,0)=some (s++zdl l):=by
 have:=z3f (F:=z5h l) (b:=s++zdl l) l.length (fun i=>(s++zdl (l.take i),(i:Int))) (fun i hi=>?_) ?_
 ·simpa [zdl] using this
 ·unfold z5h
  have hf:=zfi (l.take i)
  rw [if_pos (by simp; omega)]
  simp only [z0i hi,bs]
  rw [z0x (by simp at hf ⊢; omega)]
  simp only [bs,z0j (show i<9223372036854775807 by omega),znz l i hi,List.append_assoc]
 ·unfold z5h
  rw [if_neg (by simp)]
  simp
theorem z15v (l:List V3) (h:l.length≤1000) (s:List UInt8) (hs:s.length≤9):iter (zbv l) (s,0)=some (s++zdl l):=by
 have:=z3f (F:=zbv l) (b:=s++zdl l) l.length (fun i=>(s++zdl (l.take i),(i:Int))) (fun i hi=>?_) ?_
 ·simpa [zdl] using this
 ·unfold zbv
  have hf:=zfi (l.take i)
  rw [if_pos (by simp; omega)]
  simp only [z0i hi,bs]
  rw [z0x (by simp at hf ⊢; omega)]
  simp only [bs,z0j (show i<9223372036854775807 by omega),znz l i hi,List.append_assoc]
 ·unfold zbv
  rw [if_neg (by simp)]
  simp
theorem zc6 {n:Nat} (h:n<18446744073709551616):(UInt64.ofInt (n:Int)).toNat=n:=by
 simp [UInt64.ofInt]; omega
theorem z10b (l:List V3) (h:l.length≤1000):zc5 l=some (z0c l.length++zdl l):=by
 unfold zc5
 have hn:=z0m l.length (by omega)
 rw [z6d,zc6 (by omega)]
 simp only [bs]
 rw [z133 l h _ (by omega)]; rfl
theorem z13x (l:List V3) (h:l.length≤60) (hi:z74 l=true):ziz l=some (z0c l.length++zdl l,0):=by
 unfold ziz
 have hn:=z0m l.length (by omega)
 rw [if_neg (by simp; omega),zmf l (by omega),hi,z3p,zc6 (by omega)]
 simp only [bs,Bool.not_true,Bool.false_eq_true,if_false]
 rw [z15v l (by omega) _ (by omega)]; rfl
end
section
open Go
def nk:List UInt8→Nat
 | []=>0
 | a::l=>a.toNat * 256 ^ l.length+nk l
theorem z13g:∀ l:List UInt8,nk l<256 ^ l.length
 | []=>by simp [nk]
 | a::l=>by
  have ih:=z13g l
  have ha:=UInt8.toNat_lt a
  simp only [nk,List.length_cons,Nat.pow_succ]
  have h1:(a.toNat+1) * 256 ^ l.length≤256 * 256 ^ l.length:=Nat.mul_le_mul_right _ (by omega)
  rw [Nat.add_mul,Nat.one_mul] at h1
  omega
theorem zxx:∀ a b:List UInt8,a.length=b.length→Lib.compareBytes a b=(if nk a<nk b then -1 else if nk b<nk a then 1 else 0)∧(nk a=nk b→a=b)
 | [],[],_=>by simp [Lib.compareBytes,nk]
 | [],_::_,h=>by simp at h
 | _::_,[],h=>by simp at h
 | a::x,b::y,h=>by
  have hl:x.length=y.length:=by simpa using h
  obtain ⟨i1,i2⟩:=zxx x y hl
  have lx:=z13g x
  have ly:=z13g y
  simp only [Lib.compareBytes,nk,hl] at *
  have e:∀ u v:UInt8,u.toNat<v.toNat→u.toNat * 256 ^ y.length+256 ^ y.length≤v.toNat * 256 ^ y.length:=fun u v huv=>by
   have:=Nat.mul_le_mul_right (256 ^ y.length) (show u.toNat+1≤v.toNat from huv)
   rwa [Nat.add_mul,Nat.one_mul] at this
  by_cases h1:a<b
  ·have h1':a.toNat<b.toNat:=UInt8.lt_iff_toNat_lt.1 h1
   have:=e a b h1'
   rw [if_pos h1,if_pos (by omega)]
   exact ⟨rfl, fun h=>by omega⟩
  ·by_cases h2:b<a
   ·have h2':b.toNat<a.toNat:=UInt8.lt_iff_toNat_lt.1 h2
    have:=e b a h2'
    rw [if_neg h1,if_pos h2,if_neg (by omega),if_pos (by omega)]
    exact ⟨rfl, fun h=>by omega⟩
   ·have h3:a=b:=UInt8.toNat_inj.1 (by rw [UInt8.lt_iff_toNat_lt] at h1 h2; omega)
    subst h3
    rw [if_neg h1,if_neg h1,i1]
    refine ⟨?_, fun h=>by rw [i2 (by omega)]⟩
    by_cases c1:nk x<nk y
    ·rw [if_pos c1,if_pos (by omega)]
    ·by_cases c2:nk y<nk x
     ·rw [if_neg c1,if_pos c2,if_neg (by omega),if_pos (by omega)]
     ·rw [if_neg c1,if_neg c2,if_neg (by omega),if_neg (by omega)]
def kd (d:V3):Nat:=nk d.toList
theorem ztm (a b:V3):Lib.compareBytes a.toList b.toList=if kd a<kd b then -1 else if kd b<kd a then 1 else 0:=(zxx a.toList b.toList (by simp)).1
theorem zio {a b:V3} (h:kd a=kd b):a=b:=by
 have:=(zxx a.toList b.toList (by simp)).2 h
 exact Vector.toList_inj.1 this
theorem zxm (a b:V3):z83 a b=some (if kd a<kd b then -1 else if kd b<kd a then 1 else 0):=by rw [zqp,ztm]
theorem zwk (a b:V3):z6z a b=some (if kd a<kd b then -1 else if kd b<kd a then 1 else 0):=by rw [zpi,ztm]
theorem zme (a b:V3):decide ((if kd a<kd b then (-1:Int) else if kd b<kd a then 1 else 0)<0)=decide (kd a<kd b):=by
 by_cases h:kd a<kd b
 ·simp [h]
 ·by_cases h2:kd b<kd a <;> simp [h,h2]
theorem z11h (a b:V3):decide (0≤(if kd a<kd b then (-1:Int) else if kd b<kd a then 1 else 0))=decide (kd b≤kd a):=by
 by_cases h:kd a<kd b
 ·have:¬ kd b≤kd a:=by omega
  simp [h,this]
 ·have h3:kd b≤kd a:=by omega
  by_cases h2:kd b<kd a <;> simp [h,h2,h3]
theorem z17a (a b:V3):((if kd a<kd b then (-1:Int) else if kd b<kd a then 1 else 0)==0)=decide (a=b):=by
 by_cases h:kd a<kd b
 ·have:a≠b:=fun e=>by rw [e] at h; omega
  simp [h,this]
 ·by_cases h2:kd b<kd a
  ·have:a≠b:=fun e=>by rw [e] at h2; omega
   simp [h,h2,this]
  ·have:a=b:=zio (by omega)
   simp [h,h2,this]
theorem zta:∀ l:List V3,z74 l=true↔∀ i (h:i+1<l.length),kd (l[i]'(by omega))<kd l[i+1]
 | []=>by simp [z74]
 | [a]=>by simp [z74]
 | a::b::l=>by
  have ih:=zta (b::l)
  rw [z74,Bool.and_eq_true,ih,ztm,z11h]
  constructor
  ·rintro ⟨h1,h2⟩ i hi
   cases i with
   | zero=>simpa using h1
   | succ i=>exact h2 i (by simpa using hi)
  ·intro h
   refine ⟨?_, fun i hi=>h (i+1) (by simpa using hi)⟩
   have:=h 0 (by simp)
   simpa using this
theorem zcz:∀ l:List V3,z74 l=true↔l.Pairwise (fun a b=>kd a<kd b)
 | []=>by simp [z74]
 | [a]=>by simp [z74]
 | a::b::l=>by
  have ih:=zcz (b::l)
  rw [z74,Bool.and_eq_true,ih,ztm,z11h]
  constructor
  ·rintro ⟨h1,h2⟩
   have h1':kd a<kd b:=by simpa using h1
   refine List.pairwise_cons.2 ⟨fun c hc=>?_,h2⟩
   rcases List.mem_cons.1 hc with rfl | hc
   ·exact h1'
   ·have:=(List.pairwise_cons.1 h2).1 c hc; omega
  ·intro h
   obtain ⟨h1,h2⟩:=List.pairwise_cons.1 h
   have:=h1 b (by simp)
   exact ⟨by simp; omega,h2⟩
theorem zwd (l:List V3) (hl:l.length≤9223372036854775807):∃ b,z16 l=some b∧(b=true↔∀ i (h:i+1<l.length),kd (l[i]'(by omega))≤kd l[i+1]):=by
 have key:∀ n,n<l.length→∃ r:Sum Bool Unit,iter (z0q l) (n:Int)=some r∧((r=.inr ()∧∀ i (h:i+1<l.length),i+1≤n→kd (l[i]'(by omega))≤kd l[i+1])∨(r=.inl false∧∃ i,∃ h:i+1<l.length,¬ kd (l[i]'(by omega))≤kd l[i+1])):=by
  intro n
  induction n with
  | zero =>
   intro h
   refine ⟨_,z1a ?_,.inl ⟨rfl, fun i _ h=>by omega⟩⟩
   unfold z0q
   rw [if_neg (by simp)]
  | succ n ih =>
   intro h
   have hF:z0q l ((n+1:Nat):Int)=if decide (kd l[n+1]<kd l[n]) then some (.inl (.inl false)) else some (.inr (n:Int)):=by
    unfold z0q
    rw [if_pos (by simp <;> omega),z0i h,z0v (by omega) (by omega), show (((n+1:Nat):Int) - 1)=(n:Int) by omega,z0i (by omega)]
    simp only [bS]
    rw [zxm]
    simp only [bS]
    rw [zme]
   by_cases hc:kd l[n+1]<kd l[n]
   ·rw [decide_eq_true hc,if_pos rfl] at hF
    exact ⟨_,z1a hF,.inr ⟨rfl,n,h, by omega⟩⟩
   ·rw [decide_eq_false hc,if_neg (by simp)] at hF
    obtain ⟨r,h1,h2⟩:=ih (by omega)
    refine ⟨r, by rw [z1s hF]; exact h1,?_⟩
    rcases h2 with ⟨h2,h3⟩ | h2
    ·refine .inl ⟨h2, fun i hi hn=>?_⟩
     by_cases hin:i=n
     ·subst hin; omega
     ·exact h3 i hi (by omega)
    ·exact .inr h2
 unfold z16
 simp only [bS]
 by_cases h0:l.length=0
 ·refine ⟨true,?_, by simp; intro i hi; omega⟩
  rw [h0,z0v (by omega) (by omega),z1a (b:=.inr ())]
  ·rfl
  ·unfold z0q
   rw [if_neg (by simp)]
 ·obtain ⟨r,h1,h2⟩:=key (l.length - 1) (by omega)
  rw [z0v (by omega) (by omega), show ((l.length:Int) - 1)=((l.length - 1:Nat):Int) by omega,h1]
  rcases h2 with ⟨rfl,h3⟩ | ⟨rfl,i,hi,h3⟩
  ·exact ⟨true,rfl, by simp; exact fun i hi=>h3 i hi (by omega)⟩
  ·exact ⟨false,rfl, by simp; exact ⟨i,hi, by omega⟩⟩
theorem zmj {k n j:Nat} (h:j<n):subi k n (j:Int)=some (k+j):=by unfold subi; rw [if_pos (by omega)]; simp
theorem zwy {α:Type} (b:List α) (k n:Nat) (x:α) (h:k+n≤b.length):(clr b k n x).length=b.length:=by
 unfold clr
 simp only [List.length_append,List.length_take,List.length_replicate,List.length_drop]; omega
theorem zqy (l:List V3) (s:Nat) (h1:1≤s) (hs:s<l.length) (hl:l.length≤9223372036854775806):∃ b:List V3 × Int,iter (z0w l s) (l,(s:Int),1)=some b∧b.1.length=l.length∧∃ j:Nat,b.2=(j:Int)∧j<l.length:=by
 refine z7i (F:=z0w l s) (l.length - s) (fun i st=>st.1.length=l.length∧st.2.2=(i:Int)∧1≤i∧∃ j:Nat,st.2.1=(j:Int)∧j+1≤s+i) _ ?_ ?_ _ 1 (by omega) ⟨rfl,rfl, by omega,s,rfl, by omega⟩
 ·rintro i ⟨c,j',i'⟩ hi ⟨e1,e2,e0,j,e3,e4⟩
  simp only at e1 e2 e3
  subst e2 e3
  unfold z0w
  rw [if_pos (by simp; omega)]
  simp only [Int.toNat_natCast]
  rw [zmj (by omega),z0v (x:=(i:Int) - 1) (by omega) (by omega), show ((i:Int) - 1)=((i - 1:Nat):Int) by omega,zmj (by omega)]
  simp only [bS]
  rw [z0i (by omega),z0i (by omega)]
  simp only [bS]
  by_cases hc:c[s+i]'(by omega)=c[s+(i - 1)]'(by omega)
  ·rw [decide_eq_true hc,if_neg (by simp)]
   exact ⟨_,rfl,e1,z0j (by omega), by omega,j,rfl, by omega⟩
  ·rw [decide_eq_false hc,if_pos (by simp),z0i (by omega)]
   simp only [bS]
   exact ⟨_,rfl, by simpa using e1,z0j (by omega), by omega,j+1,z0j (by omega), by omega⟩
 ·rintro ⟨c,j',i'⟩ ⟨e1,e2,e0,j,e3,e4⟩
  simp only at e1 e2 e3
  subst e2 e3
  unfold z0w
  rw [if_neg (by simp <;> omega)]
  exact ⟨_,rfl,e1,j,rfl, by omega⟩
theorem zti (l:List V3) (hl:l.length≤9223372036854775806):∃ c,z1b l=some c∧(c.length=l.length↔∀ i (h:i+1<l.length),l[i]'(by omega)≠l[i+1]):=by
 have key:∀ k n,l.length - n=k→1≤n→n≤l.length→∃ r:Sum (List V3) Unit,iter (z0f l) (n:Int)=some r∧((r=.inr ()∧∀ i (h:i+1<l.length),n≤i+1→l[i]'(by omega)≠l[i+1])∨(∃ c,r=.inl c∧c.length≠l.length∧∃ i,∃ h:i+1<l.length,l[i]'(by omega)=l[i+1])):=by
  intro k
  induction k with
  | zero =>
   intro n hk h1 hn
   refine ⟨_,z1a ?_,.inl ⟨rfl, fun i _ h=>by omega⟩⟩
   unfold z0f
   rw [if_neg (by simp; omega)]
  | succ k ih =>
   intro n hk h1 hn
   have hlt:n<l.length:=by omega
   by_cases hc:l[n]=l[n - 1]
   ·obtain ⟨⟨c,j'⟩,e1,e2,j,e3,e4⟩:=zqy l n h1 hlt hl
    simp only at e2 e3
    subst e3
    have hF:z0f l (n:Int)=some (.inl (.inl ((clr c j (c.length - j) (Vector.replicate 32 0)).take j))):=by
     unfold z0f
     rw [if_pos (by simp; omega),z0i hlt,z0v (by omega) (by omega), show ((n:Int) - 1)=((n - 1:Nat):Int) by omega,z0i (by omega)]
     simp only [bS]
     rw [decide_eq_true hc,if_pos rfl,z2n (by omega)]
     simp only [bS]
     rw [e1]
     simp only [bS]
     rw [z2n (by omega),z2n (by simp; omega)]
     simp only [bS,Int.toNat_natCast]
     rw [show (0:Int)=((0:Nat):Int) from rfl,z8g (by omega) (by rw [zwy _ _ _ _ (by omega)]; omega)]
     simp
    refine ⟨_,z1a hF,.inr ⟨_,rfl,?_,n - 1, by omega,?_⟩⟩
    ·rw [List.length_take]; omega
    ·have:n - 1+1=n:=by omega
     simp only [this]; exact hc.symm
   ·have hF:z0f l (n:Int)=some (.inr ((n+1:Nat):Int)):=by
     unfold z0f
     rw [if_pos (by simp; omega),z0i hlt,z0v (x:=(n:Int) - 1) (by omega) (by omega), show ((n:Int) - 1)=((n - 1:Nat):Int) by omega,z0i (by omega)]
     simp only [bS]
     rw [decide_eq_false hc,if_neg (by simp),z0j (by omega)]
    obtain ⟨r,h2,h3⟩:=ih (n+1) (by omega) (by omega) (by omega)
    refine ⟨r, by rw [z1s hF]; exact h2,?_⟩
    rcases h3 with ⟨h3,h4⟩ | h3
    ·refine .inl ⟨h3, fun i hi hni=>?_⟩
     by_cases hin:i+1=n
     ·subst hin; exact fun e=>hc e.symm
     ·exact h4 i hi (by omega)
    ·exact .inr h3
 unfold z1b
 by_cases h2:l.length<2
 ·rw [if_pos (by simp; omega)]
  exact ⟨l,rfl, by simp; intro i hi; omega⟩
 ·rw [if_neg (by simp; omega)]
  obtain ⟨r,e1,e2⟩:=key (l.length - 1) 1 rfl (by omega) (by omega)
  rw [show (1:Int)=((1:Nat):Int) from rfl,e1]
  rcases e2 with ⟨rfl,h3⟩ | ⟨c,rfl,h3,i,hi,h4⟩
  ·exact ⟨l,rfl, by simp; exact fun i hi=>h3 i hi (by omega)⟩
  ·exact ⟨c,rfl,⟨fun h=>absurd h h3, fun h=>absurd h4 (h i hi)⟩⟩
theorem zyu (l:List V3):z74 l=true↔(∀ i (h:i+1<l.length),kd (l[i]'(by omega))≤kd l[i+1])∧∀ i (h:i+1<l.length),l[i]'(by omega)≠l[i+1]:=by
 rw [zta]
 constructor
 ·intro h
  refine ⟨fun i hi=>Nat.le_of_lt (h i hi), fun i hi e=>?_⟩
  have:=h i hi
  rw [e] at this; omega
 ·rintro ⟨h1,h2⟩ i hi
  have:=h1 i hi
  rcases Nat.lt_or_eq_of_le this with h | h
  ·exact h
  ·exact absurd (zio h) (h2 i hi)
end
section
open Go Go.Shelf Go.RowKit Go.Lib Go.Sort
def cfID (x y:V3):Int:=Lib.compareBytes x.toList y.toList
theorem ltID (x y:V3):ltOf cfID x y=decide (kd x<kd y):=by
 unfold ltOf cfID
 rw [ztm,zme]
theorem z17l:SWO (ltOf cfID) where
 irrefl x:=by rw [ltID]; simp
 trans x y z h1 h2:=by rw [ltID] at *; simp at *; omega
 ntrans x y z h1 h2:=by rw [ltID] at *; simp at *; omega
def zth (l:List V3):List V3:=l.mergeSort fun x y=>!(ltOf cfID) y x
theorem zox (l:List V3):(zth l).length=l.length:=List.length_mergeSort l
theorem zv1 (l:List V3) (x:V3):x∈zth l↔x∈l:=List.mem_mergeSort
theorem zp9 (l:List V3):(zth l).Pairwise fun x y=>kd x≤kd y:=by
 have h:=List.pairwise_mergeSort (le:=fun x y=>!(ltOf cfID) y x) (fun a b c h1 h2=>by
  rw [ltID] at *; simp at *; omega) (fun a b=>by rw [ltID,ltID]; simp; omega) l
 exact h.imp fun {a b} hab=>by rw [ltID] at hab; simp at hab; omega
def z12f (l:List V3):Option (List V3):=chk (l.length≤1000000) >>= fun _=>some (zth l)
theorem zzm (p0:Value) (c0:List V3):z2v Tryz.prog 47 [.val p0,.val (.func (.func 48) #[] #[])] [(1,some (p0,.list (z4i 32 u8R) 45 c0))] (z12f c0) (fun r nv=>⟨[],[(1,some (p0,.list (z4i 32 u8R) 45 r))]⟩):=by
 refine z10j zth zox (fun cap w=>?_) (fun blk cap d w hH hb hs=>?_) p0 c0
 ·exact AnyF.slices_SortFunc_none z14w none cap _ w
 ·have eg:∀ args w,(callFunc 48 args).run Tryz.prog w=.ok (.enter 48 args) w:=enters_of Tryz.func48 (by kernel_rfl) rfl
  exact AnyQ.slices_SortFunc_total z14w 32 Tryz.isAgg45 Tryz.sizeOf45 z4w zdn (fun x v hv=>by
   unfold z4w at hv
   obtain ⟨c,_,rfl⟩:=List.mem_map.1 hv
   rfl) cfID z17l 48 #[] blk 0 cap d w eg (fun m os dk _ x y=>zls x y _) hH hb hs (fun x y h1 h2=>by
   rw [ltID] at h1 h2
   simp at h1 h2
   exact zio (by omega))
end
section
open Go Go.RowKit
set_option maxRecDepth 100000
def z7r (a0:List V3) (a1:List V3) (s3:Int):Option (Sum (Sum Bool Unit) Int) :=
 if decide (s3<(a0.length:Int)) then
  idx a0 s3 >>= fun x5 =>
  idx a1 s3 >>= fun x7 =>
  if !decide (x5=x7) then
   some (.inl (.inl false))
  else
   some (.inr (w64 (s3+1)))
 else
  some (.inl (.inr ()))
def z5e (a0:List V3) (a1:List V3):Option (Bool) :=
 if (a0.length:Int) != (a1.length:Int) then
  some false
 else
  z59 (iter (z7r a0 a1) 0) fun s2 =>
  some true
theorem zaq (a0:List V3) (a1:List V3):z2v Tryz.prog 27 [.rd (z02 aZ) a0,.rd (z02 aZ) a1] [] (z5e a0 a1) (fun r nv=>⟨[.rd z0o r],[]⟩):=by
 refine z3y 26 Tryz.func27 Z Z Z fun H w=>?_
 refine gSR<|Zb Z<|z1h<|gSR<|Zm Z<|Zq (z4u Z .rd Z tu29)<|Zm Z<|Zq (z4u Z .rd Z tu29)<|Zq (I.neq Z Z)<|Zj Z (fun h1=>?_) (fun h1=>?_)
 ·refine gSR<|Zb Z<|z14<|z1c<|Ze [] [] Z
 ·refine Zt<|zbk (fun (s2:Unit) aa ww=>Sta (ctx 26 H [] w) [] [] aa ww) ?_ (fun s2=>?_)
  ·refine gSR<|Zb Z<|z3v (fun (s3:Int) aa ww=>Sta (ctx 26 H [] w) [(0,.rd (z02 aZ) a0),(1,.rd (z02 aZ) a1),(5,.rd z0k s3)] [] aa ww) (fun aa ww h=>Zu h []) (fun s3=>?_)
   refine z1h<|gSR<|Zm Z<|Zm Z<|Zq (z4u Z .rd Z tu29)<|Zq (I.lss Z Z)<|Zj Z (fun h4=>?_) (fun h4=>?_)
   ·refine Zt<|z1h<|z95<|z1h<|zrn mixed (by kernel_rfl)<|Rq Z (mv Z)<|Rq Z (mv Z)<|zd3 fun x5 h6=>Rq Z (ixR Z Z h6 tu29 z3z Z)<|Rq Z (ldR Z z8w)<|Rq Z (mv Z)<|Rq Z (mv Z)<|zd3 fun x7 h8=>Rq Z (ixR Z Z h8 tu29 z3z Z)<|Rq Z (ldR Z z8w)<|Rq Z (neA Z Z eq45 Z Z gq45)<|qNil<|z1r<|gIf Z Z (fun h9=>?_) (fun h9=>?_)
    ·refine gSR<|Zb Z<|z14<|z8k<|z1c<|zbj<|z9x<|Ze [] [] Z
    ·refine z6o<|z5x<|z1r<|z2x<|Zm Z<|Zq (I.add Z Z)<|Za Z<|z2i<|z2r (fun aa ww h=>Zu h [])
   ·refine z3u<|z2a<|z2b<|z9t (fun aa ww h=>Zu h [])
  ·refine gSR<|Zb Z<|z14<|Ze [] [] Z
def z9j (a0:z01) (a1:z01):Option (Bool) :=
 if a0.Author==a1.Author then
  z5e a0.Preds a1.Preds >>= fun r4 =>
  if r4 then
   if a0.Stamp==a1.Stamp then
    if decide (a0.Act=a1.Act) then
     some (decide (a0.Sig=a1.Sig)) >>= fun y9 =>
     some y9
    else
     some false
   else
    some false
  else
   some false
 else
  some false
theorem zh6 (a0:z01) (a1:z01):z2v Tryz.prog 62 [.rd z04 a0,.rd z04 a1] [] (z9j a0 a1) (fun r nv=>⟨[.rd z0o r],[]⟩):=by
 refine z3y 38 Tryz.func62 Z Z Z fun H w=>?_
 refine gSR<|Eb Z (bx 1 Z) fun v1=>Eb Z (bx 2 Z) fun v2=>Zb Z<|gSR<|Zq (faB 1 Z Z Tryz.underlying43 Z (by exact z93))<|Zq (ld 1 Z Z (fP (z58 _)) zd7 Z)<|Zq (faB 2 Z Z Tryz.underlying43 Z (by exact z93))<|Zq (ld 2 Z Z (fP (z58 _)) zd7 Z)<|Zq (W.eql Z Z)<|Zm Z<|z1d 10 Z (fun h3=>?_) (fun h3=>?_)
 ·refine lKn 9 Z h3<|z1q Zx Z Z (faB 1 Z Z Tryz.underlying43 Z (by exact zd4))<|z1q Zx Z Z (ld 1 Z Z (fP (z1m _)) zi6 Z)<|z1q Zx Z Z (faB 2 Z Z Tryz.underlying43 Z (by exact zd4))<|z1q Zx Z Z (ld 2 Z Z (fP (z1m _)) zi6 Z)<|z9o [] [] Zx Z Tryz.func27 Z Z (zaq _ _) (Y2 Z Z) rN fun r4 n5=>Zq (pkT Z Z)<|Zm Z<|z1d 17 Z (fun h6=>?_) (fun h6=>?_)
  ·refine lKn 15 Z h6<|lKn 16 Z h6<|z1q Zx Z Z (faB 1 Z Z Tryz.underlying43 Z (by exact zw3))<|z1q Zx Z Z (ld 1 Z Z (fP (z9m _)) ty35 Z)<|z1q Zx Z Z (faB 2 Z Z Tryz.underlying43 Z (by exact zw3))<|z1q Zx Z Z (ld 2 Z Z (fP (z9m _)) ty35 Z)<|z1q Zx Z Z (U.eql Z Z)<|Zq (pkT Z Z)<|Zm Z<|z1d 24 Z (fun h7=>?_) (fun h7=>?_)
   ·refine lKn 22 Z h7<|lKn 23 Z h7<|z1q Zx Z Z (faB 1 Z Z Tryz.underlying43 Z (by exact zq4))<|z1q Zx Z Z (ld 1 Z Z (fP (z5i _)) ty39 Z)<|z1q Zx Z Z (faB 2 Z Z Tryz.underlying43 Z (by exact zq4))<|z1q Zx Z Z (ld 2 Z Z (fP (z5i _)) ty39 Z)<|z1q Zx Z Z (eqA Z Z eq39 Z Z gq39)<|Zq (pkT Z Z)<|Zm Z<|z1d 31 Z (fun h8=>?_) (fun h8=>?_)
    ·refine lKn 29 Z h8<|lKn 30 Z h8<|z1q Zx Z Z (faB 1 Z Z Tryz.underlying43 Z (by exact zsk))<|z1q Zx Z Z (ld 1 Z Z (fP (z5g _)) ty41 Z)<|z1q Zx Z Z (faB 2 Z Z Tryz.underlying43 Z (by exact zsk))<|z1q Zx Z Z (ld 2 Z Z (fP (z5g _)) ty41 Z)<|z1q Zx Z Z (eqA Z Z eq41 Z Z gq41)<|Zq (pkT Z Z)<|Za Z<|z2z 4 Z fun y9=>Zn<|z14<|Ze [] [] Z
    ·refine lKn 29 Z h8<|lKn 30 Z h8<|Zk Z<|Zk Z<|Zk Z<|Zk Z<|Zk Z<|Zq (pkF Z Z)<|Zb Z<|z14<|Ze [] [] Z
   ·refine lKn 22 Z h7<|lKn 23 Z h7<|Zk Z<|Zk Z<|Zk Z<|Zk Z<|Zk Z<|Zq (pkF Z Z)<|Zm Z<|Zk Z<|Zk Z<|Zk Z<|Zk Z<|Zk Z<|Zq (pkF Z Z)<|Zb Z<|z14<|Ze [] [] Z
  ·refine lKn 15 Z h6<|lKn 16 Z h6<|Zk Z<|Zk Z<|Zk Z<|Zk Z<|Zk Z<|Zq (pkF Z Z)<|Zm Z<|Zk Z<|Zk Z<|Zk Z<|Zk Z<|Zk Z<|Zq (pkF Z Z)<|Zm Z<|Zk Z<|Zk Z<|Zk Z<|Zk Z<|Zk Z<|Zq (pkF Z Z)<|Zb Z<|z14<|Ze [] [] Z
 ·refine lKn 9 Z h3<|Zk Z<|Zk Z<|Zk Z<|Zk Z<|Zk Z<|Zq (pkF Z Z)<|Zm Z<|Zk Z<|Zk Z<|Zk Z<|Zk Z<|Zk Z<|Zq (pkF Z Z)<|Zm Z<|Zk Z<|Zk Z<|Zk Z<|Zk Z<|Zk Z<|Zq (pkF Z Z)<|Zm Z<|Zk Z<|Zk Z<|Zk Z<|Zk Z<|Zk Z<|Zq (pkF Z Z)<|Zb Z<|z14<|Ze [] [] Z
def z3a (a0:List V3) (s2:(List V3) × Int) (s6:Int):Option (Sum Int Int) :=
 if decide (s6<(s2.1.length:Int)) then
  idx s2.1 s6 >>= fun x8 =>
  idx a0 s2.2 >>= fun x10 =>
  z6z x8 x10 >>= fun r12 =>
  if decide (r12<0) then
   some (.inr (w64 (s6+1)))
  else
   some (.inl s6)
 else
  some (.inl s6)
def z4c (a0:List V3) (s2:(List V3) × Int):Option (Sum ((List V3)) ((List V3) × Int)) :=
 if decide (s2.2<(a0.length:Int)) then
  (iter (z3a a0 s2) 0) >>= fun s5 =>
  (if s5==(s2.1.length:Int) then
   some true
  else
   idx s2.1 s5 >>= fun x17 =>
   idx a0 s2.2 >>= fun x19 =>
   some (!decide (x17=x19))) >>= fun s15 =>
  if s15 then
   cut s2.1 0 s5 >>= fun x22 =>
   idx a0 s2.2 >>= fun x24 =>
   cut s2.1 s5 (s2.1.length:Int) >>= fun x26 =>
   app 32 ([]:List V3) x22 >>= fun x29 =>
   app 32 x29 [x24] >>= fun x33 =>
   app 32 x33 x26 >>= fun x36 =>
   some (w64 (s2.2+1)) >>= fun y39 =>
   some (.inr (x36,y39))
  else
   some (w64 (s2.2+1)) >>= fun y63 =>
   some (.inr (s2.1,y63))
 else
  some (.inl s2.1)
def za0 (a0:List V3):Option ((List V3)) :=
 (iter (z4c a0) ([],0)) >>= fun s1 =>
 some s1
def z5w (a0:List V3) (a1:List V3) (s2:(List V3) × Int):Option (Sum ((List V3)) ((List V3) × Int)) :=
 if decide (s2.2<(a1.length:Int)) then
  idx a1 s2.2 >>= fun x5 =>
  z4e a0 x5 >>= fun r7 =>
  if decide (r7<0) then
   idx a1 s2.2 >>= fun x10 =>
   app 32 s2.1 [x10] >>= fun x13 =>
   some (w64 (s2.2+1)) >>= fun y16 =>
   some (.inr (x13,y16))
  else
   some (w64 (s2.2+1)) >>= fun y17 =>
   some (.inr (s2.1,y17))
 else
  some (.inl s2.1)
def za5 (a0:List V3) (a1:List V3):Option ((List V3)) :=
 (iter (z5w a0 a1) ([],0)) >>= fun s1 =>
 za0 s1 >>= fun r19 =>
 some r19
end
section
open Go Go.Shelf
def ztk:Go.Shelf.Ren:=⟨fun | 6=>87 | 15=>94 | 14=>130 | 28=>139 | 29=>105 | 20=>172 | 21=>173 | 22=>174 | 23=>175 | 24=>176 | 25=>177 | 26=>178 | 27=>179 | 46=>210 | 47=>181 | 48=>182 | 49=>211 | 50=>212 | 57=>231 | n=>n, fun | 22=>88 | 24=>94 | 25=>137 | 3=>3 | 39=>143 | 0=>0 | 53=>34 | 55=>35 | 4=>4 | 46=>181 | 45=>180 | 50=>106 | 5=>5 | 9=>9 | 66=>225 | 70=>229 | 76=>260 | 77=>261 | n=>n, fun | n=>n⟩
theorem z10w:Go.Proofs.SlLaysF0.n6 Tryz.prog ztk:={
 mixed:=by kernel_rfl
 f6:=⟨Tryz.f87.name, by decide,Tryz.func87.trans (congrArg some (by kernel_rfl))⟩
 f14:=⟨Tryz.f130.name, by decide,Tryz.func130.trans (congrArg some (by kernel_rfl))⟩
 f15:=Tryz.func94.trans (congrArg some (by kernel_rfl))
 f20:=⟨Tryz.f172.name, by decide,Tryz.func172.trans (congrArg some (by kernel_rfl))⟩
 f21:=⟨Tryz.f173.name, by decide,Tryz.func173.trans (congrArg some (by kernel_rfl))⟩
 f22:=⟨Tryz.f174.name, by decide,Tryz.func174.trans (congrArg some (by kernel_rfl))⟩
 f23:=⟨Tryz.f175.name, by decide,Tryz.func175.trans (congrArg some (by kernel_rfl))⟩
 f24:=⟨Tryz.f176.name, by decide,Tryz.func176.trans (congrArg some (by kernel_rfl))⟩
 f25:=⟨Tryz.f177.name, by decide,Tryz.func177.trans (congrArg some (by kernel_rfl))⟩
 f26:=⟨Tryz.f178.name, by decide,Tryz.func178.trans (congrArg some (by kernel_rfl))⟩
 f27:=⟨Tryz.f179.name, by decide,Tryz.func179.trans (congrArg some (by kernel_rfl))⟩
 f28:=Tryz.func139.trans (congrArg some (by kernel_rfl))
 f29:=Tryz.func105.trans (congrArg some (by kernel_rfl))
 f46:=⟨Tryz.f210.name, by decide,Tryz.func210.trans (congrArg some (by kernel_rfl))⟩
 f47:=Tryz.func181.trans (congrArg some (by kernel_rfl))
 f48:=Tryz.func182.trans (congrArg some (by kernel_rfl))
 f49:=⟨Tryz.f211.name, by decide,Tryz.func211.trans (congrArg some (by kernel_rfl))⟩
 f50:=⟨Tryz.f212.name, by decide,Tryz.func212.trans (congrArg some (by kernel_rfl))⟩
 f57:=⟨Tryz.f231.name, by decide,Tryz.func231.trans (congrArg some (by kernel_rfl))⟩
 t0:=Tryz.underlying0
 a0:=Tryz.isAgg0
 z0:=Tryz.sizeOf0
 v0:=Tryz.zeroValue0
 t3:=Tryz.underlying3
 a3:=Tryz.isAgg3
 z3:=Tryz.sizeOf3
 v3:=Tryz.zeroValue3
 t4:=Tryz.underlying4
 a4:=Tryz.isAgg4
 z4:=Tryz.sizeOf4
 v4:=Tryz.zeroValue4
 t5:=Tryz.underlying5
 a5:=Tryz.isAgg5
 z5:=Tryz.sizeOf5
 v5:=Tryz.zeroValue5
 t9:=Tryz.underlying9
 a9:=Tryz.isAgg9
 z9:=Tryz.sizeOf9
 v9:=Tryz.zeroValue9
 t22:=Tryz.underlying88
 a22:=Tryz.isAgg88
 z22:=Tryz.sizeOf88
 v22:=Tryz.zeroValue88
 t25:=Tryz.underlying137
 a25:=Tryz.isAgg137
 z25:=Tryz.sizeOf137
 v25:=Tryz.zeroValue137
 t39:=Tryz.underlying143
 a39:=Tryz.isAgg143
 z39:=Tryz.sizeOf143
 v39:=Tryz.zeroValue143
 t45:=Tryz.underlying180
 a45:=Tryz.isAgg180
 z45:=Tryz.sizeOf180
 v45:=Tryz.zeroValue180
 t46:=Tryz.underlying181
 a46:=Tryz.isAgg181
 z46:=Tryz.sizeOf181
 v46:=Tryz.zeroValue181
 t50:=Tryz.underlying106
 a50:=Tryz.isAgg106
 z50:=Tryz.sizeOf106
 v50:=Tryz.zeroValue106
 t53:=Tryz.underlying34
 a53:=Tryz.isAgg34
 z53:=Tryz.sizeOf34
 v53:=Tryz.zeroValue34
 t55:=Tryz.underlying35
 a55:=Tryz.isAgg35
 z55:=Tryz.sizeOf35
 v55:=Tryz.zeroValue35
 t66:=Tryz.underlying225
 a66:=Tryz.isAgg225
 z66:=Tryz.sizeOf225
 v66:=Tryz.zeroValue225
 t70:=Tryz.underlying229
 a70:=Tryz.isAgg229
 z70:=Tryz.sizeOf229
 v70:=Tryz.zeroValue229
 t76:=Tryz.underlying260
 a76:=Tryz.isAgg260
 z76:=Tryz.sizeOf260
 v76:=Tryz.zeroValue260
 t77:=Tryz.underlying261
 a77:=Tryz.isAgg261
 z77:=Tryz.sizeOf261
 v77:=Tryz.zeroValue261 }
end
section
open Go Go.Shelf Go.RowKit Go.Sort
section
variable {α:Type} (x0:α) (cf:α→α→Int)
def ltI (l:List α) (i j:Nat):Int:=cf (l.getD i x0) (l.getD j x0)
def zy7 (l:List α):List α:=(pdq (ltOf (ltI x0 cf l)) (Array.range l.length) 0 l.length (Lib.bitLen l.length) true true).toList.map fun i=>l.getD i x0
theorem swoI (hO:SWO (ltOf cf)) (l:List α):SWO (ltOf (ltI x0 cf l)) where
 irrefl x:=hO.irrefl _
 trans x y z h1 h2:=hO.trans _ _ _ h1 h2
 ntrans x y z h1 h2:=hO.ntrans _ _ _ h1 h2
theorem pdqI (hO:SWO (ltOf cf)) (l:List α):∃ d:List Nat,d.Perm (List.range l.length)∧zy7 x0 cf l=d.map (fun i=>l.getD i x0)∧d.Pairwise fun i j=>¬ cf (l.getD j x0) (l.getD i x0)<0:=by
 have h:=pdq_sorts (ltOf (ltI x0 cf l)) (swoI x0 cf hO l) (Array.range l.length) 0 l.length (Lib.bitLen l.length) true true (Nat.zero_le _) (by simp) (Or.inl rfl)
 have hs:(pdq (ltOf (ltI x0 cf l)) (Array.range l.length) 0 l.length (Lib.bitLen l.length) true true).size=l.length:=by rw [h.1.1]; simp
 refine ⟨_,?_,rfl,?_⟩
 ·have p:=h.1.2.2
  rw [Array.extract_eq_self_of_le (by omega),Array.extract_eq_self_of_le (by simp)] at p
  simpa using p
 ·rw [List.pairwise_iff_getElem]
  intro i j hi hj hij
  have q:=h.2 i j (Nat.zero_le _) hij (by simpa [hs] using hj)
  rw [getElem!_pos _ i (by simpa using hi),getElem!_pos _ j (by simpa using hj)] at q
  simpa [ltOf,ltI] using q
theorem zo3 (hO:SWO (ltOf cf)) (l:List α):(zy7 x0 cf l).Perm l:=by
 obtain ⟨d,h1,h2,_⟩:=pdqI x0 cf hO l
 rw [h2]
 refine (h1.map _).trans (List.Perm.of_eq ?_)
 apply List.ext_getElem (by simp)
 intro i h1 h2
 simp [List.getD_eq_getElem?_getD,h2]
theorem zrk (hO:SWO (ltOf cf)) (l:List α):(zy7 x0 cf l).Pairwise fun x y=>¬ cf y x<0:=by
 obtain ⟨d,_,h2,h3⟩:=pdqI x0 cf hO l
 rw [h2,List.pairwise_map]
 exact h3
theorem z108 (hO:SWO (ltOf cf)) (l:List α):(zy7 x0 cf l).length=l.length:=(zo3 x0 cf hO l).length_eq
end
theorem zrz {α:Type} {R:Rep α} {S:Blk} {w:World}:∀ {l:List α} {cs:List Value} (i:Nat) (hi:i<l.length),z5u R S w cs l→R.rel S w ((cs.drop (i * R.sz)).take R.sz) l[i]
 | x::l,cs,0,hi,h=>by
  obtain ⟨c,d,rfl,h1,h2⟩:=h
  have:=R.len h1
  simp [← this,h1]
 | x::l,cs,i+1,hi,h=>by
  obtain ⟨c,d,rfl,h1,h2⟩:=h
  have hc:=R.len h1
  have:=zrz i (by simpa using hi) h2
  rw [show (i+1) * R.sz=c.length+i * R.sz by rw [hc,Nat.add_mul]; omega]
  simpa using this
theorem znv (k:Nat):∀ (n:Nat) (cs:List Value),cs.length=n * k→(List.range n).flatMap (fun i=>(cs.drop (i * k)).take k)=cs
 | 0,cs,h=>by simp at h; simp [h]
 | n+1,cs,h=>by
  have ih:=znv k n (cs.take (n * k)) (by rw [List.length_take,h,Nat.add_mul]; omega)
  rw [List.range_succ,List.flatMap_append]
  have e:(List.range n).flatMap (fun i=>(cs.drop (i * k)).take k)=(List.range n).flatMap (fun i=>((cs.take (n * k)).drop (i * k)).take k):=by
   simp only [List.flatMap_def]
   congr 1
   apply List.map_congr_left
   intro i hi
   have hi':i<n:=by simpa using hi
   rw [List.drop_take,List.take_take]
   have:k≤n * k - i * k:=by
    rw [← Nat.sub_mul]
    exact Nat.le_mul_of_pos_left k (by omega)
   rw [Nat.min_eq_left this]
  rw [e,ih]
  simp only [List.flatMap_cons,List.flatMap_nil,List.append_nil]
  rw [List.take_of_length_le (l:=cs.drop (n * k)) (by rw [List.length_drop,h,Nat.add_mul]; omega),List.take_append_drop]
theorem zx3 {α:Type} {R:Rep α} {S:Blk} {w:World} {enc:Nat→List Value} {g:Nat→α} (h:∀ i,R.rel S w (enc i) (g i)):∀ is:List Nat,z5u R S w (is.flatMap enc) (is.map g)
 | []=>rfl
 | i::is=>⟨enc i,is.flatMap enc,List.flatMap_cons,h i,zx3 h is⟩
theorem zxh {α:Type} {R:Rep α} (hagg:R.agg=true) (x0:α) (r0:List Value) (hz:∀ S w,R.rel S w r0 x0) (cf:α→α→Int) (hO:SWO (ltOf cf)) {P:Program} {f g T:Nat}
  (hnone:∀ (cap:Nat) (w:World),Calls P f #[.slice none 0 cap,.func (.func g) #[] #[]] w fun e w'=>e=.returned (.tuple #[])∧w'=w)
  (hsome:∀ (enc:Nat→List Value) (hk:∀ x,(enc x).length=R.sz) (h1:∀ x,∀ v∈enc x,v.oneCell'=true) (cf':Nat→Nat→Int) (hO:SWO (ltOf cf')) (blk cap:Nat) (d:Array Nat) (w:World),
   CmpLays P g #[] enc R.sz cf' blk 0 d.size w→HoldsK enc R.sz w blk 0 d→blk<w.heap.size→d.size<4611686018427387904 →
   Calls P f #[.slice (some ⟨blk,0,none⟩) d.size cap,.func (.func g) #[] #[]] w fun e w'=>e=.returned (.tuple #[])∧∃ n os,w'=sortWorldK enc R.sz w blk 0 n (pdq (ltOf cf') d 0 d.size (Lib.bitLen d.size) true true) os)
  (hcmp:∀ (x y:α) (c d:List Value) (S:Blk) (w W:World),R.rel S w c x→R.rel S w d y→Calls P g #[.agg c.toArray,.agg d.toArray] W fun e w'=>e=.returned (.int .i64 (cf x y))∧∃ q os',w'=grow (W.drewN q) os')
  (p0:Value) (c0:List α):z2v P f [.val p0,.val (.func (.func g) #[] #[])] [(1,some (p0,.list R T c0))] (chk (c0.length≤1000000) >>= fun _=>some (zy7 x0 cf c0))
   (fun r nv=>⟨[],[(1,some (p0,.list R T r))]⟩):=by
 intro r hr H vs w hvs hres
 have hb:c0.length≤1000000∧r=zy7 x0 cf c0:=by
  unfold chk at hr
  split at hr
  ·rename_i h; simp at hr; exact ⟨h,hr.symm⟩
  ·simp at hr
 obtain ⟨hlen0,rfl⟩:=hb
 match vs,hvs with
 | [v0,v1],hvs =>
 obtain ⟨h0,h1,_⟩:=hvs
 have e0:v0=p0:=h0.1
 have e1:v1=.func (.func g) #[] #[]:=h1.1
 subst e0; subst e1
 have hc:=hres.conts 1 v0 _ rfl
 have only:∀ r v c (q:z31),lr [(1,some (v0,q))] r=some (v,c)→r=1∧v=v0∧c=q:=fun r v c q h=>by
  rw [z1f] at h
  split at h
  ·rename_i e; cases h; exact ⟨e.symm,rfl,rfl⟩
  ·simp [lr,lk] at h
 have hlen:=z108 x0 cf hO
 rcases hc with ⟨rfl,rfl⟩ | ⟨b,o,k1,k2,b',cap,C,k3,rfl,k4,k5,k6,k7⟩
 ·refine (hnone 0 w).mono fun e w' ⟨he,hw⟩=>?_
  subst hw
  refine ⟨fun _=>undef,[],he,trivial, fun r v c h=>?_, fun r v c r' v' c' h h' hne=>?_, fun r v c h b hb=>?_,zih.rfl'⟩
  ·obtain ⟨rfl,rfl,rfl⟩:=only _ _ _ _ h
   have:zy7 x0 cf ([]:List α)=[]:=List.eq_nil_of_length_eq_zero (by rw [hlen]; rfl)
   exact .inl ⟨rfl,this⟩
  ·exact absurd ((only _ _ _ _ h).1.trans (only _ _ _ _ h').1.symm) hne
  ·obtain ⟨rfl,rfl,rfl⟩:=only _ _ _ _ h; cases hb
 ·subst k3
  simp only [z3h,Option.some.injEq] at k1
  subst k1
  have hlt:b'<w.heap.size:=(Array.getElem?_eq_some_iff.1 k2).1
  have hC:c0.length * R.sz≤C.size:=by rw [k6]; exact Nat.mul_le_mul_right _ k4
  let cs:=C.toList.take (c0.length * R.sz)
  have hcs:z5u R (Shr H [(1,some (.slice (some ⟨b',0,none⟩) c0.length cap,.list R T c0))] w) w cs c0:=k7
  let enc:Nat→List Value:=fun i=>if i<c0.length then (cs.drop (i * R.sz)).take R.sz else r0
  have henc:∀ i,R.rel (Shr H [(1,some (.slice (some ⟨b',0,none⟩) c0.length cap,.list R T c0))] w) w (enc i) (c0.getD i x0):=fun i=>by
   by_cases hi:i<c0.length
   ·have:=zrz i hi hcs
    simp only [enc,if_pos hi,List.getD_eq_getElem?_getD,List.getElem?_eq_getElem hi,Option.getD_some]; exact this
   ·simp only [enc,if_neg hi,List.getD_eq_getElem?_getD,List.getElem?_eq_none (Nat.le_of_not_lt hi),Option.getD_none]; exact hz _ _
  have hk:∀ i,(enc i).length=R.sz:=fun i=>R.len (henc i)
  have hflat:(List.range c0.length).flatMap enc=cs:=by
   have:=znv R.sz c0.length cs (hcs.len)
   rw [← this]
   simp only [List.flatMap_def]
   congr 1
   apply List.map_congr_left
   intro i hi
   have hi':i<c0.length:=by simpa using hi
   simp only [enc,if_pos hi']
  have hH:HoldsK enc R.sz w b' 0 (Array.range c0.length):=by
   have:=zii enc R.sz hk (List.range c0.length) k2 (by rw [List.length_range,hflat])
   rwa [show (List.range c0.length).toArray=Array.range c0.length from by simp] at this
  have hso:=hsome enc hk (fun i v hv=>R.one (henc i) v hv) (ltI x0 cf c0) (swoI x0 cf hO c0) b' cap (Array.range c0.length) w
   (fun m os dk hdk x y=>hcmp _ _ _ _ _ w _ (henc x) (henc y)) hH hlt (by simp; omega)
  rw [Array.size_range] at hso
  refine hso.mono fun e w' ⟨he,n,os,hw⟩=>?_
  obtain ⟨d,d1,d2,-⟩:=(⟨_,rfl,rfl,trivial⟩:∃ d:List Nat,d=(pdq (ltOf (ltI x0 cf c0)) (Array.range c0.length) 0 c0.length (Lib.bitLen c0.length) true true).toList∧zy7 x0 cf c0=d.map (fun i=>c0.getD i x0)∧True)
  have dl:d.length=c0.length:=by have:=hlen c0; rw [d2] at this; simpa using this
  have da:pdq (ltOf (ltI x0 cf c0)) (Array.range c0.length) 0 c0.length (Lib.bitLen c0.length) true true=d.toArray:=by rw [d1]
  rw [da] at hw
  rw [d2]
  subst hw
  have only':=only
  have hst:z7a (Shr H [(1,some (.slice (some ⟨b',0,none⟩) c0.length cap,.list R T c0))] w) (Shr H [(1,some (.slice (some ⟨b',0,none⟩) c0.length cap,.list R T (d.map fun i=>c0.getD i x0)))] (sortWorldK enc R.sz w b' 0 n d.toArray os)) w (sortWorldK enc R.sz w b' 0 n d.toArray os):=fun i hi=>by
   have hne:i≠b':=fun e=>hi.2.1 1 _ _ rfl (by rw [e]; rfl)
   refine ⟨⟨?_, fun r v c h=>?_,hi.2.2⟩,zhz enc R.sz w b' n _ os hi.1 hne⟩
   ·show i<(w.heap.modify b' _++os).size
    have:=hi.1
    simp; omega
   ·obtain ⟨rfl,rfl,rfl⟩:=only _ _ _ _ h
    exact hi.2.1 1 _ _ rfl
  refine ⟨fun _=>undef,[],he,trivial, fun r v c h=>?_, fun r v c r' v' c' h h' hne=>?_, fun r v c h b hb=>?_,rfl,rfl,rfl,?_, fun i hi=>?_⟩
  ·obtain ⟨rfl,rfl,rfl⟩:=only _ _ _ _ h
   refine .inr ⟨b',_,rfl,zy2 enc R.sz w n _ os k2,b',cap,_, by rw [List.length_map,dl],rfl, by rw [List.length_map,dl]; exact k4,k5,?_,?_⟩
   ·rw [← k6]; simp [putCells]
   ·rw [List.length_map,zso enc R.sz hk d C (by rw [dl]; exact hC)]
    exact zx3 (fun i=>R.mono hst (henc i)) d
  ·exact absurd ((only _ _ _ _ h).1.trans (only _ _ _ _ h').1.symm) hne
  ·obtain ⟨rfl,rfl,rfl⟩:=only _ _ _ _ h
   exact .inr ⟨1,_,_,rfl,hb⟩
  ·show w.heap.size≤(w.heap.modify b' _++os).size
   simp
  ·exact zhz enc R.sz w b' n _ os hi.1 fun e=>hi.2 ⟨1,_,_,rfl, by rw [e]; rfl⟩
end
section
open Go Go.Shelf Go.RowKit Go.Lib Go.Sort
theorem zz2 (W:World) (o1 o2:Obj) (q:Nat) (os':Array Obj):grow (((W.alloc o1).alloc o2).drewN q) os'=grow (W.drewN q) (#[o1,o2]++os'):=by
 have:(W.heap.push o1).push o2++os'=W.heap++(#[o1,o2]++os'):=by apply Array.toList_inj.1; simp
 show ({ W with drawn:=W.drawn+q,heap:=(W.heap.push o1).push o2++os' }:World) = { W with drawn:=W.drawn+q,heap:=W.heap++(#[o1,o2]++os') }
 rw [this]
theorem relN {S:Blk} {w:World} {c:List Value} {x:z07} (h:(z0e).rel S w c x):∃ c1:List Value,c1.length=11∧c=c1++z4w x.id:=by
 obtain ⟨c1,c2,rfl,h1,c3,c4,rfl,h2,h3⟩:=h
 refine ⟨c1,z04.len h1,?_⟩
 have h3:c4=[]:=h3
 rw [h3,List.append_nil,zgi h2]; rfl
theorem z14a {w:World} {b:Nat} {c1:List Value} {x:V3} {T:TypeId} {fr:Nat × Nat} (h:w.heap[b]? = some (.cells (c1++z4w x).toArray T fr)) (hl:c1.length=11):(loadVar 45 ⟨b,11,none⟩).run Tryz.prog w=.ok (.agg (z4w x).toArray) w:=by
 refine zkb ag45 z3z (zdn x) fun j u hu=>?_
 rw [z5b]
 unfold World.cell?
 rw [h]
 have:(c1++z4w x)[11+j]? = some u:=by rw [← hl,List.getElem?_append_right (by omega),Nat.add_sub_cancel_left]; exact hu
 simpa using this
set_option maxHeartbeats 1000000 in
set_option maxRecDepth 100000 in
theorem cmpN (c1 d1:List Value) (hc:c1.length=11) (hd:d1.length=11) (x y:V3) (W:World) :
  Calls Tryz.prog 88 #[.agg (c1++z4w x).toArray,.agg (d1++z4w y).toArray] W fun e w'=>e=.returned (.int .i64 (Lib.compareBytes x.toList y.toList))∧∃ q os',w'=grow (W.drewN q) os':=by
 obtain ⟨W1,hW1⟩:∃ W1,W1=W.alloc (.cells (c1++z4w x).toArray 94):=⟨_,rfl⟩
 obtain ⟨W2,hW2⟩:∃ W2,W2=W1.alloc (.cells (d1++z4w y).toArray 94):=⟨_,rfl⟩
 have l0:(loadVar 45 ⟨W.heap.size,11,none⟩).run Tryz.prog W2=.ok (.agg (z4w x).toArray) W2:=z14a (c1:=c1) (T:=94) (fr:=(0,0)) (by
  rw [hW2,hW1]; show ((W.heap.push _).push _)[W.heap.size]? = _
  rw [Array.getElem?_push_lt (by simp)]; simp) hc
 have l1:(loadVar 45 ⟨W1.heap.size,11,none⟩).run Tryz.prog W2=.ok (.agg (z4w y).toArray) W2:=z14a (c1:=d1) (T:=94) (fr:=(0,0)) (by
  rw [hW2]; show (W1.heap.push _)[W1.heap.size]? = _
  rw [Array.getElem?_push_size]) hd
 go_enter Tryz.func88,Tryz.ntmps88
 refine wp_seq (wp_region_lit ?_)
 refine st (z86 rfl) (v:=.pointer (some ⟨W.heap.size,0,none⟩)) (w':=W1) (by rw [hW1]; simp [execOp,Act.eval,Act.put]; rfl) ?_
 refine st (z86 rfl) (v:=.pointer (some ⟨W1.heap.size,0,none⟩)) (w':=W2) (by rw [hW2]; simp [execOp,Act.eval,Act.put]; rfl) ?_
 refine st (z86 rfl) (v:=.int .i64 0) (w':=W2) (by simp [execOp,Act.eval]) ?_
 refine wp_seq (wp_region_lit ?_)
 refine st (z86 rfl) (v:=.pointer (some ⟨W.heap.size,11,none⟩)) (w':=W2) (by simp [execOp,Act.eval,Act.put]; rfl) ?_
 refine st (z86 rfl) (v:=.agg (z4w x).toArray) (w':=W2) (by simp [execOp,Act.eval,Act.put,Instr.loadAt,Instr.sureAddr,l0]) ?_
 refine st (z86 rfl) (v:=.pointer (some ⟨W1.heap.size,11,none⟩)) (w':=W2) (by simp [execOp,Act.eval,Act.put]; rfl) ?_
 refine st (z86 rfl) (v:=.agg (z4w y).toArray) (w':=W2) (by simp [execOp,Act.eval,Act.put,Instr.loadAt,Instr.sureAddr,l1]) ?_
 refine wpList_step fun K hK=>?_
 rw [if_pos (z86 rfl)]
 unfold Oper.wp
 rw [show ∀ a:Act,a.eval (.tmp 6)=.agg (z4w x).toArray→a.eval (.tmp 8)=.agg (z4w y).toArray→∀ o:Oper,o.op=Op.call { callee:=Callee.value (Operand.func 48),args:=#[Operand.tmp 6,Operand.tmp 8],argTypes:=#[45,45] }→(execOp a.eval o).run Tryz.prog W2=.ok (.enter 48 #[.agg (z4w x).toArray,.agg (z4w y).toArray]) W2 from fun a h6 h8 o ho=>by
  have e0:a.eval (.func 48)=.func (.func 48) #[] #[]:=rfl
  simp [execOp,ho,resolve,e0,Deferred.ofValue,invoke,z9r Tryz.func48 rfl (by rfl),h6,h8]]
 rotate_left
 ·simp [Act.eval,Act.put]
 ·simp [Act.eval,Act.put]
 ·rfl
 simp only [Oper.upon]
 refine (zls x y W2).mono fun e w' ⟨he,q,os',hw⟩=>?_
 subst he
 refine hK _ _ ?_
 refine st (z86 rfl) (v:=.int .i64 (Lib.compareBytes x.toList y.toList)) (w':=w') (by simp [execOp,Act.eval,Act.put]) ?_
 go_wp2
 go_ret
 refine ⟨rfl,q,#[.cells (c1++z4w x).toArray 94,.cells (d1++z4w y).toArray 94]++os',?_⟩
 exact zz2 _ _ _ _ _
def zv6:z07:=(⟨(⟨0,[],0,(⟨0,[],(⟨0,0,0,[]⟩:z00)⟩:z06),(⟨0,0⟩:z05)⟩:z01),(Vector.replicate 32 0)⟩:z07)
def cfN (x y:z07):Int:=Lib.compareBytes x.id.toList y.id.toList
theorem ltN (x y:z07):ltOf cfN x y=decide (kd x.id<kd y.id):=by
 unfold ltOf cfN
 rw [ztm,zme]
theorem swoN:SWO (ltOf cfN) where
 irrefl x:=by rw [ltN]; simp
 trans x y z h1 h2:=by rw [ltN] at *; simp at *; omega
 ntrans x y z h1 h2:=by rw [ltN] at *; simp at *; omega
def zyi (l:List (z07)):Option (List (z07)):=chk (l.length≤1000000) >>= fun _=>some (zy7 zv6 cfN l)
theorem z10q (p0:Value) (c0:List (z07)):z2v Tryz.prog 87 [.val p0,.val (.func (.func 88) #[] #[])] [(1,some (p0,.list z0e 94 c0))] (zyi c0) (fun r nv=>⟨[],[(1,some (p0,.list z0e 94 r))]⟩):=by
 refine zxh rfl zv6 _ zr94 cfN swoN (fun cap w=>?_) (fun enc hk h1 cf' hO blk cap d w hc hH hb hs=>?_) (fun x y c d S w W hx hy=>?_) p0 c0
 ·exact AnyF.slices_SortFunc_none z10w none cap _ w
 ·have eg:∀ args w,(callFunc 88 args).run Tryz.prog w=.ok (.enter 88 args) w:=enters_of Tryz.func88 (by kernel_rfl) rfl
  exact AnyQ.slices_SortFunc_eq z10w 43 Tryz.isAgg94 Tryz.sizeOf94 enc hk h1 cf' hO 88 #[] blk 0 cap d w eg hc hH hb hs
 ·obtain ⟨c1,h1,rfl⟩:=relN hx
  obtain ⟨d1,h2,rfl⟩:=relN hy
  exact cmpN c1 d1 h1 h2 x.id y.id W
end
section
open Go Go.Shelf Go.RowKit Go.Lib
theorem zxs {P:Program} {ops:Array Oper} {o:Oper} {a:Act} {w:World} {K:Act→World→Prop} {Q:Exit→Act→World→Prop} {E:Prop}
  (hg:o.guard=none) (d x:Operand) (dT sT:TypeId) (hop:o.op=Op.call { callee:=Callee.builtin Builtin.append,args:=#[d,x],argTypes:=#[dT,sT] })
  (v u:Value) (hd:a.eval d=v) (hx:a.eval x=u) {v':Value} {w':World} (hr:(Builtin.append_ #[dT,sT] o.type #[v,u]).run P w=.ok v' w') (hK:K (a.put o.dst v') w') :
  if Region.wanted o (yielded ops a.tmps)=true then Oper.wp P o a w K Q else E:=by
 have hw:Region.wanted o (yielded ops a.tmps)=true:=by simp [Region.wanted,hg]
 rw [if_pos hw]
 unfold Oper.wp
 simp [execOp,hop,resolve,invoke,builtin,hd,hx,hr,Result.andThen]
 exact hK
theorem z16l {P:Program} {k by_:Nat} {z:Value} (w:World) (T e:TypeId) (hT:P.underlying T=some (.slice e)) (hE:TI P e z k by_) (hzl:z.cells.size=k) (h0:0<k) (hone:∀ u∈z.cells.toList,u.oneCell'=true)
  (g o n:Nat) (cur:Array Value) (t:TypeId) (hg:w.heap[g]? = some (.cells cur t (0,0))) (hn:0<n) (hfit:o+n * k≤cur.size) :
  ∃ D:Array Value,(∀ ty c,(Builtin.clear_ #[T] ty #[.slice (some ⟨g,o,none⟩) n c]).run P w=.ok (.tuple #[]) (w.setRow g D))∧D.size=cur.size∧D.toList.take o=cur.toList.take o:=by
 have hfl:=zew (n:=n) (z:=z.cells) (by omega)
 have hll:((List.replicate n z.cells.toList).flatten).length=n * k:=by simp [hzl]
 have hz1:∀ u∈(Builtin.zeroCells z.cells n).toList,u.oneCell'=true:=fun u hu=>by
  rw [hfl] at hu
  simp only [List.mem_flatten,List.mem_replicate] at hu
  obtain ⟨q,⟨-,rfl⟩,hu⟩:=hu
  exact hone u hu
 have hzn:(Builtin.zeroCells z.cells n).toList.length=n * k:=by rw [hfl,hll]
 have hst:=run_storeCells_at P g o t (Builtin.zeroCells z.cells n).toList 0 cur w hg (by rw [hzn]; simpa using hfit) hz1
 simp only [Nat.add_zero] at hst
 refine ⟨(cur.toList.take o++(Builtin.zeroCells z.cells n).toList++cur.toList.drop (o+(Builtin.zeroCells z.cells n).toList.length)).toArray, fun ty c=>?_,?_,?_⟩
 ·obtain ⟨n',rfl⟩:∃ n',n=n'+1:=⟨n - 1, by omega⟩
  simp only [Builtin.clear_,Sem.run_bind,run_underlying hT,Result.andThen,zbi hE,hst,Sem.run_pure,List.getElem?_toArray,List.getElem?_cons_zero]
 ·simp only [List.size_toArray,List.length_append,List.length_take,List.length_drop,Array.length_toList,hzn]; omega
 ·simp only [List.append_assoc]
  rw [List.take_append_of_le_length (by rw [List.length_take,Array.length_toList]; omega),List.take_take,Nat.min_self]
section
variable (b n c i j:Nat) (xs:List Value) (C:Array Value) (w:World)
set_option maxHeartbeats 4000000 in
set_option maxRecDepth 100000 in
theorem zsd (p:Option Addr) (hi:i≤n) (hnc:n≤c) (hc63:c≤9223372036854775807) :
  Calls Tryz.prog 92 #[.slice p n c,.int .i64 i,.int .i64 i] w fun e w'=>e=.returned (.slice p n c)∧w'=w:=by
 have hn63:n≤9223372036854775807:=by omega
 go_enter Tryz.func92,Tryz.ntmps92
 go_wp2
 all_goals (go_ret; exact ⟨rfl,rfl⟩)
set_option maxHeartbeats 4000000 in
set_option maxRecDepth 100000 in
theorem z109 (hij:i<j) (hj:j≤n) (hnc:n≤c) (hc63:c≤9223372036854775807) (hC:w.heap[b]? = some (.cells C 94 (0,0)))
  (hCs:C.size=c * 43) (hxs:C.toList.take (n * 43)=xs) (h1x:∀ v∈xs,v.oneCell'=true) :
  Calls Tryz.prog 92 #[.slice (some ⟨b,0,none⟩) n c,.int .i64 i,.int .i64 j] w fun e w' =>
   e=.returned (.slice (some ⟨b,0,none⟩) (i+(n - j)) c)∧∃ D,w'=w.drew.setRow b D∧D.size=C.size∧D.toList.take ((i+(n - j)) * 43)=xs.take (i * 43)++xs.drop (j * 43):=by
 have u22:Tryz.prog.underlying 88=some (.slice 94):=Tryz.underlying88
 have hcc:∀ j v,C.toList[j]? = some v→w.cell? ⟨b,j,none⟩=some v:=fun j v hj=>by
  rw [Array.getElem?_toList] at hj; unfold World.cell?; rw [hC]; exact hj
 have hxl:xs.length=n * 43:=by rw [← hxs,List.length_take,Array.length_toList]; omega
 have hxg:∀ j v,xs[j]? = some v→C.toList[j]? = some v:=fun j v hj=>by
  rw [← hxs,List.getElem?_take] at hj; split at hj
  ·exact hj
  ·cases hj
 obtain ⟨i0,hi0,hz0,hzs,hzb⟩:=(zim:TI Tryz.prog 94 _ _ _)
 have hnl:(xs.drop (j * 43)).length=(n - j) * 43:=by rw [List.length_drop,hxl,Nat.sub_mul]
 obtain ⟨Ad,hA,hsrc⟩:∃ Ad:Addr,(if c=j then some (⟨b,0,none⟩:Addr) else some ⟨b,j * 43,none⟩)=some Ad∧∀ t u,(xs.drop (j * 43))[t]? = some u→w.drew.cell? (Ad.add t)=some u:=by
  by_cases h:c=j
  ·refine ⟨⟨b,0,none⟩, by simp [h], fun t u hu=>?_⟩
   have h0:(xs.drop (j * 43)).length=0:=by rw [hnl, show n - j=0 by omega,Nat.zero_mul]
   rw [List.length_eq_zero_iff.1 h0] at hu
   simp at hu
  ·refine ⟨⟨b,j * 43,none⟩, by simp [h], fun t u hu=>?_⟩
   rw [Addr.add_lit]
   rw [List.getElem?_drop] at hu
   exact hcc _ _ (hxg _ _ hu)
 obtain ⟨D1,hD1⟩:∃ D1,D1=(C.toList.take (i * 43)++xs.drop (j * 43)++C.toList.drop (i * 43+(xs.drop (j * 43)).length)).toArray:=⟨_,rfl⟩
 have hap:∀ ty,(Builtin.append_ #[88,88] ty #[.slice (some ⟨b,0,none⟩) i c,.slice (some Ad) (n - j) (c - j)]).run Tryz.prog w.drew=.ok (.slice (some ⟨b,0,none⟩) (i+(n - j)) c) (w.drew.setRow b D1):=fun ty=>by
  have e:=run_append_room (P:=Tryz.prog) (w:=w.drew) 88 ty 94 i0 u22 hi0 b i c C hC Ad (n - j) (c - j) (xs.drop (j * 43)) (by rw [hzs,hnl]) hsrc (fun v hv=>h1x v (List.mem_of_mem_drop hv)) (by omega) (by rw [hzs,hnl,hCs]; omega)
  rw [hzs] at e
  rw [hD1]; exact e
 have hD1s:D1.size=C.size:=by
  rw [hD1]; simp only [List.size_toArray,List.length_append,List.length_take,List.length_drop,Array.length_toList,hxl]; omega
 have hD1t:D1.toList.take ((i+(n - j)) * 43)=xs.take (i * 43)++xs.drop (j * 43):=by
  have el:(C.toList.take (i * 43)).length=i * 43:=by rw [List.length_take,Array.length_toList]; omega
  have e2:C.toList.take (i * 43)=xs.take (i * 43):=by rw [← hxs,List.take_take]; congr 1; omega
  rw [hD1,List.take_append_of_le_length (by rw [List.length_append,el,hnl]; omega),List.take_of_length_le (by rw [List.length_append,el,hnl]; omega),e2]
 have hB1:(w.drew.setRow b D1).heap[b]? = some (.cells D1 94 (0,0)):=setRow_heap w.drew b C D1 94 (0,0) hC
 obtain ⟨D2,hcl,hD2s,hD2t⟩:=z16l (P:=Tryz.prog) (w.drew.setRow b D1) 88 94 u22 zim (by rfl) (by decide) (by decide) b ((i+(n - j)) * 43) (n - (i+(n - j))) D1 94 hB1 (by omega) (by rw [hD1s,hCs]; omega)
 obtain ⟨W1,hW1⟩:∃ W1,W1=w.drew.setRow b D1:=⟨_,rfl⟩
 have hfin:w.drew.setRow b D2=W1.setRow b D2:=by rw [hW1,setRow_setRow]
 rw [← hW1] at hcl hap
 have hic:i≤c:=by omega
 have hjc:j≤c:=by omega
 have hres:D2.size=C.size∧D2.toList.take ((i+(n - j)) * 43)=xs.take (i * 43)++xs.drop (j * 43):=⟨hD2s.trans hD1s,hD2t.trans hD1t⟩
 clear hcc hxg hD1 hxs hC hB1 h1x hnl hxl hsrc hD1s hD1t hD2s hD2t hz0 hzb hW1
 have hmix:Tryz.prog.follows .mixedOrders=true:=mixed
 go_enter Tryz.func92,Tryz.ntmps92
 go_wp2_with fail
 go_region_law_o (refine zxs rfl (.tmp 22) (.tmp 25) 88 88 rfl (.slice (some ⟨b,0,none⟩) i c) (.slice (some Ad) (n - j) (c - j)) (by simp [Act.eval,Act.put]) (by simp [Act.eval,Act.put,hA]) (hap _) ?_)
 go_wp2_with (simp only [hcl])
 go_ret
 exact ⟨rfl,D2,hfin.symm,hres⟩
end
end
section
open Go Go.RowKit
def delL {α:Type} (c0:List α) (i j:Int):Option (List α):=chk ((0≤i∧i≤j)∧j.toNat≤c0.length∧c0.length≤1000000) >>= fun _=>some (c0.take i.toNat++c0.drop j.toNat)
theorem z12e {α:Type} {R:Rep α} (hR:R.sz=43) (p0:Value) (c0:List α) (i j:Int):z2v Tryz.prog 92 [.val p0,.rd z0k i,.rd z0k j] [(1,some (p0,.list R 94 c0))] (delL c0 i j)
  (fun r nv=>⟨[.val (nv 0)],[(100,some (nv 0,.list R 94 r))]⟩):=by
 intro r hr H vs w hvs hres
 have hb:((0≤i∧i≤j)∧j.toNat≤c0.length∧c0.length≤1000000)∧r=c0.take i.toNat++c0.drop j.toNat:=by
  unfold delL chk at hr
  split at hr
  ·rename_i h; simp at hr; exact ⟨h,hr.symm⟩
  ·simp at hr
 obtain ⟨⟨⟨hi0,hij⟩,hj,hn⟩,rfl⟩:=hb
 match vs,hvs with
 | [v0,v1,v2],hvs =>
 obtain ⟨h0,h1,h2,_⟩:=hvs
 have e0:v0=p0:=h0.1
 have e1:v1=.int .i64 i:=z3o h1
 have e2:v2=.int .i64 j:=z3o h2
 subst e0; subst e1; subst e2
 obtain ⟨i,rfl⟩:∃ k:Nat,i=(k:Int):=⟨i.toNat, by omega⟩
 obtain ⟨j,rfl⟩:∃ k:Nat,j=(k:Int):=⟨j.toNat, by omega⟩
 simp only [Int.toNat_natCast] at hj ⊢
 have hij:i≤j:=by omega
 have only:∀ v' r v c (q:z31),lr [(100,some (v',q))] r=some (v,c)→r=100∧v=v'∧c=q:=fun v' r v c q h=>by
  rw [z1f] at h
  split at h
  ·rename_i e; cases h; exact ⟨e.symm,rfl,rfl⟩
  ·simp [lr,lk] at h
 have hlen:(c0.take i++c0.drop j).length=i+(c0.length - j):=by
  simp only [List.length_append,List.length_take,List.length_drop]; omega
 rcases hres.conts 1 v0 _ rfl with ⟨rfl,rfl⟩ | ⟨b,o,k1,k2,b',cap,C,k3,rfl,k4,k5,k6,k7⟩
 ·simp only [List.length_nil,Nat.le_zero] at hj
  have hi:i=0:=by omega
  subst hj; subst hi
  refine (zsd 0 0 0 w none (Nat.le_refl _) (Nat.le_refl _) (by omega)).mono fun e w' ⟨he,hw⟩=>?_
  subst hw
  refine ⟨fun _=>.slice none 0 0,[.slice none 0 0],he,⟨⟨rfl,rfl⟩,trivial⟩, fun r v c h=>?_, fun r v c r' v' c' h h' hne=>?_, fun r v c h b hb=>?_,zih.rfl'⟩
  ·obtain ⟨rfl,rfl,rfl⟩:=only _ _ _ _ _ h
   exact .inl ⟨rfl,rfl⟩
  ·exact absurd ((only _ _ _ _ _ h).1.trans (only _ _ _ _ _ h').1.symm) hne
  ·obtain ⟨rfl,rfl,rfl⟩:=only _ _ _ _ _ h; cases hb
 ·subst k3
  simp only [z3h,Option.some.injEq] at k1
  subst k1
  have hlt:b'<w.heap.size:=(Array.getElem?_eq_some_iff.1 k2).1
  have hcm:cap≤9223372036854775807:=by unfold maxLen at k5; omega
  rw [hR] at k6 k7
  have main:Calls Tryz.prog 92 #[.slice (some ⟨b',0,none⟩) c0.length cap,.int .i64 i,.int .i64 j] w fun e w'=>e=.returned (.slice (some ⟨b',0,none⟩) (i+(c0.length - j)) cap) ∧
    ∃ D,w'.heap[b']? = some (.cells D 94 (0,0))∧w.grownBy w' (some b')∧D.size=C.size∧D.toList.take ((i+(c0.length - j)) * 43)=(C.toList.take (c0.length * 43)).take (i * 43)++(C.toList.take (c0.length * 43)).drop (j * 43):=by
   rcases Nat.lt_or_ge i j with h | h
   ·refine (z109 b' c0.length cap i j _ C w h hj k4 hcm k2 k6 rfl (fun v hv=>k7.one v hv)).mono fun e w' ⟨he,D,hw,hD,hT⟩=>⟨he,D,?_,?_,hD,hT⟩
    ·rw [hw]; exact setRow_heap w.drew b' C D 94 (0,0) k2
    ·rw [hw]
     refine ⟨rfl,rfl,rfl,?_, fun k hk hne=>?_⟩
     ·rw [setRow_size]; exact Nat.le_refl _
     ·rw [setRow_other w.drew b' k D (fun e=>hne (by rw [e]))]; rfl
   ·have e:j=i:=by omega
    subst e
    refine (zsd c0.length cap j w _ hj k4 hcm).mono fun e w' ⟨he,hw⟩=>⟨by rw [he, show j+(c0.length - j)=c0.length by omega],C, by rw [hw]; exact k2, by rw [hw]; exact ⟨rfl,rfl,rfl,Nat.le_refl _, fun _ _ _=>rfl⟩,rfl,?_⟩
    rw [show j+(c0.length - j)=c0.length by omega,List.take_append_drop]
  refine main.mono fun e w' ⟨he,D,hD,hg,hs,ht⟩=>?_
  have hst:z7a (Shr H [(1,some (.slice (some ⟨b',0,none⟩) c0.length cap,.list R 94 c0))] w) (Shr H [(100,some (.slice (some ⟨b',0,none⟩) (i+(c0.length - j)) cap,.list R 94 (c0.take i++c0.drop j)))] w') w w':=fun k hk=>by
   have hne:k≠b':=fun e=>hk.2.1 1 _ _ rfl (by rw [e]; rfl)
   refine ⟨⟨Nat.lt_of_lt_of_le hk.1 hg.size, fun r v c h=>?_,hk.2.2⟩,hg.block k hk.1 (fun e=>hne (Option.some.inj e))⟩
   obtain ⟨rfl,rfl,rfl⟩:=only _ _ _ _ _ h
   exact fun e=>hne (Option.some.inj e).symm
  refine ⟨fun _=>.slice (some ⟨b',0,none⟩) (i+(c0.length - j)) cap,[.slice (some ⟨b',0,none⟩) (i+(c0.length - j)) cap],he,⟨⟨rfl,rfl⟩,trivial⟩, fun r v c h=>?_, fun r v c r' v' c' h h' hne=>?_, fun r v c h b hb=>?_,hg.os,hg.tape,hg.output,hg.size, fun k hk=>?_⟩
  ·obtain ⟨rfl,rfl,rfl⟩:=only _ _ _ _ _ h
   refine .inr ⟨b',_,rfl,hD,b',cap,D, by rw [hlen],rfl, by rw [hlen]; omega,k5, by rw [hs,k6,hR],?_⟩
   rw [hlen,hR,ht]
   have x2:=k7.mono hst
   have a1:=x2.take i
   have a2:=x2.drop j
   rw [hR] at a1 a2
   exact a1.append a2
  ·exact absurd ((only _ _ _ _ _ h).1.trans (only _ _ _ _ _ h').1.symm) hne
  ·obtain ⟨rfl,rfl,rfl⟩:=only _ _ _ _ _ h
   exact .inr ⟨1,_,_,rfl,hb⟩
  ·refine hg.block k hk.1 fun e=>hk.2 ⟨1,_,_,rfl,?_⟩
   rw [Option.some.inj e]; rfl
end
end Go.Proofs.YtojceajkeefnpaaGreatDoor
