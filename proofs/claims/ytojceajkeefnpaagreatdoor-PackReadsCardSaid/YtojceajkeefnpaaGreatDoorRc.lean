import Derived.Test.YtojceajkeefnpaaGreatDoorRb
set_option linter.unusedSimpArgs false
set_option linter.unusedVariables false
namespace Go.Proofs.YtojceajkeefnpaaGreatDoor
section
open Go Go.RowKit
set_option maxRecDepth 100000
theorem zf5 (a1:Int):z2b Tryz.prog 151 [.val (.slice none 0 0),.rd z0k a1] [] (z41 a1) (fun r nv=>⟨[.val (nv 0)],[(100,some (nv 0,.list u8R 5 r))]⟩):=by
 refine z2n 27 Tryz.func151 Z Z Z fun H w=>?_;refine gSR<|Zb Z<|z0v<|gSR<|Zm Z<|Zq (I.lss Z Z)<|Zj Z (fun h1=>?_) (fun h1=>?_)
 ·refine z17n
 ·refine Zt<|z0v<|gSR<|Zm Z<|Zm Z<|Zq (capN Z Z tu52)<|Zm Z<|z14b u8R 11 Z<|Zq (z2v Z .rd Z tu52)<|Zq (I.sub Z Z)<|Zq (I.sub Z Z)<|Za Z<|z1o 1 Z fun y2=>Zn<|gSR<|Zm Z<|Zq (I.gtr Z Z)<|Zj Z (fun h3=>?_) (fun h3=>?_)
  ·refine z20<|Zm Z<|Zm Z<|Zq (capN Z Z tu52)<|Zq (cutN Z Z tu52 ti5)<|Zm Z<|z0m fun x4 h5=>Ef Z (apZ 1 Z Z h5 tu52 tu3 ti5 (Zr.num Z) Z) fun v6=>Zm Z<|z14b u8R 23 Z<|Zq (z2v Z .rd Z tu52)<|z0m fun x7 h8=>Ef Z (cutO 1 Z Z Z h8 tu52 ti5) fun v9=>Zb Z<|gSR<|Zm Z<|Zb Z<|z0o<|Ze [v9] [1] Z
  ·refine Zt<|gSR<|Zm Z<|Zb Z<|z0o<|zgb u8R 5 2<|Ze [(.slice none 0 0)] [2] Z
def z1c (a0:List (List UInt8)) (s2:Int × Int):Option (Sum Int (Int × Int)) :=
 if decide (s2.2<(a0.length:Int)) then
  idx a0 s2.2 >>= fun x4 =>
  some (w64 (s2.1+(x4.length:Int))) >>= fun y6 =>
  if decide (y6<0) then
   none
  else
   some (.inr (y6,w64 (s2.2+1)))
 else
  some (.inl s2.1)
def z1b (a0:List (List UInt8)) (s11:(List UInt8) × Int):Option (Sum ((List UInt8)) ((List UInt8) × Int)) :=
 if decide (s11.2<(a0.length:Int)) then
  idx a0 s11.2 >>= fun x14 =>
  app 1 s11.1 x14 >>= fun x16 =>
  some (.inr (x16,w64 (s11.2+1)))
 else
  some (.inl s11.1)
def z2k (a0:List (List UInt8)):Option ((List UInt8)) :=
 (iter (z1c a0) (0,0)) >>= fun s1 =>
 z41 s1 >>= fun r8 =>
 (iter (z1b a0) (r8,0)) >>= fun s10 =>
 some s10
theorem z6v (a0:List (List UInt8)):z2b Tryz.prog 108 [.rd (z04 (z04 u8R)) a0] [] (z2k a0) (fun r nv=>⟨[.val (nv 0)],[(100,some (nv 0,.list u8R 5 r))]⟩):=by
 refine z2n 36 Tryz.func108 Z Z Z fun H w=>?_;refine gSR<|Zb Z<|gSR<|Zb Z<|z68 (fun (s1:Int) aa ww=>Sta (ctx 36 H [] w) [(0,.rd (z04 (z04 u8R)) a0),(3,.rd z0k s1)] [] aa ww) ?_ (fun s1=>?_)
 ·refine gSR<|Zm Z<|Zq (z2v Z .rd Z tu193)<|Zm Z<|Zn<|z2a (fun (s2:Int × Int) aa ww=>Sta (ctx 36 H [] w) [(0,.rd (z04 (z04 u8R)) a0),(3,.rd z0k s2.1),(9,.rd (z04 (z04 u8R)) a0),(10,.rd z0k (a0.length:Int)),(11,.rd z0k s2.2)] [] aa ww) (fun aa ww h=>Zu h []) (fun s2=>?_);refine gSR<|Zq (I.lss Z Z)<|Zn<|z0v<|gIf Z Z (fun h3=>?_) (fun h3=>?_)
  ·refine Zt<|z0v<|z5b<|gSR<|z0m fun x4 h5=>Zq (ixR Z Z h5 tu193 zcr Z)<|Zq (ldR Z zpk)<|Zb Z<|gSR<|Zm Z<|Zm Z<|Zq (z2v Z .rd Z tu52)<|Zq (I.add Z Z)<|Za Z<|z1o 3 Z fun y6=>Zn<|gSR<|Zm Z<|Zq (I.lss Z Z)<|Zj Z (fun h7=>?_) (fun h7=>?_)
   ·refine z17n
   ·refine z31<|z3f<|z0z<|z20<|Zq (I.add Z Z)<|Zm Z<|z1g<|z1q (fun aa ww h=>Zu h [])
  ·refine z21<|z15<|z17<|z2q (fun aa ww h=>Zu h [])
 ·refine gSR<|Zm Z<|Zc [] [(100,1)] Tryz.func151 Z (zf5 _) fun r8 n9=>Zb Z<|z68 (fun (s10:(List UInt8)) aa ww=>∃ nv:Nat→Value,Sta (ctx 36 H [] w) [(6,.val (nv 0))] [(1,some ((nv 0),.list u8R 5 s10))] aa ww) ?_ (fun s10=>?_)
  ·refine gSR<|Zm Z<|Zq (z2v Z .rd Z tu193)<|Zm Z<|Zn<|z2a (fun (s11:(List UInt8) × Int) aa ww=>∃ nv:Nat→Value,Sta (ctx 36 H [] w) [(6,.val (nv 0)),(25,.rd (z04 (z04 u8R)) a0),(26,.rd z0k (a0.length:Int)),(27,.rd z0k s11.2)] [(1,some ((nv 0),.list u8R 5 s11.1))] aa ww) (fun aa ww h=>⟨nvl [(n9 0)],Zu h [1]⟩) (fun s11=>?_);refine gEx fun n12=>gSR<|Zq (I.lss Z Z)<|Zn<|z0v<|gIf Z Z (fun h13=>?_) (fun h13=>?_)
   ·refine Zt<|z0v<|z5b<|gSR<|z0m fun x14 h15=>Zq (ixR Z Z h15 tu193 zcr Z)<|Zq (ldR Z zpk)<|Zb Z<|z20<|Zm Z<|Zm Z<|z0m fun x16 h17=>Ef Z (apn 1 Z Z Z .rd h17 tu52 ti5 Z Z Z) fun v18=>Za Z<|z1g<|z3f<|z0z<|z20<|Zq (I.add Z Z)<|Zm Z<|z1g<|z1q (fun aa ww h=>⟨nvl [v18],Zu h [1]⟩)
   ·refine z21<|z15<|z17<|z2q (fun aa ww h=>⟨nvl [(n12 0)],Zu h [1]⟩)
  ·refine gEx fun n19=>gSR<|Zm Z<|Zb Z<|z0o<|Ze [(n19 0)] [1] Z
def zcc (a0:List UInt8):Option ((List UInt8) × Int) :=
 if decide (10000<(a0.length:Int)) then
  some ([],4)
 else
  z4y (UInt64.ofInt (a0.length:Int)) >>= fun r2 =>
  app 1 r2 a0 >>= fun x4 =>
  some (x4,0)
theorem zfo (a0:List UInt8):z2b Tryz.prog 59 [.rd (z04 u8R) a0] [] (zcc a0) (fun r nv=>⟨[.val (nv 0),.rd z0k r.2],[(100,some (nv 0,.list u8R 5 r.1))]⟩):=by
 refine z2n 13 Tryz.func59 Z Z Z fun H w=>?_;refine gSR<|Za Z<|Zb Z<|z0v<|gSR<|Zm Z<|Zq (z2v Z .rd Z tu52)<|Zq (I.gtr Z Z)<|Zj Z (fun h1=>?_) (fun h1=>?_)
 ·refine gSR<|Za Z<|Zb Z<|z0o<|z0q<|zgb u8R 5 1<|Ze [(.slice none 0 0)] [1] Z
 ·refine Zt<|gSR<|Zm Z<|Zq (z2v Z .rd Z tu52)<|Zq (I.toU Z tu3 tu35)<|Zc [] [(100,2)] Tryz.func57 Z (z4b _) fun r2 n3=>Zm Z<|z0m fun x4 h5=>Ef Z (apn 2 Z Z Z .rd h5 tu52 ti5 Z Z Z) fun v6=>Za Z<|Zb Z<|z0o<|Ze [v6] [2] Z
def zg9 (a0:Int):Option ((List UInt8)) :=
 z4y ((zjc (UInt64.ofInt a0) 1) ^^^ (UInt64.ofInt (shrI a0 63))) >>= fun r1 =>
 some r1
theorem zok (a0:Int):z2b Tryz.prog 193 [.rd z0k a0] [] (zg9 a0) (fun r nv=>⟨[.val (nv 0)],[(100,some (nv 0,.list u8R 5 r))]⟩):=by
 refine z2n 11 Tryz.func193 Z Z Z fun H w=>?_;refine gSR<|Zb Z<|gSR<|Zm Z<|Zq (I.toU Z Tryz.underlying2 tu35)<|Zq (U.shl Z Z (Int.natCast_nonneg _))<|Zm Z<|Zq (I.shr Z Z (Int.natCast_nonneg _))<|Zq (I.toU Z Tryz.underlying2 tu35)<|Zq (U.xor Z Z)<|Zc [] [(100,1)] Tryz.func57 Z (z4b _) fun r1 n2=>Zb Z<|z0o<|Ze [(n2 0)] [1] Z
def z9b (a0:z01) (s14:(List UInt8) × Int):Option (Sum ((List UInt8)) ((List UInt8) × Int)) :=
 if decide (0≤s14.2) then
  chk (0≤s14.2) >>= fun u17 =>
  app 1 s14.1 [(z6r a0.Bits ((s14.2:Int).toNat)).toUInt8] >>= fun x20 =>
  some (w64 (s14.2 - 8)) >>= fun y23 =>
  some (.inr (x20,y23))
 else
  some (.inl s14.1)
def zep (a0:z01):Option ((List UInt8) × Int) :=
 z9l a0 >>= fun r2 =>
 if r2 != 0 then
  some ([],r2)
 else
  (if a0.Kind==1 then
   zg9 a0.Num >>= fun r8 =>
   app 1 [a0.Kind] r8 >>= fun x10 =>
   some x10
  else
   if a0.Kind==2 then
    iter (z9b a0) ([a0.Kind],56)
   else
    if a0.Kind==3 then
     chk (a0.Text.length≤281474976710656) >>= fun u25 =>
     zcc a0.Text >>= fun r27 =>
     app 1 [a0.Kind] r27.1 >>= fun x29 =>
     some x29
    else
     some [a0.Kind]) >>= fun s6 =>
  some (s6,0)
theorem zmq (a0:z01):z2b Tryz.prog 150 [.rd z0r a0] [] (zep a0) (fun r nv=>⟨[.val (nv 0),.rd z0k r.2],[(100,some (nv 0,.list u8R 5 r.1))]⟩):=by
 refine z2n 53 Tryz.func150 Z Z Z fun H w=>?_;refine gSR<|Eb Z (bx 1 Z) fun v1=>Za Z<|Zb Z<|z0v<|gSR<|Zq (ld 1 Z Z fH zki Z)<|Zc [] [] Tryz.func191 Z (zf3 _) fun r2 n3=>Zb Z<|gSR<|Zm Z<|Zq (I.neq Z Z)<|Zj Z (fun h4=>?_) (fun h4=>?_)
 ·refine gSR<|Zm Z<|Za Z<|Zb Z<|z0o<|z0q<|zgb u8R 5 2<|Ze [(.slice none 0 0)] [2] Z
 ·refine Zt<|gSR<|Zq (faB 1 Z Z Tryz.underlying37 Z (by exact ti5))<|Zq (ld 1 Z Z (fP (z23 _)) ty5 Z)<|Ef Z (lit (R:=u8R) ([a0.Kind]:List UInt8) 3 (pP Z Z<|pN) Z tu52 ti5 Z Z) fun v5=>Zb Z<|z68 (fun (s6:(List UInt8)) aa ww=>∃ nv:Nat→Value,Sta (ctx 53 H [] w) [(5,.val (nv 0))] [(3,some ((nv 0),.list u8R 5 s6))] aa ww) ?_ (fun s6=>?_)
  ·refine gSR<|Zq (faB 1 Z Z Tryz.underlying37 Z (by exact ti5))<|Zq (ld 1 Z Z (fP (z23 _)) ty5 Z)<|Zn<|z5b<|gSR<|Zq (B.eql Z Z)<|Zb Z<|gIf Z Z (fun h7=>?_) (fun h7=>?_)
   ·refine gKn 20 Z h7<|z20<|Zm Z<|Zq (faB 1 Z Z Tryz.underlying37 Z (by exact ti2))<|Zq (ld 1 Z Z (fP (z4n _)) ty2 Z)<|Zc [] [(100,4)] Tryz.func193 Z (zok _) fun r8 n9=>z0m fun x10 h11=>Ef Z (apn 3 Z Z Z (.own 4 Z) h11 tu52 ti5 Z Z Z) fun v12=>Za Z<|z1g<|z3f<|z2q (fun aa ww h=>⟨nvl [v12],Zu h [3]⟩)
   ·refine gKn 20 Z h7<|gSR<|Zq (B.eql Z Z)<|Zb Z<|gIf Z Z (fun h13=>?_) (fun h13=>?_)
    ·refine gKn 27 Z h13<|gSR<|Zb Z<|z2a (fun (s14:(List UInt8) × Int) aa ww=>∃ nv:Nat→Value,Sta (ctx 53 H [] w) [(1,.val (z0j v1 0)),(5,.val (nv 0)),(6,.rd z0k s14.2)] [(1,some (v1,.box 37 [.rd z0r a0])),(3,some ((nv 0),.list u8R 5 s14.1))] aa ww) (fun aa ww h=>⟨nvl [v5],Zu h [1,3]⟩) (fun s14=>?_);refine gEx fun n15=>z0v<|gSR<|Zm Z<|Zq (I.geq Z Z)<|Zj Z (fun h16=>?_) (fun h16=>?_)
     ·refine Zt<|z0v<|z5b<|z20<|Zm Z<|Zq (faB 1 Z Z Tryz.underlying37 Z (by exact zo8))<|Zq (ld 1 Z Z (fP (z2i _)) ztl Z)<|Zm Z<|z0m fun u17 h18=>Zq (U.shr Z Z (z60 h18))<|Zq (U.toB Z tu35 tu5)<|Ef Z (lit (R:=u8R) ([(z6r a0.Bits ((s14.2:Int).toNat)).toUInt8]:List UInt8) 5 (pP Z Z<|pN) Z tu52 ti5 Z Z) fun v19=>z0m fun x20 h21=>Ef Z (apn 3 Z Z Z (.own 5 Z) h21 tu52 ti5 Z Z Z) fun v22=>Za Z<|z1g<|z3f<|z0z<|z20<|Zm Z<|Zq (I.sub Z Z)<|Za Z<|z1o 6 Z fun y23=>z1g<|z1q (fun aa ww h=>⟨nvl [v22],Zu h [1,3]⟩)
     ·refine z21<|z15<|z17<|z3f<|z2q (fun aa ww h=>⟨nvl [(n15 0)],Zu h [3]⟩)
    ·refine gKn 27 Z h13<|gSR<|Zq (B.eql Z Z)<|Zb Z<|gIf Z Z (fun h24=>?_) (fun h24=>?_)
     ·refine gKn 41 Z h24<|gSR<|Zq (faB 1 Z Z Tryz.underlying37 Z (by exact ti9))<|Zq (ld 1 Z Z (fP (z2u _)) ty9 Z)<|z0m fun u25 h26=>z13l Z Z h26 tu9 tu52 tu5<|Zc [] [(100,6)] Tryz.func59 Z (zfo _) fun r27 n28=>Zm Z<|Zq (ext Z Z)<|Zq (ext Z Z)<|Za Z<|Zb Z<|z20<|Zm Z<|Zm Z<|z0m fun x29 h30=>Ef Z (apn 3 Z Z Z (.own 6 Z) h30 tu52 ti5 Z Z Z) fun v31=>Za Z<|z1g<|z3f<|z2q (fun aa ww h=>⟨nvl [v31],Zu h [3]⟩)
     ·refine gKn 41 Z h24<|z31<|z3f<|z2q (fun aa ww h=>⟨nvl [v5],Zu h [3]⟩)
  ·refine gEx fun n32=>gSR<|Zm Z<|Za Z<|Zb Z<|z0o<|Ze [(n32 0)] [3] Z
def zfa (a0:z03):Option ((List UInt8) × Int) :=
 zeq ({ a0 with Sig:=(⟨0,0⟩:z0b) }) >>= fun r2 =>
 if r2 != 0 then
  some ([],r2)
 else
  zm7 (({ a0 with Sig:=(⟨0,0⟩:z0b) }).Preds) >>= fun r5 =>
  z4y ((({ a0 with Sig:=(⟨0,0⟩:z0b) }).Author).toUInt64) >>= fun r7 =>
  z4y (({ a0 with Sig:=(⟨0,0⟩:z0b) }).Stamp) >>= fun r10 =>
  z2k [[111],r7,r5.1,r10,[(({ a0 with Sig:=(⟨0,0⟩:z0b) }).Act).Kind]] >>= fun r13 =>
  if ((({ a0 with Sig:=(⟨0,0⟩:z0b) }).Act).Kind)==1 then
   some (r13,0)
  else
   chk (((({ a0 with Sig:=(⟨0,0⟩:z0b) }).Act).Key).length≤281474976710656) >>= fun u18 =>
   zcc ((({ a0 with Sig:=(⟨0,0⟩:z0b) }).Act).Key) >>= fun r20 =>
   app 1 r13 r20.1 >>= fun x22 =>
   if ((({ a0 with Sig:=(⟨0,0⟩:z0b) }).Act).Kind)==4 then
    zep ((({ a0 with Sig:=(⟨0,0⟩:z0b) }).Act).Value) >>= fun r26 =>
    app 1 x22 r26.1 >>= fun x28 =>
    some (x28,0)
   else
    some (x22,0)
set_option maxHeartbeats 4000000 in
theorem zji (a0:z03):z2b Tryz.prog 107 [.rd z05 a0] [] (zfa a0) (fun r nv=>⟨[.val (nv 0),.rd z0k r.2],[(100,some (nv 0,.list u8R 5 r.1))]⟩):=by
 refine z2n 71 Tryz.func107 Z Z Z fun H w=>?_;refine gSR<|Eb Z (bx 1 Z) fun v1=>Za Z<|Zb Z<|gSR<|Zq (bld (x':=(⟨0,0⟩:z0b)) [(0,1),(1,1)] Tryz.underlying41 zqn Z zln Z (Bld.done Z))<|Zq (faB 1 Z Z Tryz.underlying43 Z (by exact zqn))<|Es (sto 1 Z Z (fP (z3p _)) Z zqn)<|Zn<|z0v<|gSR<|Zq (ld 1 Z Z fH z8y Z)<|Zc [] [] Tryz.func106 Z (zg5 _) fun r2 n3=>Zb Z<|gSR<|Zm Z<|Zq (I.neq Z Z)<|Zj Z (fun h4=>?_) (fun h4=>?_)
 ·refine gSR<|Zm Z<|Za Z<|Zb Z<|z0o<|z0q<|zgb u8R 5 2<|Ze [(.slice none 0 0)] [2] Z
 ·refine Zt<|gSR<|Zq (faB 1 Z Z Tryz.underlying43 Z (by exact za8))<|Zq (ld 1 Z Z (fP (z16 _)) zeh Z)<|Zc [] [(100,3)] Tryz.func149 Z (zu8 _) fun r5 n6=>Zm Z<|Zq (ext Z Z)<|Zq (ext Z Z)<|Za Z<|Zb Z<|z0v<|gFrz 3 [23,5] Z (fS Z<|fS Z<|fN)<|gSub [(1,.val (z0j v1 0)),(5,.rd (z04 u8R) r5.1)] [(1,some (v1,.box 43 [.rd z05 ({ a0 with Sig:=(⟨0,0⟩:z0b) })]))] [1] (sS Z<|sS Z<|sN) (y1 Z)<|zez fun r7 h9=>zez fun r10 h12=>zez fun r13 h15=>gOr [] [⟨4,none,[(0,none)]⟩,⟨1,some ([], fun nv=>(v1,.box 43 [.rd z05 ({ a0 with Sig:=(⟨0,0⟩:z0b) })])),[]⟩,⟨5,none,[(4,none)]⟩,⟨6,none,[(8,none)]⟩,⟨7,none,[(12,none)]⟩,⟨8,none,[(13,none)]⟩,⟨9,none,[(14,some ([6], fun nv=>((nv 6),.list u8R 5 r13)))]⟩] [⟨some (25,[], fun nv=>.rd (z04 u8R) [111]),[(0,0,true)],[1],[]⟩,pk 26 (.val (z0j v1 (0+0))) [(1,0,false)],pk 27 (.rd z0x (({ a0 with Sig:=(⟨0,0⟩:z0b) }).Author)) [(1,0,false)],pd 28 (.rd z1p ((({ a0 with Sig:=(⟨0,0⟩:z0b) }).Author).toUInt64)),⟨some (29,[], fun nv=>.rd (z04 u8R) r7),[(2,0,true)],[2],[]⟩,pd 30 (.rd (z04 u8R) r5.1),pk 31 (.val (z0j v1 (0+2))) [(1,0,false)],pk 32 (.rd z1p (({ a0 with Sig:=(⟨0,0⟩:z0b) }).Stamp)) [(1,0,false)],⟨some (33,[], fun nv=>.rd (z04 u8R) r10),[(3,0,true)],[3],[]⟩,pk 34 (.val (z0j v1 (0+3))) [(1,0,false)],pk 35 (.val (z0j v1 (0+3+0))) [(1,0,false)],pk 36 (.rd u8R ((({ a0 with Sig:=(⟨0,0⟩:z0b) }).Act).Kind)) [(1,0,false)],⟨some (37,[], fun nv=>.rd (z04 u8R) [(({ a0 with Sig:=(⟨0,0⟩:z0b) }).Act).Kind]),[(4,0,true)],[4],[]⟩,⟨some (38,[], fun nv=>.rd (z04 (z04 u8R)) [[111],r7,r5.1,r10,[(({ a0 with Sig:=(⟨0,0⟩:z0b) }).Act).Kind]]),[(5,0,true)],[5],[]⟩,⟨some (39,[6], fun nv=>.val (nv 6)),[(6,0,true)],[6],[]⟩,⟨some (7,[6], fun nv=>.val (nv 6)),[],[],[]⟩] mixed (oC (oFz (A1:=fun nv=>[(4,some ((nv 1),.list u8R 5 [111]))]) 4 1 (oEf 4 1 (fun nv E=>lit (R:=u8R) ([111]:List UInt8) 4 (pP Z Z<|pN) Z tu52 ti5 Z Z)))<|oC (oRn (fun nv E=>faB 1 Z Z Tryz.underlying43 Z (by exact z64)))<|oC (oRn (fun nv E=>ld 1 Z Z (fP (z4k _)) z9r Z))<|oC (oRn (fun nv E=>W.toU Z tu34 tu35))<|oC (oFz (A1:=fun nv=>[(5,some ((nv 2),.list u8R 5 r7))]) 5 2 (oCl [2] [] [(100,5)] h9 Tryz.func57 Z (fun nv=>(z4b _)) (fun nv=>(Y1 Z)) (fun nv E=>rN)))<|oC (oRn (fun nv E=>mv Z))<|oC (oRn (fun nv E=>faB 1 Z Z Tryz.underlying43 Z (by exact zo8)))<|oC (oRn (fun nv E=>ld 1 Z Z (fP (z7s _)) ztl Z))<|oC (oFz (A1:=fun nv=>[(6,some ((nv 3),.list u8R 5 r10))]) 6 3 (oCl [3] [] [(100,6)] h12 Tryz.func57 Z (fun nv=>(z4b _)) (fun nv=>(Y1 Z)) (fun nv E=>rN)))<|oC (oRn (fun nv E=>faB 1 Z Z Tryz.underlying43 Z (by exact zgq)))<|oC (oRn (fun nv E=>faB 1 Z Z Tryz.underlying39 Z (by exact ti5)))<|oC (oRn (fun nv E=>ld 1 Z Z ((fP (z2s _)).part (z2d _)) ty5 Z))<|oC (oFz (A1:=fun nv=>[(7,some ((nv 4),.list u8R 5 [(({ a0 with Sig:=(⟨0,0⟩:z0b) }).Act).Kind]))]) 7 4 (oEf 7 4 (fun nv E=>lit (R:=u8R) ([(({ a0 with Sig:=(⟨0,0⟩:z0b) }).Act).Kind]:List UInt8) 7 (pP Z Z<|pN) Z tu52 ti5 Z Z)))<|oC (oFz (A1:=fun nv=>[(8,some ((nv 5),.list (z04 u8R) 52 [[111],r7,r5.1,r10,[(({ a0 with Sig:=(⟨0,0⟩:z0b) }).Act).Kind]]))]) 8 5 (oEf 8 5 (fun nv E=>lit (R:=(z04 u8R)) ([[111],r7,r5.1,r10,[(({ a0 with Sig:=(⟨0,0⟩:z0b) }).Act).Kind]]:List (List UInt8)) 8 (pP Z Z<|pP Z Z<|pP Z Z<|pP Z Z<|pP Z Z<|pN) Z tu193 zcr Z Z)))<|oC (oCl [6] [] [(100,9)] h15 Tryz.func108 Z (fun nv=>(z6v _)) (fun nv=>(Y1 Z)) (fun nv E=>rN))<|oC (oRn (fun nv E=>asg Z))<|oN) fun n16=>z0z<|z0v<|gSR<|Zq (faB 1 Z Z Tryz.underlying43 Z (by exact zgq))<|Zq (faB 1 Z Z Tryz.underlying39 Z (by exact ti5))<|Zq (ld 1 Z Z ((fP (z2s _)).part (z2d _)) ty5 Z)<|Zq (B.eql Z Z)<|Zj Z (fun h17=>?_) (fun h17=>?_)
  ·refine gSR<|Zm Z<|Za Z<|Zb Z<|z0o<|z0q<|Ze [(n16 6)] [9] Z
  ·refine Zt<|gSR<|Zq (faB 1 Z Z Tryz.underlying43 Z (by exact zgq))<|Zq (faB 1 Z Z Tryz.underlying39 Z (by exact ti9))<|Zq (ld 1 Z Z ((fP (z2s _)).part (z48 _)) ty9 Z)<|z0m fun u18 h19=>z13l Z Z h19 tu9 tu52 tu5<|Zc [] [(100,10)] Tryz.func59 Z (zfo _) fun r20 n21=>Zm Z<|Zq (ext Z Z)<|Zq (ext Z Z)<|Za Z<|Zb Z<|gSR<|Zm Z<|Zm Z<|z0m fun x22 h23=>Ef Z (apn 9 Z Z Z (.own 10 Z) h23 tu52 ti5 Z Z Z) fun v24=>Zb Z<|z0v<|gSR<|Zq (faB 1 Z Z Tryz.underlying43 Z (by exact zgq))<|Zq (faB 1 Z Z Tryz.underlying39 Z (by exact ti5))<|Zq (ld 1 Z Z ((fP (z2s _)).part (z2d _)) ty5 Z)<|Zq (B.eql Z Z)<|Zj Z (fun h25=>?_) (fun h25=>?_)
   ·refine gSR<|Zq (faB 1 Z Z Tryz.underlying43 Z (by exact zgq))<|Zq (faB 1 Z Z Tryz.underlying39 Z (by exact zcl))<|Zq (ld 1 Z Z ((fP (z2s _)).part (z3t _)) zki Z)<|Zc [] [(100,11)] Tryz.func150 Z (zmq _) fun r26 n27=>Zm Z<|Zq (ext Z Z)<|Zq (ext Z Z)<|Za Z<|Zb Z<|z20<|Zm Z<|Zm Z<|z0m fun x28 h29=>Ef Z (apn 9 Z Z Z (.own 11 Z) h29 tu52 ti5 Z Z Z) fun v30=>Zb Z<|gSR<|Zm Z<|Za Z<|Zb Z<|z0o<|Ze [v30] [9] Z
   ·refine Zt<|gSR<|Zm Z<|Za Z<|Zb Z<|z0o<|Ze [v24] [9] Z
def ze7 (a0:z03):Option ((List UInt8) × Int) :=
 zeq a0 >>= fun r2 =>
 if r2 != 0 then
  some ([],r2)
 else
  zfa a0 >>= fun r5 =>
  z4y a0.Sig.E.toUInt64 >>= fun r7 =>
  z4y a0.Sig.S.toUInt64 >>= fun r9 =>
  z2k [r5.1,r7,r9] >>= fun r12 =>
  some (r12,0)
theorem zlo (a0:z03):z2b Tryz.prog 58 [.rd z05 a0] [] (ze7 a0) (fun r nv=>⟨[.val (nv 0),.rd z0k r.2],[(100,some (nv 0,.list u8R 5 r.1))]⟩):=by
 refine z2n 30 Tryz.func58 Z Z Z fun H w=>?_;refine gSR<|Eb Z (bx 1 Z) fun v1=>Za Z<|Zb Z<|z0v<|gSR<|Zq (ld 1 Z Z fH z8y Z)<|Zc [] [] Tryz.func106 Z (zg5 _) fun r2 n3=>Zb Z<|gSR<|Zm Z<|Zq (I.neq Z Z)<|Zj Z (fun h4=>?_) (fun h4=>?_)
 ·refine gSR<|Zm Z<|Za Z<|Zb Z<|z0o<|z0q<|zgb u8R 5 2<|Ze [(.slice none 0 0)] [2] Z
 ·refine Zt<|gSR<|Zq (ld 1 Z Z fH z8y Z)<|Zc [] [(100,3)] Tryz.func107 Z (zji _) fun r5 n6=>Zm Z<|Zq (ext Z Z)<|Zq (ext Z Z)<|Za Z<|Zb Z<|z0v<|z8g [19,34,37,40] mixed Z Z<|hTk 0 Z Z (mv Z)<|hTk 1 Z Z (faB 1 Z Z Tryz.underlying43 Z (by exact zqn))<|hTk 2 Z Z (faB 1 Z Z Tryz.underlying41 Z (by exact z64))<|hTk 3 Z Z (ld 1 Z Z ((fP (z3p _)).part (z4l _)) z9r Z)<|hTk 4 Z Z (W.toU Z tu34 tu35)<|hTk 6 Z Z (faB 1 Z Z Tryz.underlying43 Z (by exact zqn))<|hTk 7 Z Z (faB 1 Z Z Tryz.underlying41 Z (by exact z64))<|hTk 8 Z Z (ld 1 Z Z ((fP (z3p _)).part (z61 _)) z9r Z)<|hTk 9 Z Z (W.toU Z tu34 tu35)<|z54 5 [] [(100,19)] Z (by kernel_rfl) Z (gd0 Z) Z Tryz.func57 Z Z (z4b _) (Y1 Z) rN Z (fun _ _=>z36) fun r7 n8=>z54 10 [] [(100,34)] Z (by kernel_rfl) Z (gd0 Z) Z Tryz.func57 Z Z (z4b _) (Y1 Z) rN Z (fun _ _=>z36) fun r9 n10=>zyi 3 [15,5,17] Z (fS Z<|fS Z<|fS Z<|fN)<|zyi 19 [22] Z (fS Z<|fN)<|zyi 34 [27] Z (fS Z<|fN)<|Zo 11 Z Z Z (lit (R:=(z04 u8R)) ([r5.1,r7,r9]:List (List UInt8)) 37 (pP Z Z<|pP Z Z<|pP Z Z<|pN) Z tu193 zcr Z Z) fun v11=>zyi 37 [28] Z (fS Z<|fN)<|z54 12 [] [(100,40)] Z (by kernel_rfl) Z (gd0 Z) Z Tryz.func108 Z Z (z6v _) (Y1 Z) rN Z (fun _ _=>z36) fun r12 n13=>Zf 13 Z Z z36 (asg Z)<|hTk 14 Z Z (asg Z)<|z4t (by kernel_rfl)<|z0z<|z0o<|Ze [(n13 0)] [40] Z
def ze5 (a0:List UInt8):Option (Bool) :=
 some (decide (10000<(a0.length:Int))) >>= fun y1 =>
 some y1
theorem zkh (a0:List UInt8):z2b Tryz.prog 196 [.rd (z04 u8R) a0] [] (ze5 a0) (fun r nv=>⟨[.rd z0l r],[]⟩):=by
 refine z2n 6 Tryz.func196 Z Z Z fun H w=>?_;refine gSR<|Zb Z<|gSR<|Zm Z<|Zq (z2v Z .rd Z tu52)<|Zq (I.gtr Z Z)<|Za Z<|z1o 2 Z fun y1=>Zn<|z0o<|Ze [] [] Z
def zev  : Option (z2t) :=
 some (⟨(#v[1779033703,3144134277,1013904242,2773480762,1359893119,2600822924,528734635,1541459225]:Vector UInt32 8),[],0⟩:z2t)
theorem zn7  : z2b Tryz.prog 197 [] [] (zev) (fun r nv=>⟨[.rd z34 r],[]⟩):=by
 refine z2n 3 Tryz.func197 Z Z Z fun H w=>?_;refine gSR<|Eb Z (zad 1 zo9 (ZrE.rd (R:=(z43 8 z0x)) (x:=(Vector.replicate 8 0)) zrr (ZrE.nilS (ZrE.rd (R:=z0k) (x:=0) (Zr.num Z) ZrE.nil Z)) Z)) fun v1=>Zn<|gSR<|Zq (litA (R:=z0x) [1779033703,3144134277,1013904242,2773480762,1359893119,2600822924,528734635,1541459225] (#v[1779033703,3144134277,1013904242,2773480762,1359893119,2600822924,528734635,1541459225]:Vector UInt32 8) (pP Z Z<|pP Z Z<|pP Z Z<|pP Z Z<|pP Z Z<|pP Z Z<|pP Z Z<|pP Z Z<|pN) Z tu149 zi9 Z z64)<|Zq (bldE [(0,8),(8,1),(9,1)] Tryz.underlying243 zo9 (ZrE.rd (R:=(z43 8 z0x)) (x:=(Vector.replicate 8 0)) zrr (ZrE.nilS (ZrE.rd (R:=z0k) (x:=0) (Zr.num Z) ZrE.nil Z)) Z) Z (zmf.cons Z Z z00 (z6z.cast (z6z.here z00) Z)<|zmf.done Z))<|Es (zqo 1 Z Z (z02.cast (z02.cons z00 (z02.cons z0c (z02.cons z00 z02.nil))) Z) Z (z0i.cons z06 (z0i.cons z1d (z0i.cons z06 z0i.nil))) (z02.cast (z02.cons z00 (z02.cons z0c (z02.cons z00 z02.nil))) Z) zo9)<|Zn<|z0o<|ePnl u8R [.rd (z43 8 z0x) (#v[1779033703,3144134277,1013904242,2773480762,1359893119,2600822924,528734635,1541459225]:Vector UInt32 8),.rd (z04 u8R) [],.rd z0k 0] 1 [.rd (z43 8 z0x) (#v[1779033703,3144134277,1013904242,2773480762,1359893119,2600822924,528734635,1541459225]:Vector UInt32 8)] [.rd z0k 0] Z Z Z<|eJoi (R:=z34) (⟨(#v[1779033703,3144134277,1013904242,2773480762,1359893119,2600822924,528734635,1541459225]:Vector UInt32 8),[],0⟩:z2t) 1 Z (Sp.via (Sp.prod (Sp.prod (Sp.prod Sp.unit))))<|zb3 [] [] Z (eC 1 Z Z zs9<|eN) (rN)
def z27 (a0:UInt32) (a1:Int):Option (UInt32) :=
 some ((UInt64.ofInt a1) &&& 31) >>= fun y1 =>
 some ((zqp a0 y1.toNat) ||| (z57 a0 ((32 - y1).toNat))) >>= fun y2 =>
 some y2
theorem z2o (a0:UInt32) (a1:Int):z2b Tryz.prog 238 [.rd z0x a0,.rd z0k a1] [] (z27 a0 a1) (fun r nv=>⟨[.rd z0x r],[]⟩):=by
 refine z2n 17 Tryz.func238 Z Z Z fun H w=>?_;refine gSR<|Zb Z<|gSR<|Zm Z<|Zq (I.toU Z tu3 Tryz.underlying143)<|Zq (U.and Z Z)<|Za Z<|z1o 5 Z fun y1=>Zn<|gSR<|Zm Z<|Zm Z<|Zq (W.shl Z Z (Int.natCast_nonneg _))<|Zm Z<|Zm Z<|Zq (U.sub Z Z)<|Zq (W.shr Z Z (Int.natCast_nonneg _))<|Zq (W.or Z Z)<|Za Z<|z1o 4 Z fun y2=>Zn<|z0o<|Ze [] [] Z
def z7b (x3:List UInt8) (s5:(Vector UInt32 64) × Int):Option (Sum ((Vector UInt32 64)) ((Vector UInt32 64) × Int)) :=
 if decide (s5.2<(x3.length:Int)) then
  idx x3 s5.2 >>= fun x7 =>
  z7z s5.1 (w64 (Int.tdiv s5.2 4)) >>= fun x9 =>
  z7z s5.1 (w64 (Int.tdiv s5.2 4)) >>= fun x11 =>
  some (.inr (zi0 s5.1 (w64 (Int.tdiv s5.2 4)) ((zqp x9 8) ||| x7.toUInt32),w64 (s5.2+1)))
 else
  some (.inl s5.1)
def z5l (s14:(Vector UInt32 64) × Int):Option (Sum ((Vector UInt32 64)) ((Vector UInt32 64) × Int)) :=
 if decide (s14.2<64) then
  z7z s14.1 (w64 (s14.2 - 15)) >>= fun x16 =>
  z7z s14.1 (w64 (s14.2 - 2)) >>= fun x18 =>
  z27 x16 (-7) >>= fun r20 =>
  z27 x16 (-18) >>= fun r22 =>
  some ((r20 ^^^ r22) ^^^ (z57 x16 3)) >>= fun y24 =>
  z27 x18 (-17) >>= fun r25 =>
  z27 x18 (-19) >>= fun r27 =>
  some ((r25 ^^^ r27) ^^^ (z57 x18 10)) >>= fun y29 =>
  z7z s14.1 (w64 (s14.2 - 16)) >>= fun x30 =>
  z7z s14.1 (w64 (s14.2 - 7)) >>= fun x32 =>
  z7z s14.1 s14.2 >>= fun x34 =>
  some (w64 (s14.2+1)) >>= fun y37 =>
  some (.inr (zi0 s14.1 s14.2 (((x30+x32)+y24)+y29),y37))
 else
  some (.inl s14.1)
def ze8 (a0:List UInt8):Option ((Vector UInt32 64)) :=
 (cut a0 0 64 >>= fun x3 =>
 iter (z7b x3) ((Vector.replicate 64 0),0)) >>= fun s2 =>
 (iter (z5l) (s2,16)) >>= fun s13 =>
 some s13
set_option maxHeartbeats 4000000 in
theorem zjd (a0:List UInt8):z2b Tryz.prog 235 [.rd (z04 u8R) a0] [] (ze8 a0) (fun r nv=>⟨[.rd (z43 64 z0x) r],[]⟩):=by
 refine z2n 74 Tryz.func235 Z Z Z fun H w=>?_;refine gSR<|Eb Z (zad 1 z11h (.zr (R:=(z43 64 z0x)) (x:=(Vector.replicate 64 0)) z186)) fun v1=>Zn<|z68 (fun (s2:(Vector UInt32 64)) aa ww=>Sta (ctx 74 H [] w) [(2,.val (z0j v1 0))] [(1,some (v1,.box 279 [.rd (z43 64 z0x) s2]))] aa ww) ?_ (fun s2=>?_)
 ·refine gSR<|Zm Z<|z0m fun x3 h4=>Zq (zll Z .no (.to Z) h4 tu52 ti5)<|Zq (z2v Z .rd Z tu52)<|Zm Z<|Zn<|z2a (fun (s5:(Vector UInt32 64) × Int) aa ww=>Sta (ctx 74 H [] w) [(2,.val (z0j v1 0)),(11,.rd (z04 u8R) x3),(12,.rd z0k (x3.length:Int)),(13,.rd z0k s5.2)] [(1,some (v1,.box 279 [.rd (z43 64 z0x) s5.1]))] aa ww) (fun aa ww h=>Zu h [1]) (fun s5=>?_);refine gSR<|Zq (I.lss Z Z)<|Zn<|z0v<|gIf Z Z (fun h6=>?_) (fun h6=>?_)
  ·refine Zt<|z0v<|z5b<|gSR<|Zm Z<|z0m fun x7 h8=>Zq (ixR Z Z h8 tu52 ti5 Z)<|Zq (ldR Z ty5)<|Za Z<|Zb Z<|z20<|Zm Z<|Zq (I.quo Z Z (by decide))<|Zm Z<|Zq (I.quo Z Z (by decide))<|z0m fun x9 h10=>Zq (ixB 1 Z Z Z h10 Tryz.underlying279 z64)<|Zq (ld 1 Z Z (fP (.el h10)) z9r Z)<|Zq (W.shl Z Z (Int.natCast_nonneg _))<|Zm Z<|Zq (B.toW Z tu5 tu34)<|Zq (W.or Z Z)<|z0m fun x11 h12=>Zq (ixB 1 Z Z Z h12 Tryz.underlying279 z64)<|Es (sto 1 Z Z (fP (.el h12)) Z z64)<|z1g<|z3f<|z0z<|z20<|Zq (I.add Z Z)<|Zm Z<|z1g<|z1q (fun aa ww h=>Zu h [1])
  ·refine z21<|z15<|z17<|z2q (fun aa ww h=>Zu h [1])
 ·refine z68 (fun (s13:(Vector UInt32 64)) aa ww=>Sta (ctx 74 H [] w) [(2,.val (z0j v1 0))] [(1,some (v1,.box 279 [.rd (z43 64 z0x) s13]))] aa ww) ?_ (fun s13=>?_)
  ·refine gSR<|Zb Z<|z2a (fun (s14:(Vector UInt32 64) × Int) aa ww=>Sta (ctx 74 H [] w) [(2,.val (z0j v1 0)),(5,.rd z0k s14.2)] [(1,some (v1,.box 279 [.rd (z43 64 z0x) s14.1]))] aa ww) (fun aa ww h=>Zu h [1]) (fun s14=>?_);refine z0v<|gSR<|Zm Z<|Zq (I.lss Z Z)<|Zj Z (fun h15=>?_) (fun h15=>?_)
   ·refine Zt<|z0v<|z5b<|z0v<|zi5 mixed (by kernel_rfl)<|Rq Z (mv Z)<|Rq Z (I.sub Z Z)<|z80 fun x16 h17=>Rq Z (ixB 1 Z Z Z h17 Tryz.underlying279 z64)<|Rq Z (ld 1 Z Z (fP (.el h17)) z9r Z)<|Rq Z (mv Z)<|Rq Z (I.sub Z Z)<|z80 fun x18 h19=>Rq Z (ixB 1 Z Z Z h19 Tryz.underlying279 z64)<|Rq Z (ld 1 Z Z (fP (.el h19)) z9r Z)<|Rq Z (asg Z)<|Rq Z (asg Z)<|ztj<|z0z<|gSR<|Zm Z<|Zc [] [] Tryz.func238 Z (z2o _ _) fun r20 n21=>Zm Z<|Zc [] [] Tryz.func238 Z (z2o _ _) fun r22 n23=>Zq (W.xor Z Z)<|Zm Z<|Zq (W.shr Z Z (Int.natCast_nonneg _))<|Zq (W.xor Z Z)<|Za Z<|z1o 8 Z fun y24=>Zn<|gSR<|Zm Z<|Zc [] [] Tryz.func238 Z (z2o _ _) fun r25 n26=>Zm Z<|Zc [] [] Tryz.func238 Z (z2o _ _) fun r27 n28=>Zq (W.xor Z Z)<|Zm Z<|Zq (W.shr Z Z (Int.natCast_nonneg _))<|Zq (W.xor Z Z)<|Za Z<|z1o 9 Z fun y29=>Zn<|gSub [(2,.val (z0j v1 0)),(5,.rd z0k s14.2),(8,.rd z0x y24),(9,.rd z0x y29)] [(1,some (v1,.box 279 [.rd (z43 64 z0x) s14.1]))] [1] (Zs Z Z Z Z<|sN) (y1 Z)<|zez fun x30 h31=>zez fun x32 h33=>zez fun x34 h35=>gOr [] [⟨1,some ([], fun nv=>(v1,.box 279 [.rd (z43 64 z0x) s14.1])),[(15,some ([], fun nv=>(v1,.box 279 [.rd (z43 64 z0x) (zi0 s14.1 s14.2 (((x30+x32)+y24)+y29))])))]⟩] [pd 58 (.rd z0k s14.2),pd 59 (.rd z0k s14.2),pd 60 (.rd z0k (w64 (s14.2 - 16))),pk 61 (.val (z0j v1 (0+(w64 (s14.2 - 16):Int).toNat * 1))) [(0,0,false)],pk 62 (.rd z0x x30) [(0,0,false)],pd 63 (.rd z0k s14.2),pd 64 (.rd z0k (w64 (s14.2 - 7))),pk 65 (.val (z0j v1 (0+(w64 (s14.2 - 7):Int).toNat * 1))) [(0,0,false)],pk 66 (.rd z0x x32) [(0,0,false)],pd 67 (.rd z0x (x30+x32)),pd 68 (.rd z0x y24),pd 69 (.rd z0x ((x30+x32)+y24)),pd 70 (.rd z0x y29),pd 71 (.rd z0x (((x30+x32)+y24)+y29)),pk 72 (.val (z0j v1 (0+(s14.2:Int).toNat * 1))) [(0,0,false)],⟨none,[(0,0,true)],[],[]⟩] mixed (oC (oRn (fun nv E=>mv Z))<|oC (oRn (fun nv E=>mv Z))<|oC (oRn (fun nv E=>I.sub Z Z))<|oC (oRn (fun nv E=>ixB 1 Z Z Z h31 Tryz.underlying279 z64))<|oC (oRn (fun nv E=>ld 1 Z Z (fP (.el h31)) z9r Z))<|oC (oRn (fun nv E=>mv Z))<|oC (oRn (fun nv E=>I.sub Z Z))<|oC (oRn (fun nv E=>ixB 1 Z Z Z h33 Tryz.underlying279 z64))<|oC (oRn (fun nv E=>ld 1 Z Z (fP (.el h33)) z9r Z))<|oC (oRn (fun nv E=>W.add Z Z))<|oC (oRn (fun nv E=>mv Z))<|oC (oRn (fun nv E=>W.add Z Z))<|oC (oRn (fun nv E=>mv Z))<|oC (oRn (fun nv E=>W.add Z Z))<|oC (oRn (fun nv E=>ixB 1 Z Z Z h35 Tryz.underlying279 z64))<|oC (oEs 1 (fun nv E=>sto 1 Z Z (fP (.el h35)) Z z64))<|oN) fun n36=>z3f<|z0z<|z20<|Zm Z<|Zq (I.add Z Z)<|Za Z<|z1o 5 Z fun y37=>z1g<|z1q (fun aa ww h=>Zu h [1])
   ·refine z21<|z15<|z17<|z2q (fun aa ww h=>Zu h [1])
  ·refine gSR<|Zq (ld 1 Z Z fH z18f Z)<|Es (sto 1 Z Z fH Z z11h)<|Zn<|z0o<|zb3 [] [] Z (eC 1 Z Z z18f<|eN) (rN)
def zfd (a0:UInt32) (a1:Int) (a2:Int) (a3:Int):Option (UInt32) :=
 z27 a0 (w64 (0 - a1)) >>= fun r1 =>
 z27 a0 (w64 (0 - a2)) >>= fun r3 =>
 z27 a0 (w64 (0 - a3)) >>= fun r5 =>
 some ((r1 ^^^ r3) ^^^ r5) >>= fun y7 =>
 some y7
theorem zkg (a0:UInt32) (a1:Int) (a2:Int) (a3:Int):z2b Tryz.prog 236 [.rd z0x a0,.rd z0k a1,.rd z0k a2,.rd z0k a3] [] (zfd a0 a1 a2 a3) (fun r nv=>⟨[.rd z0x r],[]⟩):=by
 refine z2n 23 Tryz.func236 Z Z Z fun H w=>?_;refine gSR<|Zb Z<|gSR<|Zm Z<|Zm Z<|Zq (I.neg Z)<|Zc [] [] Tryz.func238 Z (z2o _ _) fun r1 n2=>Zm Z<|Zm Z<|Zq (I.neg Z)<|Zc [] [] Tryz.func238 Z (z2o _ _) fun r3 n4=>Zq (W.xor Z Z)<|Zm Z<|Zm Z<|Zq (I.neg Z)<|Zc [] [] Tryz.func238 Z (z2o _ _) fun r5 n6=>Zq (W.xor Z Z)<|Za Z<|z1o 8 Z fun y7=>Zn<|z0o<|Ze [] [] Z
def z8x (a0:List UInt8):Option ((List UInt8)) :=
 app 1 ([]:List UInt8) a0 >>= fun x3 =>
 some x3
theorem zak (a0:List UInt8):z2b Tryz.prog 225 [.rd (z04 u8R) a0] [] (z8x a0) (fun r nv=>⟨[.val (nv 0)],[(100,some (nv 0,.list u8R 5 r))]⟩):=by
 refine z2n 8 Tryz.func225 Z Z Z fun H w=>?_;refine gSR<|Zb Z<|z0v<|gSR<|Zm Z<|z11w Z Z .rd Z tu52 (fun h1=>?_) ?_
 ·subst h1;refine Zn<|zc7 Z<|gSR<|Zb Z<|z0o<|z0q<|zgb u8R 5 1<|Ze [(.slice none 0 0)] [1] Z
 ·refine Zn<|zbu Z<|Zt<|gSR<|Ef Z (lit (R:=u8R) (([]:List UInt8):List UInt8) 2 (pN) Z tu52 ti5 Z Z) fun v2=>Zm Z<|z0m fun x3 h4=>Ef Z (apn 2 Z Z Z .rd h4 tu52 ti5 Z Z Z) fun v5=>Zb Z<|z0o<|Ze [v5] [2] Z
def z6b (r1:(Vector UInt32 64)) (s21:UInt32 × UInt32 × UInt32 × UInt32 × UInt32 × UInt32 × UInt32 × UInt32 × Int):Option (Sum (UInt32 × UInt32 × UInt32 × UInt32 × UInt32 × UInt32 × UInt32 × UInt32) (UInt32 × UInt32 × UInt32 × UInt32 × UInt32 × UInt32 × UInt32 × UInt32 × Int)) :=
 if decide (s21.2.2.2.2.2.2.2.2<64) then
  z7z zah s21.2.2.2.2.2.2.2.2 >>= fun x23 =>
  z7z r1 s21.2.2.2.2.2.2.2.2 >>= fun x25 =>
  zfd s21.2.2.2.2.1 6 11 25 >>= fun r27 =>
  some ((((s21.2.2.2.2.2.2.2.1+r27)+((s21.2.2.2.2.1 &&& s21.2.2.2.2.2.1) ^^^ ((~~~s21.2.2.2.2.1) &&& s21.2.2.2.2.2.2.1)))+x23)+x25) >>= fun y29 =>
  zfd s21.1 2 13 22 >>= fun r30 =>
  some (r30+(((s21.1 &&& s21.2.1) ^^^ (s21.1 &&& s21.2.2.1)) ^^^ (s21.2.1 &&& s21.2.2.1))) >>= fun y32 =>
  some (s21.2.2.2.1+y29) >>= fun y33 =>
  some (.inr (y29+y32,s21.1,s21.2.1,s21.2.2.1,y33,s21.2.2.2.2.1,s21.2.2.2.2.2.1,s21.2.2.2.2.2.2.1,w64 (s21.2.2.2.2.2.2.2.2+1)))
 else
  some (.inl (s21.1,s21.2.1,s21.2.2.1,s21.2.2.2.1,s21.2.2.2.2.1,s21.2.2.2.2.2.1,s21.2.2.2.2.2.2.1,s21.2.2.2.2.2.2.2.1))
def zec (s20:UInt32 × UInt32 × UInt32 × UInt32 × UInt32 × UInt32 × UInt32 × UInt32) (s34:(Vector UInt32 8) × Int):Option (Sum ((Vector UInt32 8)) ((Vector UInt32 8) × Int)) :=
 if decide (s34.2<8) then
  z7z (#v[s20.1,s20.2.1,s20.2.2.1,s20.2.2.2.1,s20.2.2.2.2.1,s20.2.2.2.2.2.1,s20.2.2.2.2.2.2.1,s20.2.2.2.2.2.2.2]:Vector UInt32 8) s34.2 >>= fun x36 =>
  z7z s34.1 s34.2 >>= fun x38 =>
  z7z s34.1 s34.2 >>= fun x40 =>
  some (.inr (zi0 s34.1 s34.2 (x38+x36),w64 (s34.2+1)))
 else
  some (.inl s34.1)
def zek (c0:Vector UInt32 8) (a1:List UInt8):Option ((Vector UInt32 8)) :=
 ze8 a1 >>= fun r1 =>
 z7z c0 0 >>= fun x4 =>
 z7z c0 1 >>= fun x6 =>
 z7z c0 2 >>= fun x8 =>
 z7z c0 3 >>= fun x10 =>
 z7z c0 4 >>= fun x12 =>
 z7z c0 5 >>= fun x14 =>
 z7z c0 6 >>= fun x16 =>
 z7z c0 7 >>= fun x18 =>
 (iter (z6b r1) (x4,x6,x8,x10,x12,x14,x16,x18,0)) >>= fun s20 =>
 iter (zec s20) (c0,0)
theorem zmo (ph0:Value) (kh0:Nat) (uh0:(Vector UInt32 8)→z4j) (hh0:∀ y,Foc (uh0 y) kh0 (z43 8 z0x) y uh0) (c0:Vector UInt32 8) (a1:List UInt8):z2b Tryz.prog 224 [.val (z0j ph0 kh0),.rd (z04 u8R) a1] [(1,some (ph0,uh0 c0)),zG1] (zek c0 a1) (fun r nv=>⟨[],[(1,some (ph0,uh0 r)),(1001,some (.bool true,.glob 1 (z43 64 z0x) zah))]⟩):=by
 refine z2n 126 Tryz.func224 Z Z Z fun H w=>?_;refine gSR<|Zm Z<|Zc [] [] Tryz.func235 Z (zjd _) fun r1 n2=>Eb Z (zad 2 z11h (.zr (R:=(z43 64 z0x)) (x:=(Vector.replicate 64 0)) z186)) fun v3=>Es (sto 2 Z Z fH Z z11h)<|Zn<|z0v<|zi5 mixed (by kernel_rfl)<|Rq Z (mv Z)<|Rq Z (zef 1 Z Z (hh0 _))<|z80 fun x4 h5=>Rq Z (ixH 1 Z Z (hh0 _) Z h5 tu149 z64)<|Rq Z (ld 1 Z Z ((hh0 _).part (.el h5)) z9r Z)<|Rq Z (mv Z)<|Rq Z (zef 1 Z Z (hh0 _))<|z80 fun x6 h7=>Rq Z (ixH 1 Z Z (hh0 _) Z h7 tu149 z64)<|Rq Z (ld 1 Z Z ((hh0 _).part (.el h7)) z9r Z)<|Rq Z (mv Z)<|Rq Z (zef 1 Z Z (hh0 _))<|z80 fun x8 h9=>Rq Z (ixH 1 Z Z (hh0 _) Z h9 tu149 z64)<|Rq Z (ld 1 Z Z ((hh0 _).part (.el h9)) z9r Z)<|Rq Z (mv Z)<|Rq Z (zef 1 Z Z (hh0 _))<|z80 fun x10 h11=>Rq Z (ixH 1 Z Z (hh0 _) Z h11 tu149 z64)<|Rq Z (ld 1 Z Z ((hh0 _).part (.el h11)) z9r Z)<|Rq Z (mv Z)<|Rq Z (zef 1 Z Z (hh0 _))<|z80 fun x12 h13=>Rq Z (ixH 1 Z Z (hh0 _) Z h13 tu149 z64)<|Rq Z (ld 1 Z Z ((hh0 _).part (.el h13)) z9r Z)<|Rq Z (mv Z)<|Rq Z (zef 1 Z Z (hh0 _))<|z80 fun x14 h15=>Rq Z (ixH 1 Z Z (hh0 _) Z h15 tu149 z64)<|Rq Z (ld 1 Z Z ((hh0 _).part (.el h15)) z9r Z)<|Rq Z (mv Z)<|Rq Z (zef 1 Z Z (hh0 _))<|z80 fun x16 h17=>Rq Z (ixH 1 Z Z (hh0 _) Z h17 tu149 z64)<|Rq Z (ld 1 Z Z ((hh0 _).part (.el h17)) z9r Z)<|Rq Z (mv Z)<|Rq Z (zef 1 Z Z (hh0 _))<|z80 fun x18 h19=>Rq Z (ixH 1 Z Z (hh0 _) Z h19 tu149 z64)<|Rq Z (ld 1 Z Z ((hh0 _).part (.el h19)) z9r Z)<|Rq Z (asg Z)<|Rq Z (asg Z)<|Rq Z (asg Z)<|Rq Z (asg Z)<|Rq Z (asg Z)<|Rq Z (asg Z)<|Rq Z (asg Z)<|Rq Z (asg Z)<|ztj<|z0z<|z68 (fun (s20:UInt32 × UInt32 × UInt32 × UInt32 × UInt32 × UInt32 × UInt32 × UInt32) aa ww=>Sta (ctx 126 H [(1,some (ph0,uh0 c0)),zG1] w) [(0,.val (z0j ph0 kh0)),(5,.rd z0x s20.1),(6,.rd z0x s20.2.1),(7,.rd z0x s20.2.2.1),(8,.rd z0x s20.2.2.2.1),(9,.rd z0x s20.2.2.2.2.1),(10,.rd z0x s20.2.2.2.2.2.1),(11,.rd z0x s20.2.2.2.2.2.2.1),(12,.rd z0x s20.2.2.2.2.2.2.2)] [(1,some (ph0,uh0 c0)),zG1] aa ww) ?_ (fun s20=>?_)
 ·refine gSR<|Zm Z<|Zn<|z2a (fun (s21:UInt32 × UInt32 × UInt32 × UInt32 × UInt32 × UInt32 × UInt32 × UInt32 × Int) aa ww=>Sta (ctx 126 H [(1,some (ph0,uh0 c0)),zG1] w) [(0,.val (z0j ph0 kh0)),(4,.val (z0j v3 0)),(5,.rd z0x s21.1),(6,.rd z0x s21.2.1),(7,.rd z0x s21.2.2.1),(8,.rd z0x s21.2.2.2.1),(9,.rd z0x s21.2.2.2.2.1),(10,.rd z0x s21.2.2.2.2.2.1),(11,.rd z0x s21.2.2.2.2.2.2.1),(12,.rd z0x s21.2.2.2.2.2.2.2.1),(52,.rd z0k s21.2.2.2.2.2.2.2.2)] [(1,some (ph0,uh0 c0)),(2,some (v3,.box 279 [.rd (z43 64 z0x) r1])),zG1] aa ww) (fun aa ww h=>Zu h [1,2,1001]) (fun s21=>?_)
  refine gSR<|Zq (I.lss Z Z)<|Zn<|z0v<|gIf Z Z (fun h22=>?_) (fun h22=>?_)
  ·refine Zt<|z0v<|z5b<|gSR<|Zm Z<|Zb Z<|z0v<|z8g [] mixed Z Z<|hTk 0 Z Z (mv Z)<|hTk 1 Z Z (mv Z)<|hTk 4 Z Z (mv Z)<|hTk 5 Z Z (mv Z)<|hTk 6 Z Z (W.and Z Z)<|hTk 7 Z Z (mv Z)<|hTk 8 Z Z (W.cpl Z)<|hTk 9 Z Z (mv Z)<|hTk 10 Z Z (W.and Z Z)<|hTk 11 Z Z (W.xor Z Z)<|hTk 13 Z Z (mv Z)<|z3s fun x23 h24=>hTk 14 Z Z (ixG 1001 Z Z h24 Tryz.underlying279 z64)<|hTk 15 Z Z (ldR Z z9r)<|hTk 17 Z Z (mv Z)<|z3s fun x25 h26=>hTk 18 Z Z (ixB 2 Z Z Z h26 Tryz.underlying279 z64)<|hTk 19 Z Z (ld 2 Z Z (fP (.el h26)) z9r Z)<|z54 2 [] [] Z (by kernel_rfl) Z (gd0 Z) Z Tryz.func236 Z Z (zkg _ _ _ _) (aQ Z<|aQ Z<|aQ Z<|aQ Z<|aN) rN Z (fun _ _=>z3g) fun r27 n28=>hTk 3 Z Z (W.add Z Z)<|hTk 12 Z Z (W.add Z Z)<|hTk 16 Z Z (W.add Z Z)<|hTk 20 Z Z (W.add Z Z)<|hTk 21 Z Z (asg Z)<|z13e 14 Z Z fun y29=>z4t (by kernel_rfl)<|z0z<|gSR<|Zm Z<|Zc [] [] Tryz.func236 Z (zkg _ _ _ _) fun r30 n31=>Zm Z<|Zm Z<|Zq (W.and Z Z)<|Zm Z<|Zm Z<|Zq (W.and Z Z)<|Zq (W.xor Z Z)<|Zm Z<|Zm Z<|Zq (W.and Z Z)<|Zq (W.xor Z Z)<|Zq (W.add Z Z)<|Za Z<|z1o 15 Z fun y32=>Zn<|z20<|Zm Z<|Zm Z<|Zq (W.add Z Z)<|Zm Z<|Zm Z<|Zm Z<|Zm Z<|Zm Z<|Zq (W.add Z Z)<|Zm Z<|Zm Z<|Zm Z<|Za Z<|Za Z<|Za Z<|Za Z<|Za Z<|z1o 9 Z fun y33=>Za Z<|Za Z<|Za Z<|z1g<|z3f<|z0z<|z20<|Zq (I.add Z Z)<|Zm Z<|z1g<|z1q (fun aa ww h=>Zu h [1,2,1001])
  ·refine z21<|z15<|z17<|z2q (fun aa ww h=>Zu h [1,1001])
 ·refine gSR<|Zm Z<|Zm Z<|Zm Z<|Zm Z<|Zm Z<|Zm Z<|Zm Z<|Zm Z<|Zq (litA (R:=z0x) [s20.1,s20.2.1,s20.2.2.1,s20.2.2.2.1,s20.2.2.2.2.1,s20.2.2.2.2.2.1,s20.2.2.2.2.2.2.1,s20.2.2.2.2.2.2.2] (#v[s20.1,s20.2.1,s20.2.2.1,s20.2.2.2.1,s20.2.2.2.2.1,s20.2.2.2.2.2.1,s20.2.2.2.2.2.2.1,s20.2.2.2.2.2.2.2]:Vector UInt32 8) (pP Z Z<|pP Z Z<|pP Z Z<|pP Z Z<|pP Z Z<|pP Z Z<|pP Z Z<|pP Z Z<|pN) Z tu149 zi9 Z z64)<|Zm Z<|Zn<|z2a (fun (s34:(Vector UInt32 8) × Int) aa ww=>Sta (ctx 126 H [(1,some (ph0,uh0 c0)),zG1] w) [(0,.val (z0j ph0 kh0)),(111,.rd (z43 8 z0x) (#v[s20.1,s20.2.1,s20.2.2.1,s20.2.2.2.1,s20.2.2.2.2.1,s20.2.2.2.2.2.1,s20.2.2.2.2.2.2.1,s20.2.2.2.2.2.2.2]:Vector UInt32 8)),(112,.rd z0k s34.2)] [(1,some (ph0,uh0 s34.1)),zG1] aa ww) (fun aa ww h=>Zu h [1,1001]) (fun s34=>?_)
  refine gSR<|Zq (I.lss Z Z)<|Zn<|z0v<|gIf Z Z (fun h35=>?_) (fun h35=>?_)
  ·refine Zt<|z0v<|z5b<|gSR<|Zm Z<|z0m fun x36 h37=>Zq (idxV Z Z h37 tu149 z64 z9r)<|Za Z<|Zb Z<|z8g [1] mixed Z Z<|hTk 0 Z Z (mv Z)<|hTk 1 Z Z (mv Z)<|hTk 2 Z Z (zef 1 Z Z (hh0 _))<|z3s fun x38 h39=>hTk 3 Z Z (ixH 1 Z Z (hh0 _) Z h39 tu149 z64)<|hTk 5 Z Z (mv Z)<|hTk 7 Z Z (zef 1 Z Z (hh0 _))<|zxz 4 Z (by kernel_rfl) (gd0 Z) Z Z z3g (ld 1 Z Z ((hh0 _).part (.el h39)) z9r Z)<|hTk 6 Z Z (W.add Z Z)<|z3s fun x40 h41=>hTk 8 Z Z (ixH 1 Z Z (hh0 _) Z h41 tu149 z64)<|Zp 9 Z Z Z Z Z (sto 1 Z Z ((hh0 _).part (.el h41)) Z z64)<|z4t (by kernel_rfl)<|z3f<|z0z<|z20<|Zq (I.add Z Z)<|Zm Z<|z1g<|z1q (fun aa ww h=>Zu h [1,1001])
  ·refine z21<|z15<|z17<|Ze [] [1,1001] Z
def zao (s7:z2t × (List UInt8)):Option (Sum (z2t × (List UInt8)) (z2t × (List UInt8))) :=
 if decide (64≤(s7.2.length:Int)) then
  zek s7.1.Words s7.2 >>= fun r10 =>
  cut s7.2 64 (s7.2.length:Int) >>= fun x12 =>
  some (.inr ({ s7.1 with Words:=r10 },x12))
 else
  some (.inl (s7.1,s7.2))
def zcj (a0:z2t) (a1:List UInt8):Option (z2t) :=
 z2k [a0.Rest,a1] >>= fun r4 =>
 (iter (zao) (a0,r4)) >>= fun s6 =>
 z8x s6.2 >>= fun r14 =>
 some (⟨({ s6.1 with N:=w64 (s6.1.N+(a1.length:Int)) }).Words,r14,({ s6.1 with N:=w64 (s6.1.N+(a1.length:Int)) }).N⟩:z2t)
theorem zik (a0:z2t) (a1:List UInt8):z2b Tryz.prog 198 [.rd z34 a0,.rd (z04 u8R) a1] [zG1] (zcj a0 a1) (fun r nv=>⟨[.rd z34 r],[(1001,some (.bool true,.glob 1 (z43 64 z0x) zah))]⟩):=by
 refine z2n 29 Tryz.func198 Z Z Z fun H w=>?_;refine gSR<|Eb Z (bx 1 Z) fun v1=>Eb Z (zad 2 zo9 (ZrE.rd (R:=(z43 8 z0x)) (x:=(Vector.replicate 8 0)) zrr (ZrE.nilS (ZrE.rd (R:=z0k) (x:=0) (Zr.num Z) ZrE.nil Z)) Z)) fun v2=>Zn<|gSR<|Zq (faB 1 Z Z Tryz.underlying243 Z (by exact zcr))<|Zq (ld 1 Z Z (fP (zlq _)) zpk Z)<|Zm Z<|Ef Z (lit (R:=(z04 u8R)) ([a0.Rest,a1]:List (List UInt8)) 3 (pP Z Z<|pP Z Z<|pN) Z tu193 zcr Z Z) fun v3=>zf4 3 [9] Z (fS Z<|fN)<|Zc [] [(100,4)] Tryz.func108 Z (z6v _) fun r4 n5=>Zb Z<|z68 (fun (s6:z2t × (List UInt8)) aa ww=>Sta (ctx 29 H [zG1] w) [(1,.rd (z04 u8R) a1),(2,.val (z0j v1 0)),(4,.val (z0j v2 0)),(5,.rd (z04 u8R) s6.2)] [(1,some (v1,.box 243 [.rd z34 s6.1])),(2,some (v2,.box 243 [.rd (z43 8 z0x) (Vector.replicate 8 0),.val (.slice none 0 0),.rd z0k 0])),zG1] aa ww) ?_ (fun s6=>?_)
 ·refine gFrz 4 [10,5] Z (fS Z<|fS Z<|fN)<|z2a (fun (s7:z2t × (List UInt8)) aa ww=>Sta (ctx 29 H [zG1] w) [(1,.rd (z04 u8R) a1),(2,.val (z0j v1 0)),(4,.val (z0j v2 0)),(5,.rd (z04 u8R) s7.2)] [(1,some (v1,.box 243 [.rd z34 s7.1])),(2,some (v2,.box 243 [.rd (z43 8 z0x) (Vector.replicate 8 0),.val (.slice none 0 0),.rd z0k 0])),zG1] aa ww) (fun aa ww h=>Zu h [1,2,1001]) (fun s7=>?_);refine z0v<|gSR<|Zm Z<|Zq (z2v Z .rd Z tu52)<|Zq (I.geq Z Z)<|Zj Z (fun h8=>?_) (fun h8=>?_)
  ·refine Zt<|z5b<|gSR<|Zq (faB 1 Z Z Tryz.underlying243 Z (by exact zi9))<|Zm Z<|call [1,1001] [(1,1)] Z Tryz.func224 Z Z (zmo _ _ (fun y9=>.box 243 [.rd z34 ({ s7.1 with Words:=y9 })]) (fun _=>(fP (zf6 _))) _ _) (Y2 Z Z) (Zi Z<|Zi Z<|rN) fun r10 n11=>Zn<|z20<|Zm Z<|z0m fun x12 h13=>Zq (zll Z (.to Z) .no h13 tu52 ti5)<|Za Z<|z1g<|z3f<|z1q (fun aa ww h=>Zu h [1,2,1001])
  ·refine z21<|z15<|z17<|z2q (fun aa ww h=>Zu h [1,2,1001])
 ·refine z0v<|z8g [1,1020] mixed Z Z<|hTk 0 Z Z (faB 1 Z Z Tryz.underlying243 Z (by exact ti3))<|hTk 2 Z Z (mv Z)<|hTk 3 Z Z (z2v Z .rd Z tu52)<|hTk 5 Z Z (mv Z)<|hAlt [1,6] (by kernel_rfl) Z ⟨?_,?_,trivial⟩
  ·refine oRun 1 Z (gd0 Z) Z Z z3g (ld 1 Z Z (fP (z9u _)) ty3 Z)<|hTk 4 Z Z (I.add Z Z)<|z54 6 [] [(100,1020)] Z (by kernel_rfl) Z (gd0 Z) Z Tryz.func225 Z Z (zak _) (Y1 Z) rN Z (fun _ _=>z36) fun r14 n15=>hTk 7 Z Z (faB 1 Z Z Tryz.underlying243 Z (by exact ti3))<|Zp 8 Z Z Z Z Z (sto 1 Z Z (fP (z9u _)) Z ti3)<|Zf 9 Z Z z36 (faB 1 Z Z Tryz.underlying243 Z (by exact zcr))<|hSpl (R:=z34) 1 Z (Sp.via (Sp.prod (Sp.prod (Sp.prod Sp.unit))))<|Zp 10 Z Z Z Z Z (zqr 1 Z Z (z6z.cast (z6z.next z00 (z6z.here z00)) Z) Z z1d z0c zcr)<|z4t (by kernel_rfl)<|z0z<|gSR<|lPow [.rd (z43 8 z0x) (({ s6.1 with N:=w64 (s6.1.N+(a1.length:Int)) }).Words),.rd (z04 u8R) r14,.rd z0k (({ s6.1 with N:=w64 (s6.1.N+(a1.length:Int)) }).N)] 1 1020 [.rd (z43 8 z0x) (({ s6.1 with N:=w64 (s6.1.N+(a1.length:Int)) }).Words)] [.rd z0k (({ s6.1 with N:=w64 (s6.1.N+(a1.length:Int)) }).N)] Z Z Z Z Z<|zmr (R:=z34) (⟨({ s6.1 with N:=w64 (s6.1.N+(a1.length:Int)) }).Words,r14,({ s6.1 with N:=w64 (s6.1.N+(a1.length:Int)) }).N⟩:z2t) 1 Z (Sp.via (Sp.prod (Sp.prod (Sp.prod Sp.unit))))<|Zq (ld 1 Z Z fH zs9 Z)<|ztm u8R [.rd (z43 8 z0x) (Vector.replicate 8 0),.rd (z04 u8R) [],.rd z0k 0] 2 [.rd (z43 8 z0x) (Vector.replicate 8 0)] [.rd z0k 0] Z Z Z<|zmr (R:=z34) (⟨(Vector.replicate 8 0),[],0⟩:z2t) 2 Z (Sp.via (Sp.prod (Sp.prod (Sp.prod Sp.unit))))<|Es (sto 2 Z Z fH Z zo9)<|Zn<|z0o<|zb3 [] [1001] Z (eC 2 Z Z zs9<|eN) (y1 Z)
  ·refine z17s 6 [] [(100,1020)] Z Z (gd0 Z) Z Tryz.func225 Z Z (zak _) (Y1 Z) rN Z (fun _ _=>z36) fun r16 n17=>zxz 1 Z (by kernel_rfl) (gd0 Z) Z Z z3g (ld 1 Z Z (fP (z9u _)) ty3 Z)<|hTk 4 Z Z (I.add Z Z)<|hTk 7 Z Z (faB 1 Z Z Tryz.underlying243 Z (by exact ti3))<|Zp 8 Z Z Z Z Z (sto 1 Z Z (fP (z9u _)) Z ti3)<|Zf 9 Z Z z36 (faB 1 Z Z Tryz.underlying243 Z (by exact zcr))<|hSpl (R:=z34) 1 Z (Sp.via (Sp.prod (Sp.prod (Sp.prod Sp.unit))))<|Zp 10 Z Z Z Z Z (zqr 1 Z Z (z6z.cast (z6z.next z00 (z6z.here z00)) Z) Z z1d z0c zcr)<|z4t (by kernel_rfl)<|z0z<|gSR<|lPow [.rd (z43 8 z0x) (({ s6.1 with N:=w64 (s6.1.N+(a1.length:Int)) }).Words),.rd (z04 u8R) r16,.rd z0k (({ s6.1 with N:=w64 (s6.1.N+(a1.length:Int)) }).N)] 1 1020 [.rd (z43 8 z0x) (({ s6.1 with N:=w64 (s6.1.N+(a1.length:Int)) }).Words)] [.rd z0k (({ s6.1 with N:=w64 (s6.1.N+(a1.length:Int)) }).N)] Z Z Z Z Z<|zmr (R:=z34) (⟨({ s6.1 with N:=w64 (s6.1.N+(a1.length:Int)) }).Words,r16,({ s6.1 with N:=w64 (s6.1.N+(a1.length:Int)) }).N⟩:z2t) 1 Z (Sp.via (Sp.prod (Sp.prod (Sp.prod Sp.unit))))<|Zq (ld 1 Z Z fH zs9 Z)<|ztm u8R [.rd (z43 8 z0x) (Vector.replicate 8 0),.rd (z04 u8R) [],.rd z0k 0] 2 [.rd (z43 8 z0x) (Vector.replicate 8 0)] [.rd z0k 0] Z Z Z<|zmr (R:=z34) (⟨(Vector.replicate 8 0),[],0⟩:z2t) 2 Z (Sp.via (Sp.prod (Sp.prod (Sp.prod Sp.unit))))<|Es (sto 2 Z Z fH Z zo9)<|Zn<|z0o<|zb3 [] [1001] Z (eC 2 Z Z zs9<|eN) (y1 Z)
def zc3 (y3:UInt64) (s9:(List UInt8) × Int):Option (Sum ((List UInt8)) ((List UInt8) × Int)) :=
 if decide (0≤s9.2) then
  chk (0≤s9.2) >>= fun u12 =>
  app 1 s9.1 [(z6r y3 ((s9.2:Int).toNat)).toUInt8] >>= fun x15 =>
  some (w64 (s9.2 - 8)) >>= fun y18 =>
  some (.inr (x15,y18))
 else
  some (.inl s9.1)
def za6 (r21:z2t) (s23:V3 × Int):Option (Sum (V3) (V3 × Int)) :=
 if decide (s23.2<8) then
  z7z r21.Words s23.2 >>= fun x25 =>
  z7z s23.1 (w64 (4 * s23.2)) >>= fun x27 =>
  z7z (zi0 s23.1 (w64 (4 * s23.2)) ((z57 x25 24).toUInt8)) (w64 ((w64 (4 * s23.2))+1)) >>= fun x29 =>
  z7z (zi0 (zi0 s23.1 (w64 (4 * s23.2)) ((z57 x25 24).toUInt8)) (w64 ((w64 (4 * s23.2))+1)) ((z57 x25 16).toUInt8)) (w64 ((w64 (4 * s23.2))+2)) >>= fun x31 =>
  z7z (zi0 (zi0 (zi0 s23.1 (w64 (4 * s23.2)) ((z57 x25 24).toUInt8)) (w64 ((w64 (4 * s23.2))+1)) ((z57 x25 16).toUInt8)) (w64 ((w64 (4 * s23.2))+2)) ((z57 x25 8).toUInt8)) (w64 ((w64 (4 * s23.2))+3)) >>= fun x33 =>
  some (.inr (zi0 (zi0 (zi0 (zi0 s23.1 (w64 (4 * s23.2)) ((z57 x25 24).toUInt8)) (w64 ((w64 (4 * s23.2))+1)) ((z57 x25 16).toUInt8)) (w64 ((w64 (4 * s23.2))+2)) ((z57 x25 8).toUInt8)) (w64 ((w64 (4 * s23.2))+3)) x25.toUInt8,w64 (s23.2+1)))
 else
  some (.inl s23.1)
def zhh (a0:z2t):Option (V3) :=
 some ((UInt64.ofInt a0.N) * 8) >>= fun y3 =>
 appz 1 [128] 0 (Int.tmod (w64 (119 - (Int.tmod a0.N 64))) 64) >>= fun x5 =>
 (iter (zc3 y3) (x5,56)) >>= fun s8 =>
 (zcj a0 s8 >>= fun r21 =>
 iter (za6 r21) ((Vector.replicate 32 0),0)) >>= fun s20 =>
 some s20
theorem zq9 (a0:z2t):z2b Tryz.prog 199 [.rd z34 a0] [zG1] (zhh a0) (fun r nv=>⟨[.rd aZ r],[(1001,some (.bool true,.glob 1 (z43 64 z0x) zah))]⟩):=by
 refine z2n 66 Tryz.func199 Z Z Z fun H w=>?_;refine gSR<|Eb Z (bx 1 Z) fun v1=>Eb Z (zad 2 z40 (.zr (R:=aZ) (x:=(Vector.replicate 32 0)) zl9)) fun v2=>Zn<|gSR<|Zq (faB 1 Z Z Tryz.underlying243 Z (by exact ti3))<|Zq (ld 1 Z Z (fP (z9u _)) ty3 Z)<|Zq (I.toU Z tu3 tu35)<|Zq (U.mul Z Z)<|Za Z<|z1o 3 Z fun y3=>Zn<|gSR<|Ef Z (lit (R:=u8R) ([128]:List UInt8) 3 (pP Z Z<|pN) Z tu52 ti5 Z Z) fun v4=>Zq (faB 1 Z Z Tryz.underlying243 Z (by exact ti3))<|Zq (ld 1 Z Z (fP (z9u _)) ty3 Z)<|Zq (I.rem Z Z (by decide))<|Zq (I.sub Z Z)<|Zq (I.rem Z Z (by decide))<|z0m fun x5 h6=>Ef Z (apZO 3 Z Z Z h6 tu52 tu3 ti5 (Zr.num Z) Z) fun v7=>Zb Z<|z68 (fun (s8:(List UInt8)) aa ww=>∃ nv:Nat→Value,Sta (ctx 66 H [zG1] w) [(1,.val (z0j v1 0)),(2,.val (z0j v2 0)),(4,.val (nv 0))] [(1,some (v1,.box 243 [.rd z34 a0])),(2,some (v2,.box 45 [.rd aZ (Vector.replicate 32 0)])),(3,some ((nv 0),.list u8R 5 s8)),zG1] aa ww) ?_ (fun s8=>?_)
 ·refine gSR<|Zb Z<|z2a (fun (s9:(List UInt8) × Int) aa ww=>∃ nv:Nat→Value,Sta (ctx 66 H [zG1] w) [(1,.val (z0j v1 0)),(2,.val (z0j v2 0)),(3,.rd z1p y3),(4,.val (nv 0)),(5,.rd z0k s9.2)] [(1,some (v1,.box 243 [.rd z34 a0])),(2,some (v2,.box 45 [.rd aZ (Vector.replicate 32 0)])),(3,some ((nv 0),.list u8R 5 s9.1)),zG1] aa ww) (fun aa ww h=>⟨nvl [v7],Zu h [1,2,3,1001]⟩) (fun s9=>?_);refine gEx fun n10=>z0v<|gSR<|Zm Z<|Zq (I.geq Z Z)<|Zj Z (fun h11=>?_) (fun h11=>?_)
  ·refine Zt<|z0v<|z5b<|z20<|Zm Z<|Zm Z<|Zm Z<|z0m fun u12 h13=>Zq (U.shr Z Z (z60 h13))<|Zq (U.toB Z tu35 tu5)<|Ef Z (lit (R:=u8R) ([(z6r y3 ((s9.2:Int).toNat)).toUInt8]:List UInt8) 1100 (pP Z Z<|pN) Z tu52 ti5 Z Z) fun v14=>z0m fun x15 h16=>Ef Z (apn 3 Z Z Z (.own 1100 Z) h16 tu52 ti5 Z Z Z) fun v17=>Za Z<|z1g<|z3f<|z0z<|z20<|Zm Z<|Zq (I.sub Z Z)<|Za Z<|z1o 5 Z fun y18=>z1g<|z1q (fun aa ww h=>⟨nvl [v17],Zu h [1,2,3,1001]⟩)
  ·refine z21<|z15<|z17<|z2q (fun aa ww h=>⟨nvl [(n10 0)],Zu h [1,2,3,1001]⟩)
 ·refine gEx fun n19=>z68 (fun (s20:V3) aa ww=>Sta (ctx 66 H [zG1] w) [(2,.val (z0j v2 0))] [(2,some (v2,.box 45 [.rd aZ s20])),zG1] aa ww) ?_ (fun s20=>?_)
  ·refine gSR<|Zq (ld 1 Z Z fH zs9 Z)<|Zm Z<|zf4 3 [4,31] Z (fS Z<|fS Z<|fN)<|Zc [1001] [] Tryz.func198 Z (zik _ _) fun r21 n22=>Zq (fldV Z (zf6 _) Z Tryz.underlying243 Z zsn)<|Zm Z<|Zn<|z2a (fun (s23:V3 × Int) aa ww=>Sta (ctx 66 H [zG1] w) [(2,.val (z0j v2 0)),(33,.rd (z43 8 z0x) r21.Words),(34,.rd z0k s23.2)] [(2,some (v2,.box 45 [.rd aZ s23.1])),zG1] aa ww) (fun aa ww h=>Zu h [2,1001]) (fun s23=>?_)
   refine gSR<|Zq (I.lss Z Z)<|Zn<|z0v<|gIf Z Z (fun h24=>?_) (fun h24=>?_)
   ·refine Zt<|z0v<|z5b<|gSR<|Zm Z<|z0m fun x25 h26=>Zq (idxV Z Z h26 tu149 z64 z9r)<|Za Z<|Zb Z<|z20<|Zm Z<|Zq (I.mul Z Z)<|Zm Z<|Zq (I.mul Z Z)<|Zq (I.add Z Z)<|Zm Z<|Zq (I.mul Z Z)<|Zq (I.add Z Z)<|Zm Z<|Zq (I.mul Z Z)<|Zq (I.add Z Z)<|Zm Z<|Zq (W.shr Z Z (Int.natCast_nonneg _))<|Zq (W.toB Z tu34 tu5)<|Zm Z<|Zq (W.shr Z Z (Int.natCast_nonneg _))<|Zq (W.toB Z tu34 tu5)<|Zm Z<|Zq (W.shr Z Z (Int.natCast_nonneg _))<|Zq (W.toB Z tu34 tu5)<|Zm Z<|Zq (W.toB Z tu34 tu5)<|z0m fun x27 h28=>Zq (ixB 2 Z Z Z h28 tu45 ti5)<|Es (sto 2 Z Z (fP (.el h28)) Z ti5)<|z0m fun x29 h30=>Zq (ixB 2 Z Z Z h30 tu45 ti5)<|Es (sto 2 Z Z (fP (.el h30)) Z ti5)<|z0m fun x31 h32=>Zq (ixB 2 Z Z Z h32 tu45 ti5)<|Es (sto 2 Z Z (fP (.el h32)) Z ti5)<|z0m fun x33 h34=>Zq (ixB 2 Z Z Z h34 tu45 ti5)<|Es (sto 2 Z Z (fP (.el h34)) Z ti5)<|z1g<|z3f<|z0z<|z20<|Zq (I.add Z Z)<|Zm Z<|z1g<|z1q (fun aa ww h=>Zu h [2,1001])
   ·refine z21<|z15<|z17<|z2q (fun aa ww h=>Zu h [2,1001])
  ·refine gSR<|Zq (ld 2 Z Z fH z83 Z)<|Es (sto 2 Z Z fH Z z40)<|Zn<|z0o<|zb3 [] [1001] Z (eC 2 Z Z z83<|eN) (y1 Z)
def z1i (a0:List (List UInt8)) (s2:Int):Option (Sum (Sum Int Unit) Int) :=
 if decide (s2<(a0.length:Int)) then
  idx a0 s2 >>= fun x4 =>
  ze5 x4 >>= fun r6 =>
  if r6 then
   some (.inl (.inl s2))
  else
   some (.inr (w64 (s2+1)))
 else
  some (.inl (.inr ()))
def z38 (a0:List (List UInt8)):Option (Int) :=
 z5o (iter (z1i a0) 0) fun s1 =>
 some (-1)
theorem z7r (a0:List (List UInt8)):z2b Tryz.prog 223 [.rd (z04 (z04 u8R)) a0,.val (.func (.func 196) #[] #[])] [] (z38 a0) (fun r nv=>⟨[.rd z0k r],[]⟩):=by
 refine z2n 19 Tryz.func223 Z Z Z fun H w=>?_;refine gSR<|Zb Z<|z7j (fun (s1:Unit) aa ww=>Sta (ctx 19 H [] w) [] [] aa ww) ?_ (fun s1=>?_)
 ·refine gSR<|Zm Z<|Zq (z2v Z .rd Z tu193)<|Zm Z<|Zn<|z2a (fun (s2:Int) aa ww=>Sta (ctx 19 H [] w) [(0,.rd (z04 (z04 u8R)) a0),(1,.val (.func (.func 196) #[] #[])),(7,.rd z0k (a0.length:Int)),(8,.rd z0k s2)] [] aa ww) (fun aa ww h=>Zu h []) (fun s2=>?_);refine gSR<|Zq (I.lss Z Z)<|Zn<|z0v<|gIf Z Z (fun h3=>?_) (fun h3=>?_)
  ·refine Zt<|z0v<|z5b<|gSR<|Zm Z<|Zb Z<|gSR<|Zm Z<|Zm Z<|Zm Z<|z0m fun x4 h5=>Zq (ixR Z Z h5 tu193 zcr Z)<|Zq (ldR Z zpk)<|zps [] [] (gd0 Z) Z Z Tryz.func196 Z Z (zkh _) (Y1 Z) (cN) rN fun r6 n7=>Zj Z (fun h8=>?_) (fun h8=>?_)
   ·refine gSR<|Zm Z<|Zb Z<|z0o<|z44<|z0q<|z6t<|z4g<|Ze [] [] Z
   ·refine z31<|z3f<|z0z<|z20<|Zq (I.add Z Z)<|Zm Z<|z1g<|z1q (fun aa ww h=>Zu h [])
  ·refine z21<|z15<|z17<|z5k (fun aa ww h=>Zu h [])
 ·refine gSR<|Zb Z<|z0o<|Ze [] [] Z
def z24 (a0:List (List UInt8)):Option (Bool) :=
 z38 a0 >>= fun r1 =>
 some (decide (0≤r1)) >>= fun y3 =>
 some y3
theorem z78 (a0:List (List UInt8)):z2b Tryz.prog 195 [.rd (z04 (z04 u8R)) a0,.val (.func (.func 196) #[] #[])] [] (z24 a0) (fun r nv=>⟨[.rd z0l r],[]⟩):=by
 refine z2n 9 Tryz.func195 Z Z Z fun H w=>?_;refine gSR<|Zb Z<|gSR<|Zm Z<|Zm Z<|Zc [] [] Tryz.func223 Z (z7r _) fun r1 n2=>Zq (I.geq Z Z)<|Za Z<|z1o 4 Z fun y3=>Zn<|z0o<|Ze [] [] Z
def z8p (a0:List (List UInt8)) (s11:z2t × Int):Option (Sum z2t (z2t × Int)) :=
 if decide (s11.2<(a0.length:Int)) then
  idx a0 s11.2 >>= fun x13 =>
  zcj s11.1 x13 >>= fun r15 =>
  some (.inr (r15,w64 (s11.2+1)))
 else
  some (.inl s11.1)
def zbv (a0:List (List UInt8)):Option (V3 × Int) :=
 (if decide (20<(a0.length:Int)) then
  some true
 else
  z24 a0 >>= fun r4 =>
  some r4) >>= fun s2 =>
 if s2 then
  some ((Vector.replicate 32 0),4)
 else
  zev >>= fun r7 =>
  (iter (z8p a0) (r7,0)) >>= fun s10 =>
  zhh s10 >>= fun r17 =>
  some (r17,0)
theorem zgd (a0:List (List UInt8)):z2b Tryz.prog 160 [.rd (z04 (z04 u8R)) a0] [zG1] (zbv a0) (fun r nv=>⟨[.rd aZ r.1,.rd z0k r.2],[(1001,some (.bool true,.glob 1 (z43 64 z0x) zah))]⟩):=by
 refine z2n 28 Tryz.func160 Z Z Z fun H w=>?_;refine gSR<|Eb Z (zad 1 z40 (.zr (R:=aZ) (x:=(Vector.replicate 32 0)) zl9)) fun v1=>Zb Z<|z0v<|z68 (fun (s2:Bool) aa ww=>Sta (ctx 28 H [zG1] w) [(0,.rd (z04 (z04 u8R)) a0),(2,.val (z0j v1 0)),(13,.rd z0l s2)] [(1,some (v1,.box 45 [.rd aZ (Vector.replicate 32 0)])),zG1] aa ww) ?_ (fun s2=>?_)
 ·refine z20<|Zm Z<|Zq (z2v Z .rd Z tu193)<|Zq (I.gtr Z Z)<|Zm Z<|z19 10 Z (fun h3=>?_) (fun h3=>?_)
  ·refine lKn 9 Z h3<|Zk Z<|Zk Z<|Zq (pkT Z Z)<|z1g<|z2q (fun aa ww h=>Zu h [1,1001])
  ·refine lKn 9 Z h3<|z0w Zx Z Z (mv Z)<|zcs [] [] Zx Z Tryz.func195 Z Z (z78 _) (Y2 Z Z) rN fun r4 n5=>Zq (pkF Z Z)<|z1g<|z2q (fun aa ww h=>Zu h [1,1001])
 ·refine gIf Z Z (fun h6=>?_) (fun h6=>?_)
  ·refine gSR<|Zq (bldG (x':=((Vector.replicate 32 0):V3)) tu45 z40 zl9 ti5 (Bld.done Z))<|Es (sto 1 Z Z fH Z z40)<|Zb Z<|z0o<|z0q<|zb3 [] [1001] Z (eC 1 Z Z z83<|eE Z<|eN) (y1 Z)
  ·refine Zt<|gSR<|Zc [] [] Tryz.func197 Z (zn7) fun r7 n8=>Eb Z (zad 1100 zo9 (ZrE.rd (R:=(z43 8 z0x)) (x:=(Vector.replicate 8 0)) zrr (ZrE.nilS (ZrE.rd (R:=z0k) (x:=0) (Zr.num Z) ZrE.nil Z)) Z)) fun v9=>ztm u8R [.rd (z43 8 z0x) (Vector.replicate 8 0),.rd (z04 u8R) [],.rd z0k 0] 1100 [.rd (z43 8 z0x) (Vector.replicate 8 0)] [.rd z0k 0] Z Z Z<|zmr (R:=z34) (⟨(Vector.replicate 8 0),[],0⟩:z2t) 1100 Z (Sp.via (Sp.prod (Sp.prod (Sp.prod Sp.unit))))<|Es (sto 1100 Z Z fH Z zo9)<|Zn<|z68 (fun (s10:z2t) aa ww=>Sta (ctx 28 H [zG1] w) [(2,.val (z0j v1 0)),(4,.val (z0j v9 0))] [(1,some (v1,.box 45 [.rd aZ (Vector.replicate 32 0)])),(1100,some (v9,.box 243 [.rd z34 s10])),zG1] aa ww) ?_ (fun s10=>?_)
   ·refine gSR<|Zm Z<|Zq (z2v Z .rd Z tu193)<|Zm Z<|Zn<|z2a (fun (s11:z2t × Int) aa ww=>Sta (ctx 28 H [zG1] w) [(2,.val (z0j v1 0)),(4,.val (z0j v9 0)),(16,.rd (z04 (z04 u8R)) a0),(17,.rd z0k (a0.length:Int)),(18,.rd z0k s11.2)] [(1,some (v1,.box 45 [.rd aZ (Vector.replicate 32 0)])),(1100,some (v9,.box 243 [.rd z34 s11.1])),zG1] aa ww) (fun aa ww h=>Zu h [1,1100,1001]) (fun s11=>?_);refine gSR<|Zq (I.lss Z Z)<|Zn<|z0v<|gIf Z Z (fun h12=>?_) (fun h12=>?_)
    ·refine Zt<|z0v<|z5b<|gSR<|z0m fun x13 h14=>Zq (ixR Z Z h14 tu193 zcr Z)<|Zq (ldR Z zpk)<|Zb Z<|z20<|Zq (ld 1100 Z Z fH zs9 Z)<|Zm Z<|Zc [1001] [] Tryz.func198 Z (zik _ _) fun r15 n16=>Es (sto 1100 Z Z fH Z zo9)<|z1g<|z3f<|z0z<|z20<|Zq (I.add Z Z)<|Zm Z<|z1g<|z1q (fun aa ww h=>Zu h [1,1100,1001])
    ·refine z21<|z15<|z17<|z2q (fun aa ww h=>Zu h [1,1100,1001])
   ·refine gSR<|Zq (ld 1100 Z Z fH zs9 Z)<|Zc [1001] [] Tryz.func199 Z (zq9 _) fun r17 n18=>Es (sto 1 Z Z fH Z z40)<|Zb Z<|z0o<|zb3 [] [1001] Z (eC 1 Z Z z83<|eE Z<|eN) (y1 Z)
def zhr (a0:List UInt8):Option (V3 × Int) :=
 zbv [a0] >>= fun r3 =>
 some (r3.1,r3.2)
theorem zqb (a0:List UInt8):z2b Tryz.prog 115 [.rd (z04 u8R) a0] [zG1] (zhr a0) (fun r nv=>⟨[.rd aZ r.1,.rd z0k r.2],[(1001,some (.bool true,.glob 1 (z43 64 z0x) zah))]⟩):=by
 refine z2n 9 Tryz.func115 Z Z Z fun H w=>?_;refine gSR<|Eb Z (zad 1 z40 (.zr (R:=aZ) (x:=(Vector.replicate 32 0)) zl9)) fun v1=>Zb Z<|gSR<|Zm Z<|Ef Z (lit (R:=(z04 u8R)) ([a0]:List (List UInt8)) 2 (pP Z Z<|pN) Z tu193 zcr Z Z) fun v2=>zf4 2 [5] Z (fS Z<|fN)<|Zc [1001] [] Tryz.func160 Z (zgd _) fun r3 n4=>Zq (ext Z Z)<|Zq (ext Z Z)<|Es (sto 1 Z Z fH Z z40)<|Zb Z<|z0o<|zb3 [] [1001] Z (eC 1 Z Z z83<|eE Z<|eN) (y1 Z)
def zs2 (a0:z03):Option (V3 × Int) :=
 ze7 a0 >>= fun r3 =>
 if r3.2 != 0 then
  some ((Vector.replicate 32 0),r3.2)
 else
  zhr r3.1 >>= fun r6 =>
  some (r6.1,r6.2)
theorem zqf (a0:z03):z2b Tryz.prog 65 [.rd z05 a0] [zG1] (zs2 a0) (fun r nv=>⟨[.rd aZ r.1,.rd z0k r.2],[(1001,some (.bool true,.glob 1 (z43 64 z0x) zah))]⟩):=by
 refine z2n 19 Tryz.func65 Z Z Z fun H w=>?_;refine gSR<|Eb Z (bx 1 Z) fun v1=>Eb Z (zad 2 z40 (.zr (R:=aZ) (x:=(Vector.replicate 32 0)) zl9)) fun v2=>Zb Z<|gSR<|Zq (ld 1 Z Z fH z8y Z)<|Zc [] [(100,3)] Tryz.func58 Z (zlo _) fun r3 n4=>Zm Z<|Zq (ext Z Z)<|Zq (ext Z Z)<|Za Z<|Zb Z<|z0v<|gSR<|Zm Z<|Zq (I.neq Z Z)<|Zj Z (fun h5=>?_) (fun h5=>?_)
 ·refine gSR<|Zq (bldG (x':=((Vector.replicate 32 0):V3)) tu45 z40 zl9 ti5 (Bld.done Z))<|Zm Z<|Es (sto 2 Z Z fH Z z40)<|Zb Z<|z0o<|z0q<|zb3 [] [1001] Z (eC 2 Z Z z83<|eE Z<|eN) (y1 Z)
 ·refine Zt<|gSR<|Zm Z<|zf4 3 [9,4,15] Z (fS Z<|fS Z<|fS Z<|fN)<|Zc [1001] [] Tryz.func115 Z (zqb _) fun r6 n7=>Zq (ext Z Z)<|Zq (ext Z Z)<|Es (sto 2 Z Z fH Z z40)<|Zb Z<|z0o<|zb3 [] [1001] Z (eC 2 Z Z z83<|eE Z<|eN) (y1 Z)
def z5e (a0:List UInt32) (s2:Int):Option (Sum (Sum Bool Unit) Int) :=
 if decide (s2<(a0.length:Int)) then
  idx a0 s2 >>= fun x4 =>
  zhi x4 >>= fun r6 =>
  if !r6 then
   some (.inl (.inl false))
  else
   some (.inr (w64 (s2+1)))
 else
  some (.inl (.inr ()))
def ze9 (a0:List UInt32):Option (Bool) :=
 z5o (iter (z5e a0) 0) fun s1 =>
 some true
theorem zlb (a0:List UInt32):z2b Tryz.prog 206 [.rd (z04 z0x) a0] [] (ze9 a0) (fun r nv=>⟨[.rd z0l r],[]⟩):=by
 refine z2n 15 Tryz.func206 Z Z Z fun H w=>?_;refine gSR<|Zb Z<|z7j (fun (s1:Unit) aa ww=>Sta (ctx 15 H [] w) [] [] aa ww) ?_ (fun s1=>?_)
 ·refine gSR<|Zm Z<|Zq (z2v Z .rd Z tu232)<|Zm Z<|Zn<|z2a (fun (s2:Int) aa ww=>Sta (ctx 15 H [] w) [(5,.rd (z04 z0x) a0),(6,.rd z0k (a0.length:Int)),(7,.rd z0k s2)] [] aa ww) (fun aa ww h=>Zu h []) (fun s2=>?_);refine gSR<|Zq (I.lss Z Z)<|Zn<|z0v<|gIf Z Z (fun h3=>?_) (fun h3=>?_)
  ·refine Zt<|z0v<|z5b<|gSR<|z0m fun x4 h5=>Zq (ixR Z Z h5 tu232 z64 Z)<|Zq (ldR Z z9r)<|Zb Z<|gSR<|Zm Z<|Zc [] [] Tryz.func147 Z (zj3 _) fun r6 n7=>Zq (zex Z)<|Zj Z (fun h8=>?_) (fun h8=>?_)
   ·refine gSR<|Zb Z<|z0o<|z44<|z0q<|z6t<|z4g<|Ze [] [] Z
   ·refine z31<|z3f<|z0z<|z20<|Zq (I.add Z Z)<|Zm Z<|z1g<|z1q (fun aa ww h=>Zu h [])
  ·refine z21<|z15<|z17<|z5k (fun aa ww h=>Zu h [])
 ·refine gSR<|Zb Z<|z0o<|Ze [] [] Z
def zn0 (a0:UInt32) (a1:UInt64):Option (UInt32 × Int) :=
 ze9 [a0] >>= fun r2 =>
 if !r2 then
  some (0,2)
 else
  zfb a0 a1 >>= fun r5 =>
  some (r5,0)
end
section
open Go Go.RowKit
set_option maxRecDepth 100000
theorem zso (a0:UInt32) (a1:UInt64):z2b Tryz.prog 166 [.rd z0x a0,.rd z1p a1] [] (zn0 a0 a1) (fun r nv=>⟨[.rd z0x r.1,.rd z0k r.2],[]⟩):=by
 refine z2n 13 Tryz.func166 Z Z Z fun H w=>?_;refine gSR<|Za Z<|Zb Z<|z0v<|gSR<|Zm Z<|Ef Z (lit (R:=z0x) ([a0]:List UInt32) 1 (pP Z Z<|pN) Z tu232 z64 Z Z) fun v1=>zf4 1 [7] Z (fS Z<|fN)<|Zc [] [] Tryz.func206 Z (zlb _) fun r2 n3=>Zq (zex Z)<|Zj Z (fun h4=>?_) (fun h4=>?_)
 ·refine gSR<|Za Z<|Zb Z<|z0o<|z0q<|Ze [] [] Z
 ·refine Zt<|gSR<|Zm Z<|Zm Z<|Zc [] [] Tryz.func189 Z (zh5 _ _) fun r5 n6=>Za Z<|Zb Z<|z0o<|Ze [] [] Z
def zkr (a0:UInt64):Option (UInt32) :=
 zfb 4 a0 >>= fun r1 =>
 some r1
theorem zq3 (a0:UInt64):z2b Tryz.prog 168 [.rd z1p a0] [] (zkr a0) (fun r nv=>⟨[.rd z0x r],[]⟩):=by
 refine z2n 5 Tryz.func168 Z Z Z fun H w=>?_;refine gSR<|Zb Z<|gSR<|Zm Z<|Zc [] [] Tryz.func189 Z (zh5 _ _) fun r1 n2=>Zb Z<|z0o<|Ze [] [] Z
def zmm (a0:UInt32) (a1:UInt32):Option (UInt32 × Int) :=
 ze9 [a0,a1] >>= fun r2 =>
 if !r2 then
  some (0,2)
 else
  zf8 1000000007 [a0,a1] >>= fun r6 =>
  some (r6,0)
theorem zt4 (a0:UInt32) (a1:UInt32):z2b Tryz.prog 167 [.rd z0x a0,.rd z0x a1] [] (zmm a0 a1) (fun r nv=>⟨[.rd z0x r.1,.rd z0k r.2],[]⟩):=by
 refine z2n 15 Tryz.func167 Z Z Z fun H w=>?_;refine gSR<|Za Z<|Zb Z<|z0v<|gSR<|Zm Z<|Zm Z<|Ef Z (lit (R:=z0x) ([a0,a1]:List UInt32) 1 (pP Z Z<|pP Z Z<|pN) Z tu232 z64 Z Z) fun v1=>zf4 1 [8] Z (fS Z<|fN)<|Zc [] [] Tryz.func206 Z (zlb _) fun r2 n3=>Zq (zex Z)<|Zj Z (fun h4=>?_) (fun h4=>?_)
 ·refine gSR<|Za Z<|Zb Z<|z0o<|z0q<|Ze [] [] Z
 ·refine Zt<|gSR<|Zm Z<|Zm Z<|Ef Z (lit (R:=z0x) ([a0,a1]:List UInt32) 2 (pP Z Z<|pP Z Z<|pN) Z tu232 z64 Z Z) fun v5=>zf4 2 [13] Z (fS Z<|fN)<|Zc [] [] Tryz.func207 Z (zh9 _ _) fun r6 n7=>Za Z<|Zb Z<|z0o<|Ze [] [] Z
def z84 (a2:List UInt32) (s4:(List UInt8) × Int):Option (Sum ((List UInt8)) ((List UInt8) × Int)) :=
 if decide (s4.2<(a2.length:Int)) then
  idx a2 s4.2 >>= fun x7 =>
  app 1 s4.1 [(z57 x7 24).toUInt8,(z57 x7 16).toUInt8,(z57 x7 8).toUInt8,x7.toUInt8] >>= fun x10 =>
  some (.inr (x10,w64 (s4.2+1)))
 else
  some (.inl s4.1)
def zct (r15:V3 × Int) (s19:UInt64 × Int):Option (Sum UInt64 (UInt64 × Int)) :=
 if decide (s19.2<(((r15.1.toList.drop 0).take 8).length:Int)) then
  idx ((r15.1.toList.drop 0).take 8) s19.2 >>= fun x21 =>
  some ((zjc s19.1 8) ||| x21.toUInt64) >>= fun y23 =>
  some (.inr (y23,w64 (s19.2+1)))
 else
  some (.inl s19.1)
def zka (a0:UInt8) (a1:List UInt8) (a2:List UInt32):Option (UInt64 × Int) :=
 if decide (9991<(a1.length:Int)) then
  some (0,4)
 else
  (iter (z84 a2) ([a0],0)) >>= fun s3 =>
  zbv [s3,a1] >>= fun r15 =>
  (iter (zct r15) (0,0)) >>= fun s18 =>
  some (s18,r15.2)
theorem zre (a0:UInt8) (a1:List UInt8) (a2:List UInt32):z2b Tryz.prog 208 [.rd u8R a0,.rd (z04 u8R) a1,.rd (z04 z0x) a2] [zG1] (zka a0 a1 a2) (fun r nv=>⟨[.rd z1p r.1,.rd z0k r.2],[(1001,some (.bool true,.glob 1 (z43 64 z0x) zah))]⟩):=by
 refine z2n 63 Tryz.func208 Z Z Z fun H w=>?_;refine gSR<|Za Z<|Zb Z<|z0v<|gSR<|Zm Z<|Zq (z2v Z .rd Z tu52)<|Zq (I.gtr Z Z)<|Zj Z (fun h1=>?_) (fun h1=>?_)
 ·refine gSR<|Za Z<|Zb Z<|z0o<|z0q<|Ze [] [1001] Z
 ·refine Zt<|gSR<|Zm Z<|Ef Z (lit (R:=u8R) ([a0]:List UInt8) 1 (pP Z Z<|pN) Z tu52 ti5 Z Z) fun v2=>Zb Z<|z68 (fun (s3:(List UInt8)) aa ww=>∃ nv:Nat→Value,Sta (ctx 63 H [zG1] w) [(1,.rd (z04 u8R) a1),(8,.val (nv 0))] [(1,some ((nv 0),.list u8R 5 s3)),zG1] aa ww) ?_ (fun s3=>?_)
  ·refine gSR<|Zm Z<|Zq (z2v Z .rd Z tu232)<|Zm Z<|Zn<|z2a (fun (s4:(List UInt8) × Int) aa ww=>∃ nv:Nat→Value,Sta (ctx 63 H [zG1] w) [(1,.rd (z04 u8R) a1),(8,.val (nv 0)),(21,.rd (z04 z0x) a2),(22,.rd z0k (a2.length:Int)),(23,.rd z0k s4.2)] [(1,some ((nv 0),.list u8R 5 s4.1)),zG1] aa ww) (fun aa ww h=>⟨nvl [v2],Zu h [1,1001]⟩) (fun s4=>?_);refine gEx fun n5=>gSR<|Zq (I.lss Z Z)<|Zn<|z0v<|gIf Z Z (fun h6=>?_) (fun h6=>?_)
   ·refine Zt<|z0v<|z5b<|gSR<|z0m fun x7 h8=>Zq (ixR Z Z h8 tu232 z64 Z)<|Zq (ldR Z z9r)<|Zb Z<|z20<|Zm Z<|Zm Z<|Zq (W.shr Z Z (Int.natCast_nonneg _))<|Zq (W.toB Z tu34 tu5)<|Zm Z<|Zq (W.shr Z Z (Int.natCast_nonneg _))<|Zq (W.toB Z tu34 tu5)<|Zm Z<|Zq (W.shr Z Z (Int.natCast_nonneg _))<|Zq (W.toB Z tu34 tu5)<|Zm Z<|Zq (W.toB Z tu34 tu5)<|Ef Z (lit (R:=u8R) ([(z57 x7 24).toUInt8,(z57 x7 16).toUInt8,(z57 x7 8).toUInt8,x7.toUInt8]:List UInt8) 1100 (pP Z Z<|pP Z Z<|pP Z Z<|pP Z Z<|pN) Z tu52 ti5 Z Z) fun v9=>z0m fun x10 h11=>Ef Z (apn 1 Z Z Z (.own 1100 Z) h11 tu52 ti5 Z Z Z) fun v12=>Za Z<|z1g<|z3f<|z0z<|z20<|Zq (I.add Z Z)<|Zm Z<|z1g<|z1q (fun aa ww h=>⟨nvl [v12],Zu h [1,1001]⟩)
   ·refine z21<|z15<|z17<|z2q (fun aa ww h=>⟨nvl [(n5 0)],Zu h [1,1001]⟩)
  ·refine gEx fun n13=>gSR<|Zm Z<|Zm Z<|zf4 1 [8,43] Z (fS Z<|fS Z<|fN)<|Ef Z (lit (R:=(z04 u8R)) ([s3,a1]:List (List UInt8)) 1101 (pP Z Z<|pP Z Z<|pN) Z tu193 zcr Z Z) fun v14=>zf4 1101 [45] Z (fS Z<|fN)<|Zc [1001] [] Tryz.func160 Z (zgd _) fun r15 n16=>Zm Z<|Zq (ext Z Z)<|Zq (ext Z Z)<|Eb Z (zad 1102 z40 (.zr (R:=aZ) (x:=(Vector.replicate 32 0)) zl9)) fun v17=>Es (sto 1102 Z Z fH Z z40)<|Zb Z<|gSR<|Zb Z<|z68 (fun (s18:UInt64) aa ww=>Sta (ctx 63 H [zG1] w) [(12,.rd z0k r15.2),(13,.rd z1p s18)] [zG1] aa ww) ?_ (fun s18=>?_)
   ·refine gSR<|z18a 1102 11 Z Z<|Zq (z194 (i:=0) (j:=8) Z .no (.to Z) tu45 ti5 (by decide) Z Z Z)<|Zq (z2v Z .rd Z tu52)<|Zm Z<|Zn<|z2a (fun (s19:UInt64 × Int) aa ww=>Sta (ctx 63 H [zG1] w) [(12,.rd z0k r15.2),(13,.rd z1p s19.1),(49,.rd (z04 u8R) ((r15.1.toList.drop 0).take 8)),(50,.rd z0k (((r15.1.toList.drop 0).take 8).length:Int)),(51,.rd z0k s19.2)] [zG1] aa ww) (fun aa ww h=>Zu h [1001]) (fun s19=>?_)
    refine gSR<|Zq (I.lss Z Z)<|Zn<|z0v<|gIf Z Z (fun h20=>?_) (fun h20=>?_)
    ·refine Zt<|z0v<|z5b<|gSR<|z0m fun x21 h22=>Zq (ixR Z Z h22 tu52 ti5 Z)<|Zq (ldR Z ty5)<|Zb Z<|z20<|Zm Z<|Zq (U.shl Z Z (Int.natCast_nonneg _))<|Zm Z<|Zq (B.toU Z tu5 tu35)<|Zq (U.or Z Z)<|Za Z<|z1o 13 Z fun y23=>z1g<|z3f<|z0z<|z20<|Zq (I.add Z Z)<|Zm Z<|z1g<|z1q (fun aa ww h=>Zu h [1001])
    ·refine z21<|z15<|z17<|z2q (fun aa ww h=>Zu h [1001])
   ·refine gSR<|Zm Z<|Zm Z<|Za Z<|Zb Z<|z0o<|Ze [] [1001] Z
def zco (a0:UInt32) (a1:UInt32) (a2:List UInt8):Option (UInt32 × Int) :=
 zka 99 a2 [a0,a1] >>= fun r2 =>
 if r2.2 != 0 then
  some (0,r2.2)
 else
  some ((r2.1 % 500000003).toUInt32) >>= fun y5 =>
  some (y5,0)
theorem zkz (a0:UInt32) (a1:UInt32) (a2:List UInt8):z2b Tryz.prog 169 [.rd z0x a0,.rd z0x a1,.rd (z04 u8R) a2] [zG1] (zco a0 a1 a2) (fun r nv=>⟨[.rd z0x r.1,.rd z0k r.2],[(1001,some (.bool true,.glob 1 (z43 64 z0x) zah))]⟩):=by
 refine z2n 24 Tryz.func169 Z Z Z fun H w=>?_;refine gSR<|Za Z<|Zb Z<|gSR<|Zm Z<|Zm Z<|Zm Z<|Ef Z (lit (R:=z0x) ([a0,a1]:List UInt32) 1 (pP Z Z<|pP Z Z<|pN) Z tu232 z64 Z Z) fun v1=>zf4 1 [14] Z (fS Z<|fN)<|Zc [1001] [] Tryz.func208 Z (zre _ _ _) fun r2 n3=>Zm Z<|Zq (ext Z Z)<|Zq (ext Z Z)<|Za Z<|Zb Z<|z0v<|gSR<|Zm Z<|Zq (I.neq Z Z)<|Zj Z (fun h4=>?_) (fun h4=>?_)
 ·refine gSR<|Zm Z<|Za Z<|Zb Z<|z0o<|z0q<|Ze [] [1001] Z
 ·refine Zt<|gSR<|Zm Z<|Zq (U.rem Z Z (by decide))<|Zq (U.toW Z tu35 tu34)<|Za Z<|z1o 6 Z fun y5=>Zb Z<|z0o<|Ze [] [1001] Z
def zfl (a0:UInt32) (a1:List UInt8) (a2:z0b):Option (Int) :=
 zhi a0 >>= fun r2 =>
 if !r2 then
  some 2
 else
  if decide (9991<(a1.length:Int)) then
   some 4
  else
   if decide (500000003≤(max a2.E a2.S)) then
    some 22
   else
    zn0 a0 (500000003 - a2.E.toUInt64) >>= fun r7 =>
    zkr a2.S.toUInt64 >>= fun r9 =>
    zmm r9 r7.1 >>= fun r11 =>
    zco r11.1 a0 a1 >>= fun r13 =>
    if r13.2 != 0 then
     some 22
    else
     if r13.1 != a2.E then
      some 22
     else
      some 0
theorem zof (a0:UInt32) (a1:List UInt8) (a2:z0b):z2b Tryz.prog 122 [.rd z0x a0,.rd (z04 u8R) a1,.rd z09 a2] [zG1] (zfl a0 a1 a2) (fun r nv=>⟨[.rd z0k r],[(1001,some (.bool true,.glob 1 (z43 64 z0x) zah))]⟩):=by
 refine z2n 58 Tryz.func122 Z Z Z fun H w=>?_;refine gSR<|Eb Z (bx 1 Z) fun v1=>Zb Z<|z0v<|gSR<|Zm Z<|Zc [] [] Tryz.func147 Z (zj3 _) fun r2 n3=>Zq (zex Z)<|Zj Z (fun h4=>?_) (fun h4=>?_)
 ·refine gSR<|Zb Z<|z0o<|z0q<|Ze [] [1001] Z
 ·refine Zt<|z0v<|gSR<|Zm Z<|Zq (z2v Z .rd Z tu52)<|Zq (I.gtr Z Z)<|Zj Z (fun h5=>?_) (fun h5=>?_)
  ·refine gSR<|Zb Z<|z0o<|z0q<|Ze [] [1001] Z
  ·refine Zt<|z0v<|gSR<|Zq (faB 1 Z Z Tryz.underlying41 Z (by exact z64))<|Zq (ld 1 Z Z (fP (z4l _)) z9r Z)<|Zq (faB 1 Z Z Tryz.underlying41 Z (by exact z64))<|Zq (ld 1 Z Z (fP (z61 _)) z9r Z)<|Zq (W.max Z Z)<|Zq (W.geq Z Z)<|Zj Z (fun h6=>?_) (fun h6=>?_)
   ·refine gSR<|Zb Z<|z0o<|z0q<|Ze [] [1001] Z
   ·refine Zt<|gSR<|Zm Z<|Zq (faB 1 Z Z Tryz.underlying41 Z (by exact z64))<|Zq (ld 1 Z Z (fP (z4l _)) z9r Z)<|Zq (W.toU Z tu34 tu35)<|Zq (U.sub Z Z)<|Zc [] [] Tryz.func166 Z (zso _ _) fun r7 n8=>Zm Z<|Zq (ext Z Z)<|Zq (ext Z Z)<|Za Z<|Zb Z<|gSR<|Zq (faB 1 Z Z Tryz.underlying41 Z (by exact z64))<|Zq (ld 1 Z Z (fP (z61 _)) z9r Z)<|Zq (W.toU Z tu34 tu35)<|Zc [] [] Tryz.func168 Z (zq3 _) fun r9 n10=>Zm Z<|Zc [] [] Tryz.func167 Z (zt4 _ _) fun r11 n12=>Zm Z<|Zq (ext Z Z)<|Zq (ext Z Z)<|Za Z<|Zb Z<|z0v<|gSR<|Zm Z<|Zm Z<|Zm Z<|Zc [1001] [] Tryz.func169 Z (zkz _ _ _) fun r13 n14=>Zm Z<|Zq (ext Z Z)<|Zq (ext Z Z)<|Za Z<|Zb Z<|gSR<|Zm Z<|Zq (I.neq Z Z)<|Zm Z<|z19 52 Z (fun h15=>?_) (fun h15=>?_)
    ·refine lKn 51 Z h15<|Zk Z<|Zk Z<|Zk Z<|Zk Z<|Zq (pkT Z Z)<|Zn<|zc7 Z<|gSR<|Zb Z<|z0o<|z0q<|Ze [] [1001] Z
    ·refine lKn 51 Z h15<|z0w Zx Z Z (mv Z)<|z0w Zx Z Z (faB 1 Z Z Tryz.underlying41 Z (by exact z64))<|z0w Zx Z Z (ld 1 Z Z (fP (z4l _)) z9r Z)<|z0w Zx Z Z (W.neq Z Z)<|Zq (pkF Z Z)<|Zj Z (fun h16=>?_) (fun h16=>?_)
     ·refine gKn 56 Z h16<|gSR<|Zb Z<|z0o<|z0q<|Ze [] [1001] Z
     ·refine gKn 56 Z h16<|Zt<|gSR<|Zb Z<|z0o<|Ze [] [1001] Z
def zkc (a0:z03):Option (Int) :=
 zeq a0 >>= fun r2 =>
 if r2 != 0 then
  some r2
 else
  zfa a0 >>= fun r5 =>
  zfl a0.Author r5.1 a0.Sig >>= fun r7 =>
  some r7
theorem zry (a0:z03):z2b Tryz.prog 74 [.rd z05 a0] [zG1] (zkc a0) (fun r nv=>⟨[.rd z0k r],[(1001,some (.bool true,.glob 1 (z43 64 z0x) zah))]⟩):=by
 refine z2n 22 Tryz.func74 Z Z Z fun H w=>?_;refine gSR<|Eb Z (bx 1 Z) fun v1=>Zb Z<|z0v<|gSR<|Zq (ld 1 Z Z fH z8y Z)<|Zc [] [] Tryz.func106 Z (zg5 _) fun r2 n3=>Zb Z<|gSR<|Zm Z<|Zq (I.neq Z Z)<|Zj Z (fun h4=>?_) (fun h4=>?_)
 ·refine gSR<|Zm Z<|Zb Z<|z0o<|z0q<|Ze [] [1001] Z
 ·refine Zt<|gSR<|Zq (ld 1 Z Z fH z8y Z)<|Zc [] [(100,2)] Tryz.func107 Z (zji _) fun r5 n6=>Zm Z<|Zq (ext Z Z)<|Zq (ext Z Z)<|Za Z<|Zb Z<|gSR<|Zq (faB 1 Z Z Tryz.underlying43 Z (by exact z64))<|Zq (ld 1 Z Z (fP (z4k _)) z9r Z)<|Zm Z<|Zq (faB 1 Z Z Tryz.underlying43 Z (by exact zqn))<|Zq (ld 1 Z Z (fP (z3p _)) ty41 Z)<|zf4 2 [14,4,18] Z (fS Z<|fS Z<|fS Z<|fN)<|Zc [1001] [] Tryz.func122 Z (zof _ _ _) fun r7 n8=>Zb Z<|z0o<|Ze [] [1001] Z
def z5v (s4:UInt64 × (List UInt8)):Option (Sum ((List UInt8)) (UInt64 × (List UInt8))) :=
 if decide (0<s4.1) then
  app 1 s4.2 [(s4.1 % 256).toUInt8] >>= fun x8 =>
  some (.inr (s4.1 / 256,x8))
 else
  some (.inl s4.2)
def z5w (s3:(List UInt8)) (s15:(List UInt8) × Int):Option (Sum ((List UInt8)) ((List UInt8) × Int)) :=
 if decide (0≤s15.2) then
  idx s3 s15.2 >>= fun x18 =>
  app 1 s15.1 [x18] >>= fun x21 =>
  some (w64 (s15.2 - 1)) >>= fun y24 =>
  some (.inr (x21,y24))
 else
  some (.inl s15.1)
def z1u (a0:UInt64):Option ((List UInt8)) :=
 if decide (a0≤247) then
  some [a0.toUInt8]
 else
  (iter (z5v) (a0,[])) >>= fun s3 =>
  (some (w64 ((s3.length:Int) - 1)) >>= fun y14 =>
  iter (z5w s3) ([UInt8.ofInt (w64 (247+(s3.length:Int)))],y14)) >>= fun s13 =>
  some s13
theorem z1x (a0:UInt64):z2b Tryz.prog 104 [.rd z1p a0] [] (z1u a0) (fun r nv=>⟨[.val (nv 0)],[(100,some (nv 0,.list u8R 5 r))]⟩):=by
 refine z2n 41 Tryz.func104 Z Z Z fun H w=>?_;refine gSR<|Zb Z<|z0v<|gSR<|Zm Z<|Zq (U.leq Z Z)<|Zj Z (fun h1=>?_) (fun h1=>?_)
 ·refine gSR<|Zm Z<|Zq (U.toB Z tu35 tu5)<|Ef Z (lit (R:=u8R) ([a0.toUInt8]:List UInt8) 1 (pP Z Z<|pN) Z tu52 ti5 Z Z) fun v2=>Zb Z<|z0o<|z0q<|Ze [v2] [1] Z
 ·refine Zt<|gSR<|Zb Z<|z68 (fun (s3:(List UInt8)) aa ww=>∃ nv:Nat→Value,Sta (ctx 41 H [] w) [(3,.val (nv 0))] [(3,some ((nv 0),.list u8R 5 s3))] aa ww) ?_ (fun s3=>?_)
  ·refine zqy u8R 5 6<|z2a (fun (s4:UInt64 × (List UInt8)) aa ww=>∃ nv:Nat→Value,Sta (ctx 41 H [] w) [(0,.rd z1p s4.1),(3,.val (nv 0))] [(5,some ((nv 0),.list u8R 5 s4.2))] aa ww) (fun aa ww h=>⟨nvl [(.slice none 0 0)],Zu h [6]⟩) (fun s4=>?_);refine gEx fun n5=>z0v<|gSR<|Zm Z<|Zq (U.gtr Z Z)<|Zj Z (fun h6=>?_) (fun h6=>?_)
   ·refine Zt<|z5b<|gSR<|Zm Z<|Zm Z<|Zq (U.rem Z Z (by decide))<|Zq (U.toB Z tu35 tu5)<|Ef Z (lit (R:=u8R) ([(s4.1 % 256).toUInt8]:List UInt8) 7 (pP Z Z<|pN) Z tu52 ti5 Z Z) fun v7=>z0m fun x8 h9=>Ef Z (apn 5 Z Z Z (.own 7 Z) h9 tu52 ti5 Z Z Z) fun v10=>Zb Z<|z20<|Zm Z<|Zq (U.quo Z Z (by decide))<|Za Z<|z1g<|z3f<|z1q (fun aa ww h=>⟨nvl [v10],Zu h [5]⟩)
   ·refine z21<|z15<|z17<|z2q (fun aa ww h=>⟨nvl [(n5 0)],Zu h [5]⟩)
  ·refine gEx fun n11=>gSR<|Zm Z<|Zq (z2v Z (.own 3 Z) Z tu52)<|Zq (I.add Z Z)<|Zq (I.toB Z tu3 tu5)<|Ef Z (lit (R:=u8R) ([UInt8.ofInt (w64 (247+(s3.length:Int)))]:List UInt8) 8 (pP Z Z<|pN) Z tu52 ti5 Z Z) fun v12=>Zb Z<|z68 (fun (s13:(List UInt8)) aa ww=>∃ nv:Nat→Value,Sta (ctx 41 H [] w) [(4,.val (nv 0))] [(8,some ((nv 0),.list u8R 5 s13))] aa ww) ?_ (fun s13=>?_)
   ·refine gSR<|Zm Z<|Zq (z2v Z (.own 3 Z) Z tu52)<|Zq (I.sub Z Z)<|Za Z<|z1o 5 Z fun y14=>Zn<|z2a (fun (s15:(List UInt8) × Int) aa ww=>∃ nv:Nat→Value,Sta (ctx 41 H [] w) [(3,.val (n11 0)),(4,.val (nv 0)),(5,.rd z0k s15.2)] [(3,some ((n11 0),.list u8R 5 s3)),(8,some ((nv 0),.list u8R 5 s15.1))] aa ww) (fun aa ww h=>⟨nvl [v12],Zu h [3,8]⟩) (fun s15=>?_);refine gEx fun n16=>z0v<|gSR<|Zm Z<|Zq (I.geq Z Z)<|Zj Z (fun h17=>?_) (fun h17=>?_)
    ·refine Zt<|z0v<|z5b<|z20<|Zm Z<|Zm Z<|Zm Z<|z0m fun x18 h19=>Zq (ixO 3 Z Z Z h19 tu52 ti5)<|Zq (ld 3 Z Z (Foc.el h19) ty5 Z)<|Ef Z (lit (R:=u8R) ([x18]:List UInt8) 9 (pP Z Z<|pN) Z tu52 ti5 Z Z) fun v20=>z0m fun x21 h22=>Ef Z (apn 8 Z Z Z (.own 9 Z) h22 tu52 ti5 Z Z Z) fun v23=>Za Z<|z1g<|z3f<|z0z<|z20<|Zm Z<|Zq (I.sub Z Z)<|Za Z<|z1o 5 Z fun y24=>z1g<|z1q (fun aa ww h=>⟨nvl [v23],Zu h [3,8]⟩)
    ·refine z21<|z15<|z17<|z2q (fun aa ww h=>⟨nvl [(n16 0)],Zu h [8]⟩)
   ·refine gEx fun n25=>gSR<|Zm Z<|Zb Z<|z0o<|Ze [(n25 0)] [8] Z
def z7c (a0:List V3) (s4:(List UInt8) × Int):Option (Sum ((List UInt8)) ((List UInt8) × Int)) :=
 if decide (s4.2<(a0.length:Int)) then
  idx a0 s4.2 >>= fun x7 =>
  app 1 s4.1 x7.toList >>= fun x9 =>
  some (w64 (s4.2+1)) >>= fun y12 =>
  some (.inr (x9,y12))
 else
  some (.inl s4.1)
def zbo (a0:List V3):Option ((List UInt8)) :=
 z1u (UInt64.ofInt (a0.length:Int)) >>= fun r1 =>
 (iter (z7c a0) (r1,0)) >>= fun s3 =>
 some s3
theorem zke (a0:List V3):z2b Tryz.prog 144 [.rd (z04 aZ) a0] [] (zbo a0) (fun r nv=>⟨[.val (nv 0)],[(100,some (nv 0,.list u8R 5 r))]⟩):=by
 refine z2n 22 Tryz.func144 Z Z Z fun H w=>?_;refine gSR<|Zb Z<|gSR<|Zm Z<|Zq (z2v Z .rd Z tu29)<|Zq (I.toU Z tu3 tu35)<|Zc [] [(100,1)] Tryz.func104 Z (z1x _) fun r1 n2=>Zb Z<|z68 (fun (s3:(List UInt8)) aa ww=>∃ nv:Nat→Value,Sta (ctx 22 H [] w) [(3,.val (nv 0))] [(1,some ((nv 0),.list u8R 5 s3))] aa ww) ?_ (fun s3=>?_)
 ·refine gSR<|Zb Z<|z2a (fun (s4:(List UInt8) × Int) aa ww=>∃ nv:Nat→Value,Sta (ctx 22 H [] w) [(0,.rd (z04 aZ) a0),(3,.val (nv 0)),(4,.rd z0k s4.2)] [(1,some ((nv 0),.list u8R 5 s4.1))] aa ww) (fun aa ww h=>⟨nvl [(n2 0)],Zu h [1]⟩) (fun s4=>?_);refine gEx fun n5=>z0v<|gSR<|Zm Z<|Zm Z<|Zq (z2v Z .rd Z tu29)<|Zq (I.lss Z Z)<|Zj Z (fun h6=>?_) (fun h6=>?_)
  ·refine Zt<|z0v<|z5b<|z20<|Zm Z<|Zm Z<|Zm Z<|z0m fun x7 h8=>Zq (ixR Z Z h8 tu29 z40 Z)<|Zq (cutV Z tu45 ti5 Z Z Z)<|z0m fun x9 h10=>Ef Z (apn 1 Z Z Z .rd h10 tu52 ti5 Z Z Z) fun v11=>Za Z<|z1g<|z3f<|z0z<|z20<|Zm Z<|Zq (I.add Z Z)<|Za Z<|z1o 4 Z fun y12=>z1g<|z1q (fun aa ww h=>⟨nvl [v11],Zu h [1]⟩)
  ·refine z21<|z15<|z17<|z2q (fun aa ww h=>⟨nvl [(n5 0)],Zu h [1]⟩)
 ·refine gEx fun n13=>gSR<|Zm Z<|Zb Z<|z0o<|Ze [(n13 0)] [1] Z
def z6d (a0:List UInt8):Option ((List UInt8)) :=
 z1u (UInt64.ofInt (a0.length:Int)) >>= fun r1 =>
 app 1 r1 a0 >>= fun x3 =>
 some x3
theorem zbn (a0:List UInt8):z2b Tryz.prog 109 [.rd (z04 u8R) a0] [] (z6d a0) (fun r nv=>⟨[.val (nv 0)],[(100,some (nv 0,.list u8R 5 r))]⟩):=by
 refine z2n 9 Tryz.func109 Z Z Z fun H w=>?_;refine gSR<|Zb Z<|gSR<|Zm Z<|Zq (z2v Z .rd Z tu52)<|Zq (I.toU Z tu3 tu35)<|Zc [] [(100,1)] Tryz.func104 Z (z1x _) fun r1 n2=>Zm Z<|z0m fun x3 h4=>Ef Z (apn 1 Z Z Z .rd h4 tu52 ti5 Z Z Z) fun v5=>Zb Z<|z0o<|Ze [v5] [1] Z
def z9v (a0:Int):Option ((List UInt8)) :=
 if decide (0≤a0) then
  z1u (2 * (UInt64.ofInt a0)) >>= fun r2 =>
  some r2
 else
  z1u ((2 * (UInt64.ofInt (w64 (0 - (w64 (a0+1))))))+1) >>= fun r4 =>
  some r4
theorem zib (a0:Int):z2b Tryz.prog 188 [.rd z0k a0] [] (z9v a0) (fun r nv=>⟨[.val (nv 0)],[(100,some (nv 0,.list u8R 5 r))]⟩):=by
 refine z2n 16 Tryz.func188 Z Z Z fun H w=>?_;refine gSR<|Zb Z<|z0v<|gSR<|Zm Z<|Zq (I.geq Z Z)<|Zj Z (fun h1=>?_) (fun h1=>?_)
 ·refine gSR<|Zm Z<|Zq (I.toU Z Tryz.underlying2 tu35)<|Zq (U.mul Z Z)<|Zc [] [(100,1)] Tryz.func104 Z (z1x _) fun r2 n3=>Zb Z<|z0o<|z0q<|Ze [(n3 0)] [1] Z
 ·refine Zt<|gSR<|Zm Z<|Zq (I.add Z Z)<|Zq (I.neg Z)<|Zq (I.toU Z Tryz.underlying2 tu35)<|Zq (U.mul Z Z)<|Zq (U.add Z Z)<|Zc [] [(100,2)] Tryz.func104 Z (z1x _) fun r4 n5=>Zb Z<|z0o<|Ze [(n5 0)] [2] Z
def z6i (a0:z01) (s11:(List UInt8) × Int):Option (Sum ((List UInt8)) ((List UInt8) × Int)) :=
 if decide (0≤s11.2) then
  chk (0≤w64 (8 * s11.2)) >>= fun u14 =>
  app 1 s11.1 [(z6r a0.Bits ((w64 (8 * s11.2):Int).toNat)).toUInt8] >>= fun x17 =>
  some (w64 (s11.2 - 1)) >>= fun y20 =>
  some (.inr (x17,y20))
 else
  some (.inl s11.1)
def zap (a0:z01):Option ((List UInt8)) :=
 if a0.Kind==1 then
  z9v a0.Num >>= fun r4 =>
  app 1 [a0.Kind] r4 >>= fun x6 =>
  some x6
 else
  if a0.Kind==2 then
   (iter (z6i a0) ([a0.Kind],7)) >>= fun s10 =>
   some s10
  else
   chk (a0.Text.length≤281474976710656) >>= fun u22 =>
   z6d a0.Text >>= fun r24 =>
   app 1 [a0.Kind] r24 >>= fun x26 =>
   some x26
theorem zio (a0:z01):z2b Tryz.prog 145 [.rd z0r a0] [] (zap a0) (fun r nv=>⟨[.val (nv 0)],[(100,some (nv 0,.list u8R 5 r))]⟩):=by
 refine z2n 39 Tryz.func145 Z Z Z fun H w=>?_;refine gSR<|Eb Z (bx 1 Z) fun v1=>Zb Z<|gSR<|Zq (faB 1 Z Z Tryz.underlying37 Z (by exact ti5))<|Zq (ld 1 Z Z (fP (z23 _)) ty5 Z)<|Ef Z (lit (R:=u8R) ([a0.Kind]:List UInt8) 2 (pP Z Z<|pN) Z tu52 ti5 Z Z) fun v2=>Zb Z<|z0v<|gSR<|Zq (faB 1 Z Z Tryz.underlying37 Z (by exact ti5))<|Zq (ld 1 Z Z (fP (z23 _)) ty5 Z)<|Zn<|z5b<|gSR<|Zq (B.eql Z Z)<|Zb Z<|gIf Z Z (fun h3=>?_) (fun h3=>?_)
 ·refine gKn 11 Z h3<|gSR<|Zm Z<|Zq (faB 1 Z Z Tryz.underlying37 Z (by exact ti2))<|Zq (ld 1 Z Z (fP (z4n _)) ty2 Z)<|Zc [] [(100,3)] Tryz.func188 Z (zib _) fun r4 n5=>z0m fun x6 h7=>Ef Z (apn 2 Z Z Z (.own 3 Z) h7 tu52 ti5 Z Z Z) fun v8=>Zb Z<|z0o<|z44<|z0q<|Ze [v8] [2] Z
 ·refine gKn 11 Z h3<|gSR<|Zq (B.eql Z Z)<|Zb Z<|gIf Z Z (fun h9=>?_) (fun h9=>?_)
  ·refine gKn 18 Z h9<|z68 (fun (s10:(List UInt8)) aa ww=>∃ nv:Nat→Value,Sta (ctx 39 H [] w) [(3,.val (nv 0))] [(2,some ((nv 0),.list u8R 5 s10))] aa ww) ?_ (fun s10=>?_)
   ·refine gSR<|Zb Z<|z2a (fun (s11:(List UInt8) × Int) aa ww=>∃ nv:Nat→Value,Sta (ctx 39 H [] w) [(1,.val (z0j v1 0)),(3,.val (nv 0)),(4,.rd z0k s11.2)] [(1,some (v1,.box 37 [.rd z0r a0])),(2,some ((nv 0),.list u8R 5 s11.1))] aa ww) (fun aa ww h=>⟨nvl [v2],Zu h [1,2]⟩) (fun s11=>?_);refine gEx fun n12=>z0v<|gSR<|Zm Z<|Zq (I.geq Z Z)<|Zj Z (fun h13=>?_) (fun h13=>?_)
    ·refine Zt<|z0v<|z5b<|z20<|Zm Z<|Zq (faB 1 Z Z Tryz.underlying37 Z (by exact zo8))<|Zq (ld 1 Z Z (fP (z2i _)) ztl Z)<|Zm Z<|Zq (I.mul Z Z)<|z0m fun u14 h15=>Zq (U.shr Z Z (z60 h15))<|Zq (U.toB Z tu35 tu5)<|Ef Z (lit (R:=u8R) ([(z6r a0.Bits ((w64 (8 * s11.2):Int).toNat)).toUInt8]:List UInt8) 4 (pP Z Z<|pN) Z tu52 ti5 Z Z) fun v16=>z0m fun x17 h18=>Ef Z (apn 2 Z Z Z (.own 4 Z) h18 tu52 ti5 Z Z Z) fun v19=>Za Z<|z1g<|z3f<|z0z<|z20<|Zm Z<|Zq (I.sub Z Z)<|Za Z<|z1o 4 Z fun y20=>z1g<|z1q (fun aa ww h=>⟨nvl [v19],Zu h [1,2]⟩)
    ·refine z21<|z15<|z17<|z2q (fun aa ww h=>⟨nvl [(n12 0)],Zu h [2]⟩)
   ·refine gEx fun n21=>gSR<|Zm Z<|Zb Z<|z0o<|z44<|z0q<|Ze [(n21 0)] [2] Z
  ·refine gKn 18 Z h9<|z31<|z3f<|z0z<|gSR<|Zm Z<|Zq (faB 1 Z Z Tryz.underlying37 Z (by exact ti9))<|Zq (ld 1 Z Z (fP (z2u _)) ty9 Z)<|z0m fun u22 h23=>z13l Z Z h23 tu9 tu52 tu5<|Zc [] [(100,5)] Tryz.func109 Z (zbn _) fun r24 n25=>z0m fun x26 h27=>Ef Z (apn 2 Z Z Z (.own 5 Z) h27 tu52 ti5 Z Z Z) fun v28=>Zb Z<|z0o<|Ze [v28] [2] Z
def z9a (a0:z03):Option ((List UInt8)) :=
 z1u a0.Author.toUInt64 >>= fun r3 =>
 app 1 [111] r3 >>= fun x5 =>
 zbo a0.Preds >>= fun r8 =>
 app 1 x5 r8 >>= fun x10 =>
 z1u a0.Stamp >>= fun r13 =>
 app 1 x10 r13 >>= fun x15 =>
 app 1 x15 [a0.Act.Kind] >>= fun x19 =>
 (if a0.Act.Kind != 1 then
  chk (a0.Act.Key.length≤281474976710656) >>= fun u24 =>
  z6d a0.Act.Key >>= fun r26 =>
  app 1 x19 r26 >>= fun x28 =>
  some x28
 else
  some x19) >>= fun s22 =>
 if a0.Act.Kind==4 then
  zap a0.Act.Value >>= fun r33 =>
  app 1 s22 r33 >>= fun x35 =>
  some x35
 else
  some s22
theorem zem (a0:z03):z2b Tryz.prog 103 [.rd z05 a0] [] (z9a a0) (fun r nv=>⟨[.val (nv 0)],[(100,some (nv 0,.list u8R 5 r))]⟩):=by
 refine z2n 47 Tryz.func103 Z Z Z fun H w=>?_;refine gSR<|Eb Z (bx 1 Z) fun v1=>Zb Z<|gSR<|Ef Z (lit (R:=u8R) ([111]:List UInt8) 2 (pP Z Z<|pN) Z tu52 ti5 Z Z) fun v2=>Zq (faB 1 Z Z Tryz.underlying43 Z (by exact z64))<|Zq (ld 1 Z Z (fP (z4k _)) z9r Z)<|Zq (W.toU Z tu34 tu35)<|Zc [] [(100,3)] Tryz.func104 Z (z1x _) fun r3 n4=>z0m fun x5 h6=>Ef Z (apn 2 Z Z Z (.own 3 Z) h6 tu52 ti5 Z Z Z) fun v7=>Zb Z<|z0v<|z8g [2,13,25] mixed Z Z<|hTk 0 Z Z (mv Z)<|hTk 1 Z Z (faB 1 Z Z Tryz.underlying43 Z (by exact za8))<|hTk 2 Z Z (ld 1 Z Z (fP (z16 _)) zeh Z)<|hTk 5 Z Z (faB 1 Z Z Tryz.underlying43 Z (by exact zo8))<|hTk 6 Z Z (ld 1 Z Z (fP (z7s _)) ztl Z)<|z54 3 [] [(100,13)] Z (by kernel_rfl) Z (gd0 Z) Z Tryz.func144 Z Z (zke _) (Y1 Z) rN Z (fun _ _=>z36) fun r8 n9=>z3s fun x10 h11=>Zo 4 Z Z Z (apn 2 Z Z Z (.own 13 Z) h11 tu52 ti5 Z Z Z) fun v12=>z54 7 [] [(100,25)] Z (by kernel_rfl) Z (gd0 Z) Z Tryz.func104 Z Z (z1x _) (Y1 Z) rN Z (fun _ _=>z36) fun r13 n14=>z3s fun x15 h16=>Zo 8 Z Z Z (apn 2 Z Z Z (.own 25 Z) h16 tu52 ti5 Z Z Z) fun v17=>Zf 9 Z Z z36 (asg Z)<|z4t (by kernel_rfl)<|z0z<|gSR<|Zm Z<|Zq (faB 1 Z Z Tryz.underlying43 Z (by exact zgq))<|Zq (faB 1 Z Z Tryz.underlying39 Z (by exact ti5))<|Zq (ld 1 Z Z ((fP (z2s _)).part (z2d _)) ty5 Z)<|Ef Z (lit (R:=u8R) ([a0.Act.Kind]:List UInt8) 37 (pP Z Z<|pN) Z tu52 ti5 Z Z) fun v18=>z0m fun x19 h20=>Ef Z (apn 2 Z Z Z (.own 37 Z) h20 tu52 ti5 Z Z Z) fun v21=>Zb Z<|z68 (fun (s22:(List UInt8)) aa ww=>∃ nv:Nat→Value,Sta (ctx 47 H [] w) [(1,.val (z0j v1 0)),(3,.val (nv 0))] [(1,some (v1,.box 43 [.rd z05 a0])),(2,some ((nv 0),.list u8R 5 s22))] aa ww) ?_ (fun s22=>?_)
 ·refine gSR<|Zq (faB 1 Z Z Tryz.underlying43 Z (by exact zgq))<|Zq (faB 1 Z Z Tryz.underlying39 Z (by exact ti5))<|Zq (ld 1 Z Z ((fP (z2s _)).part (z2d _)) ty5 Z)<|Zq (B.neq Z Z)<|Zj Z (fun h23=>?_) (fun h23=>?_)
  ·refine z20<|Zm Z<|Zq (faB 1 Z Z Tryz.underlying43 Z (by exact zgq))<|Zq (faB 1 Z Z Tryz.underlying39 Z (by exact ti9))<|Zq (ld 1 Z Z ((fP (z2s _)).part (z48 _)) ty9 Z)<|z0m fun u24 h25=>z13l Z Z h25 tu9 tu52 tu5<|Zc [] [(100,38)] Tryz.func109 Z (zbn _) fun r26 n27=>z0m fun x28 h29=>Ef Z (apn 2 Z Z Z (.own 38 Z) h29 tu52 ti5 Z Z Z) fun v30=>Za Z<|z1g<|z2q (fun aa ww h=>⟨nvl [v30],Zu h [1,2]⟩)
  ·refine z31<|z2q (fun aa ww h=>⟨nvl [v21],Zu h [1,2]⟩)
 ·refine gEx fun n31=>z0v<|gSR<|Zq (faB 1 Z Z Tryz.underlying43 Z (by exact zgq))<|Zq (faB 1 Z Z Tryz.underlying39 Z (by exact ti5))<|Zq (ld 1 Z Z ((fP (z2s _)).part (z2d _)) ty5 Z)<|Zq (B.eql Z Z)<|Zj Z (fun h32=>?_) (fun h32=>?_)
  ·refine z20<|Zm Z<|Zq (faB 1 Z Z Tryz.underlying43 Z (by exact zgq))<|Zq (faB 1 Z Z Tryz.underlying39 Z (by exact zcl))<|Zq (ld 1 Z Z ((fP (z2s _)).part (z3t _)) zki Z)<|Zc [] [(100,39)] Tryz.func145 Z (zio _) fun r33 n34=>z0m fun x35 h36=>Ef Z (apn 2 Z Z Z (.own 39 Z) h36 tu52 ti5 Z Z Z) fun v37=>Zb Z<|gSR<|Zm Z<|Zb Z<|z0o<|Ze [v37] [2] Z
  ·refine Zt<|gSR<|Zm Z<|Zb Z<|z0o<|Ze [(n31 0)] [2] Z
def z71 (a0:z03):Option ((List UInt8)) :=
 z9a a0 >>= fun r2 =>
 z1u a0.Sig.E.toUInt64 >>= fun r4 =>
 app 1 r2 r4 >>= fun x6 =>
 z1u a0.Sig.S.toUInt64 >>= fun r9 =>
 app 1 x6 r9 >>= fun x11 =>
 some x11
theorem zay (a0:z03):z2b Tryz.prog 54 [.rd z05 a0] [] (z71 a0) (fun r nv=>⟨[.val (nv 0)],[(100,some (nv 0,.list u8R 5 r))]⟩):=by
 refine z2n 17 Tryz.func54 Z Z Z fun H w=>?_;refine gSR<|Eb Z (bx 1 Z) fun v1=>Zb Z<|z0v<|z8g [5,20,38] mixed Z Z<|hTk 0 Z Z (ld 1 Z Z fH z8y Z)<|hTk 2 Z Z (faB 1 Z Z Tryz.underlying43 Z (by exact zqn))<|hTk 3 Z Z (faB 1 Z Z Tryz.underlying41 Z (by exact z64))<|hTk 4 Z Z (ld 1 Z Z ((fP (z3p _)).part (z4l _)) z9r Z)<|hTk 5 Z Z (W.toU Z tu34 tu35)<|hTk 8 Z Z (faB 1 Z Z Tryz.underlying43 Z (by exact zqn))<|hTk 9 Z Z (faB 1 Z Z Tryz.underlying41 Z (by exact z64))<|hTk 10 Z Z (ld 1 Z Z ((fP (z3p _)).part (z61 _)) z9r Z)<|hTk 11 Z Z (W.toU Z tu34 tu35)<|z54 1 [] [(100,5)] Z (by kernel_rfl) Z (gd0 Z) Z Tryz.func103 Z Z (zem _) (Y1 Z) rN Z (fun _ _=>z36) fun r2 n3=>z54 6 [] [(100,20)] Z (by kernel_rfl) Z (gd0 Z) Z Tryz.func104 Z Z (z1x _) (Y1 Z) rN Z (fun _ _=>z36) fun r4 n5=>z3s fun x6 h7=>Zo 7 Z Z Z (apn 5 Z Z Z (.own 20 Z) h7 tu52 ti5 Z Z Z) fun v8=>z54 12 [] [(100,38)] Z (by kernel_rfl) Z (gd0 Z) Z Tryz.func104 Z Z (z1x _) (Y1 Z) rN Z (fun _ _=>z36) fun r9 n10=>z3s fun x11 h12=>Zo 13 Z Z Z (apn 5 Z Z Z (.own 38 Z) h12 tu52 ti5 Z Z Z) fun v13=>Zf 14 Z Z z36 (asg Z)<|z4t (by kernel_rfl)<|z0z<|z0o<|Ze [v13] [5] Z
def zd7  : Option ((Vector UInt32 8)) :=
 some (#v[1779033703,3144134277,1013904242,2773480762,1359893119,2600822924,528734635,1541459225]:Vector UInt32 8)
theorem zir  : z2b Tryz.prog 101 [] [] (zd7) (fun r nv=>⟨[.rd (z43 8 z0x) r],[]⟩):=by
 refine z2n 2 Tryz.func101 Z Z Z fun H w=>?_;refine gSR<|Eb Z (zad 1 zi9 (.zr (R:=(z43 8 z0x)) (x:=(Vector.replicate 8 0)) zrr)) fun v1=>Zn<|gSR<|Zq (litA (R:=z0x) [1779033703,3144134277,1013904242,2773480762,1359893119,2600822924,528734635,1541459225] (#v[1779033703,3144134277,1013904242,2773480762,1359893119,2600822924,528734635,1541459225]:Vector UInt32 8) (pP Z Z<|pP Z Z<|pP Z Z<|pP Z Z<|pP Z Z<|pP Z Z<|pP Z Z<|pP Z Z<|pN) Z tu149 zi9 Z z64)<|Es (sto 1 Z Z fH Z zi9)<|Zn<|z0o<|zb3 [] [] Z (eC 1 Z Z zsn<|eN) (rN)
def z7f (a0:Int) (s3:(List UInt8)):Option (Sum ((List UInt8)) ((List UInt8))) :=
 if (Int.tmod (w64 ((w64 (a0+(s3.length:Int)))+8)) 64) != 0 then
  app 1 s3 [0] >>= fun x7 =>
  some (.inr x7)
 else
  some (.inl s3)
def z79 (a0:Int) (s12:(List UInt8) × Int):Option (Sum ((List UInt8)) ((List UInt8) × Int)) :=
 if decide (0≤s12.2) then
  chk (0≤w64 (8 * s12.2)) >>= fun u15 =>
  app 1 s12.1 [(z6r (8 * (UInt64.ofInt a0)) ((w64 (8 * s12.2):Int).toNat)).toUInt8] >>= fun x18 =>
  some (w64 (s12.2 - 1)) >>= fun y21 =>
  some (.inr (x18,y21))
 else
  some (.inl s12.1)
def zbj (a0:Int):Option ((List UInt8)) :=
 (iter (z7f a0) [128]) >>= fun s2 =>
 (iter (z79 a0) (s2,7)) >>= fun s11 =>
 some s11
theorem zju (a0:Int):z2b Tryz.prog 102 [.rd z0k a0] [] (zbj a0) (fun r nv=>⟨[.val (nv 0)],[(100,some (nv 0,.list u8R 5 r))]⟩):=by
 refine z2n 31 Tryz.func102 Z Z Z fun H w=>?_;refine gSR<|Zb Z<|gSR<|Ef Z (lit (R:=u8R) ([128]:List UInt8) 1 (pP Z Z<|pN) Z tu52 ti5 Z Z) fun v1=>Zb Z<|z68 (fun (s2:(List UInt8)) aa ww=>∃ nv:Nat→Value,Sta (ctx 31 H [] w) [(0,.rd z0k a0),(3,.val (nv 0))] [(1,some ((nv 0),.list u8R 5 s2))] aa ww) ?_ (fun s2=>?_)
 ·refine z2a (fun (s3:(List UInt8)) aa ww=>∃ nv:Nat→Value,Sta (ctx 31 H [] w) [(0,.rd z0k a0),(3,.val (nv 0))] [(1,some ((nv 0),.list u8R 5 s3))] aa ww) (fun aa ww h=>⟨nvl [v1],Zu h [1]⟩) (fun s3=>?_);refine gEx fun n4=>z0v<|gSR<|Zm Z<|Zm Z<|Zq (z2v Z (.own 1 Z) Z tu52)<|Zq (I.add Z Z)<|Zq (I.add Z Z)<|Zq (I.rem Z Z (by decide))<|Zq (I.neq Z Z)<|Zj Z (fun h5=>?_) (fun h5=>?_)
  ·refine Zt<|z5b<|z20<|Zm Z<|Ef Z (lit (R:=u8R) ([0]:List UInt8) 2 (pP Z Z<|pN) Z tu52 ti5 Z Z) fun v6=>z0m fun x7 h8=>Ef Z (apn 1 Z Z Z (.own 2 Z) h8 tu52 ti5 Z Z Z) fun v9=>Za Z<|z1g<|z3f<|z1q (fun aa ww h=>⟨nvl [v9],Zu h [1]⟩)
  ·refine z21<|z15<|z17<|z2q (fun aa ww h=>⟨nvl [(n4 0)],Zu h [1]⟩)
 ·refine gEx fun n10=>z68 (fun (s11:(List UInt8)) aa ww=>∃ nv:Nat→Value,Sta (ctx 31 H [] w) [(3,.val (nv 0))] [(1,some ((nv 0),.list u8R 5 s11))] aa ww) ?_ (fun s11=>?_)
  ·refine gSR<|Zb Z<|z2a (fun (s12:(List UInt8) × Int) aa ww=>∃ nv:Nat→Value,Sta (ctx 31 H [] w) [(0,.rd z0k a0),(3,.val (nv 0)),(4,.rd z0k s12.2)] [(1,some ((nv 0),.list u8R 5 s12.1))] aa ww) (fun aa ww h=>⟨nvl [(n10 0)],Zu h [1]⟩) (fun s12=>?_);refine gEx fun n13=>z0v<|gSR<|Zm Z<|Zq (I.geq Z Z)<|Zj Z (fun h14=>?_) (fun h14=>?_)
   ·refine Zt<|z0v<|z5b<|z20<|Zm Z<|Zm Z<|Zq (I.toU Z tu3 tu35)<|Zq (U.mul Z Z)<|Zm Z<|Zq (I.mul Z Z)<|z0m fun u15 h16=>Zq (U.shr Z Z (z60 h16))<|Zq (U.toB Z tu35 tu5)<|Ef Z (lit (R:=u8R) ([(z6r (8 * (UInt64.ofInt a0)) ((w64 (8 * s12.2):Int).toNat)).toUInt8]:List UInt8) 3 (pP Z Z<|pN) Z tu52 ti5 Z Z) fun v17=>z0m fun x18 h19=>Ef Z (apn 1 Z Z Z (.own 3 Z) h19 tu52 ti5 Z Z Z) fun v20=>Za Z<|z1g<|z3f<|z0z<|z20<|Zm Z<|Zq (I.sub Z Z)<|Za Z<|z1o 4 Z fun y21=>z1g<|z1q (fun aa ww h=>⟨nvl [v20],Zu h [1]⟩)
   ·refine z21<|z15<|z17<|z2q (fun aa ww h=>⟨nvl [(n13 0)],Zu h [1]⟩)
  ·refine gEx fun n22=>gSR<|Zm Z<|Zb Z<|z0o<|Ze [(n22 0)] [1] Z
def z2w (a0:UInt32) (a1:Int):Option (UInt32) :=
 chk (0≤a1) >>= fun u1 =>
 chk (0≤w64 (32 - a1)) >>= fun u3 =>
 some ((z57 a0 ((a1:Int).toNat)) ||| (zqp a0 ((w64 (32 - a1):Int).toNat))) >>= fun y5 =>
 some y5
theorem z2z (a0:UInt32) (a1:Int):z2b Tryz.prog 186 [.rd z0x a0,.rd z0k a1] [] (z2w a0 a1) (fun r nv=>⟨[.rd z0x r],[]⟩):=by
 refine z2n 13 Tryz.func186 Z Z Z fun H w=>?_;refine gSR<|Zb Z<|z0v<|zi5 mixed (by kernel_rfl)<|Rq Z (mv Z)<|Rq Z (mv Z)<|z80 fun u1 h2=>Rq Z (W.shr Z Z (z60 h2))<|Rq Z (mv Z)<|Rq Z (mv Z)<|Rq Z (I.sub Z Z)<|z80 fun u3 h4=>Rq Z (W.shl Z Z (z60 h4))<|Rq Z (W.or Z Z)<|Rq Z (asg Z)<|z18o 4 Z fun y5=>ztj<|z0z<|z0o<|Ze [] [] Z
def zag  : Option ((List UInt32)) :=
 some [1116352408,1899447441,3049323471,3921009573,961987163,1508970993,2453635748,2870763221,3624381080,310598401,607225278,1426881987,1925078388,2162078206,2614888103,3248222580,3835390401,4022224774,264347078,604807628,770255983,1249150122,1555081692,1996064986,2554220882,2821834349,2952996808,3210313671,3336571891,3584528711,113926993,338241895,666307205,773529912,1294757372,1396182291,1695183700,1986661051,2177026350,2456956037,2730485921,2820302411,3259730800,3345764771,3516065817,3600352804,4094571909,275423344,430227734,506948616,659060556,883997877,958139571,1322822218,1537002063,1747873779,1955562222,2024104815,2227730452,2361852424,2428436474,2756734187,3204031479,3329325298]
theorem zg3  : z2b Tryz.prog 187 [] [] (zag) (fun r nv=>⟨[.val (nv 0)],[(100,some (nv 0,.list z0x 34 r))]⟩):=by
 refine z2n 2 Tryz.func187 Z Z Z fun H w=>?_;refine gSR<|Zb Z<|gSR<|Ef Z (lit (R:=z0x) ([1116352408,1899447441,3049323471,3921009573,961987163,1508970993,2453635748,2870763221,3624381080,310598401,607225278,1426881987,1925078388,2162078206,2614888103,3248222580,3835390401,4022224774,264347078,604807628,770255983,1249150122,1555081692,1996064986,2554220882,2821834349,2952996808,3210313671,3336571891,3584528711,113926993,338241895,666307205,773529912,1294757372,1396182291,1695183700,1986661051,2177026350,2456956037,2730485921,2820302411,3259730800,3345764771,3516065817,3600352804,4094571909,275423344,430227734,506948616,659060556,883997877,958139571,1322822218,1537002063,1747873779,1955562222,2024104815,2227730452,2361852424,2428436474,2756734187,3204031479,3329325298]:List UInt32) 1 (pP Z Z<|pP Z Z<|pP Z Z<|pP Z Z<|pP Z Z<|pP Z Z<|pP Z Z<|pP Z Z<|pP Z Z<|pP Z Z<|pP Z Z<|pP Z Z<|pP Z Z<|pP Z Z<|pP Z Z<|pP Z Z<|pP Z Z<|pP Z Z<|pP Z Z<|pP Z Z<|pP Z Z<|pP Z Z<|pP Z Z<|pP Z Z<|pP Z Z<|pP Z Z<|pP Z Z<|pP Z Z<|pP Z Z<|pP Z Z<|pP Z Z<|pP Z Z<|pP Z Z<|pP Z Z<|pP Z Z<|pP Z Z<|pP Z Z<|pP Z Z<|pP Z Z<|pP Z Z<|pP Z Z<|pP Z Z<|pP Z Z<|pP Z Z<|pP Z Z<|pP Z Z<|pP Z Z<|pP Z Z<|pP Z Z<|pP Z Z<|pP Z Z<|pP Z Z<|pP Z Z<|pP Z Z<|pP Z Z<|pP Z Z<|pP Z Z<|pP Z Z<|pP Z Z<|pP Z Z<|pP Z Z<|pP Z Z<|pP Z Z<|pP Z Z<|pN) Z tu232 z64 Z Z) fun v1=>Zb Z<|z0o<|Ze [v1] [1] Z
def z5u (a1:List UInt8) (s4:(List UInt32) × Int):Option (Sum ((List UInt32)) ((List UInt32) × Int)) :=
 if decide (s4.2<16) then
  idx a1 (w64 (4 * s4.2)) >>= fun x7 =>
  idx a1 (w64 ((w64 (4 * s4.2))+1)) >>= fun x9 =>
  idx a1 (w64 ((w64 (4 * s4.2))+2)) >>= fun x11 =>
  idx a1 (w64 ((w64 (4 * s4.2))+3)) >>= fun x13 =>
  app 4 s4.1 [(((((x7.toUInt32 * 256)+x9.toUInt32) * 256)+x11.toUInt32) * 256)+x13.toUInt32] >>= fun x16 =>
  some (w64 (s4.2+1)) >>= fun y19 =>
  some (.inr (x16,y19))
 else
  some (.inl s4.1)
def z5q (s22:(List UInt32) × Int):Option (Sum ((List UInt32)) ((List UInt32) × Int)) :=
 if decide (s22.2<64) then
  idx s22.1 (w64 (s22.2 - 15)) >>= fun x25 =>
  idx s22.1 (w64 (s22.2 - 2)) >>= fun x27 =>
  idx s22.1 (w64 (s22.2 - 16)) >>= fun x29 =>
  idx s22.1 (w64 (s22.2 - 7)) >>= fun x31 =>
  z2w x25 7 >>= fun r33 =>
  z2w x25 18 >>= fun r36 =>
  z2w x27 17 >>= fun r39 =>
  z2w x27 19 >>= fun r42 =>
  app 4 s22.1 [((x29+x31)+((r33 ^^^ r36) ^^^ (z57 x25 3)))+((r39 ^^^ r42) ^^^ (z57 x27 10))] >>= fun x45 =>
  some (w64 (s22.2+1)) >>= fun y48 =>
  some (.inr (x45,y48))
 else
  some (.inl s22.1)
def z3q (s21:(List UInt32)) (r50:(List UInt32)) (s54:(Vector UInt32 8) × Int):Option (Sum ((Vector UInt32 8)) ((Vector UInt32 8) × Int)) :=
 if decide (s54.2<64) then
  z7z s54.1 0 >>= fun x56 =>
  z7z s54.1 1 >>= fun x58 =>
  z7z s54.1 2 >>= fun x60 =>
  z7z s54.1 4 >>= fun x62 =>
  z7z s54.1 5 >>= fun x64 =>
  z7z s54.1 6 >>= fun x66 =>
  z7z s54.1 7 >>= fun x68 =>
  idx r50 s54.2 >>= fun x70 =>
  idx s21 s54.2 >>= fun x72 =>
  z2w x62 6 >>= fun r74 =>
  z2w x62 11 >>= fun r76 =>
  z2w x62 25 >>= fun r78 =>
  some ((((x68+((r74 ^^^ r76) ^^^ r78))+((x62 &&& x64) ^^^ ((~~~x62) &&& x66)))+x70)+x72) >>= fun y80 =>
  z2w x56 2 >>= fun r81 =>
  z2w x56 13 >>= fun r83 =>
  z2w x56 22 >>= fun r85 =>
  some (((r81 ^^^ r83) ^^^ r85)+(((x56 &&& x58) ^^^ (x56 &&& x60)) ^^^ (x58 &&& x60))) >>= fun y87 =>
  z7z s54.1 3 >>= fun x88 =>
  some (w64 (s54.2+1)) >>= fun y90 =>
  some (.inr ((#v[y80+y87,x56,x58,x60,x88+y80,x62,x64,x66]:Vector UInt32 8),y90))
 else
  some (.inl s54.1)
def z3d (s53:(Vector UInt32 8)) (s92:(Vector UInt32 8) × Int):Option (Sum ((Vector UInt32 8)) ((Vector UInt32 8) × Int)) :=
 if decide (s92.2<8) then
  z7z s92.1 s92.2 >>= fun x94 =>
  z7z s53 s92.2 >>= fun x96 =>
  z7z s92.1 s92.2 >>= fun x98 =>
  some (w64 (s92.2+1)) >>= fun y100 =>
  some (.inr (zi0 s92.1 s92.2 (x94+x96),y100))
 else
  some (.inl s92.1)
def z9w (a0:Vector UInt32 8) (a1:List UInt8):Option ((Vector UInt32 8)) :=
 (iter (z5u a1) ([],0)) >>= fun s3 =>
 (iter (z5q) (s3,16)) >>= fun s21 =>
 zag >>= fun r50 =>
 (iter (z3q s21 r50) (a0,0)) >>= fun s53 =>
 (iter (z3d s53) (a0,0)) >>= fun s91 =>
 some s91
set_option maxHeartbeats 4000000 in
theorem zhz (a0:Vector UInt32 8) (a1:List UInt8):z2b Tryz.prog 143 [.rd (z43 8 z0x) a0,.rd (z04 u8R) a1] [] (z9w a0 a1) (fun r nv=>⟨[.rd (z43 8 z0x) r],[]⟩):=by
 refine z2n 203 Tryz.func143 Z Z Z fun H w=>?_;refine gSR<|Eb Z (bx 1 Z) fun v1=>Eb Z (zad 2 zi9 (.zr (R:=(z43 8 z0x)) (x:=(Vector.replicate 8 0)) zrr)) fun v2=>Zn<|gSR<|Zb Z<|z68 (fun (s3:(List UInt32)) aa ww=>∃ nv:Nat→Value,Sta (ctx 203 H [] w) [(2,.val (z0j v1 0)),(4,.val (z0j v2 0)),(5,.val (nv 0))] [(1,some (v1,.box 149 [.rd (z43 8 z0x) a0])),(2,some (v2,.box 149 [.rd (z43 8 z0x) (Vector.replicate 8 0)])),(108,some ((nv 0),.list z0x 34 s3))] aa ww) ?_ (fun s3=>?_)
 ·refine gSR<|Zb Z<|zqy z0x 34 215<|z2a (fun (s4:(List UInt32) × Int) aa ww=>∃ nv:Nat→Value,Sta (ctx 203 H [] w) [(1,.rd (z04 u8R) a1),(2,.val (z0j v1 0)),(4,.val (z0j v2 0)),(5,.val (nv 0)),(6,.rd z0k s4.2)] [(1,some (v1,.box 149 [.rd (z43 8 z0x) a0])),(2,some (v2,.box 149 [.rd (z43 8 z0x) (Vector.replicate 8 0)])),(214,some ((nv 0),.list z0x 34 s4.1))] aa ww) (fun aa ww h=>⟨nvl [(.slice none 0 0)],Zu h [1,2,215]⟩) (fun s4=>?_)
  refine gEx fun n5=>z0v<|gSR<|Zm Z<|Zq (I.lss Z Z)<|Zj Z (fun h6=>?_) (fun h6=>?_)
  ·refine Zt<|z0v<|z5b<|z8g [214,318] mixed Z Z<|hTk 0 Z Z (mv Z)<|hTk 1 Z Z (mv Z)<|hTk 2 Z Z (mv Z)<|hTk 3 Z Z (I.mul Z Z)<|z3s fun x7 h8=>hTk 4 Z Z (ixR Z Z h8 tu52 ti5 Z)<|hTk 5 Z Z (ldR Z ty5)<|hTk 6 Z Z (B.toW Z tu5 tu34)<|hTk 7 Z Z (W.mul Z Z)<|hTk 8 Z Z (mv Z)<|hTk 9 Z Z (mv Z)<|hTk 10 Z Z (I.mul Z Z)<|hTk 11 Z Z (I.add Z Z)<|z3s fun x9 h10=>hTk 12 Z Z (ixR Z Z h10 tu52 ti5 Z)<|hTk 13 Z Z (ldR Z ty5)<|hTk 14 Z Z (B.toW Z tu5 tu34)<|hTk 15 Z Z (W.add Z Z)<|hTk 16 Z Z (W.mul Z Z)<|hTk 17 Z Z (mv Z)<|hTk 18 Z Z (mv Z)<|hTk 19 Z Z (I.mul Z Z)<|hTk 20 Z Z (I.add Z Z)<|z3s fun x11 h12=>hTk 21 Z Z (ixR Z Z h12 tu52 ti5 Z)<|hTk 22 Z Z (ldR Z ty5)<|hTk 23 Z Z (B.toW Z tu5 tu34)<|hTk 24 Z Z (W.add Z Z)<|hTk 25 Z Z (W.mul Z Z)<|hTk 26 Z Z (mv Z)<|hTk 27 Z Z (mv Z)<|hTk 28 Z Z (I.mul Z Z)<|hTk 29 Z Z (I.add Z Z)<|z3s fun x13 h14=>hTk 30 Z Z (ixR Z Z h14 tu52 ti5 Z)<|hTk 31 Z Z (ldR Z ty5)<|hTk 32 Z Z (B.toW Z tu5 tu34)<|hTk 33 Z Z (W.add Z Z)<|Zo 34 Z Z Z (lit (R:=z0x) ([(((((x7.toUInt32 * 256)+x9.toUInt32) * 256)+x11.toUInt32) * 256)+x13.toUInt32]:List UInt32) 318 (pP Z Z<|pN) Z tu232 z64 Z Z) fun v15=>z3s fun x16 h17=>Zo 35 Z Z Z (apn 214 Z Z Z (.own 318 Z) h17 tu232 z64 Z Z Z) fun v18=>Zf 36 Z Z z36 (asg Z)<|z4t (by kernel_rfl)<|z3f<|z0z<|z20<|Zm Z<|Zq (I.add Z Z)<|Za Z<|z1o 6 Z fun y19=>z1g<|z1q (fun aa ww h=>⟨nvl [v18],Zu h [1,2,214]⟩)
  ·refine z21<|z15<|z17<|z2q (fun aa ww h=>⟨nvl [(n5 0)],Zu h [1,2,214]⟩)
 ·refine gEx fun n20=>z68 (fun (s21:(List UInt32)) aa ww=>∃ nv:Nat→Value,Sta (ctx 203 H [] w) [(2,.val (z0j v1 0)),(4,.val (z0j v2 0)),(5,.val (nv 0))] [(1,some (v1,.box 149 [.rd (z43 8 z0x) a0])),(2,some (v2,.box 149 [.rd (z43 8 z0x) (Vector.replicate 8 0)])),(108,some ((nv 0),.list z0x 34 s21))] aa ww) ?_ (fun s21=>?_)
  ·refine gSR<|Zb Z<|z2a (fun (s22:(List UInt32) × Int) aa ww=>∃ nv:Nat→Value,Sta (ctx 203 H [] w) [(2,.val (z0j v1 0)),(4,.val (z0j v2 0)),(5,.val (nv 0)),(7,.rd z0k s22.2)] [(1,some (v1,.box 149 [.rd (z43 8 z0x) a0])),(2,some (v2,.box 149 [.rd (z43 8 z0x) (Vector.replicate 8 0)])),(108,some ((nv 0),.list z0x 34 s22.1))] aa ww) (fun aa ww h=>⟨nvl [(n20 0)],Zu h [1,2,108]⟩) (fun s22=>?_);refine gEx fun n23=>z0v<|gSR<|Zm Z<|Zq (I.lss Z Z)<|Zj Z (fun h24=>?_) (fun h24=>?_)
   ·refine Zt<|z0v<|z5b<|z0v<|zi5 mixed (by kernel_rfl)<|Rq Z (mv Z)<|Rq Z (mv Z)<|Rq Z (I.sub Z Z)<|z80 fun x25 h26=>Rq Z (ixO 108 Z Z Z h26 tu232 z64)<|Rq Z (ld 108 Z Z (Foc.el h26) z9r Z)<|Rq Z (mv Z)<|Rq Z (mv Z)<|Rq Z (I.sub Z Z)<|z80 fun x27 h28=>Rq Z (ixO 108 Z Z Z h28 tu232 z64)<|Rq Z (ld 108 Z Z (Foc.el h28) z9r Z)<|Rq Z (asg Z)<|Rq Z (asg Z)<|ztj<|z0z<|gSub [(5,.val (n23 0)),(2,.val (z0j v1 0)),(4,.val (z0j v2 0)),(7,.rd z0k s22.2),(8,.rd z0x x25),(9,.rd z0x x27)] [(1,some (v1,.box 149 [.rd (z43 8 z0x) a0])),(2,some (v2,.box 149 [.rd (z43 8 z0x) (Vector.replicate 8 0)])),(108,some ((n23 0),.list z0x 34 s22.1))] [1,2,108] (Zs Z Z Z Z<|sS Z<|sS Z<|sN) (Zi Z<|Zi Z<|Zi Z<|rN)<|zez fun x29 h30=>zez fun x31 h32=>zez fun r33 h35=>zez fun r36 h38=>zez fun r39 h41=>zez fun r42 h44=>zez fun x45 h46=>gOr [(5,.val (n23 0),32)] [⟨108,some ([], fun nv=>((n23 0),.list z0x 34 s22.1)),[(31,some ([2], fun nv=>((nv 2),.list z0x 34 x45)))]⟩,⟨330,none,[(30,some ([1], fun nv=>((nv 1),.list z0x 34 [((x29+x31)+((r33 ^^^ r36) ^^^ (z57 x25 3)))+((r39 ^^^ r42) ^^^ (z57 x27 10))])))]⟩] [⟨some (76,[], fun nv=>.val (n23 0)),[],[],[0]⟩,⟨some (77,[], fun nv=>.val (n23 0)),[],[],[0]⟩,pd 78 (.rd z0k s22.2),pd 79 (.rd z0k (w64 (s22.2 - 16))),pk 80 (.val (z0j (n23 0) ((w64 (s22.2 - 16):Int).toNat * 1))) [(0,0,false)],pk 81 (.rd z0x x29) [(0,0,false)],⟨some (82,[], fun nv=>.val (n23 0)),[],[],[0]⟩,pd 83 (.rd z0k s22.2),pd 84 (.rd z0k (w64 (s22.2 - 7))),pk 85 (.val (z0j (n23 0) ((w64 (s22.2 - 7):Int).toNat * 1))) [(0,0,false)],pk 86 (.rd z0x x31) [(0,0,false)],pd 87 (.rd z0x (x29+x31)),pd 88 (.rd z0x x25),pd 89 (.rd z0x r33),pd 90 (.rd z0x x25),pd 91 (.rd z0x r36),pd 92 (.rd z0x (r33 ^^^ r36)),pd 93 (.rd z0x x25),pd 94 (.rd z0x (z57 x25 3)),pd 95 (.rd z0x ((r33 ^^^ r36) ^^^ (z57 x25 3))),pd 96 (.rd z0x ((x29+x31)+((r33 ^^^ r36) ^^^ (z57 x25 3)))),pd 97 (.rd z0x x27),pd 98 (.rd z0x r39),pd 99 (.rd z0x x27),pd 100 (.rd z0x r42),pd 101 (.rd z0x (r39 ^^^ r42)),pd 102 (.rd z0x x27),pd 103 (.rd z0x (z57 x27 10)),pd 104 (.rd z0x ((r39 ^^^ r42) ^^^ (z57 x27 10))),pd 105 (.rd z0x (((x29+x31)+((r33 ^^^ r36) ^^^ (z57 x25 3)))+((r39 ^^^ r42) ^^^ (z57 x27 10)))),⟨some (106,[1], fun nv=>.val (nv 1)),[(1,0,true)],[1],[]⟩,⟨some (107,[2], fun nv=>.val (nv 2)),[(1,1,false),(0,0,true)],[2],[]⟩,⟨some (5,[2], fun nv=>.val (nv 2)),[],[],[]⟩] mixed (oC (oRn (fun nv E=>mv Z))<|oC (oRn (fun nv E=>mv Z))<|oC (oRn (fun nv E=>mv Z))<|oC (oRn (fun nv E=>I.sub Z Z))<|oC (oRn (fun nv E=>ixO 108 Z Z Z h30 tu232 z64))<|oC (oRn (fun nv E=>ld 108 Z Z (Foc.el h30) z9r Z))<|oC (oRn (fun nv E=>mv Z))<|oC (oRn (fun nv E=>mv Z))<|oC (oRn (fun nv E=>I.sub Z Z))<|oC (oRn (fun nv E=>ixO 108 Z Z Z h32 tu232 z64))<|oC (oRn (fun nv E=>ld 108 Z Z (Foc.el h32) z9r Z))<|oC (oRn (fun nv E=>W.add Z Z))<|oC (oRn (fun nv E=>mv Z))<|oC (oCl [] [] [] h35 Tryz.func186 Z (fun nv=>(z2z _ _)) (fun nv=>(Y2 Z Z)) (fun nv E=>rN))<|oC (oRn (fun nv E=>mv Z))<|oC (oCl [] [] [] h38 Tryz.func186 Z (fun nv=>(z2z _ _)) (fun nv=>(Y2 Z Z)) (fun nv E=>rN))<|oC (oRn (fun nv E=>W.xor Z Z))<|oC (oRn (fun nv E=>mv Z))<|oC (oRn (fun nv E=>W.shr Z Z (Int.natCast_nonneg _)))<|oC (oRn (fun nv E=>W.xor Z Z))<|oC (oRn (fun nv E=>W.add Z Z))<|oC (oRn (fun nv E=>mv Z))<|oC (oCl [] [] [] h41 Tryz.func186 Z (fun nv=>(z2z _ _)) (fun nv=>(Y2 Z Z)) (fun nv E=>rN))<|oC (oRn (fun nv E=>mv Z))<|oC (oCl [] [] [] h44 Tryz.func186 Z (fun nv=>(z2z _ _)) (fun nv=>(Y2 Z Z)) (fun nv E=>rN))<|oC (oRn (fun nv E=>W.xor Z Z))<|oC (oRn (fun nv E=>mv Z))<|oC (oRn (fun nv E=>W.shr Z Z (Int.natCast_nonneg _)))<|oC (oRn (fun nv E=>W.xor Z Z))<|oC (oRn (fun nv E=>W.add Z Z))<|oC (oEf 330 1 (fun nv E=>lit (R:=z0x) ([((x29+x31)+((r33 ^^^ r36) ^^^ (z57 x25 3)))+((r39 ^^^ r42) ^^^ (z57 x27 10))]:List UInt32) 330 (pP Z Z<|pN) Z tu232 z64 Z Z))<|oC (oEf 108 2 (fun nv E=>apn 108 Z Z Z (.own 330 Z) h46 tu232 z64 Z Z Z))<|oC (oRn (fun nv E=>asg Z))<|oN) fun n47=>z3f<|z0z<|z20<|Zm Z<|Zq (I.add Z Z)<|Za Z<|z1o 7 Z fun y48=>z1g<|z1q (fun aa ww h=>⟨nvl [(n47 2)],Zu h [1,2,108]⟩)
   ·refine z21<|z15<|z17<|z2q (fun aa ww h=>⟨nvl [(n23 0)],Zu h [1,2,108]⟩)
  ·refine gEx fun n49=>gSR<|Zc [] [(100,331)] Tryz.func187 Z (zg3) fun r50 n51=>Zb Z<|gSR<|Zq (ld 1 Z Z fH zsn Z)<|Eb Z (zad 332 zi9 (.zr (R:=(z43 8 z0x)) (x:=(Vector.replicate 8 0)) zrr)) fun v52=>Es (sto 332 Z Z fH Z zi9)<|Zn<|z68 (fun (s53:(Vector UInt32 8)) aa ww=>Sta (ctx 203 H [] w) [(2,.val (z0j v1 0)),(4,.val (z0j v2 0)),(11,.val (z0j v52 0))] [(1,some (v1,.box 149 [.rd (z43 8 z0x) a0])),(2,some (v2,.box 149 [.rd (z43 8 z0x) (Vector.replicate 8 0)])),(332,some (v52,.box 149 [.rd (z43 8 z0x) s53]))] aa ww) ?_ (fun s53=>?_)
   ·refine gSR<|Zb Z<|z2a (fun (s54:(Vector UInt32 8) × Int) aa ww=>Sta (ctx 203 H [] w) [(2,.val (z0j v1 0)),(4,.val (z0j v2 0)),(5,.val (n49 0)),(10,.val (n51 0)),(11,.val (z0j v52 0)),(12,.rd z0k s54.2)] [(1,some (v1,.box 149 [.rd (z43 8 z0x) a0])),(2,some (v2,.box 149 [.rd (z43 8 z0x) (Vector.replicate 8 0)])),(108,some ((n49 0),.list z0x 34 s21)),(331,some ((n51 0),.list z0x 34 r50)),(332,some (v52,.box 149 [.rd (z43 8 z0x) s54.1]))] aa ww) (fun aa ww h=>Zu h [1,2,108,331,332]) (fun s54=>?_)
    refine z0v<|gSR<|Zm Z<|Zq (I.lss Z Z)<|Zj Z (fun h55=>?_) (fun h55=>?_)
    ·refine Zt<|z0v<|z5b<|z0v<|zi5 mixed (by kernel_rfl)<|z80 fun x56 h57=>Rq Z (ixB 332 Z Z Z h57 tu149 z64)<|Rq Z (ld 332 Z Z (fP (.el h57)) z9r Z)<|z80 fun x58 h59=>Rq Z (ixB 332 Z Z Z h59 tu149 z64)<|Rq Z (ld 332 Z Z (fP (.el h59)) z9r Z)<|z80 fun x60 h61=>Rq Z (ixB 332 Z Z Z h61 tu149 z64)<|Rq Z (ld 332 Z Z (fP (.el h61)) z9r Z)<|z80 fun x62 h63=>Rq Z (ixB 332 Z Z Z h63 tu149 z64)<|Rq Z (ld 332 Z Z (fP (.el h63)) z9r Z)<|z80 fun x64 h65=>Rq Z (ixB 332 Z Z Z h65 tu149 z64)<|Rq Z (ld 332 Z Z (fP (.el h65)) z9r Z)<|z80 fun x66 h67=>Rq Z (ixB 332 Z Z Z h67 tu149 z64)<|Rq Z (ld 332 Z Z (fP (.el h67)) z9r Z)<|Rq Z (asg Z)<|Rq Z (asg Z)<|Rq Z (asg Z)<|Rq Z (asg Z)<|Rq Z (asg Z)<|Rq Z (asg Z)<|ztj<|z0z<|z0v<|z8g [] mixed Z Z<|z3s fun x68 h69=>hTk 0 Z Z (ixB 332 Z Z Z h69 tu149 z64)<|hTk 1 Z Z (ld 332 Z Z (fP (.el h69)) z9r Z)<|hTk 2 Z Z (mv Z)<|hTk 4 Z Z (mv Z)<|hTk 7 Z Z (mv Z)<|hTk 11 Z Z (mv Z)<|hTk 12 Z Z (mv Z)<|hTk 13 Z Z (W.and Z Z)<|hTk 14 Z Z (mv Z)<|hTk 15 Z Z (W.cpl Z)<|hTk 16 Z Z (mv Z)<|hTk 17 Z Z (W.and Z Z)<|hTk 18 Z Z (W.xor Z Z)<|hTk 20 Z Z (mv Z)<|hTk 21 Z Z (mv Z)<|z3s fun x70 h71=>hTk 22 Z Z (ixO 331 Z Z Z h71 tu232 z64)<|hTk 23 Z Z (ld 331 Z Z (Foc.el h71) z9r Z)<|hTk 25 Z Z (mv Z)<|hTk 26 Z Z (mv Z)<|z3s fun x72 h73=>hTk 27 Z Z (ixO 108 Z Z Z h73 tu232 z64)<|hTk 28 Z Z (ld 108 Z Z (Foc.el h73) z9r Z)<|z54 3 [] [] Z (by kernel_rfl) Z (gd0 Z) Z Tryz.func186 Z Z (z2z _ _) (Y2 Z Z) rN Z (fun _ _=>z3g) fun r74 n75=>z54 5 [] [] Z (by kernel_rfl) Z (gd0 Z) Z Tryz.func186 Z Z (z2z _ _) (Y2 Z Z) rN Z (fun _ _=>z3g) fun r76 n77=>hTk 6 Z Z (W.xor Z Z)<|z54 8 [] [] Z (by kernel_rfl) Z (gd0 Z) Z Tryz.func186 Z Z (z2z _ _) (Y2 Z Z) rN Z (fun _ _=>z3g) fun r78 n79=>hTk 9 Z Z (W.xor Z Z)<|hTk 10 Z Z (W.add Z Z)<|hTk 19 Z Z (W.add Z Z)<|hTk 24 Z Z (W.add Z Z)<|hTk 29 Z Z (W.add Z Z)<|hTk 30 Z Z (asg Z)<|z13e 19 Z Z fun y80=>z4t (by kernel_rfl)<|z0z<|gSR<|Zm Z<|Zc [] [] Tryz.func186 Z (z2z _ _) fun r81 n82=>Zm Z<|Zc [] [] Tryz.func186 Z (z2z _ _) fun r83 n84=>Zq (W.xor Z Z)<|Zm Z<|Zc [] [] Tryz.func186 Z (z2z _ _) fun r85 n86=>Zq (W.xor Z Z)<|Zm Z<|Zm Z<|Zq (W.and Z Z)<|Zm Z<|Zm Z<|Zq (W.and Z Z)<|Zq (W.xor Z Z)<|Zm Z<|Zm Z<|Zq (W.and Z Z)<|Zq (W.xor Z Z)<|Zq (W.add Z Z)<|Za Z<|z1o 20 Z fun y87=>Zn<|z20<|Zm Z<|Zm Z<|Zq (W.add Z Z)<|Zm Z<|Zm Z<|Zm Z<|z0m fun x88 h89=>Zq (ixB 332 Z Z Z h89 tu149 z64)<|Zq (ld 332 Z Z (fP (.el h89)) z9r Z)<|Zm Z<|Zq (W.add Z Z)<|Zm Z<|Zm Z<|Zm Z<|Zq (litA (R:=z0x) [y80+y87,x56,x58,x60,x88+y80,x62,x64,x66] (#v[y80+y87,x56,x58,x60,x88+y80,x62,x64,x66]:Vector UInt32 8) (pP Z Z<|pP Z Z<|pP Z Z<|pP Z Z<|pP Z Z<|pP Z Z<|pP Z Z<|pP Z Z<|pN) Z tu149 zi9 Z z64)<|Es (sto 332 Z Z fH Z zi9)<|z1g<|z3f<|z0z<|z20<|Zm Z<|Zq (I.add Z Z)<|Za Z<|z1o 12 Z fun y90=>z1g<|z1q (fun aa ww h=>Zu h [1,2,108,331,332])
    ·refine z21<|z15<|z17<|z2q (fun aa ww h=>Zu h [1,2,332])
   ·refine z68 (fun (s91:(Vector UInt32 8)) aa ww=>Sta (ctx 203 H [] w) [(2,.val (z0j v1 0)),(4,.val (z0j v2 0))] [(1,some (v1,.box 149 [.rd (z43 8 z0x) s91])),(2,some (v2,.box 149 [.rd (z43 8 z0x) (Vector.replicate 8 0)]))] aa ww) ?_ (fun s91=>?_)
    ·refine gSR<|Zb Z<|z2a (fun (s92:(Vector UInt32 8) × Int) aa ww=>Sta (ctx 203 H [] w) [(2,.val (z0j v1 0)),(4,.val (z0j v2 0)),(11,.val (z0j v52 0)),(21,.rd z0k s92.2)] [(1,some (v1,.box 149 [.rd (z43 8 z0x) s92.1])),(2,some (v2,.box 149 [.rd (z43 8 z0x) (Vector.replicate 8 0)])),(332,some (v52,.box 149 [.rd (z43 8 z0x) s53]))] aa ww) (fun aa ww h=>Zu h [1,2,332]) (fun s92=>?_);refine z0v<|gSR<|Zm Z<|Zq (I.lss Z Z)<|Zj Z (fun h93=>?_) (fun h93=>?_)
     ·refine Zt<|z0v<|z5b<|z8g [1] mixed Z Z<|hTk 0 Z Z (mv Z)<|z3s fun x94 h95=>hTk 1 Z Z (ixB 1 Z Z Z h95 tu149 z64)<|hTk 3 Z Z (mv Z)<|z3s fun x96 h97=>hTk 4 Z Z (ixB 332 Z Z Z h97 tu149 z64)<|hTk 5 Z Z (ld 332 Z Z (fP (.el h97)) z9r Z)<|zxz 2 Z (by kernel_rfl) (gd0 Z) Z Z z3g (ld 1 Z Z (fP (.el h95)) z9r Z)<|hTk 6 Z Z (W.add Z Z)<|z3s fun x98 h99=>hTk 7 Z Z (ixB 1 Z Z Z h99 tu149 z64)<|Zp 8 Z Z Z Z Z (sto 1 Z Z (fP (.el h99)) Z z64)<|z4t (by kernel_rfl)<|z3f<|z0z<|z20<|Zm Z<|Zq (I.add Z Z)<|Za Z<|z1o 21 Z fun y100=>z1g<|z1q (fun aa ww h=>Zu h [1,2,332])
     ·refine z21<|z15<|z17<|z2q (fun aa ww h=>Zu h [1,2])
    ·refine gSR<|Zq (ld 1 Z Z fH zsn Z)<|Es (sto 2 Z Z fH Z zi9)<|Zn<|z0o<|zb3 [] [] Z (eC 2 Z Z zsn<|eN) (rN)
def z5t (a1:List UInt8) (s4:(Vector UInt32 8) × Int):Option (Sum ((Vector UInt32 8)) ((Vector UInt32 8) × Int)) :=
 if decide ((w64 (s4.2+64))≤(a1.length:Int)) then
  cut a1 s4.2 (w64 (s4.2+64)) >>= fun x6 =>
  z9w s4.1 x6 >>= fun r8 =>
  some (w64 (s4.2+64)) >>= fun y10 =>
  some (.inr (r8,y10))
 else
  some (.inl s4.1)
def z9y (a0:Vector UInt32 8) (a1:List UInt8):Option ((Vector UInt32 8)) :=
 (iter (z5t a1) (a0,0)) >>= fun s3 =>
 some s3
theorem zi6 (a0:Vector UInt32 8) (a1:List UInt8):z2b Tryz.prog 100 [.rd (z43 8 z0x) a0,.rd (z04 u8R) a1] [] (z9y a0 a1) (fun r nv=>⟨[.rd (z43 8 z0x) r],[]⟩):=by
 refine z2n 21 Tryz.func100 Z Z Z fun H w=>?_;refine gSR<|Eb Z (bx 1 Z) fun v1=>Eb Z (zad 2 zi9 (.zr (R:=(z43 8 z0x)) (x:=(Vector.replicate 8 0)) zrr)) fun v2=>Zn<|z68 (fun (s3:(Vector UInt32 8)) aa ww=>Sta (ctx 21 H [] w) [(2,.val (z0j v1 0)),(4,.val (z0j v2 0))] [(1,some (v1,.box 149 [.rd (z43 8 z0x) s3])),(2,some (v2,.box 149 [.rd (z43 8 z0x) (Vector.replicate 8 0)]))] aa ww) ?_ (fun s3=>?_)
 ·refine gSR<|Zb Z<|z2a (fun (s4:(Vector UInt32 8) × Int) aa ww=>Sta (ctx 21 H [] w) [(1,.rd (z04 u8R) a1),(2,.val (z0j v1 0)),(4,.val (z0j v2 0)),(5,.rd z0k s4.2)] [(1,some (v1,.box 149 [.rd (z43 8 z0x) s4.1])),(2,some (v2,.box 149 [.rd (z43 8 z0x) (Vector.replicate 8 0)]))] aa ww) (fun aa ww h=>Zu h [1,2]) (fun s4=>?_);refine z0v<|gSR<|Zm Z<|Zq (I.add Z Z)<|Zm Z<|Zq (z2v Z .rd Z tu52)<|Zq (I.leq Z Z)<|Zj Z (fun h5=>?_) (fun h5=>?_)
  ·refine Zt<|z0v<|z5b<|z8g [1] mixed Z Z<|hTk 1 Z Z (mv Z)<|hTk 2 Z Z (mv Z)<|hTk 3 Z Z (mv Z)<|hTk 4 Z Z (I.add Z Z)<|z3s fun x6 h7=>hTk 5 Z Z (zll Z (.to Z) (.to Z) h7 tu52 ti5)<|zxz 0 Z (by kernel_rfl) (gd0 Z) Z Z anyJ (ld 1 Z Z fH zsn Z)<|z105 6 [] [] Z (by kernel_rfl) Z (gd0 Z) Z Tryz.func143 Z Z (zhz _ _) (Y2 Z Z) rN Z fun r8 n9=>Zp 7 Z Z Z Z Z (sto 1 Z Z fH Z zi9)<|z4t (by kernel_rfl)<|z3f<|z0z<|z20<|Zm Z<|Zq (I.add Z Z)<|Za Z<|z1o 5 Z fun y10=>z1g<|z1q (fun aa ww h=>Zu h [1,2])
  ·refine z21<|z15<|z17<|z2q (fun aa ww h=>Zu h [1,2])
 ·refine gSR<|Zq (ld 1 Z Z fH zsn Z)<|Es (sto 2 Z Z fH Z zi9)<|Zn<|z0o<|zb3 [] [] Z (eC 2 Z Z zsn<|eN) (rN)
def z5f (a0:Vector UInt32 8) (s5:V3 × Int):Option (Sum (V3) (V3 × Int)) :=
 if decide (s5.2<32) then
  z7z a0 (w64 (Int.tdiv s5.2 4)) >>= fun x7 =>
  chk (0≤w64 (24 - (w64 (8 * (Int.tmod s5.2 4))))) >>= fun u9 =>
  z7z s5.1 s5.2 >>= fun x11 =>
  some (w64 (s5.2+1)) >>= fun y13 =>
  some (.inr (zi0 s5.1 s5.2 ((z57 x7 ((w64 (24 - (w64 (8 * (Int.tmod s5.2 4)))):Int).toNat)).toUInt8),y13))
 else
  some (.inl s5.1)
def z95 (a0:Vector UInt32 8):Option (V3) :=
 (iter (z5f a0) ((Vector.replicate 32 0),0)) >>= fun s4 =>
 some s4
theorem zgs (a0:Vector UInt32 8):z2b Tryz.prog 99 [.rd (z43 8 z0x) a0] [] (z95 a0) (fun r nv=>⟨[.rd aZ r],[]⟩):=by
 refine z2n 22 Tryz.func99 Z Z Z fun H w=>?_;refine gSR<|Eb Z (bx 1 Z) fun v1=>Eb Z (zad 2 z40 (.zr (R:=aZ) (x:=(Vector.replicate 32 0)) zl9)) fun v2=>Zn<|gSR<|Eb Z (zad 3 z40 (.zr (R:=aZ) (x:=(Vector.replicate 32 0)) zl9)) fun v3=>Zn<|z68 (fun (s4:V3) aa ww=>Sta (ctx 22 H [] w) [(2,.val (z0j v2 0)),(3,.val (z0j v3 0))] [(2,some (v2,.box 45 [.rd aZ (Vector.replicate 32 0)])),(3,some (v3,.box 45 [.rd aZ s4]))] aa ww) ?_ (fun s4=>?_)
 ·refine gSR<|Zb Z<|z2a (fun (s5:V3 × Int) aa ww=>Sta (ctx 22 H [] w) [(1,.val (z0j v1 0)),(2,.val (z0j v2 0)),(3,.val (z0j v3 0)),(4,.rd z0k s5.2)] [(1,some (v1,.box 149 [.rd (z43 8 z0x) a0])),(2,some (v2,.box 45 [.rd aZ (Vector.replicate 32 0)])),(3,some (v3,.box 45 [.rd aZ s5.1]))] aa ww) (fun aa ww h=>Zu h [1,2,3]) (fun s5=>?_);refine z0v<|gSR<|Zm Z<|Zq (I.lss Z Z)<|Zj Z (fun h6=>?_) (fun h6=>?_)
  ·refine Zt<|z0v<|z5b<|z20<|Zm Z<|Zm Z<|Zq (I.quo Z Z (by decide))<|z0m fun x7 h8=>Zq (ixB 1 Z Z Z h8 tu149 z64)<|Zq (ld 1 Z Z (fP (.el h8)) z9r Z)<|Zm Z<|Zq (I.rem Z Z (by decide))<|Zq (I.mul Z Z)<|Zq (I.sub Z Z)<|z0m fun u9 h10=>Zq (W.shr Z Z (z60 h10))<|Zq (W.toB Z tu34 tu5)<|z0m fun x11 h12=>Zq (ixB 3 Z Z Z h12 tu45 ti5)<|Es (sto 3 Z Z (fP (.el h12)) Z ti5)<|z1g<|z3f<|z0z<|z20<|Zm Z<|Zq (I.add Z Z)<|Za Z<|z1o 4 Z fun y13=>z1g<|z1q (fun aa ww h=>Zu h [1,2,3])
  ·refine z21<|z15<|z17<|z2q (fun aa ww h=>Zu h [2,3])
 ·refine gSR<|Zq (ld 3 Z Z fH z83 Z)<|Es (sto 2 Z Z fH Z z40)<|Zn<|z0o<|zb3 [] [] Z (eC 2 Z Z z83<|eN) (rN)
def zc4 (a0:List UInt8):Option (V3) :=
 zd7 >>= fun r2 =>
 app 1 ([]:List UInt8) a0 >>= fun x5 =>
 zbj (a0.length:Int) >>= fun r8 =>
 app 1 x5 r8 >>= fun x10 =>
 z9y r2 x10 >>= fun r13 =>
 z95 r13 >>= fun r15 =>
 some r15
end
section
open Go Go.RowKit
set_option maxRecDepth 100000
theorem zgg (a0:List UInt8):z2b Tryz.prog 53 [.rd (z04 u8R) a0] [] (zc4 a0) (fun r nv=>⟨[.rd aZ r],[]⟩):=by
 refine z2n 13 Tryz.func53 Z Z Z fun H w=>?_;refine gSR<|Eb Z (zad 1 z40 (.zr (R:=aZ) (x:=(Vector.replicate 32 0)) zl9)) fun v1=>Zn<|gSR<|Zc [] [] Tryz.func101 Z (zir) fun r2 n3=>Ef Z (lit (R:=u8R) (([]:List UInt8):List UInt8) 2 (pN) Z tu52 ti5 Z Z) fun v4=>Zm Z<|z0m fun x5 h6=>Ef Z (apn 2 Z Z Z .rd h6 tu52 ti5 Z Z Z) fun v7=>Zm Z<|Zq (z2v Z .rd Z tu52)<|Zc [] [(100,3)] Tryz.func102 Z (zju _) fun r8 n9=>z0m fun x10 h11=>Ef Z (apn 2 Z Z Z (.own 3 Z) h11 tu52 ti5 Z Z Z) fun v12=>zf4 2 [10] Z (fS Z<|fN)<|Zc [] [] Tryz.func100 Z (zi6 _ _) fun r13 n14=>Zc [] [] Tryz.func99 Z (zgs _) fun r15 n16=>Es (sto 1 Z Z fH Z z40)<|Zn<|z0o<|zb3 [] [] Z (eC 1 Z Z z83<|eN) (rN)
def za5 (a0:z03):Option (V3) :=
 z71 a0 >>= fun r3 =>
 zc4 r3 >>= fun r5 =>
 some r5
theorem zd6 (a0:z03):z2b Tryz.prog 16 [.rd z05 a0] [] (za5 a0) (fun r nv=>⟨[.rd aZ r],[]⟩):=by
 refine z2n 6 Tryz.func16 Z Z Z fun H w=>?_;refine gSR<|Eb Z (bx 1 Z) fun v1=>Eb Z (zad 2 z40 (.zr (R:=aZ) (x:=(Vector.replicate 32 0)) zl9)) fun v2=>Zn<|gSR<|Zq (ld 1 Z Z fH z8y Z)<|Zc [] [(100,3)] Tryz.func54 Z (zay _) fun r3 n4=>zf4 3 [4] Z (fS Z<|fN)<|Zc [] [] Tryz.func53 Z (zgg _) fun r5 n6=>Es (sto 2 Z Z fH Z z40)<|Zn<|z0o<|zb3 [] [] Z (eC 2 Z Z z83<|eN) (rN)
def z7q (a0:V3) (a1:V3) (s4:Int):Option (Sum (Sum Int Unit) Int) :=
 if decide (s4<32) then
  z7z a0 s4 >>= fun x6 =>
  z7z a1 s4 >>= fun x8 =>
  if decide (x6<x8) then
   some (.inl (.inl (-1)))
  else
   z7z a0 s4 >>= fun x11 =>
   z7z a1 s4 >>= fun x13 =>
   if decide (x13<x11) then
    some (.inl (.inl 1))
   else
    some (.inr (w64 (s4+1)))
 else
  some (.inl (.inr ()))
def z8w (a0:V3) (a1:V3):Option (Int) :=
 z5o (iter (z7q a0 a1) 0) fun s3 =>
 some 0
theorem zc9 (a0:V3) (a1:V3):z2b Tryz.prog 18 [.rd aZ a0,.rd aZ a1] [] (z8w a0 a1) (fun r nv=>⟨[.rd z0k r],[]⟩):=by
 refine z2n 24 Tryz.func18 Z Z Z fun H w=>?_;refine gSR<|Eb Z (bx 1 Z) fun v1=>Eb Z (bx 2 Z) fun v2=>Zb Z<|z7j (fun (s3:Unit) aa ww=>Sta (ctx 24 H [] w) [] [] aa ww) ?_ (fun s3=>?_)
 ·refine gSR<|Zb Z<|z2a (fun (s4:Int) aa ww=>Sta (ctx 24 H [] w) [(2,.val (z0j v1 0)),(3,.val (z0j v2 0)),(5,.rd z0k s4)] [(1,some (v1,.box 45 [.rd aZ a0])),(2,some (v2,.box 45 [.rd aZ a1]))] aa ww) (fun aa ww h=>Zu h [1,2]) (fun s4=>?_);refine z0v<|gSR<|Zm Z<|Zq (I.lss Z Z)<|Zj Z (fun h5=>?_) (fun h5=>?_)
  ·refine Zt<|z0v<|z5b<|z0v<|z0v<|zi5 mixed (by kernel_rfl)<|Rq Z (mv Z)<|z80 fun x6 h7=>Rq Z (ixB 1 Z Z Z h7 tu45 ti5)<|Rq Z (ld 1 Z Z (fP (.el h7)) ty5 Z)<|Rq Z (mv Z)<|z80 fun x8 h9=>Rq Z (ixB 2 Z Z Z h9 tu45 ti5)<|Rq Z (ld 2 Z Z (fP (.el h9)) ty5 Z)<|Rq Z (B.lss Z Z)<|ztj<|z0z<|gIf Z Z (fun h10=>?_) (fun h10=>?_)
   ·refine gSR<|Zb Z<|z0o<|z0q<|z44<|z0q<|z6t<|z4g<|Ze [] [] Z
   ·refine Zt<|z0v<|zi5 mixed (by kernel_rfl)<|Rq Z (mv Z)<|z80 fun x11 h12=>Rq Z (ixB 1 Z Z Z h12 tu45 ti5)<|Rq Z (ld 1 Z Z (fP (.el h12)) ty5 Z)<|Rq Z (mv Z)<|z80 fun x13 h14=>Rq Z (ixB 2 Z Z Z h14 tu45 ti5)<|Rq Z (ld 2 Z Z (fP (.el h14)) ty5 Z)<|Rq Z (B.gtr Z Z)<|ztj<|z0z<|gIf Z Z (fun h15=>?_) (fun h15=>?_)
    ·refine gSR<|Zb Z<|z0o<|z44<|z0q<|z6t<|z4g<|Ze [] [] Z
    ·refine z31<|z3f<|z0z<|z20<|Zm Z<|Zq (I.add Z Z)<|Za Z<|z1g<|z1q (fun aa ww h=>Zu h [1,2])
  ·refine z21<|z15<|z17<|z5k (fun aa ww h=>Zu h [])
 ·refine gSR<|Zb Z<|z0o<|Ze [] [] Z
def z4h (a0:List V3) (s2:Int):Option (Sum (Sum Bool Unit) Int) :=
 if decide (s2<(a0.length:Int)) then
  idx a0 (w64 (s2 - 1)) >>= fun x4 =>
  idx a0 s2 >>= fun x6 =>
  z8w x4 x6 >>= fun r8 =>
  if decide (0≤r8) then
   some (.inl (.inl false))
  else
   some (.inr (w64 (s2+1)))
 else
  some (.inl (.inr ()))
def z62 (a0:List V3):Option (Bool) :=
 z5o (iter (z4h a0) 1) fun s1 =>
 some true
theorem zae (a0:List V3):z2b Tryz.prog 14 [.rd (z04 aZ) a0] [] (z62 a0) (fun r nv=>⟨[.rd z0l r],[]⟩):=by
 refine z2n 21 Tryz.func14 Z Z Z fun H w=>?_;refine gSR<|Zb Z<|z7j (fun (s1:Unit) aa ww=>Sta (ctx 21 H [] w) [] [] aa ww) ?_ (fun s1=>?_)
 ·refine gSR<|Zb Z<|z2a (fun (s2:Int) aa ww=>Sta (ctx 21 H [] w) [(0,.rd (z04 aZ) a0),(3,.rd z0k s2)] [] aa ww) (fun aa ww h=>Zu h []) (fun s2=>?_);refine z0v<|gSR<|Zm Z<|Zm Z<|Zq (z2v Z .rd Z tu29)<|Zq (I.lss Z Z)<|Zj Z (fun h3=>?_) (fun h3=>?_)
  ·refine Zt<|z0v<|z5b<|z0v<|z8g [] mixed Z Z<|hTk 0 Z Z (mv Z)<|hTk 1 Z Z (mv Z)<|hTk 2 Z Z (I.sub Z Z)<|z3s fun x4 h5=>hTk 3 Z Z (ixR Z Z h5 tu29 z40 Z)<|hTk 4 Z Z (ldR Z z83)<|hTk 5 Z Z (mv Z)<|hTk 6 Z Z (mv Z)<|z3s fun x6 h7=>hTk 7 Z Z (ixR Z Z h7 tu29 z40 Z)<|hTk 8 Z Z (ldR Z z83)<|z54 9 [] [] Z (by kernel_rfl) Z (gd0 Z) Z Tryz.func18 Z Z (zc9 _ _) (Y2 Z Z) rN Z (fun _ _=>z3g) fun r8 n9=>hTk 10 Z Z (I.geq Z Z)<|z4t (by kernel_rfl)<|z0z<|gIf Z Z (fun h10=>?_) (fun h10=>?_)
   ·refine gSR<|Zb Z<|z0o<|z44<|z0q<|z6t<|z4g<|Ze [] [] Z
   ·refine z31<|z3f<|z0z<|z20<|Zm Z<|Zq (I.add Z Z)<|Za Z<|z1g<|z1q (fun aa ww h=>Zu h [])
  ·refine z21<|z15<|z17<|z5k (fun aa ww h=>Zu h [])
 ·refine gSR<|Zb Z<|z0o<|Ze [] [] Z
def z6j (a2:UInt64) (s2:UInt64 × UInt64 × UInt64):Option (Sum UInt64 (UInt64 × UInt64 × UInt64)) :=
 if decide (0<s2.2.1) then
  (if (s2.2.1 % 2)==1 then
   chk (a2≠0) >>= fun u6 =>
   some ((s2.2.2 * s2.1) % a2) >>= fun y8 =>
   some y8
  else
   some s2.2.2) >>= fun s4 =>
  chk (a2≠0) >>= fun u9 =>
  some ((s2.1 * s2.1) % a2) >>= fun y11 =>
  some (.inr (y11,s2.2.1 / 2,s4))
 else
  some (.inl s2.2.2)
def z8k (a0:UInt64) (a1:UInt64) (a2:UInt64):Option (UInt64) :=
 (iter (z6j a2) (a0,a1,1)) >>= fun s1 =>
 some s1
theorem ze3 (a0:UInt64) (a1:UInt64) (a2:UInt64):z2b Tryz.prog 96 [.rd z1p a0,.rd z1p a1,.rd z1p a2] [] (z8k a0 a1 a2) (fun r nv=>⟨[.rd z1p r],[]⟩):=by
 refine z2n 26 Tryz.func96 Z Z Z fun H w=>?_;refine gSR<|Zb Z<|gSR<|Zb Z<|z68 (fun (s1:UInt64) aa ww=>Sta (ctx 26 H [] w) [(7,.rd z1p s1)] [] aa ww) ?_ (fun s1=>?_)
 ·refine z2a (fun (s2:UInt64 × UInt64 × UInt64) aa ww=>Sta (ctx 26 H [] w) [(0,.rd z1p s2.1),(1,.rd z1p s2.2.1),(2,.rd z1p a2),(7,.rd z1p s2.2.2)] [] aa ww) (fun aa ww h=>Zu h []) (fun s2=>?_);refine z0v<|gSR<|Zm Z<|Zq (U.gtr Z Z)<|Zj Z (fun h3=>?_) (fun h3=>?_)
  ·refine Zt<|z5b<|z68 (fun (s4:UInt64) aa ww=>Sta (ctx 26 H [] w) [(0,.rd z1p s2.1),(1,.rd z1p s2.2.1),(2,.rd z1p a2),(7,.rd z1p s4)] [] aa ww) ?_ (fun s4=>?_)
   ·refine gSR<|Zm Z<|Zq (U.rem Z Z (by decide))<|Zq (U.eql Z Z)<|Zj Z (fun h5=>?_) (fun h5=>?_)
    ·refine z20<|Zm Z<|Zm Z<|Zq (U.mul Z Z)<|Zm Z<|z0m fun u6 h7=>Zq (U.rem Z Z (z60 h7))<|Za Z<|z1o 7 Z fun y8=>z1g<|z2q (fun aa ww h=>Zu h [])
    ·refine z31<|z2q (fun aa ww h=>Zu h [])
   ·refine gSR<|Zm Z<|Zm Z<|Zq (U.mul Z Z)<|Zm Z<|z0m fun u9 h10=>Zq (U.rem Z Z (z60 h10))<|Za Z<|z1o 0 Z fun y11=>Zn<|z20<|Zm Z<|Zq (U.quo Z Z (by decide))<|Za Z<|z1g<|z3f<|z1q (fun aa ww h=>Zu h [])
  ·refine z21<|z15<|z17<|z2q (fun aa ww h=>Zu h [])
 ·refine gSR<|Zm Z<|Zb Z<|z0o<|Ze [] [] Z
def zbp (a0:UInt32):Option (Bool) :=
 if decide (1≤a0) then
  if decide (a0<1000000007) then
   z8k a0.toUInt64 500000003 1000000007 >>= fun r3 =>
   some (r3==1)
  else
   some false
 else
  some false
theorem zgl (a0:UInt32):z2b Tryz.prog 50 [.rd z0x a0] [] (zbp a0) (fun r nv=>⟨[.rd z0l r],[]⟩):=by
 refine z2n 15 Tryz.func50 Z Z Z fun H w=>?_;refine gSR<|Zb Z<|gSR<|Zm Z<|Zq (W.geq Z Z)<|Zm Z<|z19 5 Z (fun h1=>?_) (fun h1=>?_)
 ·refine lKn 4 Z h1<|z0w Zx Z Z (mv Z)<|z0w Zx Z Z (W.lss Z Z)<|Zq (pkT Z Z)<|Zm Z<|z19 9 Z (fun h2=>?_) (fun h2=>?_)
  ·refine lKn 7 Z h2<|lKn 8 Z h2<|z0w Zx Z Z (mv Z)<|z0w Zx Z Z (W.toU Z tu34 tu35)<|zcs [] [] Zx Z Tryz.func96 Z Z (ze3 _ _ _) (aQ Z<|aQ Z<|aQ Z<|aN) rN fun r3 n4=>z0w Zx Z Z (U.eql Z Z)<|Zq (pkT Z Z)<|Zb Z<|z0o<|Ze [] [] Z
  ·refine lKn 7 Z h2<|lKn 8 Z h2<|Zk Z<|Zk Z<|Zk Z<|Zk Z<|Zq (pkF Z Z)<|Zb Z<|z0o<|Ze [] [] Z
 ·refine lKn 4 Z h1<|Zk Z<|Zk Z<|Zq (pkF Z Z)<|Zm Z<|Zk Z<|Zk Z<|Zk Z<|Zk Z<|Zq (pkF Z Z)<|Zb Z<|z0o<|Ze [] [] Z
def z75 (a0:List UInt8) (s4:Int):Option (Sum (Sum Bool Unit) Int) :=
 if decide (s4<(a0.length:Int)) then
  idx a0 s4 >>= fun x6 =>
  if decide (x6<33) then
   some (.inl (.inl false))
  else
   idx a0 s4 >>= fun x9 =>
   if decide (126<x9) then
    some (.inl (.inl false))
   else
    some (.inr (w64 (s4+1)))
 else
  some (.inl (.inr ()))
def z9g (a0:List UInt8):Option (Bool) :=
 if decide ((a0.length:Int)<1) then
  some false
 else
  if decide (20<(a0.length:Int)) then
   some false
  else
   z5o (iter (z75 a0) 0) fun s3 =>
   some true
theorem zej (a0:List UInt8):z2b Tryz.prog 97 [.rd zjk a0] [] (z9g a0) (fun r nv=>⟨[.rd z0l r],[]⟩):=by
 refine z2n 28 Tryz.func97 Z Z Z fun H w=>?_;refine gSR<|Zb Z<|z0v<|gSR<|Zm Z<|Zq (lenT Z Z tu9)<|Zq (I.lss Z Z)<|Zm Z<|z19 7 Z (fun h1=>?_) (fun h1=>?_)
 ·refine lKn 6 Z h1<|Zk Z<|Zk Z<|Zk Z<|Zq (pkT Z Z)<|Zn<|zc7 Z<|gSR<|Zb Z<|z0o<|z0q<|Ze [] [] Z
 ·refine lKn 6 Z h1<|z0w Zx Z Z (mv Z)<|z0w Zx Z Z (lenT Z Z tu9)<|z0w Zx Z Z (I.gtr Z Z)<|Zq (pkF Z Z)<|Zj Z (fun h2=>?_) (fun h2=>?_)
  ·refine gKn 10 Z h2<|gSR<|Zb Z<|z0o<|z0q<|Ze [] [] Z
  ·refine gKn 10 Z h2<|Zt<|z7j (fun (s3:Unit) aa ww=>Sta (ctx 28 H [] w) [] [] aa ww) ?_ (fun s3=>?_)
   ·refine gSR<|Zb Z<|z2a (fun (s4:Int) aa ww=>Sta (ctx 28 H [] w) [(0,.rd zjk a0),(3,.rd z0k s4)] [] aa ww) (fun aa ww h=>Zu h []) (fun s4=>?_);refine z0v<|gSR<|Zm Z<|Zm Z<|Zq (lenT Z Z tu9)<|Zq (I.lss Z Z)<|Zj Z (fun h5=>?_) (fun h5=>?_)
    ·refine Zt<|z0v<|z5b<|gSR<|Zm Z<|Zm Z<|z0m fun x6 h7=>Zq (idxT Z Z tu9 (z6l h7).1 (z6l h7).2.1)<|Zq (B.lss Z Z)<|Zm Z<|z19 22 Z (fun h8=>?_) (fun h8=>?_)
     ·refine lKn 21 Z h8<|Zk Z<|Zk Z<|Zk Z<|Zk Z<|Zq (pkT Z Z)<|Zn<|zc7 Z<|gSR<|Zb Z<|z0o<|z44<|z0q<|z6t<|z4g<|Ze [] [] Z
     ·refine lKn 21 Z h8<|z0w Zx Z Z (mv Z)<|z0w Zx Z Z (mv Z)<|z0m fun x9 h10=>z0w Zx Z Z (idxT Z Z tu9 (z6l h10).1 (z6l h10).2.1)<|z0w Zx Z Z (B.gtr Z Z)<|Zq (pkF Z Z)<|Zj Z (fun h11=>?_) (fun h11=>?_)
      ·refine gKn 26 Z h11<|gSR<|Zb Z<|z0o<|z44<|z0q<|z6t<|z4g<|Ze [] [] Z
      ·refine gKn 26 Z h11<|z31<|z3f<|z0z<|z20<|Zm Z<|Zq (I.add Z Z)<|Za Z<|z1g<|z1q (fun aa ww h=>Zu h [])
    ·refine z21<|z15<|z17<|z5k (fun aa ww h=>Zu h [])
   ·refine gSR<|Zb Z<|z0o<|Ze [] [] Z
def z87 (a0:UInt64):Option (Int) :=
 some (w64 (((a0 % 9223372036854775808) / 4503599627370496).toNat:Int)) >>= fun y1 =>
 some y1
theorem zgn (a0:UInt64):z2b Tryz.prog 214 [.rd z1p a0] [] (z87 a0) (fun r nv=>⟨[.rd z0k r],[]⟩):=by
 refine z2n 7 Tryz.func214 Z Z Z fun H w=>?_;refine gSR<|Zb Z<|gSR<|Zm Z<|Zq (U.rem Z Z (by decide))<|Zq (U.quo Z Z (by decide))<|Zq (U.toI Z tu35 tu3)<|Za Z<|z1o 2 Z fun y1=>Zn<|z0o<|Ze [] [] Z
def zaz (a0:UInt64):Option (UInt64) :=
 some (a0 % 4503599627370496) >>= fun y1 =>
 some y1
theorem zgp (a0:UInt64):z2b Tryz.prog 215 [.rd z1p a0] [] (zaz a0) (fun r nv=>⟨[.rd z1p r],[]⟩):=by
 refine z2n 5 Tryz.func215 Z Z Z fun H w=>?_;refine gSR<|Zb Z<|gSR<|Zm Z<|Zq (U.rem Z Z (by decide))<|Za Z<|z1o 2 Z fun y1=>Zn<|z0o<|Ze [] [] Z
def zas (a0:UInt64):Option (UInt8) :=
 z87 a0 >>= fun r1 =>
 zaz a0 >>= fun r3 =>
 z5o (if r1==0 then
  if r3==0 then
   some (.inl 1)
  else
   some (.inr ())
 else
  some (.inr ())) fun s5 =>
 if r1==0 then
  some 2
 else
  if decide (r1<2047) then
   some 3
  else
   if r3==0 then
    some 4
   else
    some 5
theorem ziu (a0:UInt64):z2b Tryz.prog 185 [.rd z1p a0] [] (zas a0) (fun r nv=>⟨[.rd u8R r],[]⟩):=by
 refine z2n 21 Tryz.func185 Z Z Z fun H w=>?_;refine gSR<|Zb Z<|gSR<|Zm Z<|Zc [] [] Tryz.func214 Z (zgn _) fun r1 n2=>Zm Z<|Zc [] [] Tryz.func215 Z (zgp _) fun r3 n4=>Za Z<|Zb Z<|z7j (fun (s5:Unit) aa ww=>Sta (ctx 21 H [] w) [(3,.rd z0k r1),(4,.rd z1p r3)] [] aa ww) ?_ (fun s5=>?_)
 ·refine gSR<|Zm Z<|Zq (I.eql Z Z)<|Zm Z<|z19 11 Z (fun h6=>?_) (fun h6=>?_)
  ·refine lKn 10 Z h6<|z0w Zx Z Z (mv Z)<|z0w Zx Z Z (U.eql Z Z)<|Zq (pkT Z Z)<|Zj Z (fun h7=>?_) (fun h7=>?_)
   ·refine gKn 13 Z h7<|gSR<|Zb Z<|z0o<|z4g<|Ze [] [] Z
   ·refine gKn 13 Z h7<|z31<|z5k (fun aa ww h=>Zu h [])
  ·refine lKn 10 Z h6<|Zk Z<|Zk Z<|Zq (pkF Z Z)<|Zn<|zbu Z<|z31<|z5k (fun aa ww h=>Zu h [])
 ·refine z0v<|gSR<|Zm Z<|Zq (I.eql Z Z)<|Zj Z (fun h8=>?_) (fun h8=>?_)
  ·refine gSR<|Zb Z<|z0o<|z0q<|Ze [] [] Z
  ·refine Zt<|z0v<|gSR<|Zm Z<|Zq (I.lss Z Z)<|Zj Z (fun h9=>?_) (fun h9=>?_)
   ·refine gSR<|Zb Z<|z0o<|z0q<|Ze [] [] Z
   ·refine Zt<|z0v<|gSR<|Zm Z<|Zq (U.eql Z Z)<|Zj Z (fun h10=>?_) (fun h10=>?_)
    ·refine gSR<|Zb Z<|z0o<|z0q<|Ze [] [] Z
    ·refine Zt<|gSR<|Zb Z<|z0o<|Ze [] [] Z
def zaw (a0:UInt64):Option (UInt64) :=
 zas a0 >>= fun r1 =>
 if r1==5 then
  some 9221120237041090560
 else
  some a0
theorem ziq (a0:UInt64):z2b Tryz.prog 141 [.rd z1p a0] [] (zaw a0) (fun r nv=>⟨[.rd z1p r],[]⟩):=by
 refine z2n 7 Tryz.func141 Z Z Z fun H w=>?_;refine gSR<|Zb Z<|z0v<|gSR<|Zm Z<|Zc [] [] Tryz.func185 Z (ziu _) fun r1 n2=>Zq (B.eql Z Z)<|Zj Z (fun h3=>?_) (fun h3=>?_)
 ·refine gSR<|Zb Z<|z0o<|z0q<|Ze [] [] Z
 ·refine Zt<|gSR<|Zm Z<|Zb Z<|z0o<|Ze [] [] Z
def z4d (a0:List UInt8) (s2:Int):Option (Sum (Sum Bool Unit) Int) :=
 if decide (s2<(a0.length:Int)) then
  idx a0 s2 >>= fun x4 =>
  if decide (x4<32) then
   some (.inl (.inl false))
  else
   idx a0 s2 >>= fun x7 =>
   if decide (126<x7) then
    some (.inl (.inl false))
   else
    some (.inr (w64 (s2+1)))
 else
  some (.inl (.inr ()))
def z7m (a0:List UInt8):Option (Bool) :=
 z5o (iter (z4d a0) 0) fun s1 =>
 some true
theorem zft (a0:List UInt8):z2b Tryz.prog 142 [.rd zjk a0] [] (z7m a0) (fun r nv=>⟨[.rd z0l r],[]⟩):=by
 refine z2n 20 Tryz.func142 Z Z Z fun H w=>?_;refine gSR<|Zb Z<|z7j (fun (s1:Unit) aa ww=>Sta (ctx 20 H [] w) [] [] aa ww) ?_ (fun s1=>?_)
 ·refine gSR<|Zb Z<|z2a (fun (s2:Int) aa ww=>Sta (ctx 20 H [] w) [(0,.rd zjk a0),(3,.rd z0k s2)] [] aa ww) (fun aa ww h=>Zu h []) (fun s2=>?_);refine z0v<|gSR<|Zm Z<|Zm Z<|Zq (lenT Z Z tu9)<|Zq (I.lss Z Z)<|Zj Z (fun h3=>?_) (fun h3=>?_)
  ·refine Zt<|z0v<|z5b<|gSR<|Zm Z<|Zm Z<|z0m fun x4 h5=>Zq (idxT Z Z tu9 (z6l h5).1 (z6l h5).2.1)<|Zq (B.lss Z Z)<|Zm Z<|z19 14 Z (fun h6=>?_) (fun h6=>?_)
   ·refine lKn 13 Z h6<|Zk Z<|Zk Z<|Zk Z<|Zk Z<|Zq (pkT Z Z)<|Zn<|zc7 Z<|gSR<|Zb Z<|z0o<|z44<|z0q<|z6t<|z4g<|Ze [] [] Z
   ·refine lKn 13 Z h6<|z0w Zx Z Z (mv Z)<|z0w Zx Z Z (mv Z)<|z0m fun x7 h8=>z0w Zx Z Z (idxT Z Z tu9 (z6l h8).1 (z6l h8).2.1)<|z0w Zx Z Z (B.gtr Z Z)<|Zq (pkF Z Z)<|Zj Z (fun h9=>?_) (fun h9=>?_)
    ·refine gKn 18 Z h9<|gSR<|Zb Z<|z0o<|z44<|z0q<|z6t<|z4g<|Ze [] [] Z
    ·refine gKn 18 Z h9<|z31<|z3f<|z0z<|z20<|Zm Z<|Zq (I.add Z Z)<|Za Z<|z1g<|z1q (fun aa ww h=>Zu h [])
  ·refine z21<|z15<|z17<|z5k (fun aa ww h=>Zu h [])
 ·refine gSR<|Zb Z<|z0o<|Ze [] [] Z
def z5p (a0:z01):Option (Int) :=
 if a0.Kind==1 then
  if a0.Bits==0 then
   if a0.Text==[] then
    some 0
   else
    some 8
  else
   some 8
 else
  if a0.Kind==2 then
   (if a0.Num==0 then
    if a0.Text==[] then
     zaw a0.Bits >>= fun r9 =>
     some (r9==a0.Bits)
    else
     some false
   else
    some false) >>= fun s6 =>
   if s6 then
    some 0
   else
    some 8
  else
   if a0.Kind==3 then
    (if a0.Num==0 then
     if a0.Bits==0 then
      if decide ((a0.Text.length:Int)≤30) then
       z7m a0.Text >>= fun r17 =>
       some r17
      else
       some false
     else
      some false
    else
     some false) >>= fun s13 =>
    if s13 then
     some 0
    else
     some 8
   else
    some 8
theorem zdv (a0:z01):z2b Tryz.prog 98 [.rd z0r a0] [] (z5p a0) (fun r nv=>⟨[.rd z0k r],[]⟩):=by
 refine z2n 54 Tryz.func98 Z Z Z fun H w=>?_;refine gSR<|Eb Z (bx 1 Z) fun v1=>Zb Z<|z0v<|gSR<|Zq (faB 1 Z Z Tryz.underlying37 Z (by exact ti5))<|Zq (ld 1 Z Z (fP (z23 _)) ty5 Z)<|Zn<|z5b<|gSR<|Zq (B.eql Z Z)<|Zb Z<|gIf Z Z (fun h2=>?_) (fun h2=>?_)
 ·refine gKn 6 Z h2<|gSR<|Zq (faB 1 Z Z Tryz.underlying37 Z (by exact zo8))<|Zq (ld 1 Z Z (fP (z2i _)) ztl Z)<|Zq (U.eql Z Z)<|Zm Z<|z19 10 Z (fun h3=>?_) (fun h3=>?_)
  ·refine lKn 9 Z h3<|z0w Zx Z Z (faB 1 Z Z Tryz.underlying37 Z (by exact ti9))<|z0w Zx Z Z (ld 1 Z Z (fP (z2u _)) ty9 Z)<|z0w Zx Z Z (eqS Z Z)<|Zq (pkT Z Z)<|Zj Z (fun h4=>?_) (fun h4=>?_)
   ·refine gKn 13 Z h4<|gSR<|Zb Z<|z0o<|z44<|z0q<|Ze [] [] Z
   ·refine gKn 13 Z h4<|z31<|z3f<|z0z<|gSR<|Zb Z<|z0o<|Ze [] [] Z
  ·refine lKn 9 Z h3<|Zk Z<|Zk Z<|Zk Z<|Zq (pkF Z Z)<|Zn<|zbu Z<|z31<|z3f<|z0z<|gSR<|Zb Z<|z0o<|Ze [] [] Z
 ·refine gKn 6 Z h2<|gSR<|Zq (B.eql Z Z)<|Zb Z<|gIf Z Z (fun h5=>?_) (fun h5=>?_)
  ·refine gKn 16 Z h5<|z68 (fun (s6:Bool) aa ww=>Sta (ctx 54 H [] w) [(32,.rd z0l s6)] [] aa ww) ?_ (fun s6=>?_)
   ·refine z8g [] mixed Z Z<|hTk 0 Z Z (faB 1 Z Z Tryz.underlying37 Z (by exact ti2))<|hTk 1 Z Z (ld 1 Z Z (fP (z4n _)) ty2 Z)<|hTk 2 Z Z (I.eql Z Z)<|hTk 3 Z Z (mv Z)<|hIf 20 Z Z (fun h7=>?_) (fun h7=>?_)
    ·refine hKn 19 Z Z h7<|Zg 4 Z Z (faB 1 Z Z Tryz.underlying37 Z (by exact ti9))<|Zg 5 Z Z (ld 1 Z Z (fP (z2u _)) ty9 Z)<|Zg 6 Z Z (eqS Z Z)<|hTk 7 Z Z (pkT Z Z)<|hTk 8 Z Z (mv Z)<|hIf 25 Z Z (fun h8=>?_) (fun h8=>?_)
     ·refine hKn 23 Z Z h8<|hKn 24 Z Z h8<|Zg 9 Z Z (faB 1 Z Z Tryz.underlying37 Z (by exact zo8))<|Zg 10 Z Z (ld 1 Z Z (fP (z2i _)) ztl Z)<|Zg 12 Z Z (faB 1 Z Z Tryz.underlying37 Z (by exact zo8))<|Zg 13 Z Z (ld 1 Z Z (fP (z2i _)) ztl Z)<|z54 11 [] [] Z (by kernel_rfl) Z Zx Z Tryz.func141 Z Z (ziq _) (Y1 Z) rN Z (fun _ _=>z3g) fun r9 n10=>Zg 14 Z Z (U.eql Z Z)<|hTk 15 Z Z (pkT Z Z)<|z4t (by kernel_rfl)<|z2q (fun aa ww h=>Zu h [])
     ·refine hKn 23 Z Z h8<|hKn 24 Z Z h8<|hSk 9 Z Z<|hSk 10 Z Z<|hSk 11 Z Z<|hSk 12 Z Z<|hSk 13 Z Z<|hSk 14 Z Z<|hTk 15 Z Z (pkF Z Z)<|z4t (by kernel_rfl)<|z2q (fun aa ww h=>Zu h [])
    ·refine hKn 19 Z Z h7<|hSk 4 Z Z<|hSk 5 Z Z<|hSk 6 Z Z<|hTk 7 Z Z (pkF Z Z)<|hTk 8 Z Z (mv Z)<|hSk 9 Z Z<|hSk 10 Z Z<|hSk 11 Z Z<|hSk 12 Z Z<|hSk 13 Z Z<|hSk 14 Z Z<|hTk 15 Z Z (pkF Z Z)<|z4t (by kernel_rfl)<|z2q (fun aa ww h=>Zu h [])
   ·refine gIf Z Z (fun h11=>?_) (fun h11=>?_)
    ·refine gSR<|Zb Z<|z0o<|z44<|z0q<|Ze [] [] Z
    ·refine z31<|z3f<|z0z<|gSR<|Zb Z<|z0o<|Ze [] [] Z
  ·refine gKn 16 Z h5<|gSR<|Zq (B.eql Z Z)<|Zb Z<|gIf Z Z (fun h12=>?_) (fun h12=>?_)
   ·refine gKn 34 Z h12<|z68 (fun (s13:Bool) aa ww=>Sta (ctx 54 H [] w) [(53,.rd z0l s13)] [] aa ww) ?_ (fun s13=>?_)
    ·refine z20<|Zq (faB 1 Z Z Tryz.underlying37 Z (by exact ti2))<|Zq (ld 1 Z Z (fP (z4n _)) ty2 Z)<|Zq (I.eql Z Z)<|Zm Z<|z19 38 Z (fun h14=>?_) (fun h14=>?_)
     ·refine lKn 37 Z h14<|z0w Zx Z Z (faB 1 Z Z Tryz.underlying37 Z (by exact zo8))<|z0w Zx Z Z (ld 1 Z Z (fP (z2i _)) ztl Z)<|z0w Zx Z Z (U.eql Z Z)<|Zq (pkT Z Z)<|Zm Z<|z19 43 Z (fun h15=>?_) (fun h15=>?_)
      ·refine lKn 41 Z h15<|lKn 42 Z h15<|z0w Zx Z Z (faB 1 Z Z Tryz.underlying37 Z (by exact ti9))<|z0w Zx Z Z (ld 1 Z Z (fP (z2u _)) ty9 Z)<|z0w Zx Z Z (lenT Z Z tu9)<|z0w Zx Z Z (I.leq Z Z)<|Zq (pkT Z Z)<|Zm Z<|z19 49 Z (fun h16=>?_) (fun h16=>?_)
       ·refine lKn 47 Z h16<|lKn 48 Z h16<|z0w Zx Z Z (faB 1 Z Z Tryz.underlying37 Z (by exact ti9))<|z0w Zx Z Z (ld 1 Z Z (fP (z2u _)) ty9 Z)<|zcs [] [] Zx Z Tryz.func142 Z Z (zft _) (Y1 Z) rN fun r17 n18=>Zq (pkT Z Z)<|z1g<|z2q (fun aa ww h=>Zu h [])
       ·refine lKn 47 Z h16<|lKn 48 Z h16<|Zk Z<|Zk Z<|Zk Z<|Zq (pkF Z Z)<|z1g<|z2q (fun aa ww h=>Zu h [])
      ·refine lKn 41 Z h15<|lKn 42 Z h15<|Zk Z<|Zk Z<|Zk Z<|Zk Z<|Zq (pkF Z Z)<|Zm Z<|Zk Z<|Zk Z<|Zk Z<|Zq (pkF Z Z)<|z1g<|z2q (fun aa ww h=>Zu h [])
     ·refine lKn 37 Z h14<|Zk Z<|Zk Z<|Zk Z<|Zq (pkF Z Z)<|Zm Z<|Zk Z<|Zk Z<|Zk Z<|Zk Z<|Zq (pkF Z Z)<|Zm Z<|Zk Z<|Zk Z<|Zk Z<|Zq (pkF Z Z)<|z1g<|z2q (fun aa ww h=>Zu h [])
    ·refine gIf Z Z (fun h19=>?_) (fun h19=>?_)
     ·refine gSR<|Zb Z<|z0o<|z44<|z0q<|Ze [] [] Z
     ·refine z31<|z3f<|z0z<|gSR<|Zb Z<|z0o<|Ze [] [] Z
   ·refine gKn 34 Z h12<|z31<|z3f<|z0z<|gSR<|Zb Z<|z0o<|Ze [] [] Z
def z8b (a0:z0a):Option (Int) :=
 some (decide (a0.Value=(⟨0,0,0,[]⟩:z01))) >>= fun y2 =>
 if a0.Kind==1 then
  if a0.Key==[] then
   if y2 then
    some 0
   else
    some 8
  else
   some 8
 else
  (if a0.Kind==2 then
   some true
  else
   some (a0.Kind==3)) >>= fun s6 =>
  if s6 then
   z9g a0.Key >>= fun r9 =>
   if r9 then
    if y2 then
     some 0
    else
     some 8
   else
    some 8
  else
   if a0.Kind==4 then
    z9g a0.Key >>= fun r14 =>
    if r14 then
     z5p a0.Value >>= fun r17 =>
     if r17==0 then
      some 0
     else
      some 8
    else
     some 8
   else
    some 8
theorem zgo (a0:z0a):z2b Tryz.prog 51 [.rd z07 a0] [] (z8b a0) (fun r nv=>⟨[.rd z0k r],[]⟩):=by
 refine z2n 38 Tryz.func51 Z Z Z fun H w=>?_;refine gSR<|Eb Z (bx 1 Z) fun v1=>Zb Z<|gSR<|Zq (faB 1 Z Z Tryz.underlying39 Z (by exact zcl))<|Zq (ld 1 Z Z (fP (z3t _)) zki Z)<|Zq (bld (x':=(⟨0,0,0,[]⟩:z01)) [(0,1),(1,1),(2,1),(3,1)] Tryz.underlying37 zcl Z zlw Z (Bld.done Z))<|Zq (eqA Z Z eq37 Z Z gq37)<|Za Z<|z1o 3 Z fun y2=>Zn<|z0v<|gSR<|Zq (faB 1 Z Z Tryz.underlying39 Z (by exact ti5))<|Zq (ld 1 Z Z (fP (z2d _)) ty5 Z)<|Zn<|z5b<|gSR<|Zq (B.eql Z Z)<|Zb Z<|gIf Z Z (fun h3=>?_) (fun h3=>?_)
 ·refine gKn 11 Z h3<|gSR<|Zq (faB 1 Z Z Tryz.underlying39 Z (by exact ti9))<|Zq (ld 1 Z Z (fP (z48 _)) ty9 Z)<|Zq (eqS Z Z)<|Zm Z<|z19 15 Z (fun h4=>?_) (fun h4=>?_)
  ·refine lKn 14 Z h4<|z0w Zx Z Z (mv Z)<|Zq (pkT Z Z)<|Zj Z (fun h5=>?_) (fun h5=>?_)
   ·refine gKn 3 Z h5<|gKn 16 Z h5<|gSR<|Zb Z<|z0o<|z44<|z0q<|Ze [] [] Z
   ·refine gKn 3 Z h5<|gKn 16 Z h5<|z31<|z3f<|z0z<|gSR<|Zb Z<|z0o<|Ze [] [] Z
  ·refine lKn 14 Z h4<|Zk Z<|Zq (pkF Z Z)<|Zn<|zbu Z<|z31<|z3f<|z0z<|gSR<|Zb Z<|z0o<|Ze [] [] Z
 ·refine gKn 11 Z h3<|z68 (fun (s6:Bool) aa ww=>Sta (ctx 38 H [] w) [(1,.val (z0j v1 0)),(3,.rd z0l y2),(9,.rd u8R a0.Kind),(18,.rd z0l s6)] [(1,some (v1,.box 39 [.rd z07 a0]))] aa ww) ?_ (fun s6=>?_)
  ·refine gSR<|Zq (B.eql Z Z)<|Zb Z<|gIf Z Z (fun h7=>?_) (fun h7=>?_)
   ·refine gKn 19 Z h7<|z31<|z2q (fun aa ww h=>Zu h [1])
   ·refine gKn 19 Z h7<|z20<|Zq (B.eql Z Z)<|Za Z<|z1g<|z2q (fun aa ww h=>Zu h [1])
  ·refine gIf Z Z (fun h8=>?_) (fun h8=>?_)
   ·refine gSR<|Zq (faB 1 Z Z Tryz.underlying39 Z (by exact ti9))<|Zq (ld 1 Z Z (fP (z48 _)) ty9 Z)<|Zc [] [] Tryz.func97 Z (zej _) fun r9 n10=>Zm Z<|z19 24 Z (fun h11=>?_) (fun h11=>?_)
    ·refine lKn 23 Z h11<|z0w Zx Z Z (mv Z)<|Zq (pkT Z Z)<|Zj Z (fun h12=>?_) (fun h12=>?_)
     ·refine gKn 3 Z h12<|gKn 25 Z h12<|gSR<|Zb Z<|z0o<|z44<|z0q<|Ze [] [] Z
     ·refine gKn 3 Z h12<|gKn 25 Z h12<|z31<|z3f<|z0z<|gSR<|Zb Z<|z0o<|Ze [] [] Z
    ·refine lKn 23 Z h11<|Zk Z<|Zq (pkF Z Z)<|Zn<|zbu Z<|z31<|z3f<|z0z<|gSR<|Zb Z<|z0o<|Ze [] [] Z
   ·refine gSR<|Zq (B.eql Z Z)<|Zb Z<|gIf Z Z (fun h13=>?_) (fun h13=>?_)
    ·refine gKn 28 Z h13<|gSR<|Zq (faB 1 Z Z Tryz.underlying39 Z (by exact ti9))<|Zq (ld 1 Z Z (fP (z48 _)) ty9 Z)<|Zc [] [] Tryz.func97 Z (zej _) fun r14 n15=>Zm Z<|z19 32 Z (fun h16=>?_) (fun h16=>?_)
     ·refine lKn 31 Z h16<|z0w Zx Z Z (faB 1 Z Z Tryz.underlying39 Z (by exact zcl))<|z0w Zx Z Z (ld 1 Z Z (fP (z3t _)) zki Z)<|zcs [] [] Zx Z Tryz.func98 Z Z (zdv _) (Y1 Z) rN fun r17 n18=>z0w Zx Z Z (I.eql Z Z)<|Zq (pkT Z Z)<|Zj Z (fun h19=>?_) (fun h19=>?_)
      ·refine gKn 36 Z h19<|gSR<|Zb Z<|z0o<|z44<|z0q<|Ze [] [] Z
      ·refine gKn 36 Z h19<|z31<|z3f<|z0z<|gSR<|Zb Z<|z0o<|Ze [] [] Z
     ·refine lKn 31 Z h16<|Zk Z<|Zk Z<|Zk Z<|Zk Z<|Zq (pkF Z Z)<|Zn<|zbu Z<|z31<|z3f<|z0z<|gSR<|Zb Z<|z0o<|Ze [] [] Z
    ·refine gKn 28 Z h13<|z31<|z3f<|z0z<|gSR<|Zb Z<|z0o<|Ze [] [] Z
def z3z (a0:UInt32):Option (Bool) :=
 some (decide (a0.toUInt64<500000003)) >>= fun y1 =>
 some y1
theorem z6m (a0:UInt32):z2b Tryz.prog 52 [.rd z0x a0] [] (z3z a0) (fun r nv=>⟨[.rd z0l r],[]⟩):=by
 refine z2n 6 Tryz.func52 Z Z Z fun H w=>?_;refine gSR<|Zb Z<|gSR<|Zm Z<|Zq (W.toU Z tu34 tu35)<|Zq (U.lss Z Z)<|Za Z<|z1o 2 Z fun y1=>Zn<|z0o<|Ze [] [] Z
def z4p (a0:z03):Option (Int) :=
 if decide (4<(a0.Preds.length:Int)) then
  some 4
 else
  z62 a0.Preds >>= fun r3 =>
  if !r3 then
   some 32
  else
   (zbp a0.Author >>= fun r7 =>
   if !r7 then
    some true
   else
    if decide (1000000000000<a0.Stamp) then
     some true
    else
     z8b a0.Act >>= fun r11 =>
     if r11 != 0 then
      some true
     else
      z3z a0.Sig.E >>= fun r14 =>
      if !r14 then
       some true
      else
       z3z a0.Sig.S >>= fun r17 =>
       some (!r17)) >>= fun s6 =>
   if s6 then
    some 8
   else
    some 0
theorem z6a (a0:z03):z2b Tryz.prog 15 [.rd z05 a0] [] (z4p a0) (fun r nv=>⟨[.rd z0k r],[]⟩):=by
 refine z2n 40 Tryz.func15 Z Z Z fun H w=>?_;refine gSR<|Eb Z (bx 1 Z) fun v1=>Zb Z<|z0v<|gSR<|Zq (faB 1 Z Z Tryz.underlying43 Z (by exact za8))<|Zq (ld 1 Z Z (fP (z16 _)) zeh Z)<|Zq (z2v Z .rd Z tu29)<|Zq (I.gtr Z Z)<|Zj Z (fun h2=>?_) (fun h2=>?_)
 ·refine gSR<|Zb Z<|z0o<|z0q<|Ze [] [] Z
 ·refine Zt<|z0v<|gSR<|Zq (faB 1 Z Z Tryz.underlying43 Z (by exact za8))<|Zq (ld 1 Z Z (fP (z16 _)) zeh Z)<|Zc [] [] Tryz.func14 Z (zae _) fun r3 n4=>Zq (zex Z)<|Zj Z (fun h5=>?_) (fun h5=>?_)
  ·refine gSR<|Zb Z<|z0o<|z0q<|Ze [] [] Z
  ·refine Zt<|z0v<|z68 (fun (s6:Bool) aa ww=>Sta (ctx 40 H [] w) [(39,.rd z0l s6)] [] aa ww) ?_ (fun s6=>?_)
   ·refine z20<|Zq (faB 1 Z Z Tryz.underlying43 Z (by exact z64))<|Zq (ld 1 Z Z (fP (z4k _)) z9r Z)<|Zc [] [] Tryz.func50 Z (zgl _) fun r7 n8=>Zq (zex Z)<|Zm Z<|z19 15 Z (fun h9=>?_) (fun h9=>?_)
    ·refine lKn 14 Z h9<|Zk Z<|Zk Z<|Zk Z<|Zq (pkT Z Z)<|Zm Z<|Zk Z<|Zk Z<|Zk Z<|Zk Z<|Zq (pkT Z Z)<|Zm Z<|Zk Z<|Zk Z<|Zk Z<|Zk Z<|Zk Z<|Zq (pkT Z Z)<|Zm Z<|Zk Z<|Zk Z<|Zk Z<|Zk Z<|Zk Z<|Zq (pkT Z Z)<|z1g<|z2q (fun aa ww h=>Zu h [])
    ·refine lKn 14 Z h9<|z0w Zx Z Z (faB 1 Z Z Tryz.underlying43 Z (by exact zo8))<|z0w Zx Z Z (ld 1 Z Z (fP (z7s _)) ztl Z)<|z0w Zx Z Z (U.gtr Z Z)<|Zq (pkF Z Z)<|Zm Z<|z19 20 Z (fun h10=>?_) (fun h10=>?_)
     ·refine lKn 18 Z h10<|lKn 19 Z h10<|Zk Z<|Zk Z<|Zk Z<|Zk Z<|Zq (pkT Z Z)<|Zm Z<|Zk Z<|Zk Z<|Zk Z<|Zk Z<|Zk Z<|Zq (pkT Z Z)<|Zm Z<|Zk Z<|Zk Z<|Zk Z<|Zk Z<|Zk Z<|Zq (pkT Z Z)<|z1g<|z2q (fun aa ww h=>Zu h [])
     ·refine lKn 18 Z h10<|lKn 19 Z h10<|z0w Zx Z Z (faB 1 Z Z Tryz.underlying43 Z (by exact zgq))<|z0w Zx Z Z (ld 1 Z Z (fP (z2s _)) zrk Z)<|zcs [] [] Zx Z Tryz.func51 Z Z (zgo _) (Y1 Z) rN fun r11 n12=>z0w Zx Z Z (I.neq Z Z)<|Zq (pkF Z Z)<|Zm Z<|z19 26 Z (fun h13=>?_) (fun h13=>?_)
      ·refine lKn 24 Z h13<|lKn 25 Z h13<|Zk Z<|Zk Z<|Zk Z<|Zk Z<|Zk Z<|Zq (pkT Z Z)<|Zm Z<|Zk Z<|Zk Z<|Zk Z<|Zk Z<|Zk Z<|Zq (pkT Z Z)<|z1g<|z2q (fun aa ww h=>Zu h [])
      ·refine lKn 24 Z h13<|lKn 25 Z h13<|z0w Zx Z Z (faB 1 Z Z Tryz.underlying43 Z (by exact zqn))<|z0w Zx Z Z (faB 1 Z Z Tryz.underlying41 Z (by exact z64))<|z0w Zx Z Z (ld 1 Z Z ((fP (z3p _)).part (z4l _)) z9r Z)<|zcs [] [] Zx Z Tryz.func52 Z Z (z6m _) (Y1 Z) rN fun r14 n15=>z0w Zx Z Z (zex Z)<|Zq (pkF Z Z)<|Zm Z<|z19 33 Z (fun h16=>?_) (fun h16=>?_)
       ·refine lKn 31 Z h16<|lKn 32 Z h16<|Zk Z<|Zk Z<|Zk Z<|Zk Z<|Zk Z<|Zq (pkT Z Z)<|z1g<|z2q (fun aa ww h=>Zu h [])
       ·refine lKn 31 Z h16<|lKn 32 Z h16<|z0w Zx Z Z (faB 1 Z Z Tryz.underlying43 Z (by exact zqn))<|z0w Zx Z Z (faB 1 Z Z Tryz.underlying41 Z (by exact z64))<|z0w Zx Z Z (ld 1 Z Z ((fP (z3p _)).part (z61 _)) z9r Z)<|zcs [] [] Zx Z Tryz.func52 Z Z (z6m _) (Y1 Z) rN fun r17 n18=>z0w Zx Z Z (zex Z)<|Zq (pkF Z Z)<|z1g<|z2q (fun aa ww h=>Zu h [])
   ·refine gIf Z Z (fun h19=>?_) (fun h19=>?_)
    ·refine gSR<|Zb Z<|z0o<|z0q<|Ze [] [] Z
    ·refine Zt<|gSR<|Zb Z<|z0o<|Ze [] [] Z
def z65 (a0:UInt32) (a1:UInt64):Option (UInt32) :=
 z8k a0.toUInt64 a1 1000000007 >>= fun r1 =>
 some r1.toUInt32
theorem zaf (a0:UInt32) (a1:UInt64):z2b Tryz.prog 202 [.rd z0x a0,.rd z1p a1] [] (z65 a0 a1) (fun r nv=>⟨[.rd z0x r],[]⟩):=by
 refine z2n 10 Tryz.func202 Z Z Z fun H w=>?_;refine gSR<|Zb Z<|gSR<|Zm Z<|Zq (W.toU Z tu34 tu35)<|Zm Z<|Zc [] [] Tryz.func96 Z (ze3 _ _ _) fun r1 n2=>Zq (U.toW Z tu35 tu34)<|Zb Z<|z0o<|Ze [] [] Z
def zf2 (a0:UInt32):Option (UInt32 × Int) :=
 zbp a0 >>= fun r1 =>
 if !r1 then
  some (0,2)
 else
  z65 a0 500000002 >>= fun r4 =>
  some (r4,0)
theorem zky (a0:UInt32):z2b Tryz.prog 201 [.rd z0x a0] [] (zf2 a0) (fun r nv=>⟨[.rd z0x r.1,.rd z0k r.2],[]⟩):=by
 refine z2n 9 Tryz.func201 Z Z Z fun H w=>?_;refine gSR<|Za Z<|Zb Z<|z0v<|gSR<|Zm Z<|Zc [] [] Tryz.func50 Z (zgl _) fun r1 n2=>Zq (zex Z)<|Zj Z (fun h3=>?_) (fun h3=>?_)
 ·refine gSR<|Za Z<|Zb Z<|z0o<|z0q<|Ze [] [] Z
 ·refine Zt<|gSR<|Zm Z<|Zc [] [] Tryz.func202 Z (zaf _ _) fun r4 n5=>Za Z<|Zb Z<|z0o<|Ze [] [] Z
def zdz (a0:UInt64):Option (UInt32) :=
 z65 4 a0 >>= fun r1 =>
 some r1
theorem zk1 (a0:UInt64):z2b Tryz.prog 229 [.rd z1p a0] [] (zdz a0) (fun r nv=>⟨[.rd z0x r],[]⟩):=by
 refine z2n 5 Tryz.func229 Z Z Z fun H w=>?_;refine gSR<|Zb Z<|gSR<|Zm Z<|Zc [] [] Tryz.func202 Z (zaf _ _) fun r1 n2=>Zb Z<|z0o<|Ze [] [] Z
def zf1 (a0:UInt32):Option (UInt32) :=
 zdz a0.toUInt64 >>= fun r1 =>
 some r1
theorem zkj (a0:UInt32):z2b Tryz.prog 205 [.rd z0x a0] [] (zf1 a0) (fun r nv=>⟨[.rd z0x r],[]⟩):=by
 refine z2n 6 Tryz.func205 Z Z Z fun H w=>?_;refine gSR<|Zb Z<|gSR<|Zm Z<|Zq (W.toU Z tu34 tu35)<|Zc [] [] Tryz.func229 Z (zk1 _) fun r1 n2=>Zb Z<|z0o<|Ze [] [] Z
def zbw (a0:UInt32) (a1:UInt32):Option (UInt32) :=
 some (((a0.toUInt64 * a1.toUInt64) % 1000000007).toUInt32) >>= fun y1 =>
 some y1
theorem zgr (a0:UInt32) (a1:UInt32):z2b Tryz.prog 204 [.rd z0x a0,.rd z0x a1] [] (zbw a0 a1) (fun r nv=>⟨[.rd z0x r],[]⟩):=by
 refine z2n 12 Tryz.func204 Z Z Z fun H w=>?_;refine gSR<|Zb Z<|gSR<|Zm Z<|Zq (W.toU Z tu34 tu35)<|Zm Z<|Zq (W.toU Z tu34 tu35)<|Zq (U.mul Z Z)<|Zq (U.rem Z Z (by decide))<|Zq (U.toW Z tu35 tu34)<|Za Z<|z1o 4 Z fun y1=>Zn<|z0o<|Ze [] [] Z
def z97 (a0:UInt32):Option ((List UInt8)) :=
 some [(a0 / 16777216).toUInt8,((a0 / 65536) % 256).toUInt8,((a0 / 256) % 256).toUInt8,(a0 % 256).toUInt8]
theorem zes (a0:UInt32):z2b Tryz.prog 227 [.rd z0x a0] [] (z97 a0) (fun r nv=>⟨[.val (nv 0)],[(100,some (nv 0,.list u8R 5 r))]⟩):=by
 refine z2n 18 Tryz.func227 Z Z Z fun H w=>?_;refine gSR<|Zb Z<|gSR<|Zm Z<|Zq (W.quo Z Z (by decide))<|Zq (W.toB Z tu34 tu5)<|Zm Z<|Zq (W.quo Z Z (by decide))<|Zq (W.rem Z Z (by decide))<|Zq (W.toB Z tu34 tu5)<|Zm Z<|Zq (W.quo Z Z (by decide))<|Zq (W.rem Z Z (by decide))<|Zq (W.toB Z tu34 tu5)<|Zm Z<|Zq (W.rem Z Z (by decide))<|Zq (W.toB Z tu34 tu5)<|Ef Z (lit (R:=u8R) ([(a0 / 16777216).toUInt8,((a0 / 65536) % 256).toUInt8,((a0 / 256) % 256).toUInt8,(a0 % 256).toUInt8]:List UInt8) 1 (pP Z Z<|pP Z Z<|pP Z Z<|pP Z Z<|pN) Z tu52 ti5 Z Z) fun v1=>Zb Z<|z0o<|Ze [v1] [1] Z
def z5s (r1:V3) (s5:UInt64 × Int):Option (Sum UInt64 (UInt64 × Int)) :=
 if decide (s5.2<8) then
  z7z r1 s5.2 >>= fun x7 =>
  some ((256 * s5.1)+x7.toUInt64) >>= fun y9 =>
  some (w64 (s5.2+1)) >>= fun y10 =>
  some (.inr (y9,y10))
 else
  some (.inl s5.1)
def za0 (a0:List UInt8):Option (UInt64) :=
 zc4 a0 >>= fun r1 =>
 (iter (z5s r1) (0,0)) >>= fun s4 =>
 some s4
theorem zi4 (a0:List UInt8):z2b Tryz.prog 228 [.rd (z04 u8R) a0] [] (za0 a0) (fun r nv=>⟨[.rd z1p r],[]⟩):=by
 refine z2n 20 Tryz.func228 Z Z Z fun H w=>?_;refine gSR<|Zb Z<|gSR<|Zm Z<|Zc [] [] Tryz.func53 Z (zgg _) fun r1 n2=>Eb Z (zad 1 z40 (.zr (R:=aZ) (x:=(Vector.replicate 32 0)) zl9)) fun v3=>Es (sto 1 Z Z fH Z z40)<|Zn<|gSR<|Zb Z<|z68 (fun (s4:UInt64) aa ww=>Sta (ctx 20 H [] w) [(4,.rd z1p s4)] [] aa ww) ?_ (fun s4=>?_)
 ·refine gSR<|Zb Z<|z2a (fun (s5:UInt64 × Int) aa ww=>Sta (ctx 20 H [] w) [(3,.val (z0j v3 0)),(4,.rd z1p s5.1),(5,.rd z0k s5.2)] [(1,some (v3,.box 45 [.rd aZ r1]))] aa ww) (fun aa ww h=>Zu h [1]) (fun s5=>?_);refine z0v<|gSR<|Zm Z<|Zq (I.lss Z Z)<|Zj Z (fun h6=>?_) (fun h6=>?_)
  ·refine Zt<|z0v<|z5b<|z20<|Zm Z<|Zq (U.mul Z Z)<|Zm Z<|z0m fun x7 h8=>Zq (ixB 1 Z Z Z h8 tu45 ti5)<|Zq (ld 1 Z Z (fP (.el h8)) ty5 Z)<|Zq (B.toU Z tu5 tu35)<|Zq (U.add Z Z)<|Za Z<|z1o 4 Z fun y9=>z1g<|z3f<|z0z<|z20<|Zm Z<|Zq (I.add Z Z)<|Za Z<|z1o 5 Z fun y10=>z1g<|z1q (fun aa ww h=>Zu h [1])
  ·refine z21<|z15<|z17<|z2q (fun aa ww h=>Zu h [])
 ·refine gSR<|Zm Z<|Zb Z<|z0o<|Ze [] [] Z
def z7n (a0:UInt32) (a1:UInt32) (a2:List UInt8):Option (UInt32) :=
 z97 a0 >>= fun r2 =>
 app 1 [99] r2 >>= fun x4 =>
 z97 a1 >>= fun r7 =>
 app 1 x4 r7 >>= fun x9 =>
 app 1 x9 a2 >>= fun x12 =>
 za0 x12 >>= fun r15 =>
 some ((r15 % 500000003).toUInt32) >>= fun y17 =>
 some y17
theorem zfx (a0:UInt32) (a1:UInt32) (a2:List UInt8):z2b Tryz.prog 203 [.rd z0x a0,.rd z0x a1,.rd (z04 u8R) a2] [] (z7n a0 a1 a2) (fun r nv=>⟨[.rd z0x r],[]⟩):=by
 refine z2n 21 Tryz.func203 Z Z Z fun H w=>?_;refine gSR<|Zb Z<|gSR<|Ef Z (lit (R:=u8R) ([99]:List UInt8) 1 (pP Z Z<|pN) Z tu52 ti5 Z Z) fun v1=>Zm Z<|Zc [] [(100,2)] Tryz.func227 Z (zes _) fun r2 n3=>z0m fun x4 h5=>Ef Z (apn 1 Z Z Z (.own 2 Z) h5 tu52 ti5 Z Z Z) fun v6=>Zm Z<|Zc [] [(100,3)] Tryz.func227 Z (zes _) fun r7 n8=>z0m fun x9 h10=>Ef Z (apn 1 Z Z Z (.own 3 Z) h10 tu52 ti5 Z Z Z) fun v11=>Zb Z<|gSR<|Zm Z<|Zm Z<|z0m fun x12 h13=>Ef Z (apn 1 Z Z Z .rd h13 tu52 ti5 Z Z Z) fun v14=>zf4 1 [17] Z (fS Z<|fN)<|Zc [] [] Tryz.func228 Z (zi4 _) fun r15 n16=>Zq (U.rem Z Z (by decide))<|Zq (U.toW Z tu35 tu34)<|Za Z<|z1o 6 Z fun y17=>Zn<|z0o<|Ze [] [] Z
def zaq (a0:UInt32) (a1:List UInt8) (a2:z0b):Option (Bool) :=
 z3z a2.E >>= fun r2 =>
 if !r2 then
  some false
 else
  z3z a2.S >>= fun r5 =>
  if !r5 then
   some false
  else
   z65 a0 a2.E.toUInt64 >>= fun r8 =>
   zf2 r8 >>= fun r10 =>
   zf1 a2.S >>= fun r12 =>
   zbw r12 r10.1 >>= fun r14 =>
   z7n r14 a0 a1 >>= fun r16 =>
   some (r16==a2.E)
theorem zj0 (a0:UInt32) (a1:List UInt8) (a2:z0b):z2b Tryz.prog 165 [.rd z0x a0,.rd (z04 u8R) a1,.rd z09 a2] [] (zaq a0 a1 a2) (fun r nv=>⟨[.rd z0l r],[]⟩):=by
 refine z2n 39 Tryz.func165 Z Z Z fun H w=>?_;refine gSR<|Eb Z (bx 1 Z) fun v1=>Zb Z<|z0v<|gSR<|Zq (faB 1 Z Z Tryz.underlying41 Z (by exact z64))<|Zq (ld 1 Z Z (fP (z4l _)) z9r Z)<|Zc [] [] Tryz.func52 Z (z6m _) fun r2 n3=>Zq (zex Z)<|Zm Z<|z19 13 Z (fun h4=>?_) (fun h4=>?_)
 ·refine lKn 12 Z h4<|Zk Z<|Zk Z<|Zk Z<|Zk Z<|Zq (pkT Z Z)<|Zn<|zc7 Z<|gSR<|Zb Z<|z0o<|z0q<|Ze [] [] Z
 ·refine lKn 12 Z h4<|z0w Zx Z Z (faB 1 Z Z Tryz.underlying41 Z (by exact z64))<|z0w Zx Z Z (ld 1 Z Z (fP (z61 _)) z9r Z)<|zcs [] [] Zx Z Tryz.func52 Z Z (z6m _) (Y1 Z) rN fun r5 n6=>z0w Zx Z Z (zex Z)<|Zq (pkF Z Z)<|Zj Z (fun h7=>?_) (fun h7=>?_)
  ·refine gKn 17 Z h7<|gSR<|Zb Z<|z0o<|z0q<|Ze [] [] Z
  ·refine gKn 17 Z h7<|Zt<|gSR<|Zm Z<|Zq (faB 1 Z Z Tryz.underlying41 Z (by exact z64))<|Zq (ld 1 Z Z (fP (z4l _)) z9r Z)<|Zq (W.toU Z tu34 tu35)<|Zc [] [] Tryz.func202 Z (zaf _ _) fun r8 n9=>Zc [] [] Tryz.func201 Z (zky _) fun r10 n11=>Zm Z<|Zq (ext Z Z)<|Zq (ext Z Z)<|Za Z<|Zb Z<|z0v<|z8g [] mixed Z Z<|hTk 0 Z Z (faB 1 Z Z Tryz.underlying41 Z (by exact z64))<|hTk 1 Z Z (ld 1 Z Z (fP (z61 _)) z9r Z)<|hTk 3 Z Z (mv Z)<|hTk 5 Z Z (mv Z)<|hTk 6 Z Z (mv Z)<|hTk 8 Z Z (faB 1 Z Z Tryz.underlying41 Z (by exact z64))<|hTk 9 Z Z (ld 1 Z Z (fP (z4l _)) z9r Z)<|z54 2 [] [] Z (by kernel_rfl) Z (gd0 Z) Z Tryz.func205 Z Z (zkj _) (Y1 Z) rN Z (fun _ _=>z3g) fun r12 n13=>z54 4 [] [] Z (by kernel_rfl) Z (gd0 Z) Z Tryz.func204 Z Z (zgr _ _) (Y2 Z Z) rN Z (fun _ _=>z3g) fun r14 n15=>z54 7 [] [] Z (by kernel_rfl) Z (gd0 Z) Z Tryz.func203 Z Z (zfx _ _ _) (aQ Z<|aQ Z<|aQ Z<|aN) rN Z (fun _ _=>z3g) fun r16 n17=>hTk 10 Z Z (W.eql Z Z)<|hTk 11 Z Z (asg Z)<|z4t (by kernel_rfl)<|z0z<|z0o<|Ze [] [] Z
def zcg (a0:z03):Option (Bool) :=
 z9a a0 >>= fun r2 =>
 zaq a0.Author r2 a0.Sig >>= fun r4 =>
 some r4
theorem zhw (a0:z03):z2b Tryz.prog 120 [.rd z05 a0] [] (zcg a0) (fun r nv=>⟨[.rd z0l r],[]⟩):=by
 refine z2n 10 Tryz.func120 Z Z Z fun H w=>?_;refine gSR<|Eb Z (bx 1 Z) fun v1=>Zb Z<|z0v<|z8g [11] mixed Z Z<|hTk 0 Z Z (faB 1 Z Z Tryz.underlying43 Z (by exact z64))<|hTk 1 Z Z (ld 1 Z Z (fP (z4k _)) z9r Z)<|hTk 2 Z Z (ld 1 Z Z fH z8y Z)<|hTk 4 Z Z (faB 1 Z Z Tryz.underlying43 Z (by exact zqn))<|hTk 5 Z Z (ld 1 Z Z (fP (z3p _)) ty41 Z)<|z54 3 [] [(100,11)] Z (by kernel_rfl) Z (gd0 Z) Z Tryz.func103 Z Z (zem _) (Y1 Z) rN Z (fun _ _=>z36) fun r2 n3=>zyi 11 [6] Z (fS Z<|fN)<|z54 6 [] [] Z (by kernel_rfl) Z (gd0 Z) Z Tryz.func165 Z Z (zj0 _ _ _) (aQ Z<|aQ Z<|aQ Z<|aN) rN Z (fun _ _=>zam) fun r4 n5=>hTk 7 Z Z (asg Z)<|z4t (by kernel_rfl)<|z0z<|z0o<|Ze [] [] Z
def z9t (a0:z03):Option (Int) :=
 z4p a0 >>= fun r2 =>
 if r2 != 0 then
  z4p a0 >>= fun r5 =>
  some r5
 else
  zcg a0 >>= fun r7 =>
  if !r7 then
   some 22
  else
   some 0
theorem zi8 (a0:z03):z2b Tryz.prog 72 [.rd z05 a0] [] (z9t a0) (fun r nv=>⟨[.rd z0k r],[]⟩):=by
 refine z2n 11 Tryz.func72 Z Z Z fun H w=>?_;refine gSR<|Eb Z (bx 1 Z) fun v1=>Zb Z<|z0v<|gSR<|Zq (ld 1 Z Z fH z8y Z)<|Zc [] [] Tryz.func15 Z (z6a _) fun r2 n3=>Zq (I.neq Z Z)<|Zj Z (fun h4=>?_) (fun h4=>?_)
 ·refine gSR<|Zq (ld 1 Z Z fH z8y Z)<|Zc [] [] Tryz.func15 Z (z6a _) fun r5 n6=>Zb Z<|z0o<|z0q<|Ze [] [] Z
 ·refine Zt<|z0v<|gSR<|Zq (ld 1 Z Z fH z8y Z)<|Zc [] [] Tryz.func120 Z (zhw _) fun r7 n8=>Zq (zex Z)<|Zj Z (fun h9=>?_) (fun h9=>?_)
  ·refine gSR<|Zb Z<|z0o<|z0q<|Ze [] [] Z
  ·refine Zt<|gSR<|Zb Z<|z0o<|Ze [] [] Z
end
section
open Go Go.RowKit
set_option maxRecDepth 100000
def z0t (a0:List V3) (a1:V3) (s4:Int × Int):Option (Sum Int (Int × Int)) :=
 if decide (s4.1<s4.2) then
  some (w64 ((z6r (UInt64.ofInt (w64 (s4.1+s4.2))) 1).toNat:Int)) >>= fun y6 =>
  idx a0 y6 >>= fun x7 =>
  za2 x7 a1 >>= fun r9 =>
  if decide (r9<0) then
   some (.inr (w64 (y6+1),s4.2))
  else
   some (.inr (s4.1,y6))
 else
  some (.inl s4.1)
def z1f (a0:List V3) (a1:V3):Option (Int × Bool) :=
 some (a0.length:Int) >>= fun y2 =>
 (iter (z0t a0 a1) (0,y2)) >>= fun s3 =>
 if decide (s3<y2) then
  idx a0 s3 >>= fun x13 =>
  za2 x13 a1 >>= fun r15 =>
  some (s3,r15==0)
 else
  some (s3,false)
theorem z59 (a0:List V3) (a1:V3):z2b Tryz.prog 129 [.rd (z04 aZ) a0,.rd aZ a1,.val (.func (.func 48) #[] #[])] [] (z1f a0 a1) (fun r nv=>⟨[.rd z0k r.1,.rd z0l r.2],[]⟩):=by
 refine z2n 49 Tryz.func129 Z Z Z fun H w=>?_;refine gSR<|Eb Z (bx 1 Z) fun v1=>Za Z<|Zb Z<|gSR<|Zm Z<|Zq (z2v Z .rd Z tu29)<|Za Z<|z1o 8 Z fun y2=>Zn<|gSR<|Zm Z<|Za Z<|Zb Z<|z68 (fun (s3:Int) aa ww=>Sta (ctx 49 H [] w) [(0,.rd (z04 aZ) a0),(2,.val (.func (.func 48) #[] #[])),(4,.val (z0j v1 0)),(8,.rd z0k y2),(9,.rd z0k s3)] [(1,some (v1,.box 45 [.rd aZ a1]))] aa ww) ?_ (fun s3=>?_)
 ·refine z2a (fun (s4:Int × Int) aa ww=>Sta (ctx 49 H [] w) [(0,.rd (z04 aZ) a0),(2,.val (.func (.func 48) #[] #[])),(4,.val (z0j v1 0)),(8,.rd z0k y2),(9,.rd z0k s4.1),(10,.rd z0k s4.2)] [(1,some (v1,.box 45 [.rd aZ a1]))] aa ww) (fun aa ww h=>Zu h [1]) (fun s4=>?_);refine z0v<|gSR<|Zm Z<|Zm Z<|Zq (I.lss Z Z)<|Zj Z (fun h5=>?_) (fun h5=>?_)
  ·refine Zt<|z5b<|gSR<|Zm Z<|Zm Z<|Zq (I.add Z Z)<|Zq (I.toU Z tu3 Tryz.underlying143)<|Zq (U.shr Z Z (Int.natCast_nonneg _))<|Zq (U.toI Z Tryz.underlying143 tu3)<|Za Z<|z1o 11 Z fun y6=>Zn<|z0v<|z8g [] mixed Z Z<|hTk 0 Z Z (mv Z)<|hTk 1 Z Z (mv Z)<|hTk 2 Z Z (mv Z)<|z3s fun x7 h8=>hTk 3 Z Z (ixR Z Z h8 tu29 z40 Z)<|hTk 4 Z Z (ldR Z z83)<|hTk 5 Z Z (ld 1 Z Z fH z83 Z)<|zuh 6 [] [] Z (by kernel_rfl) Z (gd0 Z) Z Tryz.func48 Z Z Z (zbt _ _) (Y2 Z Z) (cN) Z rN Z (fun _ _=>z3g) fun r9 n10=>hTk 7 Z Z (I.lss Z Z)<|z4t (by kernel_rfl)<|z0z<|gIf Z Z (fun h11=>?_) (fun h11=>?_)
   ·refine z20<|Zm Z<|Zq (I.add Z Z)<|Za Z<|z1g<|z3f<|z1q (fun aa ww h=>Zu h [1])
   ·refine z20<|Zm Z<|Za Z<|z1g<|z3f<|z1q (fun aa ww h=>Zu h [1])
  ·refine z21<|z15<|z17<|z2q (fun aa ww h=>Zu h [1])
 ·refine z0v<|z8g [] mixed Z Z<|hTk 0 Z Z (mv Z)<|hTk 1 Z Z (mv Z)<|hTk 2 Z Z (mv Z)<|hTk 3 Z Z (I.lss Z Z)<|hTk 4 Z Z (mv Z)<|hIf 39 Z Z (fun h12=>?_) (fun h12=>?_)
  ·refine hKn 38 Z Z h12<|Zg 5 Z Z (mv Z)<|Zg 6 Z Z (mv Z)<|Zg 7 Z Z (mv Z)<|z3s fun x13 h14=>Zg 8 Z Z (ixR Z Z h14 tu29 z40 Z)<|Zg 9 Z Z (ldR Z z83)<|Zg 10 Z Z (ld 1 Z Z fH z83 Z)<|zuh 11 [] [] Z (by kernel_rfl) Z Zx Z Tryz.func48 Z Z Z (zbt _ _) (Y2 Z Z) (cN) Z rN Z (fun _ _=>z3g) fun r15 n16=>Zg 12 Z Z (I.eql Z Z)<|hTk 13 Z Z (pkT Z Z)<|hTk 14 Z Z (asg Z)<|hTk 15 Z Z (asg Z)<|z4t (by kernel_rfl)<|z0z<|z0o<|Ze [] [] Z
  ·refine hKn 38 Z Z h12<|hSk 5 Z Z<|hSk 6 Z Z<|hSk 7 Z Z<|hSk 8 Z Z<|hSk 9 Z Z<|hSk 10 Z Z<|hSk 11 Z Z<|hSk 12 Z Z<|hTk 13 Z Z (pkF Z Z)<|hTk 14 Z Z (asg Z)<|hTk 15 Z Z (asg Z)<|z4t (by kernel_rfl)<|z0z<|z0o<|Ze [] [] Z
def zmj (a0:z0f) (a1:V3):Option (Int × Bool) :=
 z1f a0.IDs a1 >>= fun r3 =>
 some (r3.1,r3.2)
theorem zur (a0:z0f) (a1:V3):z2b Tryz.prog 85 [.rd z11 a0,.rd aZ a1] [] (zmj a0 a1) (fun r nv=>⟨[.rd z0k r.1,.rd z0l r.2],[]⟩):=by
 refine z2n 12 Tryz.func85 Z Z Z fun H w=>?_;refine gSR<|Eb Z (bx 1 Z) fun v1=>Eb Z (bx 2 Z) fun v2=>Za Z<|Zb Z<|gSR<|Zq (faB 1 Z Z Tryz.underlying66 Z (by exact za8))<|Zq (ld 1 Z Z (fP (z1y _)) zeh Z)<|Zq (ld 2 Z Z fH z83 Z)<|Zc [] [] Tryz.func129 Z (z59 _ _) fun r3 n4=>Zq (ext Z Z)<|Zq (ext Z Z)<|Za Z<|Zb Z<|z0o<|Ze [] [] Z
def z9c (a0:z0f) (s3:Int):Option (Sum (Sum Int Unit) Int) :=
 if decide (s3<(a0.IDs.length:Int)) then
  idx a0.IDs (w64 (s3 - 1)) >>= fun x5 =>
  idx a0.IDs s3 >>= fun x7 =>
  za2 x5 x7 >>= fun r9 =>
  if decide (0≤r9) then
   some (.inl (.inl 32))
  else
   some (.inr (w64 (s3+1)))
 else
  some (.inl (.inr ()))
def zb6 (a0:z0f) (s19:(List Int) × (List (List Int)) × (List Int) × Int) (x22:z03) (s26:(List (List Int)) × Int):Option (Sum (Sum (Sum (Sum Int ((List Int) × (List (List Int)) × (List Int))) ((List Int) × (List (List Int)) × (List Int) × Int)) ((List (List Int)))) ((List (List Int)) × Int)) :=
 if decide (s26.2<(x22.Preds.length:Int)) then
  idx x22.Preds s26.2 >>= fun x29 =>
  zmj a0 x29 >>= fun r32 =>
  if !r32.2 then
   some (.inl (.inl (.inl (.inl 40))))
  else
   idx s26.1 r32.1 >>= fun x35 =>
   app 8 x35 [s19.2.2.2] >>= fun x38 =>
   some (.inr (s26.1.set (r32.1:Int).toNat x38,w64 (s26.2+1)))
 else
  some (.inl (.inr s26.1))
def zb5 (a0:z0f) (s19:(List Int) × (List (List Int)) × (List Int) × Int):Option (Sum (Sum Int ((List Int) × (List (List Int)) × (List Int))) ((List Int) × (List (List Int)) × (List Int) × Int)) :=
 if decide (s19.2.2.2<(a0.Ops.length:Int)) then
  idx a0.Ops s19.2.2.2 >>= fun x22 =>
  z5o (iter (zb6 a0 s19 x22) (s19.2.1,0)) fun s25 =>
  idx s19.1 s19.2.2.2 >>= fun x42 =>
  idx (s19.1.set (s19.2.2.2:Int).toNat (x22.Preds.length:Int)) s19.2.2.2 >>= fun x44 =>
  if x44==0 then
   app 8 s19.2.2.1 [s19.2.2.2] >>= fun x48 =>
   some (.inr (s19.1.set (s19.2.2.2:Int).toNat (x22.Preds.length:Int),s25,x48,w64 (s19.2.2.2+1)))
  else
   some (.inr (s19.1.set (s19.2.2.2:Int).toNat (x22.Preds.length:Int),s25,s19.2.2.1,w64 (s19.2.2.2+1)))
 else
  some (.inl (.inr (s19.1,s19.2.1,s19.2.2.1)))
def zb7 (x59:List Int) (s61:(List Int) × (List Int) × Int):Option (Sum ((List Int) × (List Int)) ((List Int) × (List Int) × Int)) :=
 if decide (s61.2.2<(x59.length:Int)) then
  idx x59 s61.2.2 >>= fun x64 =>
  idx s61.1 x64 >>= fun x66 =>
  idx s61.1 x64 >>= fun x68 =>
  idx (s61.1.set (x64:Int).toNat (w64 (x66 - 1))) x64 >>= fun x70 =>
  if x70==0 then
   app 8 s61.2.1 [x64] >>= fun x74 =>
   some (.inr (s61.1.set (x64:Int).toNat (w64 (x66 - 1)),x74,w64 (s61.2.2+1)))
  else
   some (.inr (s61.1.set (x64:Int).toNat (w64 (x66 - 1)),s61.2.1,w64 (s61.2.2+1)))
 else
  some (.inl (s61.1,s61.2.1))
def zd3 (s18:(List Int) × (List (List Int)) × (List Int)) (s53:(List Int) × (List Int) × Int):Option (Sum Int ((List Int) × (List Int) × Int)) :=
 if decide (s53.2.2<(s53.2.1.length:Int)) then
  (idx s53.2.1 s53.2.2 >>= fun x57 =>
  idx s18.2.1 x57 >>= fun x59 =>
  iter (zb7 x59) (s53.1,s53.2.1,0)) >>= fun s56 =>
  some (w64 (s53.2.2+1)) >>= fun y78 =>
  some (.inr (s56.1,s56.2,y78))
 else
  some (.inl s53.2.2)
def zkd (a0:z0f):Option (Int) :=
 z5o (iter (z9c a0) 1) fun s2 =>
 mkn 8 0 (a0.Ops.length:Int) >>= fun x12 =>
 mkn 24 ([]:List Int) (a0.Ops.length:Int) >>= fun x15 =>
 z5o (iter (zb5 a0) (x12,x15,[],0)) fun s18 =>
 (iter (zd3 s18) (s18.1,s18.2.2,0)) >>= fun s52 =>
 if decide (s52<(a0.Ops.length:Int)) then
  some 36
 else
  some 0
theorem zs7 (a0:z0f):z2b Tryz.prog 76 [.rd z11 a0] [] (zkd a0) (fun r nv=>⟨[.rd z0k r],[]⟩):=by
 refine z2n 133 Tryz.func76 Z Z Z fun H w=>?_;refine gSR<|Eb Z (bx 1 Z) fun v1=>Zb Z<|z7j (fun (s2:Unit) aa ww=>Sta (ctx 133 H [] w) [(1,.val (z0j v1 0))] [(1,some (v1,.box 66 [.rd z11 a0]))] aa ww) ?_ (fun s2=>?_)
 ·refine gSR<|Zb Z<|z2a (fun (s3:Int) aa ww=>Sta (ctx 133 H [] w) [(1,.val (z0j v1 0)),(3,.rd z0k s3)] [(1,some (v1,.box 66 [.rd z11 a0]))] aa ww) (fun aa ww h=>h.sub [1] (sS Z<|sS Z<|sN) (y1 Z)) (fun s3=>?_);refine z0v<|gSR<|Zm Z<|Zq (faB 1 Z Z Tryz.underlying66 Z (by exact za8))<|Zq (ld 1 Z Z (fP (z1y _)) zeh Z)<|Zq (z2v Z .rd Z tu29)<|Zq (I.lss Z Z)<|Zj Z (fun h4=>?_) (fun h4=>?_)
  ·refine Zt<|z0v<|z5b<|z0v<|z8g [] mixed Z Z<|hTk 0 Z Z (faB 1 Z Z Tryz.underlying66 Z (by exact za8))<|hTk 1 Z Z (ld 1 Z Z (fP (z1y _)) zeh Z)<|hTk 2 Z Z (mv Z)<|hTk 3 Z Z (I.sub Z Z)<|z3s fun x5 h6=>hTk 4 Z Z (ixR Z Z h6 tu29 z40 Z)<|hTk 5 Z Z (ldR Z z83)<|hTk 6 Z Z (faB 1 Z Z Tryz.underlying66 Z (by exact za8))<|hTk 7 Z Z (ld 1 Z Z (fP (z1y _)) zeh Z)<|hTk 8 Z Z (mv Z)<|z3s fun x7 h8=>hTk 9 Z Z (ixR Z Z h8 tu29 z40 Z)<|hTk 10 Z Z (ldR Z z83)<|z54 11 [] [] Z (by kernel_rfl) Z (gd0 Z) Z Tryz.func48 Z Z (zbt _ _) (Y2 Z Z) rN Z (fun _ _=>z3g) fun r9 n10=>hTk 12 Z Z (I.geq Z Z)<|z4t (by kernel_rfl)<|z0z<|gIf Z Z (fun h11=>?_) (fun h11=>?_)
   ·refine gSR<|Zb Z<|z0o<|z44<|z0q<|z6t<|z4g<|zb3 [] [] Z (eE Z<|eN) (rN)
   ·refine z31<|z3f<|z0z<|z20<|Zm Z<|Zq (I.add Z Z)<|Za Z<|z1g<|z1q (fun aa ww h=>h.sub [1] (sS Z<|sS Z<|sN) (y1 Z))
  ·refine z21<|z15<|z17<|z5k (fun aa ww h=>h.sub [1] (sS Z<|sN) (y1 Z))
 ·refine gSR<|Zq (faB 1 Z Z Tryz.underlying66 Z (by exact zlm))<|Zq (ld 1 Z Z (fP (z12 _)) zli Z)<|Zq (z2v Z .rd Z tu22)<|z0m fun x12 h13=>Ef Z (mks (R:=z0k) 44 Z Z h13 tu86 ti3 (Zr.num Z) Z) fun v14=>Zb Z<|gSR<|Zq (faB 1 Z Z Tryz.underlying66 Z (by exact zlm))<|Zq (ld 1 Z Z (fP (z12 _)) zli Z)<|Zq (z2v Z .rd Z tu22)<|z0m fun x15 h16=>Ef Z (mksF 45 Z Z h16 Tryz.underlying173 ti86 Z) fun v17=>z18y (base:=100000) (lits:=[(1,some (v1,.box 66 [.rd z11 a0])),(44,some (v14,.list z0k 3 x12)),(45,some (v17,.list zih 86 (zc0 (fun _=>Value.slice none 0 0) x15)))]) z0k 3 [1,44,45] (z14j h16) (Zi Z<|Zi Z<|Zi Z<|rN)<|Zb Z<|gSR<|Zb Z<|z7j (fun (s18:(List Int) × (List (List Int)) × (List Int)) aa ww=>∃ nv:Nat→Value,Sta (ctx 133 H [] w) [(1,.val (z0j v1 0)),(4,.val v14),(5,.val v17),(6,.val (nv 0))] ([(1,some (v1,.box 66 [.rd z11 a0])),(44,some (v14,.list z0k 3 s18.1)),(45,some (v17,.list zih 86 (zc0 (fun j=>nv (j+1)) s18.2.1))),(50,some ((nv 0),.list z0k 3 s18.2.2))]++zr0 100000 z0k 3 (fun j=>nv (j+1)) s18.2.1 0) aa ww) ?_ (fun s18=>?_)
  ·refine gSR<|Zq (faB 1 Z Z Tryz.underlying66 Z (by exact zlm))<|Zq (ld 1 Z Z (fP (z12 _)) zli Z)<|Zq (z2v Z .rd Z tu22)<|Zm Z<|Zn<|zqy z0k 3 56<|z2a (fun (s19:(List Int) × (List (List Int)) × (List Int) × Int) aa ww=>∃ nv:Nat→Value,Sta (ctx 133 H [] w) [(1,.val (z0j v1 0)),(4,.val v14),(5,.val v17),(6,.val (nv 0)),(45,.rd (z04 z05) a0.Ops),(46,.rd z0k (a0.Ops.length:Int)),(47,.rd z0k s19.2.2.2)] ([(1,some (v1,.box 66 [.rd z11 a0])),(44,some (v14,.list z0k 3 s19.1)),(45,some (v17,.list zih 86 (zc0 (fun j=>nv (j+1)) s19.2.1))),(55,some ((nv 0),.list z0k 3 s19.2.2.1))]++zr0 100000 z0k 3 (fun j=>nv (j+1)) s19.2.1 0) aa ww) (fun aa ww h=>⟨nvlF [(.slice none 0 0)] (fun _=>Value.slice none 0 0),h.subF (by repeat (first | refine z7k.cons Z ?_ | exact z7k.tail)) [1,44,45,56] (Zs Z Z Z Z<|sS Z<|sS Z<|sS Z<|sN) (Zi Z<|Zi Z<|Zi Z<|Zi Z<|rN) rfl⟩) (fun s19=>?_)
   refine gEx fun n20=>gSR<|Zq (I.lss Z Z)<|Zn<|z0v<|gIf Z Z (fun h21=>?_) (fun h21=>?_)
   ·refine Zt<|z0v<|z5b<|gSR<|Zm Z<|z0m fun x22 h23=>Zq (ixR Z Z h23 tu22 z6w Z)<|Zq (ldR Z z8y)<|Eb Z (zad 57 z6w (ZrE.rd (R:=z0x) (x:=0) (Zr.num Z) (ZrE.nilS (ZrE.rd (R:=z1p) (x:=0) (Zr.num Z) (ZrE.rd (R:=z07) (x:=(⟨0,[],(⟨0,0,0,[]⟩:z01)⟩:z0a)) zja (ZrE.rd (R:=z09) (x:=(⟨0,0⟩:z0b)) zln ZrE.nil Z) Z) Z)) Z)) fun v24=>Za Z<|ztm aZ [.rd z0x 0,.rd (z04 aZ) [],.rd z1p 0,.rd z07 (⟨0,[],(⟨0,0,0,[]⟩:z01)⟩:z0a),.rd z09 (⟨0,0⟩:z0b)] 57 [.rd z0x 0] [.rd z1p 0,.rd z07 (⟨0,[],(⟨0,0,0,[]⟩:z01)⟩:z0a),.rd z09 (⟨0,0⟩:z0b)] Z Z Z<|zmr (R:=z05) (⟨0,[],0,(⟨0,[],(⟨0,0,0,[]⟩:z01)⟩:z0a),(⟨0,0⟩:z0b)⟩:z03) 57 Z (Sp.via (Sp.prod (Sp.prod (Sp.prod (Sp.prod (Sp.prod Sp.unit))))))<|Es (sto 57 Z Z fH Z z6w)<|Zn<|z7j (fun (s25:(List (List Int))) aa ww=>∃ nv:Nat→Value,Sta (ctx 133 H [] w) [(1,.val (z0j v1 0)),(4,.val v14),(5,.val v17),(6,.val (n20 0)),(7,.rd z0k s19.2.2.2),(8,.val (z0j v24 0)),(45,.rd (z04 z05) a0.Ops),(46,.rd z0k (a0.Ops.length:Int)),(47,.rd z0k s19.2.2.2)] ([(1,some (v1,.box 66 [.rd z11 a0])),(44,some (v14,.list z0k 3 s19.1)),(45,some (v17,.list zih 86 (zc0 (fun j=>nv (j+0)) s25))),(55,some ((n20 0),.list z0k 3 s19.2.2.1)),(57,some (v24,.box 43 [.rd z05 x22]))]++zr0 100000 z0k 3 (fun j=>nv (j+0)) s25 0) aa ww) ?_ (fun s25=>?_)
    ·refine gSR<|Zq (faB 57 Z Z Tryz.underlying43 Z (by exact za8))<|Zq (ld 57 Z Z (fP (z16 _)) zeh Z)<|Zq (z2v Z .rd Z tu29)<|Zm Z<|Zn<|z2a (fun (s26:(List (List Int)) × Int) aa ww=>∃ nv:Nat→Value,Sta (ctx 133 H [] w) [(1,.val (z0j v1 0)),(4,.val v14),(5,.val v17),(6,.val (n20 0)),(7,.rd z0k s19.2.2.2),(8,.val (z0j v24 0)),(45,.rd (z04 z05) a0.Ops),(46,.rd z0k (a0.Ops.length:Int)),(47,.rd z0k s19.2.2.2),(53,.rd (z04 aZ) x22.Preds),(54,.rd z0k (x22.Preds.length:Int)),(55,.rd z0k s26.2)] ([(1,some (v1,.box 66 [.rd z11 a0])),(44,some (v14,.list z0k 3 s19.1)),(45,some (v17,.list zih 86 (zc0 (fun j=>nv (j+0)) s26.1))),(55,some ((n20 0),.list z0k 3 s19.2.2.1)),(57,some (v24,.box 43 [.rd z05 x22]))]++zr0 100000 z0k 3 (fun j=>nv (j+0)) s26.1 0) aa ww) (fun aa ww h=>⟨nvlF [] (fun j=>n20 (j+1)),h.subF (by repeat (first | refine z7k.cons Z ?_ | exact z7k.tail)) [1,44,45,55,57] (Zs Z Z Z Z<|Zs Z Z Z Z<|Zs Z Z Z Z<|sN) (Zi Z<|Zi Z<|Zi Z<|Zi Z<|Zi Z<|rN) rfl⟩) (fun s26=>?_)
     refine gEx fun n27=>gSR<|Zq (I.lss Z Z)<|Zn<|z0v<|gIf Z Z (fun h28=>?_) (fun h28=>?_)
     ·refine Zt<|z0v<|z5b<|gSR<|z0m fun x29 h30=>Zq (ixR Z Z h30 tu29 z40 Z)<|Zq (ldR Z z83)<|Eb Z (zad 58 z40 (.zr (R:=aZ) (x:=(Vector.replicate 32 0)) zl9)) fun v31=>Es (sto 58 Z Z fH Z z40)<|Zn<|gSR<|Zq (ld 1 Z Z fH ty66 Z)<|Zq (ld 58 Z Z fH z83 Z)<|call [] [] Z Tryz.func85 Z Z (zur _ _) (Y2 Z Z) rN fun r32 n33=>Zm Z<|Zq (ext Z Z)<|Zq (ext Z Z)<|Za Z<|Zb Z<|z0v<|gSR<|Zm Z<|Zq (zex Z)<|Zj Z (fun h34=>?_) (fun h34=>?_)
      ·refine gSR<|Zb Z<|z0o<|z0q<|z44<|z0q<|z6t<|z4g<|z44<|z0q<|z6t<|z4g<|zb3 [] [] Z (eE Z<|eN) (rN)
      ·refine Zt<|z20<|Zm Z<|Zm Z<|Zm Z<|Zm Z<|z0m fun x35 h36=>Zq (ixO 45 Z Z Z (zq0 h36) Tryz.underlying173 ti86)<|Zq (ldF 45 Z Z h36 ty86 Z)<|Zm Z<|Ef Z (lit (R:=z0k) ([s19.2.2.2]:List Int) 59 (pP Z Z<|pN) Z tu86 ti3 Z Z) fun v37=>z0m fun x38 h39=>lApF (base:=100000) (lits:=[(1,some (v1,.box 66 [.rd z11 a0])),(44,some (v14,.list z0k 3 s19.1)),(55,some ((n20 0),.list z0k 3 s19.2.2.1)),(57,some (v24,.box 43 [.rd z05 x22])),(58,some (v31,.box 45 [.rd aZ x29])),(59,some (v37,.list z0k 3 [s19.2.2.2]))]) 45 [1,44,55,57,58,59] (by repeat (first | refine z7k.cons Z ?_ | exact z7k.tail)) Z Z Z h36 Z Z Z Z (.own 59 Z) h39 Z (fun _ h=>by cases h; rfl) (fun _ h=>by cases h; rfl) Z Z tu86 ti3 Z Z Z Tryz.underlying173 ti86 ty86 (Zi Z<|Zi Z<|Zi Z<|Zi Z<|Zi Z<|Zi Z<|rN) Z fun v40=>z1g<|z3f<|z0z<|z20<|Zq (I.add Z Z)<|Zm Z<|z1g<|z1q (fun aa ww h=>⟨nvlF [] (updF (fun j=>n27 (j+0)) (r32.1:Int).toNat v40),h.subF (by repeat (first | refine z7k.cons Z ?_ | exact z7k.tail)) [1,44,45,55,57] (Zs Z Z Z Z<|Zs Z Z Z Z<|Zs Z Z Z Z<|sN) (Zi Z<|Zi Z<|Zi Z<|Zi Z<|Zi Z<|rN) rfl⟩)
     ·refine z21<|z15<|z17<|z5k (fun aa ww h=>⟨nvlF [] (fun j=>n27 (j+0)),h.subF (by repeat (first | refine z7k.cons Z ?_ | exact z7k.tail)) [1,44,45,55,57] (Zs Z Z Z Z<|Zs Z Z Z Z<|sS Z<|sN) (Zi Z<|Zi Z<|Zi Z<|Zi Z<|Zi Z<|rN) rfl⟩)
    ·refine gEx fun n41=>gSR<|Zm Z<|Zm Z<|Zq (faB 57 Z Z Tryz.underlying43 Z (by exact za8))<|Zq (ld 57 Z Z (fP (z16 _)) zeh Z)<|Zq (z2v Z .rd Z tu29)<|z0m fun x42 h43=>Zq (ixO 44 Z Z Z h43 tu86 ti3)<|Es (sto 44 Z Z (Foc.el h43) Z ti3)<|Zn<|gSR<|Zm Z<|Zm Z<|z0m fun x44 h45=>Zq (ixO 44 Z Z Z h45 tu86 ti3)<|Zq (ld 44 Z Z (Foc.el h45) ty3 Z)<|Zq (I.eql Z Z)<|Zj Z (fun h46=>?_) (fun h46=>?_)
     ·refine z20<|Zm Z<|Zm Z<|Ef Z (lit (R:=z0k) ([s19.2.2.2]:List Int) 60 (pP Z Z<|pN) Z tu86 ti3 Z Z) fun v47=>z0m fun x48 h49=>Ef Z (apn 55 Z Z Z (.own 60 Z) h49 tu86 ti3 Z Z Z) fun v50=>Za Z<|z1g<|z3f<|z0z<|z20<|Zq (I.add Z Z)<|Zm Z<|z1g<|z1q (fun aa ww h=>⟨nvlF [v50] (fun j=>n41 (j+0)),h.subF (by repeat (first | refine z7k.cons Z ?_ | exact z7k.tail)) [1,44,45,55] (Zs Z Z Z Z<|sS Z<|sS Z<|sS Z<|sN) (Zi Z<|Zi Z<|Zi Z<|Zi Z<|rN) rfl⟩)
     ·refine z31<|z3f<|z0z<|z20<|Zq (I.add Z Z)<|Zm Z<|z1g<|z1q (fun aa ww h=>⟨nvlF [(n20 0)] (fun j=>n41 (j+0)),h.subF (by repeat (first | refine z7k.cons Z ?_ | exact z7k.tail)) [1,44,45,55] (Zs Z Z Z Z<|sS Z<|sS Z<|sS Z<|sN) (Zi Z<|Zi Z<|Zi Z<|Zi Z<|rN) rfl⟩)
   ·refine z21<|z15<|z17<|z5k (fun aa ww h=>⟨nvlF [(n20 0)] (fun j=>n20 (j+1)),h.subF (by repeat (first | refine z7k.cons Z ?_ | exact z7k.tail)) [1,44,45,55] (Zs Z Z Z Z<|sN) (Zi Z<|Zi Z<|Zi Z<|Zi Z<|rN) rfl⟩)
  ·refine gEx fun n51=>gSR<|Zb Z<|z68 (fun (s52:Int) aa ww=>Sta (ctx 133 H [] w) [(1,.val (z0j v1 0)),(13,.rd z0k s52)] [(1,some (v1,.box 66 [.rd z11 a0]))] aa ww) ?_ (fun s52=>?_)
   ·refine z18i (base:=100000) (T:=3) (lits:=[(1,some (v1,.box 66 [.rd z11 a0])),(44,some (v14,.list z0k 3 s18.1)),(50,some ((n51 0),.list z0k 3 s18.2.2))]) (by repeat (first | refine z7k.cons Z ?_ | exact z7k.tail)) 45 Z [1,44,50] (Zi Z<|Zi Z<|Zi Z<|rN) Z Z<|z2a (fun (s53:(List Int) × (List Int) × Int) aa ww=>∃ nv:Nat→Value,Sta (ctx 133 H [] w) [(1,.val (z0j v1 0)),(4,.val v14),(5,.val v17),(6,.val (nv 0)),(13,.rd z0k s53.2.2)] [(1,some (v1,.box 66 [.rd z11 a0])),(44,some (v14,.list z0k 3 s53.1)),(45,some (v17,.list (z04 z0k) 86 s18.2.1)),(50,some ((nv 0),.list z0k 3 s53.2.1))] aa ww) (fun aa ww h=>⟨nvl [(n51 0)],h.sub [1,44,45,50] (Zs Z Z Z Z<|sS Z<|sN) (Zi Z<|Zi Z<|Zi Z<|Zi Z<|rN)⟩) (fun s53=>?_)
    refine gEx fun n54=>z0v<|gSR<|Zm Z<|Zm Z<|Zq (z2v Z (.own 50 Z) Z tu86)<|Zq (I.lss Z Z)<|Zj Z (fun h55=>?_) (fun h55=>?_)
    ·refine Zt<|z68 (fun (s56:(List Int) × (List Int)) aa ww=>∃ nv:Nat→Value,Sta (ctx 133 H [] w) [(1,.val (z0j v1 0)),(4,.val v14),(5,.val v17),(6,.val (nv 0)),(13,.rd z0k s53.2.2)] [(1,some (v1,.box 66 [.rd z11 a0])),(44,some (v14,.list z0k 3 s56.1)),(45,some (v17,.list (z04 z0k) 86 s18.2.1)),(50,some ((nv 0),.list z0k 3 s56.2))] aa ww) ?_ (fun s56=>?_)
     ·refine z5b<|gSR<|Zm Z<|Zm Z<|Zm Z<|z0m fun x57 h58=>Zq (ixO 50 Z Z Z h58 tu86 ti3)<|Zq (ld 50 Z Z (Foc.el h58) ty3 Z)<|z0m fun x59 h60=>Zq (ixO 45 Z Z Z h60 Tryz.underlying173 ti86)<|Zq (ld 45 Z Z (Foc.el h60) ty86 Z)<|Zq (z2v Z .rd Z tu86)<|Zm Z<|Zn<|z2a (fun (s61:(List Int) × (List Int) × Int) aa ww=>∃ nv:Nat→Value,Sta (ctx 133 H [] w) [(1,.val (z0j v1 0)),(4,.val v14),(5,.val v17),(6,.val (nv 0)),(13,.rd z0k s53.2.2),(106,.rd (z04 z0k) x59),(107,.rd z0k (x59.length:Int)),(108,.rd z0k s61.2.2)] [(1,some (v1,.box 66 [.rd z11 a0])),(44,some (v14,.list z0k 3 s61.1)),(45,some (v17,.list (z04 z0k) 86 s18.2.1)),(50,some ((nv 0),.list z0k 3 s61.2.1))] aa ww) (fun aa ww h=>⟨nvl [(n54 0)],h.sub [1,44,45,50] (Zs Z Z Z Z<|Zs Z Z Z Z<|sN) (Zi Z<|Zi Z<|Zi Z<|Zi Z<|rN)⟩) (fun s61=>?_)
      refine gEx fun n62=>gSR<|Zq (I.lss Z Z)<|Zn<|z0v<|gIf Z Z (fun h63=>?_) (fun h63=>?_)
      ·refine Zt<|z0v<|z5b<|gSR<|z0m fun x64 h65=>Zq (ixR Z Z h65 tu86 ti3 Z)<|Zq (ldR Z ty3)<|Zb Z<|gSR<|Zm Z<|Zm Z<|z0m fun x66 h67=>Zq (ixO 44 Z Z Z h67 tu86 ti3)<|Zq (ld 44 Z Z (Foc.el h67) ty3 Z)<|Zq (I.sub Z Z)<|z0m fun x68 h69=>Zq (ixO 44 Z Z Z h69 tu86 ti3)<|Es (sto 44 Z Z (Foc.el h69) Z ti3)<|Zn<|gSR<|Zm Z<|Zm Z<|z0m fun x70 h71=>Zq (ixO 44 Z Z Z h71 tu86 ti3)<|Zq (ld 44 Z Z (Foc.el h71) ty3 Z)<|Zq (I.eql Z Z)<|Zj Z (fun h72=>?_) (fun h72=>?_)
       ·refine z20<|Zm Z<|Zm Z<|Ef Z (lit (R:=z0k) ([x64]:List Int) 61 (pP Z Z<|pN) Z tu86 ti3 Z Z) fun v73=>z0m fun x74 h75=>Ef Z (apn 50 Z Z Z (.own 61 Z) h75 tu86 ti3 Z Z Z) fun v76=>Za Z<|z1g<|z3f<|z0z<|z20<|Zq (I.add Z Z)<|Zm Z<|z1g<|z1q (fun aa ww h=>⟨nvl [v76],h.sub [1,44,45,50] (Zs Z Z Z Z<|Zs Z Z Z Z<|sN) (Zi Z<|Zi Z<|Zi Z<|Zi Z<|rN)⟩)
       ·refine z31<|z3f<|z0z<|z20<|Zq (I.add Z Z)<|Zm Z<|z1g<|z1q (fun aa ww h=>⟨nvl [(n62 0)],h.sub [1,44,45,50] (Zs Z Z Z Z<|Zs Z Z Z Z<|sN) (Zi Z<|Zi Z<|Zi Z<|Zi Z<|rN)⟩)
      ·refine z21<|z15<|z17<|z3f<|z2q (fun aa ww h=>⟨nvl [(n62 0)],h.sub [1,44,45,50] (Zs Z Z Z Z<|sS Z<|sN) (Zi Z<|Zi Z<|Zi Z<|Zi Z<|rN)⟩)
     ·refine gEx fun n77=>z20<|Zm Z<|Zq (I.add Z Z)<|Za Z<|z1o 13 Z fun y78=>z1g<|z1q (fun aa ww h=>⟨nvl [(n77 0)],h.sub [1,44,45,50] (Zs Z Z Z Z<|sS Z<|sN) (Zi Z<|Zi Z<|Zi Z<|Zi Z<|rN)⟩)
    ·refine z21<|z15<|z17<|z2q (fun aa ww h=>h.sub [1] (sS Z<|sS Z<|sN) (y1 Z))
   ·refine z0v<|gSR<|Zm Z<|Zq (faB 1 Z Z Tryz.underlying66 Z (by exact zlm))<|Zq (ld 1 Z Z (fP (z12 _)) zli Z)<|Zq (z2v Z .rd Z tu22)<|Zq (I.lss Z Z)<|Zj Z (fun h79=>?_) (fun h79=>?_)
    ·refine gSR<|Zb Z<|z0o<|z0q<|zb3 [] [] Z (eE Z<|eN) (rN)
    ·refine Zt<|gSR<|Zb Z<|z0o<|zb3 [] [] Z (eE Z<|eN) (rN)
def zd1 (a0:z0f) (s5:Int):Option (Sum (Sum Int Unit) Int) :=
 if decide (s5<(a0.Ops.length:Int)) then
  idx a0.Ops s5 >>= fun x7 =>
  zs2 x7 >>= fun r10 =>
  (if r10.2 != 0 then
   some true
  else
   idx a0.IDs s5 >>= fun x15 =>
   if !decide (r10.1=x15) then
    some true
   else
    zkc x7 >>= fun r18 =>
    some (r18 != 0)) >>= fun s13 =>
  if s13 then
   some (.inl (.inl 8))
  else
   some (.inr (w64 (s5+1)))
 else
  some (.inl (.inr ()))
def zjs (a0:z0f):Option (Int) :=
 if decide (60<(a0.Ops.length:Int)) then
  some 4
 else
  if (a0.IDs.length:Int) != (a0.Ops.length:Int) then
   some 8
  else
   z5o (iter (zd1 a0) 0) fun s4 =>
   zkd a0 >>= fun r21 =>
   some r21
theorem zsa (a0:z0f):z2b Tryz.prog 70 [.rd z11 a0] [zG1] (zjs a0) (fun r nv=>⟨[.rd z0k r],[(1001,some (.bool true,.glob 1 (z43 64 z0x) zah))]⟩):=by
 refine z2n 50 Tryz.func70 Z Z Z fun H w=>?_;refine gSR<|Eb Z (bx 1 Z) fun v1=>Zb Z<|z0v<|gSR<|Zq (faB 1 Z Z Tryz.underlying66 Z (by exact zlm))<|Zq (ld 1 Z Z (fP (z12 _)) zli Z)<|Zq (z2v Z .rd Z tu22)<|Zq (I.gtr Z Z)<|Zj Z (fun h2=>?_) (fun h2=>?_)
 ·refine gSR<|Zb Z<|z0o<|z0q<|Ze [] [1001] Z
 ·refine Zt<|z0v<|gSR<|Zq (faB 1 Z Z Tryz.underlying66 Z (by exact za8))<|Zq (ld 1 Z Z (fP (z1y _)) zeh Z)<|Zq (z2v Z .rd Z tu29)<|Zq (faB 1 Z Z Tryz.underlying66 Z (by exact zlm))<|Zq (ld 1 Z Z (fP (z12 _)) zli Z)<|Zq (z2v Z .rd Z tu22)<|Zq (I.neq Z Z)<|Zj Z (fun h3=>?_) (fun h3=>?_)
  ·refine gSR<|Zb Z<|z0o<|z0q<|Ze [] [1001] Z
  ·refine Zt<|z7j (fun (s4:Unit) aa ww=>Sta (ctx 50 H [zG1] w) [(1,.val (z0j v1 0))] [(1,some (v1,.box 66 [.rd z11 a0])),zG1] aa ww) ?_ (fun s4=>?_)
   ·refine gSR<|Zq (faB 1 Z Z Tryz.underlying66 Z (by exact zlm))<|Zq (ld 1 Z Z (fP (z12 _)) zli Z)<|Zq (z2v Z .rd Z tu22)<|Zm Z<|Zn<|z2a (fun (s5:Int) aa ww=>Sta (ctx 50 H [zG1] w) [(1,.val (z0j v1 0)),(19,.rd (z04 z05) a0.Ops),(20,.rd z0k (a0.Ops.length:Int)),(21,.rd z0k s5)] [(1,some (v1,.box 66 [.rd z11 a0])),zG1] aa ww) (fun aa ww h=>Zu h [1,1001]) (fun s5=>?_);refine gSR<|Zq (I.lss Z Z)<|Zn<|z0v<|gIf Z Z (fun h6=>?_) (fun h6=>?_)
    ·refine Zt<|z0v<|z5b<|gSR<|Zm Z<|z0m fun x7 h8=>Zq (ixR Z Z h8 tu22 z6w Z)<|Zq (ldR Z z8y)<|Eb Z (zad 1100 z6w (ZrE.rd (R:=z0x) (x:=0) (Zr.num Z) (ZrE.nilS (ZrE.rd (R:=z1p) (x:=0) (Zr.num Z) (ZrE.rd (R:=z07) (x:=(⟨0,[],(⟨0,0,0,[]⟩:z01)⟩:z0a)) zja (ZrE.rd (R:=z09) (x:=(⟨0,0⟩:z0b)) zln ZrE.nil Z) Z) Z)) Z)) fun v9=>Za Z<|ztm aZ [.rd z0x 0,.rd (z04 aZ) [],.rd z1p 0,.rd z07 (⟨0,[],(⟨0,0,0,[]⟩:z01)⟩:z0a),.rd z09 (⟨0,0⟩:z0b)] 1100 [.rd z0x 0] [.rd z1p 0,.rd z07 (⟨0,[],(⟨0,0,0,[]⟩:z01)⟩:z0a),.rd z09 (⟨0,0⟩:z0b)] Z Z Z<|zmr (R:=z05) (⟨0,[],0,(⟨0,[],(⟨0,0,0,[]⟩:z01)⟩:z0a),(⟨0,0⟩:z0b)⟩:z03) 1100 Z (Sp.via (Sp.prod (Sp.prod (Sp.prod (Sp.prod (Sp.prod Sp.unit))))))<|Es (sto 1100 Z Z fH Z z6w)<|Zn<|gSR<|Zq (ld 1100 Z Z fH z8y Z)<|Zc [1001] [] Tryz.func65 Z (zqf _) fun r10 n11=>Zm Z<|Zq (ext Z Z)<|Zq (ext Z Z)<|Eb Z (zad 1101 z40 (.zr (R:=aZ) (x:=(Vector.replicate 32 0)) zl9)) fun v12=>Es (sto 1101 Z Z fH Z z40)<|Zb Z<|z68 (fun (s13:Bool) aa ww=>Sta (ctx 50 H [zG1] w) [(1,.val (z0j v1 0)),(19,.rd (z04 z05) a0.Ops),(20,.rd z0k (a0.Ops.length:Int)),(21,.rd z0k s5),(46,.rd z0l s13)] [(1,some (v1,.box 66 [.rd z11 a0])),zG1] aa ww) ?_ (fun s13=>?_)
     ·refine z8g [1001] mixed Z Z<|hTk 0 Z Z (mv Z)<|hTk 1 Z Z (I.neq Z Z)<|hTk 2 Z Z (mv Z)<|hIf 33 Z Z (fun h14=>?_) (fun h14=>?_)
      ·refine hKn 32 Z Z h14<|hSk 3 Z Z<|hSk 4 Z Z<|hSk 5 Z Z<|hSk 6 Z Z<|hSk 7 Z Z<|hSk 8 Z Z<|hSk 9 Z Z<|hTk 10 Z Z (pkT Z Z)<|hTk 11 Z Z (mv Z)<|hSk 12 Z Z<|hSk 13 Z Z<|hSk 14 Z Z<|hTk 15 Z Z (pkT Z Z)<|z4t (by kernel_rfl)<|z2q (fun aa ww h=>Zu h [1,1001])
      ·refine hKn 32 Z Z h14<|Zg 3 Z Z (ld 1101 Z Z fH z83 Z)<|Zg 4 Z Z (faB 1 Z Z Tryz.underlying66 Z (by exact za8))<|Zg 5 Z Z (ld 1 Z Z (fP (z1y _)) zeh Z)<|Zg 6 Z Z (mv Z)<|z3s fun x15 h16=>Zg 7 Z Z (ixR Z Z h16 tu29 z40 Z)<|Zg 8 Z Z (ldR Z z83)<|Zg 9 Z Z (neA Z Z eq45 Z Z gq45)<|hTk 10 Z Z (pkF Z Z)<|hTk 11 Z Z (mv Z)<|hIf 42 Z Z (fun h17=>?_) (fun h17=>?_)
       ·refine hKn 40 Z Z h17<|hKn 41 Z Z h17<|hSk 12 Z Z<|hSk 13 Z Z<|hSk 14 Z Z<|hTk 15 Z Z (pkT Z Z)<|z4t (by kernel_rfl)<|z2q (fun aa ww h=>Zu h [1,1001])
       ·refine hKn 40 Z Z h17<|hKn 41 Z Z h17<|Zg 12 Z Z (ld 1100 Z Z fH z8y Z)<|z54 13 [1001] [] Z (by kernel_rfl) Z Zx Z Tryz.func74 Z Z (zry _) (Y1 Z) (y1 Z) Z (fun _ _=>z3g) fun r18 n19=>Zg 14 Z Z (I.neq Z Z)<|hTk 15 Z Z (pkF Z Z)<|z4t (by kernel_rfl)<|z2q (fun aa ww h=>Zu h [1,1001])
     ·refine gIf Z Z (fun h20=>?_) (fun h20=>?_)
      ·refine gSR<|Zb Z<|z0o<|z44<|z0q<|z6t<|z4g<|Ze [] [1001] Z
      ·refine z31<|z3f<|z0z<|z20<|Zq (I.add Z Z)<|Zm Z<|z1g<|z1q (fun aa ww h=>Zu h [1,1001])
    ·refine z21<|z15<|z17<|z5k (fun aa ww h=>Zu h [1,1001])
   ·refine gSR<|Zq (ld 1 Z Z fH ty66 Z)<|Zc [] [] Tryz.func76 Z (zs7 _) fun r21 n22=>Zb Z<|z0o<|Ze [] [1001] Z
def z3v (a0:List V3) (a1:V3) (s3:Int):Option (Sum (Sum Int Unit) Int) :=
 if decide (s3<(a0.length:Int)) then
  idx a0 s3 >>= fun x5 =>
  if decide (x5=a1) then
   some (.inl (.inl s3))
  else
   some (.inr (w64 (s3+1)))
 else
  some (.inl (.inr ()))
def z3u (a0:List V3) (a1:V3):Option (Int) :=
 z5o (iter (z3v a0 a1) 0) fun s2 =>
 some (-1)
theorem z8h (a0:List V3) (a1:V3):z2b Tryz.prog 17 [.rd (z04 aZ) a0,.rd aZ a1] [] (z3u a0 a1) (fun r nv=>⟨[.rd z0k r],[]⟩):=by
 refine z2n 19 Tryz.func17 Z Z Z fun H w=>?_;refine gSR<|Eb Z (bx 1 Z) fun v1=>Zb Z<|z7j (fun (s2:Unit) aa ww=>Sta (ctx 19 H [] w) [] [] aa ww) ?_ (fun s2=>?_)
 ·refine gSR<|Zb Z<|z2a (fun (s3:Int) aa ww=>Sta (ctx 19 H [] w) [(0,.rd (z04 aZ) a0),(3,.val (z0j v1 0)),(5,.rd z0k s3)] [(1,some (v1,.box 45 [.rd aZ a1]))] aa ww) (fun aa ww h=>Zu h [1]) (fun s3=>?_);refine z0v<|gSR<|Zm Z<|Zm Z<|Zq (z2v Z .rd Z tu29)<|Zq (I.lss Z Z)<|Zj Z (fun h4=>?_) (fun h4=>?_)
  ·refine Zt<|z0v<|z5b<|z0v<|zi5 mixed (by kernel_rfl)<|Rq Z (mv Z)<|Rq Z (mv Z)<|z80 fun x5 h6=>Rq Z (ixR Z Z h6 tu29 z40 Z)<|Rq Z (ldR Z z83)<|Rq Z (ld 1 Z Z fH z83 Z)<|Rq Z (eqA Z Z eq45 Z Z gq45)<|ztj<|z0z<|gIf Z Z (fun h7=>?_) (fun h7=>?_)
   ·refine gSR<|Zm Z<|Zb Z<|z0o<|z44<|z0q<|z6t<|z4g<|Ze [] [] Z
   ·refine z31<|z3f<|z0z<|z20<|Zm Z<|Zq (I.add Z Z)<|Za Z<|z1g<|z1q (fun aa ww h=>Zu h [1])
  ·refine z21<|z15<|z17<|z5k (fun aa ww h=>Zu h [])
 ·refine gSR<|Zb Z<|z0o<|Ze [] [] Z
def z7v (a0:List V3) (a1:List V3) (s2:Int):Option (Sum (Sum Bool Unit) Int) :=
 if decide (s2<(a1.length:Int)) then
  idx a1 s2 >>= fun x4 =>
  z3u a0 x4 >>= fun r6 =>
  if decide (r6<0) then
   some (.inl (.inl false))
  else
   some (.inr (w64 (s2+1)))
 else
  some (.inl (.inr ()))
def z47 (a0:List V3) (a1:List V3):Option (Bool) :=
 z5o (iter (z7v a0 a1) 0) fun s1 =>
 some true
theorem zl0 (a0:List V3) (a1:List V3):z2b Tryz.prog 36 [.rd (z04 aZ) a0,.rd (z04 aZ) a1] [] (z47 a0 a1) (fun r nv=>⟨[.rd z0l r],[]⟩):=by
 refine z2n 19 Tryz.func36 Z Z Z fun H w=>?_;refine gSR<|Zb Z<|z7j (fun (s1:Unit) aa ww=>Sta (ctx 19 H [] w) [] [] aa ww) ?_ (fun s1=>?_)
 ·refine gSR<|Zb Z<|z2a (fun (s2:Int) aa ww=>Sta (ctx 19 H [] w) [(0,.rd (z04 aZ) a0),(1,.rd (z04 aZ) a1),(5,.rd z0k s2)] [] aa ww) (fun aa ww h=>Zu h []) (fun s2=>?_);refine z0v<|gSR<|Zm Z<|Zm Z<|Zq (z2v Z .rd Z tu29)<|Zq (I.lss Z Z)<|Zj Z (fun h3=>?_) (fun h3=>?_)
  ·refine Zt<|z0v<|z5b<|gSR<|Zm Z<|Zm Z<|Zm Z<|z0m fun x4 h5=>Zq (ixR Z Z h5 tu29 z40 Z)<|Zq (ldR Z z83)<|Zc [] [] Tryz.func17 Z (z8h _ _) fun r6 n7=>Zq (I.lss Z Z)<|Zj Z (fun h8=>?_) (fun h8=>?_)
   ·refine gSR<|Zb Z<|z0o<|z44<|z0q<|z6t<|z4g<|Ze [] [] Z
   ·refine z31<|z3f<|z0z<|z20<|Zm Z<|Zq (I.add Z Z)<|Za Z<|z1g<|z1q (fun aa ww h=>Zu h [])
  ·refine z21<|z15<|z17<|z5k (fun aa ww h=>Zu h [])
 ·refine gSR<|Zb Z<|z0o<|Ze [] [] Z
theorem zj8 (a0:List V3) (q0:Value) (l0:List V3) (a1:V3):z2b Tryz.prog 17 [.vw aZ q0 l0 a0,.rd aZ a1] [(1,some (q0,.list aZ 45 l0))] (z3u a0 a1) (fun r nv=>⟨[.rd z0k r],[(1,some (q0,.list aZ 45 l0))]⟩):=by
 refine z2n 19 Tryz.func17 Z Z Z fun H w=>?_;refine gSR<|Eb Z (bx 2 Z) fun v1=>Zb Z<|z7j (fun (s2:Unit) aa ww=>Sta (ctx 19 H [(1,some (q0,.list aZ 45 l0))] w) [] [(1,some (q0,.list aZ 45 l0))] aa ww) ?_ (fun s2=>?_)
 ·refine gSR<|Zb Z<|z2a (fun (s3:Int) aa ww=>Sta (ctx 19 H [(1,some (q0,.list aZ 45 l0))] w) [(0,.vw aZ q0 l0 a0),(3,.val (z0j v1 0)),(5,.rd z0k s3)] [(1,some (q0,.list aZ 45 l0)),(2,some (v1,.box 45 [.rd aZ a1]))] aa ww) (fun aa ww h=>Zu h [1,2]) (fun s3=>?_);refine z0v<|gSR<|Zm Z<|Zm Z<|Zq (z2v Z (.vw 1 Z) Z tu29)<|Zq (I.lss Z Z)<|Zj Z (fun h4=>?_) (fun h4=>?_)
  ·refine Zt<|z0v<|z5b<|z0v<|zi5 mixed (by kernel_rfl)<|Rq Z (mv Z)<|Rq Z (mv Z)<|z80 fun x5 h6=>Rq Z (ixQ 1 Z Z Z h6 tu29 z40)<|Rq Z (ldQ 1 Z Z z83 Z)<|Rq Z (ld 2 Z Z fH z83 Z)<|Rq Z (eqA Z Z eq45 Z Z gq45)<|ztj<|z0z<|gIf Z Z (fun h7=>?_) (fun h7=>?_)
   ·refine gSR<|Zm Z<|Zb Z<|z0o<|z44<|z0q<|z6t<|z4g<|Ze [] [1] Z
   ·refine z31<|z3f<|z0z<|z20<|Zm Z<|Zq (I.add Z Z)<|Za Z<|z1g<|z1q (fun aa ww h=>Zu h [1,2])
  ·refine z21<|z15<|z17<|z5k (fun aa ww h=>Zu h [1])
 ·refine gSR<|Zb Z<|z0o<|Ze [] [1] Z
theorem zia (a0:List V3) (q0:Value) (l0:List V3) (a1:List V3):z2b Tryz.prog 36 [.vw aZ q0 l0 a0,.rd (z04 aZ) a1] [(1,some (q0,.list aZ 45 l0))] (z47 a0 a1) (fun r nv=>⟨[.rd z0l r],[(1,some (q0,.list aZ 45 l0))]⟩):=by
 refine z2n 19 Tryz.func36 Z Z Z fun H w=>?_;refine gSR<|Zb Z<|z7j (fun (s1:Unit) aa ww=>Sta (ctx 19 H [(1,some (q0,.list aZ 45 l0))] w) [] [(1,some (q0,.list aZ 45 l0))] aa ww) ?_ (fun s1=>?_)
 ·refine gSR<|Zb Z<|z2a (fun (s2:Int) aa ww=>Sta (ctx 19 H [(1,some (q0,.list aZ 45 l0))] w) [(0,.vw aZ q0 l0 a0),(1,.rd (z04 aZ) a1),(5,.rd z0k s2)] [(1,some (q0,.list aZ 45 l0))] aa ww) (fun aa ww h=>Zu h [1]) (fun s2=>?_);refine z0v<|gSR<|Zm Z<|Zm Z<|Zq (z2v Z .rd Z tu29)<|Zq (I.lss Z Z)<|Zj Z (fun h3=>?_) (fun h3=>?_)
  ·refine Zt<|z0v<|z5b<|gSR<|Zm Z<|Zm Z<|Zm Z<|z0m fun x4 h5=>Zq (ixR Z Z h5 tu29 z40 Z)<|Zq (ldR Z z83)<|Zc [1] [(1,1)] Tryz.func17 Z (zj8 _ _ _ _) fun r6 n7=>Zq (I.lss Z Z)<|Zj Z (fun h8=>?_) (fun h8=>?_)
   ·refine gSR<|Zb Z<|z0o<|z44<|z0q<|z6t<|z4g<|Ze [] [1] Z
   ·refine z31<|z3f<|z0z<|z20<|Zm Z<|Zq (I.add Z Z)<|Za Z<|z1g<|z1q (fun aa ww h=>Zu h [1])
  ·refine z21<|z15<|z17<|z5k (fun aa ww h=>Zu h [1])
 ·refine gSR<|Zb Z<|z0o<|Ze [] [1] Z
def z3y (a0:z0f) (s6:(List Int) × (List V3) × (List Bool) × Bool) (s9:Int):Option (Sum (Sum ((List Int)) ((List Int) × (List V3) × (List Bool) × Bool)) Int) :=
 if decide (s9<(a0.Ops.length:Int)) then
  (idx s6.2.2.1 s9 >>= fun x12 =>
  if !x12 then
   idx a0.Ops s9 >>= fun x15 =>
   z47 s6.2.1 x15.Preds >>= fun r17 =>
   some r17
  else
   some false) >>= fun s11 =>
  if s11 then
   app 8 s6.1 [s9] >>= fun x20 =>
   idx a0.IDs s9 >>= fun x22 =>
   app 32 s6.2.1 [x22] >>= fun x24 =>
   idx s6.2.2.1 s9 >>= fun x26 =>
   some (.inl (.inr (x20,x24,s6.2.2.1.set (s9:Int).toNat true,true)))
  else
   some (.inr (w64 (s9+1)))
 else
  some (.inl (.inr (s6.1,s6.2.1,s6.2.2.1,false)))
def z8f (a0:z0f) (s6:(List Int) × (List V3) × (List Bool) × Bool):Option (Sum ((List Int)) ((List Int) × (List V3) × (List Bool) × Bool)) :=
 if s6.2.2.2 then
  iter (z3y a0 s6) 0
 else
  some (.inl s6.1)
def zav (a0:z0f):Option ((List Int)) :=
 mkn 1 false (a0.Ops.length:Int) >>= fun x2 =>
 (iter (z8f a0) ([],[],x2,true)) >>= fun s5 =>
 some s5
set_option maxHeartbeats 4000000 in
theorem zj2 (a0:z0f):z2b Tryz.prog 121 [.rd z11 a0] [] (zav a0) (fun r nv=>⟨[.val (nv 0)],[(100,some (nv 0,.list z0k 3 r))]⟩):=by
 refine z2n 51 Tryz.func121 Z Z Z fun H w=>?_;refine gSR<|Eb Z (bx 1 Z) fun v1=>Zb Z<|gSR<|Zb Z<|gSR<|Zb Z<|gSR<|Zq (faB 1 Z Z Tryz.underlying66 Z (by exact zlm))<|Zq (ld 1 Z Z (fP (z12 _)) zli Z)<|Zq (z2v Z .rd Z tu22)<|z0m fun x2 h3=>Ef Z (mks (R:=z0l) 2 Z Z h3 tu128 ti4 Zr.bool Z) fun v4=>Zb Z<|z68 (fun (s5:(List Int)) aa ww=>∃ nv:Nat→Value,Sta (ctx 51 H [] w) [(3,.val (nv 0))] [(3,some ((nv 0),.list z0k 3 s5))] aa ww) ?_ (fun s5=>?_)
 ·refine gSR<|Zb Z<|zqy z0k 3 6<|zqy aZ 45 7<|z2a (fun (s6:(List Int) × (List V3) × (List Bool) × Bool) aa ww=>∃ nv:Nat→Value,Sta (ctx 51 H [] w) [(1,.val (z0j v1 0)),(3,.val (nv 0)),(4,.val (nv 1)),(5,.val v4),(6,.rd z0l s6.2.2.2)] [(1,some (v1,.box 66 [.rd z11 a0])),(4,some ((nv 0),.list z0k 3 s6.1)),(5,some ((nv 1),.list aZ 45 s6.2.1)),(2,some (v4,.list z0l 4 s6.2.2.1))] aa ww) (fun aa ww h=>⟨nvl [(.slice none 0 0),(.slice none 0 0)],Zu h [1,6,7,2]⟩) (fun s6=>?_)
  refine gEx fun n7=>z0v<|gSR<|Zm Z<|Zj Z (fun h8=>?_) (fun h8=>?_)
  ·refine gKn 6 Z h8<|Zt<|z5b<|gSR<|Zb Z<|gSR<|Zb Z<|z2a (fun (s9:Int) aa ww=>Sta (ctx 51 H [] w) [(1,.val (z0j v1 0)),(3,.val (n7 0)),(4,.val (n7 1)),(5,.val v4),(6,.rd z0l false),(7,.rd z0k s9)] [(1,some (v1,.box 66 [.rd z11 a0])),(4,some ((n7 0),.list z0k 3 s6.1)),(5,some ((n7 1),.list aZ 45 s6.2.1)),(2,some (v4,.list z0l 4 s6.2.2.1))] aa ww) (fun aa ww h=>Zu h [1,4,5,2]) (fun s9=>?_);refine z0v<|gSR<|Zm Z<|Zq (faB 1 Z Z Tryz.underlying66 Z (by exact zlm))<|Zq (ld 1 Z Z (fP (z12 _)) zli Z)<|Zq (z2v Z .rd Z tu22)<|Zq (I.lss Z Z)<|Zj Z (fun h10=>?_) (fun h10=>?_)
   ·refine Zt<|z0v<|z5b<|z68 (fun (s11:Bool) aa ww=>Sta (ctx 51 H [] w) [(1,.val (z0j v1 0)),(3,.val (n7 0)),(4,.val (n7 1)),(5,.val v4),(6,.rd z0l false),(7,.rd z0k s9),(34,.rd z0l s11)] [(1,some (v1,.box 66 [.rd z11 a0])),(4,some ((n7 0),.list z0k 3 s6.1)),(5,some ((n7 1),.list aZ 45 s6.2.1)),(2,some (v4,.list z0l 4 s6.2.2.1))] aa ww) ?_ (fun s11=>?_)
    ·refine z20<|Zm Z<|Zm Z<|z0m fun x12 h13=>Zq (ixO 2 Z Z Z h13 tu128 ti4)<|Zq (ld 2 Z Z (Foc.el h13) ty4 Z)<|Zq (zex Z)<|Zm Z<|z19 25 Z (fun h14=>?_) (fun h14=>?_)
     ·refine lKn 24 Z h14<|z0w Zx Z Z (mv Z)<|z0w Zx Z Z (faB 1 Z Z Tryz.underlying66 Z (by exact zlm))<|z0w Zx Z Z (ld 1 Z Z (fP (z12 _)) zli Z)<|z0w Zx Z Z (mv Z)<|z0m fun x15 h16=>z0w Zx Z Z (ixR Z Z h16 tu22 z6w Z)<|z0w Zx Z Z (faR Z (z16 _) Tryz.underlying43 Z Z (by exact za8))<|z0w Zx Z Z (ldR Z zeh)<|zcs [5] [(1,5)] Zx Z Tryz.func36 Z Z (zia _ _ _ _) (aW Z<|aQ Z<|aN) (y1 Z) fun r17 n18=>Zq (pkT Z Z)<|z1g<|z2q (fun aa ww h=>Zu h [1,4,5,2])
     ·refine lKn 24 Z h14<|Zk Z<|Zk Z<|Zk Z<|Zk Z<|Zk Z<|Zk Z<|Zk Z<|Zk Z<|Zq (pkF Z Z)<|z1g<|z2q (fun aa ww h=>Zu h [1,4,5,2])
    ·refine gIf Z Z (fun h19=>?_) (fun h19=>?_)
     ·refine z0v<|gSub [(3,.val (n7 0)),(4,.val (n7 1)),(1,.val (z0j v1 0)),(5,.val v4),(7,.rd z0k s9)] [(1,some (v1,.box 66 [.rd z11 a0])),(4,some ((n7 0),.list z0k 3 s6.1)),(5,some ((n7 1),.list aZ 45 s6.2.1)),(2,some (v4,.list z0l 4 s6.2.2.1))] [1,4,5,2] (Zs Z Z Z Z<|sS Z<|sN) (Zi Z<|Zi Z<|Zi Z<|Zi Z<|rN)<|zez fun x20 h21=>zez fun x22 h23=>zez fun x24 h25=>zez fun x26 h27=>gOr [(3,.val (n7 0),14),(4,.val (n7 1),15)] [⟨8,none,[(4,some ([1], fun nv=>((nv 1),.list z0k 3 [s9])))]⟩,⟨4,some ([], fun nv=>((n7 0),.list z0k 3 s6.1)),[(5,some ([2], fun nv=>((nv 2),.list z0k 3 x20)))]⟩,⟨1,some ([], fun nv=>(v1,.box 66 [.rd z11 a0])),[]⟩,⟨9,none,[(12,none)]⟩,⟨5,some ([], fun nv=>((n7 1),.list aZ 45 s6.2.1)),[(13,some ([4], fun nv=>((nv 4),.list aZ 45 x24)))]⟩,⟨2,some ([], fun nv=>(v4,.list z0l 4 s6.2.2.1)),[(17,some ([], fun nv=>(v4,.list z0l 4 (s6.2.2.1.set (s9:Int).toNat true))))]⟩] [pd 35 (.val v4),pd 36 (.rd z0k s9),⟨some (37,[], fun nv=>.val (n7 0)),[],[],[0]⟩,pd 38 (.rd z0k s9),⟨some (39,[1], fun nv=>.val (nv 1)),[(0,0,true)],[1],[]⟩,⟨some (40,[2], fun nv=>.val (nv 2)),[(1,0,true),(0,1,false)],[2],[]⟩,⟨some (41,[], fun nv=>.val (n7 1)),[],[],[1]⟩,pk 42 (.val (z0j v1 (0+0))) [(2,0,false)],pk 43 (.rd (z04 aZ) a0.IDs) [(2,0,false)],pd 44 (.rd z0k s9),pd 45 (.rp aZ x22),pd 46 (.rd aZ x22),⟨some (47,[], fun nv=>.rd (z04 aZ) [x22]),[(3,0,true)],[3],[]⟩,⟨some (48,[4], fun nv=>.val (nv 4)),[(4,0,true)],[4],[]⟩,⟨some (3,[2], fun nv=>.val (nv 2)),[],[],[]⟩,⟨some (4,[4], fun nv=>.val (nv 4)),[],[],[]⟩,pk 49 (.val (z0j v4 ((s9:Int).toNat * 1))) [(5,0,false)],⟨none,[(5,0,true)],[],[]⟩,pd 6 (.rd z0l true)] mixed (oC (oRn (fun nv E=>mv Z))<|oC (oRn (fun nv E=>mv Z))<|oC (oRn (fun nv E=>mv Z))<|oC (oRn (fun nv E=>mv Z))<|oC (oEf 8 1 (fun nv E=>lit (R:=z0k) ([s9]:List Int) 8 (pP Z Z<|pN) Z tu86 ti3 Z Z))<|oC (oEf 4 2 (fun nv E=>apn 4 Z Z Z (.own 8 Z) h21 tu86 ti3 Z Z Z))<|oC (oRn (fun nv E=>mv Z))<|oC (oRn (fun nv E=>faB 1 Z Z Tryz.underlying66 Z (by exact za8)))<|oC (oRn (fun nv E=>ld 1 Z Z (fP (z1y _)) zeh Z))<|oC (oRn (fun nv E=>mv Z))<|oC (oRn (fun nv E=>ixR Z Z h23 tu29 z40 Z))<|oC (oRn (fun nv E=>ldR Z z83))<|oC (oFz (A1:=fun nv=>[(9,some ((nv 3),.list aZ 45 [x22]))]) 9 3 (oEf 9 3 (fun nv E=>lit (R:=aZ) ([x22]:List V3) 9 (pP Z Z<|pN) Z tu29 z40 Z Z)))<|oC (oEf 5 4 (fun nv E=>apn 5 Z Z Z .rd h25 tu29 z40 Z Z Z))<|oC (oRn (fun nv E=>asg Z))<|oC (oRn (fun nv E=>asg Z))<|oC (oRn (fun nv E=>ixO 2 Z Z Z h27 tu128 ti4))<|oC (oEs 2 (fun nv E=>sto 2 Z Z (Foc.el h27) Z ti4))<|oC (oRn (fun nv E=>asg Z))<|oN) fun n28=>z0z<|z21<|z16h Z<|z15<|z17<|z3f<|z1q (fun aa ww h=>⟨nvl [(n28 2),(n28 4)],Zu h [1,4,5,2]⟩)
     ·refine z31<|z3f<|z0z<|z20<|Zm Z<|Zq (I.add Z Z)<|Za Z<|z1g<|z1q (fun aa ww h=>Zu h [1,4,5,2])
   ·refine z21<|z15<|z17<|z3f<|z1q (fun aa ww h=>⟨nvl [(n7 0),(n7 1)],Zu h [1,4,5,2]⟩)
  ·refine gKn 6 Z h8<|z21<|z15<|z17<|z2q (fun aa ww h=>⟨nvl [(n7 0)],Zu h [4]⟩)
 ·refine gEx fun n29=>gSR<|Zm Z<|Zb Z<|z0o<|Ze [(n29 0)] [3] Z
def z6h (a0:z0f) (s6:Int):Option (Sum (Sum Int Unit) Int) :=
 if decide (s6<(a0.Ops.length:Int)) then
  idx a0.Ops s6 >>= fun x8 =>
  z47 a0.IDs x8.Preds >>= fun r10 =>
  if !r10 then
   some (.inl (.inl 40))
  else
   some (.inr (w64 (s6+1)))
 else
  some (.inl (.inr ()))
def zau (a0:z0f):Option (Int) :=
 z62 a0.IDs >>= fun r2 =>
 if !r2 then
  some 32
 else
  z5o (iter (z6h a0) 0) fun s5 =>
  zav a0 >>= fun r13 =>
  if decide ((r13.length:Int)<(a0.Ops.length:Int)) then
   some 36
  else
   some 0
theorem zj9 (a0:z0f):z2b Tryz.prog 73 [.rd z11 a0] [] (zau a0) (fun r nv=>⟨[.rd z0k r],[]⟩):=by
 refine z2n 32 Tryz.func73 Z Z Z fun H w=>?_;refine gSR<|Eb Z (bx 1 Z) fun v1=>Zb Z<|z0v<|gSR<|Zq (faB 1 Z Z Tryz.underlying66 Z (by exact za8))<|Zq (ld 1 Z Z (fP (z1y _)) zeh Z)<|Zc [] [] Tryz.func14 Z (zae _) fun r2 n3=>Zq (zex Z)<|Zj Z (fun h4=>?_) (fun h4=>?_)
 ·refine gSR<|Zb Z<|z0o<|z0q<|Ze [] [] Z
 ·refine Zt<|z7j (fun (s5:Unit) aa ww=>Sta (ctx 32 H [] w) [(1,.val (z0j v1 0))] [(1,some (v1,.box 66 [.rd z11 a0]))] aa ww) ?_ (fun s5=>?_)
  ·refine gSR<|Zb Z<|z2a (fun (s6:Int) aa ww=>Sta (ctx 32 H [] w) [(1,.val (z0j v1 0)),(3,.rd z0k s6)] [(1,some (v1,.box 66 [.rd z11 a0]))] aa ww) (fun aa ww h=>Zu h [1]) (fun s6=>?_);refine z0v<|gSR<|Zm Z<|Zq (faB 1 Z Z Tryz.underlying66 Z (by exact zlm))<|Zq (ld 1 Z Z (fP (z12 _)) zli Z)<|Zq (z2v Z .rd Z tu22)<|Zq (I.lss Z Z)<|Zj Z (fun h7=>?_) (fun h7=>?_)
   ·refine Zt<|z0v<|z5b<|z0v<|z8g [] mixed Z Z<|hTk 0 Z Z (faB 1 Z Z Tryz.underlying66 Z (by exact za8))<|hTk 1 Z Z (ld 1 Z Z (fP (z1y _)) zeh Z)<|hTk 2 Z Z (faB 1 Z Z Tryz.underlying66 Z (by exact zlm))<|hTk 3 Z Z (ld 1 Z Z (fP (z12 _)) zli Z)<|hTk 4 Z Z (mv Z)<|z3s fun x8 h9=>hTk 5 Z Z (ixR Z Z h9 tu22 z6w Z)<|hTk 6 Z Z (faR Z (z16 _) Tryz.underlying43 Z Z (by exact za8))<|hTk 7 Z Z (ldR Z zeh)<|z54 8 [] [] Z (by kernel_rfl) Z (gd0 Z) Z Tryz.func36 Z Z (zl0 _ _) (Y2 Z Z) rN Z (fun _ _=>zam) fun r10 n11=>hTk 9 Z Z (zex Z)<|z4t (by kernel_rfl)<|z0z<|gIf Z Z (fun h12=>?_) (fun h12=>?_)
    ·refine gSR<|Zb Z<|z0o<|z44<|z0q<|z6t<|z4g<|Ze [] [] Z
    ·refine z31<|z3f<|z0z<|z20<|Zm Z<|Zq (I.add Z Z)<|Za Z<|z1g<|z1q (fun aa ww h=>Zu h [1])
   ·refine z21<|z15<|z17<|z5k (fun aa ww h=>Zu h [1])
  ·refine z0v<|z0v<|z8g [38] mixed Z Z<|hTk 0 Z Z (ld 1 Z Z fH ty66 Z)<|hTk 3 Z Z (faB 1 Z Z Tryz.underlying66 Z (by exact zlm))<|hTk 4 Z Z (ld 1 Z Z (fP (z12 _)) zli Z)<|hTk 5 Z Z (z2v Z .rd Z tu22)<|z54 1 [] [(100,38)] Z (by kernel_rfl) Z (gd0 Z) Z Tryz.func121 Z Z (zj2 _) (Y1 Z) rN Z (fun _ _=>z36) fun r13 n14=>Zf 2 Z Z z3g (z2v Z (.own 38 Z) Z tu86)<|hTk 6 Z Z (I.lss Z Z)<|z4t (by kernel_rfl)<|z0z<|gIf Z Z (fun h15=>?_) (fun h15=>?_)
   ·refine gSR<|Zb Z<|z0o<|z0q<|Ze [] [] Z
   ·refine Zt<|gSR<|Zb Z<|z0o<|Ze [] [] Z
def z6g (a0:z0f) (s5:Int):Option (Sum (Sum Int Unit) Int) :=
 if decide (s5<(a0.Ops.length:Int)) then
  idx a0.Ops s5 >>= fun x7 =>
  z9t x7 >>= fun r9 =>
  if r9 != 0 then
   some (.inl (.inl 8))
  else
   idx a0.Ops s5 >>= fun x12 =>
   idx a0.IDs s5 >>= fun x14 =>
   za5 x12 >>= fun r16 =>
   if !decide (r16=x14) then
    some (.inl (.inl 8))
   else
    some (.inr (w64 (s5+1)))
 else
  some (.inl (.inr ()))
def zax (a0:z0f):Option (Int) :=
 if decide (60<(a0.Ops.length:Int)) then
  some 4
 else
  if (a0.IDs.length:Int) != (a0.Ops.length:Int) then
   some 8
  else
   z5o (iter (z6g a0) 0) fun s4 =>
   zau a0 >>= fun r19 =>
   some r19
theorem ziz (a0:z0f):z2b Tryz.prog 35 [.rd z11 a0] [] (zax a0) (fun r nv=>⟨[.rd z0k r],[]⟩):=by
 refine z2n 45 Tryz.func35 Z Z Z fun H w=>?_;refine gSR<|Eb Z (bx 1 Z) fun v1=>Zb Z<|z0v<|gSR<|Zq (faB 1 Z Z Tryz.underlying66 Z (by exact zlm))<|Zq (ld 1 Z Z (fP (z12 _)) zli Z)<|Zq (z2v Z .rd Z tu22)<|Zq (I.gtr Z Z)<|Zj Z (fun h2=>?_) (fun h2=>?_)
 ·refine gSR<|Zb Z<|z0o<|z0q<|Ze [] [] Z
 ·refine Zt<|z0v<|gSR<|Zq (faB 1 Z Z Tryz.underlying66 Z (by exact za8))<|Zq (ld 1 Z Z (fP (z1y _)) zeh Z)<|Zq (z2v Z .rd Z tu29)<|Zq (faB 1 Z Z Tryz.underlying66 Z (by exact zlm))<|Zq (ld 1 Z Z (fP (z12 _)) zli Z)<|Zq (z2v Z .rd Z tu22)<|Zq (I.neq Z Z)<|Zj Z (fun h3=>?_) (fun h3=>?_)
  ·refine gSR<|Zb Z<|z0o<|z0q<|Ze [] [] Z
  ·refine Zt<|z7j (fun (s4:Unit) aa ww=>Sta (ctx 45 H [] w) [(1,.val (z0j v1 0))] [(1,some (v1,.box 66 [.rd z11 a0]))] aa ww) ?_ (fun s4=>?_)
   ·refine gSR<|Zb Z<|z2a (fun (s5:Int) aa ww=>Sta (ctx 45 H [] w) [(1,.val (z0j v1 0)),(3,.rd z0k s5)] [(1,some (v1,.box 66 [.rd z11 a0]))] aa ww) (fun aa ww h=>Zu h [1]) (fun s5=>?_);refine z0v<|gSR<|Zm Z<|Zq (faB 1 Z Z Tryz.underlying66 Z (by exact zlm))<|Zq (ld 1 Z Z (fP (z12 _)) zli Z)<|Zq (z2v Z .rd Z tu22)<|Zq (I.lss Z Z)<|Zj Z (fun h6=>?_) (fun h6=>?_)
    ·refine Zt<|z0v<|z5b<|z0v<|z8g [] mixed Z Z<|hTk 0 Z Z (faB 1 Z Z Tryz.underlying66 Z (by exact zlm))<|hTk 1 Z Z (ld 1 Z Z (fP (z12 _)) zli Z)<|hTk 2 Z Z (mv Z)<|z3s fun x7 h8=>hTk 3 Z Z (ixR Z Z h8 tu22 z6w Z)<|hTk 4 Z Z (ldR Z z8y)<|z54 5 [] [] Z (by kernel_rfl) Z (gd0 Z) Z Tryz.func72 Z Z (zi8 _) (Y1 Z) rN Z (fun _ _=>z3g) fun r9 n10=>hTk 6 Z Z (I.neq Z Z)<|hTk 7 Z Z (mv Z)<|hIf 29 Z Z (fun h11=>?_) (fun h11=>?_)
     ·refine hKn 28 Z Z h11<|hSk 8 Z Z<|hSk 9 Z Z<|hSk 10 Z Z<|hSk 11 Z Z<|hSk 12 Z Z<|hSk 13 Z Z<|hSk 14 Z Z<|hSk 15 Z Z<|hSk 16 Z Z<|hSk 17 Z Z<|hSk 18 Z Z<|hSk 19 Z Z<|hTk 20 Z Z (pkT Z Z)<|z4t (by kernel_rfl)<|z0z<|zc7 Z<|gSR<|Zb Z<|z0o<|z44<|z0q<|z6t<|z4g<|Ze [] [] Z
     ·refine hKn 28 Z Z h11<|Zg 8 Z Z (faB 1 Z Z Tryz.underlying66 Z (by exact zlm))<|Zg 9 Z Z (ld 1 Z Z (fP (z12 _)) zli Z)<|Zg 10 Z Z (mv Z)<|z3s fun x12 h13=>Zg 11 Z Z (ixR Z Z h13 tu22 z6w Z)<|Zg 12 Z Z (ldR Z z8y)<|Zg 14 Z Z (faB 1 Z Z Tryz.underlying66 Z (by exact za8))<|Zg 15 Z Z (ld 1 Z Z (fP (z1y _)) zeh Z)<|Zg 16 Z Z (mv Z)<|z3s fun x14 h15=>Zg 17 Z Z (ixR Z Z h15 tu29 z40 Z)<|Zg 18 Z Z (ldR Z z83)<|z105 13 [] [] Z (by kernel_rfl) Z Zx Z Tryz.func16 Z Z (zd6 _) (Y1 Z) rN Z fun r16 n17=>z10m 19 Z (by kernel_rfl) (by kernel_rfl) (by kernel_rfl) Zx Z Z zam (neA Z Z eq45 Z Z gq45)<|hTk 20 Z Z (pkF Z Z)<|z4t (by kernel_rfl)<|z0z<|gIf Z Z (fun h18=>?_) (fun h18=>?_)
      ·refine gKn 41 Z h18<|gSR<|Zb Z<|z0o<|z44<|z0q<|z6t<|z4g<|Ze [] [] Z
      ·refine gKn 41 Z h18<|z31<|z3f<|z0z<|z20<|Zm Z<|Zq (I.add Z Z)<|Za Z<|z1g<|z1q (fun aa ww h=>Zu h [1])
    ·refine z21<|z15<|z17<|z5k (fun aa ww h=>Zu h [1])
   ·refine gSR<|Zq (ld 1 Z Z fH ty66 Z)<|Zc [] [] Tryz.func73 Z (zj9 _) fun r19 n20=>Zb Z<|z0o<|Ze [] [] Z
end
section
open Go Go.Shelf Go.RowKit Go.Lib Go.Sort
def za3 (x:V3):List Value:=x.toList.map fun c=>Value.int .u8 (c.toNat:Int)
theorem zmt (x:V3):(za3 x).length=32:=by simp [za3]
theorem z12d (x y:V3) (b c:Nat) (W:World) (hx:∀ j u,(za3 x)[j]? = some u→W.cell? ⟨b,0+j,none⟩=some u) (hy:∀ j u,(za3 y)[j]? = some u→W.cell? ⟨c,0+j,none⟩=some u) :
  (callFunc 140 #[.slice (some ⟨b,0,none⟩) 32 32,.slice (some ⟨c,0,none⟩) 32 32]).run Tryz.prog W=.ok (.value (.int .i64 (Lib.compareBytes x.toList y.toList))) W:=by
 have lx:x.toList.length=32:=by simp
 have ly:y.toList.length=32:=by simp
 have e:=zle (P:=Tryz.prog) (w:=W) (p:=some ⟨b,0,none⟩) (q:=some ⟨c,0,none⟩) (c:=32) (d:=32) (x:=x.toList) (y:=y.toList) (xs:=za3 x) (ys:=za3 y)
  ⟨by rw [zmt,lx],.inr ⟨b,0,none,32, by rfl, by omega, by decide,.inr rfl,hx⟩⟩ rfl ⟨by rw [zmt,ly],.inr ⟨c,0,none,32, by rfl, by omega, by decide,.inr rfl,hy⟩⟩ rfl
 rw [lx,ly] at e;rw [run_callFunc_extern Tryz.func140 rfl rfl (by kernel_rfl) (by kernel_rfl),e];rfl
set_option maxHeartbeats 1000000 in
set_option maxRecDepth 100000 in
theorem zpx (x y:V3) (b c:Nat) (W:World) (hx:∀ j u,(za3 x)[j]? = some u→W.cell? ⟨b,0+j,none⟩=some u) (hy:∀ j u,(za3 y)[j]? = some u→W.cell? ⟨c,0+j,none⟩=some u) :
  Calls Tryz.prog 95 #[.slice (some ⟨b,0,none⟩) 32 32,.slice (some ⟨c,0,none⟩) 32 32] W fun e w'=>e=.returned (.int .i64 (Lib.compareBytes x.toList y.toList))∧w'=W:=by
 have e:=z12d x y b c W hx hy
 go_enter Tryz.func95,Tryz.ntmps95
 go_wp2
 go_ret
 exact ⟨rfl,rfl⟩
theorem zuf {w:World} {b j:Nat} {c:Array Value} {T:TypeId} {fr:Nat × Nat} {u:Value} (h:w.heap[b]? = some (.cells c T fr)) (hj:c[j]? = some u):w.cell? ⟨b,0+j,none⟩=some u:=by
 unfold World.cell?;rw [h]
 simpa using hj
theorem z16c (W:World) (xs ys:List Value) (n j:Nat) (u:Value) (h:xs[j]? = some u):(((W.alloc (.cells xs.toArray 45)).alloc (.cells ys.toArray 45)).drewN n).cell? ⟨W.heap.size,0+j,none⟩=some u :=
 zuf (c:=xs.toArray) (T:=45) (fr:=(0,0)) (by
  show ((W.heap.push _).push _)[W.heap.size]? = _
  rw [Array.getElem?_push_lt (by simp)]; simp) (by simpa using h)
theorem z15m (W:World) (xs ys:List Value) (n j:Nat) (u:Value) (h:ys[j]? = some u):(((W.alloc (.cells xs.toArray 45)).alloc (.cells ys.toArray 45)).drewN n).cell? ⟨W.heap.size+1,0+j,none⟩=some u :=
 zuf (c:=ys.toArray) (T:=45) (fr:=(0,0)) (by
  show ((W.heap.push _).push _)[W.heap.size+1]? = _
  have:W.heap.size+1=(W.heap.push (Obj.cells xs.toArray 45)).size:=by simp
  rw [this,Array.getElem?_push_size]) (by simpa using h)
set_option maxHeartbeats 1000000 in
set_option maxRecDepth 100000 in
theorem zx1 (x y:V3) (W:World):Calls Tryz.prog 48 #[.agg (za3 x).toArray,.agg (za3 y).toArray] W fun e w'=>e=.returned (.int .i64 (Lib.compareBytes x.toList y.toList))∧∃ q os',w'=grow (W.drewN q) os':=by
 have c0:=z16c W (za3 x) (za3 y);have c1:=z15m W (za3 x) (za3 y)
 go_enter Tryz.func48,Tryz.ntmps48
 go_wp2
 go_quiet (first | (go_at_call 95; refine Calls.quiet_of_same (zpx x y _ _ _ (c0 _) (c1 _))))
 go_wp2
 go_ret
 exact ⟨rfl,nq,#[.cells (za3 x).toArray 45,.cells (za3 y).toArray 45],rfl⟩
end
section
open Go Go.RowKit Go.Sort
theorem z146 {α:Type} [Inhabited α] (enc:α→List Value) (k:Nat) (hk:∀ x,(enc x).length=k):∀ (l:List α) (t:Nat),t<l.length * k→(l.flatMap enc)[t]! = (enc l[t / k]!)[t % k]!
 | [],t,h=>by simp at h
 | x::l,t,h=>by
  have hx:=hk x;have k0:0<k:=by
   rcases Nat.eq_zero_or_pos k with e | e
   ·subst e; simp at h
   ·exact e
  rw [List.flatMap_cons];by_cases ht:t<k
  ·rw [List.getElem!_eq_getElem?_getD,List.getElem?_append_left (by omega),Nat.div_eq_of_lt ht,Nat.mod_eq_of_lt ht]
   simp
  ·have hl:t - k<l.length * k:=by
    simp only [List.length_cons,Nat.add_mul,Nat.one_mul] at h; omega
   have ih:=z146 enc k hk l (t - k) hl;have e1:t / k=(t - k) / k+1:=by
    have h2:=Nat.add_div_right (t - k) k0;rw [Nat.sub_add_cancel (by omega)] at h2; exact h2
   have e2:t % k=(t - k) % k:=by rw [Nat.mod_eq_sub_mod (by omega)]
   rw [List.getElem!_eq_getElem?_getD,List.getElem?_append_right (by omega),hx,e1,e2,← List.getElem!_eq_getElem?_getD,ih]
   simp
theorem ztf {α:Type} (enc:α→List Value) (k:Nat) (hk:∀ x,(enc x).length=k):∀ l:List α,(l.flatMap enc).length=l.length * k
 | []=>by simp
 | x::l=>by rw [List.flatMap_cons,List.length_append,hk,ztf enc k hk l,List.length_cons,Nat.add_mul,Nat.one_mul,Nat.add_comm]
theorem z11d {α:Type} [Inhabited α] (enc:α→List Value) (k:Nat) (hk:∀ x,(enc x).length=k) (l:List α):flatK enc k l.toArray=(l.flatMap enc).toArray:=by
 refine ext_get! (by rw [size_flatK]; simp only [List.size_toArray,ztf enc k hk]) fun t ht=>?_;rw [size_flatK,List.size_toArray] at ht;rw [get_flatK _ _ _ _ (by simpa using ht)]
 have:=z146 enc k hk l t ht
 simp at this ⊢;rw [this]
theorem zrw {α:Type} [Inhabited α] (enc:α→List Value) (k:Nat) (hk:∀ x,(enc x).length=k) {w:World} {b:Nat} {C:Array Value} {T:TypeId} (l:List α) (hb:w.heap[b]? = some (.cells C T (0,0))) (hc:C.toList.take (l.length * k)=l.flatMap enc):HoldsK enc k w b 0 l.toArray:=by
 intro j hj;rw [z11d enc k hk] at hj ⊢;have hj':j<(l.flatMap enc).length:=by simpa using hj
 constructor
 ·refine zuf hb ?_;have e:(C.toList.take (l.length * k))[j]? = (l.flatMap enc)[j]? := by rw [hc]
  rw [List.getElem?_take_of_lt (by rw [ztf enc k hk] at hj'; exact hj'),List.getElem?_eq_getElem hj'] at e;rw [← Array.getElem?_toList,e]
  have:((l.flatMap enc).toArray)[j]! = (l.flatMap enc)[j]:=by rw [getElem!_pos _ j (by simpa using hj')]; simp
  rw [this]; rfl
 ·simp [World.frozen?,hb]
theorem zou {α:Type} [Inhabited α] (enc:α→List Value) (k:Nat) (w:World) (b n:Nat) (d:Array α) (os:Array Obj) {i:Nat} (hi:i<w.heap.size) (hne:i≠b):(sortWorldK enc k w b 0 n d os).heap[i]? = w.heap[i]? := by
 show (w.heap.modify b _++os)[i]? = _;rw [Array.getElem?_append_left (by simpa using hi),Array.getElem?_modify,if_neg (fun e=>hne e.symm)]
theorem z16k {α:Type} [Inhabited α] (enc:α→List Value) (k:Nat) (w:World) {b:Nat} (n:Nat) (d:Array α) (os:Array Obj) {C:Array Value} {T:TypeId} {fr:Nat × Nat} (hb:w.heap[b]? = some (.cells C T fr)):(sortWorldK enc k w b 0 n d os).heap[b]? = some (.cells (putCells id 0 (flatK enc k d) C) T fr):=by
 have hlt:b<w.heap.size:=(Array.getElem?_eq_some_iff.1 hb).1;show (w.heap.modify b _++os)[b]? = _;rw [Array.getElem?_append_left (by simpa using hlt),Array.getElem?_modify,if_pos rfl,hb];rfl
theorem z124 {α:Type} [Inhabited α] (enc:α→List Value) (k:Nat) (hk:∀ x,(enc x).length=k) (l:List α) (C:Array Value) (hC:l.length * k≤C.size):(putCells id 0 (flatK enc k l.toArray) C).toList.take (l.length * k)=l.flatMap enc:=by
 rw [z11d enc k hk]
 apply List.ext_getElem?
 intro t;by_cases ht:t<l.length * k
 ·rw [List.getElem?_take_of_lt ht,Array.getElem?_toList];have hl:t<(l.flatMap enc).length:=by rw [ztf enc k hk]; exact ht
  simp only [putCells,Array.getElem?_mapIdx,Nat.sub_zero,Nat.zero_add,List.size_toArray,Nat.zero_le,true_and];rw [Array.getElem?_eq_getElem (by omega),Option.map_some,if_pos hl,List.getElem?_eq_getElem hl]
  have:((l.flatMap enc).toArray)[t]! = (l.flatMap enc)[t]:=by rw [getElem!_pos _ t (by simpa using hl)]; simp
  rw [this]; rfl
 ·rw [List.getElem?_eq_none (by simp; omega),List.getElem?_eq_none (by rw [ztf enc k hk]; omega)]
end
section
open Go
section
variable {σ β α ρ τ:Type}
theorem bs (x:α) (f:α→Option β):(some x >>= f)=f x:=rfl
theorem bS (x:α) (f:α→Option β):(some x >>= f)=f x:=Eq.trans (rfl:(some x >>= f)=f x) rfl
theorem or_l (r:ρ) (k:τ→Option ρ):z5o (some (.inl r)) k=some r:=rfl
theorem zpn (t:τ) (k:τ→Option ρ):z5o (some (.inr t)) k=k t:=rfl
theorem z1l {F:σ→Option (Sum β σ)} {s:σ} {b:β} (h:F s=some (.inl b)):iter F s=some b:=by rw [iter,h]; rfl
theorem z29 {F:σ→Option (Sum β σ)} {s s':σ} (h:F s=some (.inr s')):iter F s=iter F s':=by rw [iter,h]; rfl
theorem zmg {F:σ→Option (Sum β σ)} (I:σ→Prop) (μ:σ→Nat) (Q:β→Prop) (h:∀ s,I s→(∃ b,F s=some (.inl b)∧Q b)∨∃ s',F s=some (.inr s')∧I s'∧μ s'<μ s) (s:σ) (hs:I s):∃ b,iter F s=some b∧Q b:=by
 have key:∀ n s,μ s=n→I s→∃ b,iter F s=some b∧Q b:=by
  intro n
  induction n using Nat.strongRecOn with
  | _ n ih =>
   intro s hn hs;rcases h s hs with ⟨b,h1,h2⟩ | ⟨s',h1,h2,h3⟩
   ·exact ⟨b,z1l h1,h2⟩
   ·rw [z29 h1]; exact ih (μ s') (hn ▸ h3) s' rfl h2
 exact key _ s rfl hs
theorem z9o {F:σ→Option (Sum β σ)} (n:Nat) (I:Nat→σ→Prop) (Q:β→Prop) (h1:∀ i s,i<n→I i s→∃ s',F s=some (.inr s')∧I (i+1) s') (h2:∀ s,I n s→∃ b,F s=some (.inl b)∧Q b) (s:σ) (i:Nat) (hi:i≤n) (hs:I i s):∃ b,iter F s=some b∧Q b:=by
 have key:∀ k i s,n - i=k→i≤n→I i s→∃ b,iter F s=some b∧Q b:=by
  intro k
  induction k with
  | zero =>
   intro i s hk hi hs
   have:i=n:=by omega
   subst this;obtain ⟨b,h3,h4⟩:=h2 s hs;exact ⟨b,z1l h3,h4⟩
  | succ k ih =>
   intro i s hk hi hs;obtain ⟨s',h3,h4⟩:=h1 i s (by omega) hs;rw [z29 h3]; exact ih (i+1) s' (by omega) (by omega) h4
 exact key _ i s rfl hi hs
theorem z3m {F:σ→Option (Sum β σ)} (n:Nat) (g:Nat→σ) {b:β} (h1:∀ i,i<n→F (g i)=some (.inr (g (i+1)))) (h2:F (g n)=some (.inl b)):iter F (g 0)=some b:=by
 obtain ⟨b',h3,rfl⟩:=z9o n (fun i s=>s=g i) (fun x=>x=b) (fun i s hi hs=>⟨_, by rw [hs]; exact h1 i hi,rfl⟩) (fun s hs=>⟨_, by rw [hs]; exact h2,rfl⟩) (g 0) 0 (Nat.zero_le _) rfl;exact h3
theorem z0p {l:List α} {i:Nat} (h:i<l.length):idx l (i:Int)=some l[i]:=by simp [idx,h]
theorem z15j {l:List α} {i:Int} (h0:0≤i) (h:i.toNat<l.length):idx l i=some l[i.toNat]:=by simp [idx,h0,h]
theorem za1 {n:Nat} {v:Vector α n} {i:Nat} (h:i<n):z7z v (i:Int)=some v[i]:=by unfold z7z; rw [z0p (by simpa using h)]; simp
theorem zhv {n:Nat} {v:Vector α n} {i:Int} {x:α} {j:Nat} (hj:j<n):(zi0 v i x)[j]=if i.toNat=j then x else v[j]:=by
 unfold zi0; rw [Vector.getElem_setIfInBounds hj]
theorem z4f {p:Prop} [Decidable p] (h:p):chk p=some ():=by simp [chk,h]
theorem z1m {by_:Nat} {b c:List α} (h:(b.length+c.length) * by_≤140737488355328):app by_ b c=some (b++c):=by simp [app,h]
theorem zlp {by_:Nat} {x:α} {n:Nat} (h:by_ * n≤281474976710656) (h2:n≤9223372036854775807):mkn by_ x (n:Int)=some (List.replicate n x):=by
 unfold mkn; rw [if_pos ⟨by omega, by simpa using h, by omega⟩]; simp
theorem z5i {b:List α} {i j:Nat} (h:i≤j) (hj:j≤b.length):cut b (i:Int) (j:Int)=some ((b.drop i).take (j - i)):=by
 unfold cut; rw [if_pos ⟨by omega, by omega, by omega⟩]; simp
end
theorem z13 {x:Int} (h1:-9223372036854775808≤x) (h2:x≤9223372036854775807):w64 x=x:=zh0 h1 h2
theorem z0u {n:Nat} (h:n<9223372036854775807):w64 ((n:Int)+1)=((n+1:Nat):Int):=by rw [z13 (by omega) (by omega)]; omega
theorem zb1 (a:UInt64) (n:Nat):(z6r a n).toNat=a.toNat / 2 ^ (min n 64):=by
 unfold z6r;have h1:=UInt64.toNat_lt a;have h2:a.toNat / 2 ^ (min n 64)≤a.toNat:=Nat.div_le_self _ _
 simp; omega
theorem zix (a:UInt64) (n:Nat):(zjc a n).toNat=a.toNat * 2 ^ (min n 64) % 18446744073709551616:=by
 unfold zjc; simp
theorem z18q (a:UInt64) (k:Nat) (hk:k<64):((z6r a k &&& 1)==1)=a.toNat.testBit k:=by
 rw [Bool.eq_iff_iff,beq_iff_eq,← UInt64.toNat_inj,UInt64.toNat_and,zb1,Nat.min_eq_left (by omega)]
 have:(1:UInt64).toNat=1:=rfl
 rw [this,Nat.and_one_is_mod,Nat.testBit_eq_decide_div_mod_eq]
 simp
end
section
open Go
def bitLen (n:Nat):Nat:=if n=0 then 0 else n.log2+1
theorem zei (n k:Nat) (h:2 ^ k≤n):bitLen n=k+bitLen (n / 2 ^ k):=by
 have hp:0<2 ^ k:=Nat.pow_pos (by decide);have h1:n / 2 ^ k≠0:=by
  have:1≤n / 2 ^ k:=(Nat.le_div_iff_mul_le hp).2 (by rw [Nat.one_mul]; exact h);omega
 have h2:n≠0:=by omega
 unfold bitLen;rw [if_neg h1,if_neg h2];have h3:n.log2=k+(n / 2 ^ k).log2:=by
  rw [Nat.log2_eq_iff h2];have h4:=(Nat.log2_eq_iff h1).1 rfl;refine ⟨?_,?_⟩
  ·rw [Nat.pow_add,Nat.mul_comm]; exact (Nat.le_div_iff_mul_le hp).1 h4.1
  ·rw [Nat.add_assoc,Nat.pow_add,Nat.mul_comm]; exact (Nat.div_lt_iff_lt_mul hp).1 h4.2
 omega
theorem zh3 (n k:Nat) (h:n<2 ^ k):bitLen n≤k:=by
 unfold bitLen; split
 ·omega
 ·rename_i h0; have:=(Nat.log2_lt h0).2 h; omega
def z10j:ByteArray:=⟨#[0,1,2,2,3,3,3,3,4,4,4,4,4,4,4,4,5,5,5,5,5,5,5,5,5,5,5,5,5,5,5,5,6,6,6,6,6,6,6,6,6,6,6,6,6,6,6,6,6,6,6,6,6,6,6,6,6,6,6,6,6,6,6,6,7,7,7,7,7,7,7,7,7,7,7,7,7,7,7,7,7,7,7,7,7,7,7,7,7,7,7,7,7,7,7,7,7,7,7,7,7,7,7,7,7,7,7,7,7,7,7,7,7,7,7,7,7,7,7,7,7,7,7,7,7,7,7,7,8,8,8,8,8,8,8,8,8,8,8,8,8,8,8,8,8,8,8,8,8,8,8,8,8,8,8,8,8,8,8,8,8,8,8,8,8,8,8,8,8,8,8,8,8,8,8,8,8,8,8,8,8,8,8,8,8,8,8,8,8,8,8,8,8,8,8,8,8,8,8,8,8,8,8,8,8,8,8,8,8,8,8,8,8,8,8,8,8,8,8,8,8,8,8,8,8,8,8,8,8,8,8,8,8,8,8,8,8,8,8,8,8,8,8,8,8,8,8,8,8,8,8,8,8,8,8,8]⟩
set_option maxRecDepth 100000 in
theorem z13m:∀ x:Fin 256,z10j.data[x.val]? = some (UInt8.ofNat (bitLen x.val)):=by decide +kernel
def z2e (n:Nat):List UInt8:=if h:n=0 then [] else UInt8.ofNat n::z2e (n / 256)
termination_by n
theorem z98:z2e 0=[]:=by rw [z2e]; simp
theorem z74 (n:Nat) (h:n≠0):z2e n=UInt8.ofNat n::z2e (n / 256):=by rw [z2e]; simp [h]
def z0g (n:Nat):List UInt8:=if n≤247 then [UInt8.ofNat n] else UInt8.ofNat (247+(z2e n).length)::(z2e n).reverse
theorem zkp (n:Nat):(z2e n).length=(bitLen n+7) / 8:=by
 induction n using Nat.strongRecOn with
 | _ n ih =>
  by_cases h:n=0
  ·subst h; rw [z98]; simp [bitLen]
  ·rw [z74 n h,List.length_cons,ih (n / 256) (by omega)];by_cases h2:n<256
   ·have:n / 256=0:=by omega
    rw [this];have h3:bitLen n≤8:=zh3 n 8 h2;have h4:1≤bitLen n:=by unfold bitLen; rw [if_neg h]; omega
    simp [bitLen] at h3 h4 ⊢;rw [if_neg h] at h3 h4 ⊢; omega
   ·have:=zei n 8 (by omega)
    rw [show (2:Nat) ^ 8=256 from rfl] at this;omega
theorem zxc (n:Nat):∀ (i:Nat),i<(z2e n).length→(z2e n)[i]? = some (UInt8.ofNat (n / 256 ^ i)):=by
 induction n using Nat.strongRecOn with
 | _ n ih =>
  intro i hi;by_cases h:n=0
  ·subst h; rw [z98] at hi; simp at hi
  ·rw [z74 n h] at hi ⊢
   cases i with
   | zero=>simp
   | succ i =>
    simp only [List.length_cons] at hi;rw [List.getElem?_cons_succ,ih (n / 256) (by omega) i (by omega),Nat.div_div_eq_div_mul]
    congr 3
    rw [Nat.pow_succ,Nat.mul_comm]
theorem zk9 (n:Nat) (h:n<18446744073709551616):(z2e n).length≤8:=by
 rw [zkp]; have:=zh3 n 64 (by simpa using h); omega
theorem z0n (n:Nat) (h:n<18446744073709551616):1≤(z0g n).length∧(z0g n).length≤9:=by
 unfold z0g; have:=zk9 n h; split <;> simp <;> omega
def zd5 (n i:Nat):List UInt8:=UInt8.ofNat (247+(z2e n).length)::(List.replicate ((z2e n).length - i) 0++((z2e n).take i).reverse)
theorem zub (n i:Nat) (h:i≤(z2e n).length):(zd5 n i).length=(z2e n).length+1:=by simp [zd5]; omega
theorem zs4 (n:Nat):(List.replicate ((z2e n).length+1) (0:UInt8)).set 0 (UInt8.ofNat (247+(z2e n).length))=zd5 n 0:=by
 simp [zd5,List.replicate_succ]
theorem zsw (n i:Nat) (h:i<(z2e n).length):(zd5 n i).set ((z2e n).length - i) (UInt8.ofNat (n / 2 ^ (8 * i)))=zd5 n (i+1):=by
 have hg:=zxc n i h;have he:n / 2 ^ (8 * i)=n / 256 ^ i:=by rw [Nat.pow_mul]
 rw [he];unfold zd5;obtain ⟨m,hm⟩:∃ m,(z2e n).length - i=m+1:=⟨(z2e n).length - i - 1, by omega⟩
 have hm2:(z2e n).length - (i+1)=m:=by omega
 rw [hm,hm2,List.set_cons_succ,List.take_succ_eq_append_getElem h,List.reverse_append,List.reverse_singleton,List.replicate_succ'];rw [List.getElem?_eq_getElem h,Option.some.injEq] at hg;rw [hg,List.append_assoc,List.set_append_right _ _ (by simp)]
 simp
theorem zs1 (n:Nat) (h:247<n):zd5 n (z2e n).length=z0g n:=by
 unfold zd5 z0g; rw [if_neg (by omega)]; simp
theorem zse (n m:Nat) (ds:List UInt8) (hm:m≠0) (h:z2e n=ds++z2e m):z2e n=(ds++[UInt8.ofNat (m % 256)])++z2e (m / 256):=by
 rw [h,z74 m hm,List.append_assoc]
 have:UInt8.ofNat (m % 256)=UInt8.ofNat m:=by
  apply UInt8.toNat_inj.1; simp
 rw [this]; rfl
theorem zol {α} {l a b:List α} (h:l=a++b):a.length≤l.length:=by rw [h]; simp
def z5j (l:List UInt8):Nat:=l.foldl (fun n x=>256 * n+x.toNat) 0
theorem zhn (l:List UInt8) (x:UInt8):z5j (l++[x])=256 * z5j l+x.toNat:=by simp [z5j]
theorem zm4 (l:List UInt8):z5j l<256 ^ l.length:=by
 have:∀ (m:List UInt8),z5j m.reverse<256 ^ m.length:=by
  intro m
  induction m with
  | nil=>simp [z5j]
  | cons x m ih =>
   rw [List.reverse_cons,zhn,List.length_cons,Nat.pow_succ]
   have:=x.toNat_lt
   omega
 have h:=this l.reverse
 simpa using h
theorem zla:∀ (l:List UInt8),(∀ x,l.getLast? = some x→x≠0)→z2e (z5j l.reverse)=l
 | [],_=>by simp [z5j,z98]
 | x::l,h=>by
  rw [List.reverse_cons,zhn];have hx:=x.toNat_lt;have h1:(256 * z5j l.reverse+x.toNat) / 256=z5j l.reverse:=by omega
  have h2:UInt8.ofNat (256 * z5j l.reverse+x.toNat)=x:=by
   apply UInt8.toNat_inj.1; simp <;> omega
  have hl:z2e (z5j l.reverse)=l:=by
   apply zla
   intro y hy
   cases l with
   | nil=>simp at hy
   | cons z l=>exact h y (by rw [List.getLast?_cons_cons]; exact hy)
  by_cases h0:256 * z5j l.reverse+x.toNat=0
  ·exfalso
   cases l with
   | nil =>
    have:=h x (by simp)
    apply this
    apply UInt8.toNat_inj.1
    simp <;> omega
   | cons z l =>
    have:z5j (z::l).reverse=0:=by omega
    rw [this,z98] at hl
    cases hl
  ·rw [z74 _ h0,h1,h2,hl]
theorem zsp (n:Nat):z5j (z2e n).reverse=n:=by
 induction n using Nat.strongRecOn with
 | _ n ih =>
  by_cases h:n=0
  ·subst h; rw [z98]; rfl
  ·rw [z74 n h,List.reverse_cons,zhn,ih (n / 256) (by omega)]
   simp; omega
theorem zuq (n:Nat):∀ x,(z2e n).getLast? = some x→x≠0:=by
 induction n using Nat.strongRecOn with
 | _ n ih =>
  intro x hx;by_cases h:n=0
  ·subst h; rw [z98] at hx; simp at hx
  ·rw [z74 n h] at hx;by_cases h2:n / 256=0
   ·rw [h2,z98] at hx;simp at hx;subst hx;intro e
    have:=congrArg UInt8.toNat e
    simp at this; omega
   ·rw [z74 _ h2,List.getLast?_cons_cons,← z74 _ h2] at hx;exact ih _ (by omega) x hx
def z89 (b:List UInt8):Option (Nat × Nat) :=
 if b.length=0 then none
 else if (b.getD 0 0).toNat≤247 then some ((b.getD 0 0).toNat,1)
 else if b.length≤(b.getD 0 0).toNat - 247∨(b.getD 1 0).toNat=0∨((b.getD 0 0).toNat - 247=1∧(b.getD 1 0).toNat≤247) then none
 else some (z5j ((b.drop 1).take ((b.getD 0 0).toNat - 247)),(b.getD 0 0).toNat - 247+1)
def z0h (b:List UInt8):Nat × Nat × Nat :=
 match z89 b with
 | some (n,u)=>(n,u,0)
 | none=>(0,0,12)
theorem zw6 {b:List UInt8} (h:b.length≠0):b.take 1=[b.getD 0 0]:=by cases b <;> simp_all
theorem zie {b:List UInt8} (k:Nat) (h:b.length≠0):b.take (k+1)=b.getD 0 0::(b.drop 1).take k:=by cases b <;> simp_all
theorem zim {b:List UInt8} {k:Nat} (h1:1≤k) (h:2≤b.length):(b.drop 1).take k=b.getD 1 0::((b.drop 1).take k).tail:=by
 obtain ⟨m,rfl⟩:∃ m,k=m+1:=⟨k - 1, by omega⟩
 match b,h with
 | x::y::t,_=>simp
theorem zuj (x:UInt8):UInt8.ofNat x.toNat=x:=by simp
theorem znx {k:Nat} (h:k≤8):256 ^ k≤18446744073709551616:=by
 have:256 ^ k≤256 ^ 8:=Nat.pow_le_pow_right (by decide) h
 simpa using this
theorem z3c (b:List UInt8) (n u:Nat):z89 b=some (n,u)↔n<18446744073709551616∧u=(z0g n).length∧b.take u=z0g n:=by
 constructor
 ·intro h;unfold z89 at h;by_cases h0:b.length=0
  ·rw [if_pos h0] at h; cases h
  ·rw [if_neg h0] at h;have hx:=(b.getD 0 0).toNat_lt;by_cases h1:(b.getD 0 0).toNat≤247
   ·rw [if_pos h1] at h;simp only [Option.some.injEq,Prod.mk.injEq] at h;obtain ⟨rfl,rfl⟩:=h;refine ⟨by omega,?_,?_⟩
    ·unfold z0g; rw [if_pos h1]; rfl
    ·unfold z0g; rw [if_pos h1,zw6 h0,zuj]
   ·rw [if_neg h1] at h;by_cases h2:b.length≤(b.getD 0 0).toNat - 247∨(b.getD 1 0).toNat=0∨((b.getD 0 0).toNat - 247=1∧(b.getD 1 0).toNat≤247)
    ·rw [if_pos h2] at h; cases h
    ·rw [if_neg h2] at h;simp only [Option.some.injEq,Prod.mk.injEq] at h;obtain ⟨k,hk⟩:∃ k,(b.getD 0 0).toNat - 247=k:=⟨_,rfl⟩
     rw [hk] at h h2;obtain ⟨hn,rfl⟩:=h;have hk1:1≤k:=by omega
     have hk8:k≤8:=by omega
     have hlen:k<b.length:=by omega
     obtain ⟨d,hd⟩:∃ d,(b.drop 1).take k=d:=⟨_,rfl⟩
     rw [hd] at hn;have hdl:d.length=k:=by rw [← hd]; simp; omega
     have hd0:d=b.getD 1 0::d.tail:=by
      rw [← hd];exact zim hk1 (by omega)
     have hdig:z2e n=d.reverse:=by
      rw [← hn]
      have:=zla d.reverse (by
       intro x hx;rw [List.getLast?_reverse,hd0] at hx;simp at hx;subst hx;intro e
       apply h2
       right; left
       have:=congrArg UInt8.toNat e
       simpa using this)
      rw [List.reverse_reverse] at this;exact this
     have hlt:n<18446744073709551616:=by
      have h3:=zm4 d;rw [hn,hdl] at h3;exact Nat.lt_of_lt_of_le h3 (znx hk8)
     have hgt:¬ n≤247:=by
      intro hle;by_cases hk2:k=1
      ·apply h2
       right; right
       refine ⟨hk2,?_⟩
       have:d.tail=[]:=List.eq_nil_of_length_eq_zero (by simp [hdl,hk2])
       rw [hd0,this] at hn;simp [z5j] at hn;simp at hle ⊢;omega
      ·have h3:(z2e n).length≤1:=by
        rw [zkp]
        have:=zh3 n 8 (by omega)
        omega
       rw [hdig,List.length_reverse,hdl] at h3;omega
     refine ⟨hlt,?_,?_⟩
     ·unfold z0g; rw [if_neg hgt,hdig]; simp [hdl]
     ·unfold z0g;rw [if_neg hgt,hdig,List.reverse_reverse,List.length_reverse,hdl,zie k h0,hd];have h247:b.getD 0 0=UInt8.ofNat (247+k):=by
       apply UInt8.toNat_inj.1
       rw [UInt8.toNat_ofNat'];omega
      rw [h247]
 ·rintro ⟨hn,rfl,hb⟩
  have hl:=congrArg List.length hb;have h9:=z0n n hn;rw [List.length_take] at hl;have h0:b.length≠0:=by omega
  unfold z89;rw [if_neg h0];by_cases h1:n≤247
  ·have hnb:z0g n=[UInt8.ofNat n]:=by unfold z0g; rw [if_pos h1]
   rw [hnb] at hb ⊢;rw [show ([UInt8.ofNat n]:List UInt8).length=1 from rfl,zw6 h0] at hb
   injection hb with hb _
   have:(b.getD 0 0).toNat=n:=by rw [hb]; simp; omega
   rw [if_pos (by omega),this];rfl
  ·have hnb:z0g n=UInt8.ofNat (247+(z2e n).length)::(z2e n).reverse:=by unfold z0g; rw [if_neg h1]
   have hd8:=zk9 n hn;have hd1:1≤(z2e n).length:=by rw [z74 n (by omega)]; simp
   rw [hnb] at hb hl ⊢;simp only [List.length_cons,List.length_reverse] at hb hl ⊢;rw [zie _ h0] at hb
   injection hb with hb1 hb2
   have hx:(b.getD 0 0).toNat=247+(z2e n).length:=by rw [hb1]; simp; omega
   rw [if_neg (by omega),hx,Nat.add_sub_cancel_left];have hy:∃ y,(z2e n).getLast? = some y∧b.getD 1 0=y:=by
    have h3:(z2e n).reverse.head? = some (b.getD 1 0):=by
     rw [← hb2,zim hd1 (by omega)];rfl
    rw [List.head?_reverse] at h3;exact ⟨_,h3,rfl⟩
   obtain ⟨y,hy1,hy2⟩:=hy;have hy0:=zuq n y hy1;have h2:¬ (b.length≤(z2e n).length∨(b.getD 1 0).toNat=0∨((z2e n).length=1∧(b.getD 1 0).toNat≤247)):=by
    rintro (h | h | ⟨h,h'⟩)
    ·omega
    ·rw [hy2] at h
     apply hy0
     apply UInt8.toNat_inj.1
     simpa using h
    ·rw [z74 n (by omega),List.length_cons] at h;have h4:z2e (n / 256)=[]:=List.eq_nil_of_length_eq_zero (by omega);have h5:n / 256=0:=by
      by_cases h6:n / 256=0
      ·exact h6
      ·rw [z74 _ h6] at h4; cases h4
     rw [z74 n (by omega),h4] at hy1;simp at hy1;rw [hy2,← hy1] at h';simp at h';omega
   rw [if_neg h2,hb2,zsp]
theorem zds {b:List UInt8} {n u:Nat} (h:z89 b=some (n,u)):n<18446744073709551616∧1≤u∧u≤9∧u≤b.length:=by
 obtain ⟨h1,h2,h3⟩:=(z3c b n u).1 h;have h4:=z0n n h1;have h5:=congrArg List.length h3;rw [List.length_take] at h5;omega
theorem zhl {b:List UInt8} (h:z89 b=none):z0h b=(0,0,12):=by unfold z0h; rw [h]
theorem zb8 {b:List UInt8} {n u:Nat} (h:z89 b=some (n,u)):z0h b=(n,u,0):=by unfold z0h; rw [h]
theorem zb0 (b:List UInt8):(z89 b=none∧z0h b=(0,0,12))∨∃ n u,z89 b=some (n,u)∧z0h b=(n,u,0):=by
 cases h:z89 b with
 | none=>exact .inl ⟨rfl,zhl h⟩
 | some x=>exact .inr ⟨x.1,x.2,rfl,zb8 h⟩
theorem zat (b:List UInt8):(z0h b).1<18446744073709551616∧(z0h b).2.1≤9∧((z0h b).2.2=0∨(z0h b).2.2=12):=by
 rcases zb0 b with ⟨_,h⟩ | ⟨n,u,h1,h⟩
 ·rw [h]; simp
 ·rw [h]; have:=zds h1; simp; omega
theorem znc {b:List UInt8} (h:b.length=0):z89 b=none:=by unfold z89; rw [if_pos h]
theorem zqg {b:List UInt8} (h:b.length≠0) (h1:(b.getD 0 0).toNat≤247):z89 b=some ((b.getD 0 0).toNat,1):=by unfold z89; rw [if_neg h,if_pos h1]
theorem ztq {b:List UInt8} (h:b.length≠0) (h1:¬ (b.getD 0 0).toNat≤247) (h2:b.length≤(b.getD 0 0).toNat - 247∨(b.getD 1 0).toNat=0∨((b.getD 0 0).toNat - 247=1∧(b.getD 1 0).toNat≤247)):z89 b=none:=by
 unfold z89; rw [if_neg h,if_neg h1,if_pos h2]
theorem zr1 {b:List UInt8} (h:b.length≠0) (h1:¬ (b.getD 0 0).toNat≤247) (h2:¬ (b.length≤(b.getD 0 0).toNat - 247∨(b.getD 1 0).toNat=0∨((b.getD 0 0).toNat - 247=1∧(b.getD 1 0).toNat≤247))) :
  z89 b=some (z5j ((b.drop 1).take ((b.getD 0 0).toNat - 247)),(b.getD 0 0).toNat - 247+1):=by
 unfold z89; rw [if_neg h,if_neg h1,if_neg h2]
theorem zze {l:List UInt8} {i:Nat} (h:i<l.length):l.take (i+1)=l.take i++[l.getD i 0]:=by
 rw [List.take_succ_eq_append_getElem h]; simp [List.getD,h]
theorem zhj {l:List UInt8} {i:Nat} (h:i<l.length):z5j (l.take (i+1))=256 * z5j (l.take i)+(l.getD i 0).toNat:=by rw [zze h,zhn]
theorem zk8 {l:List UInt8} {i:Nat} (h:i<l.length) (h8:l.length≤8):z5j (l.take (i+1))<18446744073709551616∧256 * z5j (l.take i)+(l.getD i 0).toNat<18446744073709551616∧z5j (l.take i)<72057594037927936:=by
 have h1:=zm4 (l.take (i+1));rw [List.length_take,Nat.min_eq_left (by omega)] at h1;have h2:=znx (k:=i+1) (by omega);have h3:=zhj h;omega
theorem zoy (a b:Int):zal .and .u64 a b=IntKind.u64.wrap ((BitVec.ofInt 64 a &&& BitVec.ofInt 64 b).toNat:Int):=rfl
theorem zu7 (a b:Int):zal .xor .i64 a b=IntKind.i64.wrap ((BitVec.ofInt 64 a ^^^ BitVec.ofInt 64 b).toNat:Int):=rfl
def zig (n:Int):Nat:=if 0≤n then (2 * n).toNat else (-2 * n - 1).toNat
def zjr (u:Nat):Int:=if u % 2=0 then ((u / 2:Nat):Int) else -((u / 2:Nat):Int) - 1
theorem z17o {n:Int} (h1:-9223372036854775808≤n) (h2:n≤9223372036854775807):zig n<18446744073709551616:=by unfold zig; split <;> omega
theorem zys (n:Int):zjr (zig n)=n:=by unfold zig zjr; split <;> split <;> omega
theorem zyk (u:Nat):zig (zjr u)=u:=by unfold zjr; split <;> (unfold zig; split <;> omega)
theorem zo0 {u:Nat} (h:u<18446744073709551616):-9223372036854775808≤zjr u∧zjr u≤9223372036854775807:=by unfold zjr; split <;> omega
theorem zx4 {u:Nat} (h:u<18446744073709551616) :
  zal .xor .i64 (IntKind.i64.wrap (Int.fdiv ((u:Nat):Int) (2 ^ (min (1:Int).toNat IntKind.u64.bits)))) (IntKind.i64.wrap (0 - IntKind.i64.wrap (zal .and .u64 ((u:Nat):Int) 1)))=zjr u:=by
 have hb:IntKind.u64.bits=64:=rfl;have hb2:IntKind.i64.bits=64:=rfl;have e2:(2:Int) ^ (min (1:Int).toNat 64)=2:=by decide
 have ha:zal .and .u64 ((u:Nat):Int) 1=((u % 2:Nat):Int):=by
  rw [zoy]
  have:(BitVec.ofInt 64 ((u:Nat):Int) &&& BitVec.ofInt 64 1).toNat=u % 2:=by
   rw [BitVec.toNat_and,BitVec.ofInt_natCast,BitVec.toNat_ofNat, show (BitVec.ofInt 64 1).toNat=1 by decide,Nat.and_one_is_mod]; omega
  rw [this]; exact zvt (by omega) rfl
 rw [hb,e2,ha,Int.fdiv_eq_ediv_of_nonneg _ (by decide)];rw [zq5 (z:=((u:Nat):Int) / 2) (r:=((u / 2:Nat):Int)) (by omega) (by omega),zq5 (z:=((u % 2:Nat):Int)) (by omega) rfl];rw [zu7];by_cases h0:u % 2=0
 ·rw [h0, show IntKind.i64.wrap (0 - ((0:Nat):Int))=0 by decide];have e6:(BitVec.ofInt 64 ((u / 2:Nat):Int) ^^^ BitVec.ofInt 64 0).toNat=u / 2:=by
   have:BitVec.ofInt 64 0=0#64:=rfl
   rw [this,BitVec.xor_zero,BitVec.toNat_ofInt]; omega
  rw [e6]; unfold zjr; rw [if_pos h0]; exact zq5 (by omega) rfl
 ·rw [show u % 2=1 by omega, show IntKind.i64.wrap (0 - ((1:Nat):Int)) = -1 by decide];have e6:(BitVec.ofInt 64 ((u / 2:Nat):Int) ^^^ BitVec.ofInt 64 (-1)).toNat=18446744073709551615 - u / 2:=by
   have:BitVec.ofInt 64 (-1)=BitVec.allOnes 64:=by decide
   rw [this,BitVec.xor_allOnes,BitVec.toNat_not,BitVec.toNat_ofInt]; omega
  rw [e6]; unfold zjr; rw [if_neg h0];simp only [IntKind.wrap,IntKind.signed,IntKind.bits,Bool.true_and,decide_eq_true_eq,ge_iff_le]
  split <;> omega
theorem zsh (l:List UInt8) (h:l.length≤7):z5j l<72057594037927936:=by
 have h1:=zm4 l
 have:256 ^ l.length≤256 ^ 7:=Nat.pow_le_pow_right (by decide) h
 have e:(256:Nat) ^ 7=72057594037927936:=by decide
 omega
theorem zh4 {b:List UInt8} {j:Nat} (h:j+1<b.length):z5j ((b.drop 1).take (j+1))=256 * z5j ((b.drop 1).take j)+(b.getD (j+1) 0).toNat:=by
 rw [zhj (by simp; omega)]
 congr 2
 simp [List.getD,Nat.add_comm 1 j]
def zd0 (b:List UInt8):Nat:=if (b.getD 0 0).toNat≤247 then (b.getD 0 0).toNat else z5j ((b.drop 1).take ((b.getD 0 0).toNat - 247))
theorem zr9 (b:List UInt8):zd0 b<18446744073709551616:=by
 unfold zd0;have hx:=(b.getD 0 0).toNat_lt
 split
 ·omega
 ·have h1:=zm4 ((b.drop 1).take ((b.getD 0 0).toNat - 247));have h2:=znx (k:=((b.drop 1).take ((b.getD 0 0).toNat - 247)).length) (by rw [List.length_take]; omega);omega
theorem znp {b:List UInt8} (h:b.take (z0g (zd0 b)).length=z0g (zd0 b)):z0h b=(zd0 b,(z0g (zd0 b)).length,0) :=
 zb8 ((z3c b _ _).2 ⟨zr9 b,rfl,h⟩)
theorem zoq {b:List UInt8} (h0:b.length≠0) (h:¬ b.take (z0g (zd0 b)).length=z0g (zd0 b)):z0h b=(0,0,12):=by
 rcases zb0 b with ⟨_,h1⟩ | ⟨n,u,h1,_⟩
 ·exact h1
 ·exfalso
  apply h
  have h2:=(z3c b n u).1 h1
  have:n=zd0 b:=by
   unfold z89 at h1;unfold zd0;rw [if_neg h0] at h1;by_cases h3:(b.getD 0 0).toNat≤247
   ·rw [if_pos h3] at h1 ⊢;simp only [Option.some.injEq,Prod.mk.injEq] at h1;exact h1.1.symm
   ·rw [if_neg h3] at h1 ⊢
    split at h1
    ·cases h1
    ·simp only [Option.some.injEq,Prod.mk.injEq] at h1;exact h1.1.symm
  rw [← this,← h2.2.1];exact h2.2.2
def zdd (b:List UInt8):Int × Nat × Nat:=if (z0h b).2.2=0 then (zjr (z0h b).1,(z0h b).2.1,0) else (0,0,(z0h b).2.2)
theorem zhm {b:List UInt8} (h:(z0h b).2.2=0):zdd b=(zjr (z0h b).1,(z0h b).2.1,0):=by unfold zdd; rw [if_pos h]
theorem zk5 {b:List UInt8} (h:¬ (z0h b).2.2=0):zdd b=(0,0,(z0h b).2.2):=by unfold zdd; rw [if_neg h]
theorem z6x (b:List UInt8):(z0h b).2.1≤b.length:=by
 rcases zb0 b with ⟨_,h⟩ | ⟨n,u,h1,h⟩
 ·rw [h]; simp
 ·rw [h]; exact (zds h1).2.2.2
def z2f (b:List UInt8) (most:Int) (k:Nat):List UInt8 × Nat × Nat :=
 if most<0 then ([],0,2)
 else if (z0h b).2.2≠0∨most<((z0h b).1:Int)∨(b.length - (z0h b).2.1) / k<(z0h b).1 then ([],0,12)
 else ((b.drop (z0h b).2.1).take (k * (z0h b).1),(z0h b).2.1+k * (z0h b).1,0)
theorem zh6 {b:List UInt8} {most:Int} {k:Nat} (h:most<0):z2f b most k=([],0,2):=by unfold z2f; rw [if_pos h]
theorem zea {b:List UInt8} {most:Int} {k:Nat} (h:¬ most<0) (h2:(z0h b).2.2≠0∨most<((z0h b).1:Int)∨(b.length - (z0h b).2.1) / k<(z0h b).1):z2f b most k=([],0,12):=by
 unfold z2f; rw [if_neg h,if_pos h2]
theorem z8v {b:List UInt8} {most:Int} {k:Nat} (h:¬ most<0) (h2:¬ ((z0h b).2.2≠0∨most<((z0h b).1:Int)∨(b.length - (z0h b).2.1) / k<(z0h b).1)) :
  z2f b most k=((b.drop (z0h b).2.1).take (k * (z0h b).1),(z0h b).2.1+k * (z0h b).1,0):=by
 unfold z2f; rw [if_neg h,if_neg h2]
theorem ze0 {b:List UInt8} {k:Nat} (h2:¬ (b.length - (z0h b).2.1) / k<(z0h b).1):k * (z0h b).1≤b.length - (z0h b).2.1:=by
 have h3:(z0h b).1≤(b.length - (z0h b).2.1) / k:=by omega
 exact Nat.le_trans (Nat.mul_le_mul_left _ h3) (Nat.mul_div_le _ _)
theorem ztd (b:List UInt8) (most:Int) (k:Nat):(z2f b most k).1.length≤b.length:=by
 unfold z2f; split
 ·simp
 ·split
  ·simp
  ·simp only [List.length_take,List.length_drop]; omega
end
section
open Go Go.RowKit
def zlk (x:z01):Prop:=(fun _=>True) x.Kind∧inI x.Num∧(fun _=>True) x.Bits∧(fun s:List UInt8=>s.length≤9223372036854775807) x.Text∧True
def zpa (x:z0a):Prop:=(fun _=>True) x.Kind∧(fun s:List UInt8=>s.length≤9223372036854775807) x.Key∧zlk x.Value∧True
def zp3 (x:z0b):Prop:=(fun _=>True) x.E∧(fun _=>True) x.S∧True
def zr5 (x:z03):Prop:=(fun _=>True) x.Author∧(fun l:List V3=>(∀ x∈l,(fun v:V3=>∀ x∈v.toList,(fun _=>True) x) x)∧l.length≤9223372036854775807) x.Preds∧(fun _=>True) x.Stamp∧zpa x.Act∧zp3 x.Sig∧True
def z85 (x:z0f):Prop:=(fun l:List V3=>(∀ x∈l,(fun v:V3=>∀ x∈v.toList,(fun _=>True) x) x)∧l.length≤9223372036854775807) x.IDs∧(fun l:List z03=>(∀ x∈l,zr5 x)∧l.length≤9223372036854775807) x.Ops∧True
end
section
open Go
theorem z12w {n k:Nat} (hn:n<9223372036854775808) (hk:k<9223372036854775808):andI (n:Int) (k:Int)=((n &&& k:Nat):Int):=by
 show IntKind.i64.wrap (BitVec.toNat (BitVec.ofInt 64 (n:Int) &&& BitVec.ofInt 64 (k:Int)):Int)=_;rw [BitVec.ofInt_natCast,BitVec.ofInt_natCast,BitVec.toNat_and,BitVec.toNat_ofNat,BitVec.toNat_ofNat,Nat.mod_eq_of_lt (by omega),Nat.mod_eq_of_lt (by omega)]
 have:=Nat.and_le_left (n:=n) (m:=k)
 exact zh0 (by omega) (by omega)
def okb (c:UInt8):Bool:=decide (32≤c.toNat)&&decide (c.toNat≤126)
theorem zpz {b:List UInt8} {q:Nat} (h:q<b.length) (ha:(b[q]).toNat<128):za7 b q=((b[q]).toNat,1):=by
 unfold za7;exact decode_ascii ⟨b.toArray⟩ q (by show q<b.toArray.size; simpa using h) ha
theorem z111 {b:List UInt8} {q:Nat} (h:q<b.length) (ha:128≤(b[q]).toNat):128≤(za7 b q).1:=by
 unfold za7;have e:((ByteArray.mk b.toArray).get! (q+0)).toNat=(b[q]).toNat:=by
  show ((ByteArray.mk b.toArray).get! q).toNat=_;simp [ByteArray.get!,h]
 simp only [Utf8.decode,e];rw [if_neg (by omega)]
 repeat' split
 all_goals (first | (simp only [Utf8.runeError]; omega) | (rename_i h1; simp at h1; omega) | omega)
theorem z12q (x:Int):zeu x=some (decide (x<32) || decide (126<x)):=by
 unfold zeu
 cases decide (x<32) <;> rfl
theorem zv9 (b:List UInt8):∀ (rest pre:List UInt8),b=pre++rest →
  (rest.all okb=true→iter (z26 b true) pre.length=some (.inr ()))∧(rest.all okb=false→∃ i:Nat,iter (z26 b true) pre.length=some (.inl (i:Int)))
 | [],pre,e=>by
  refine ⟨fun _=>z1l ?_, fun h=>by simp at h⟩;subst e;unfold z26
  simp
 | c::rest,pre,e=>by
  have hlen:pre.length<b.length:=by rw [e]; simp
  have hget:b[pre.length]'hlen=c:=by subst e; simp
  have hF:z26 b true pre.length=if ((decide (((za7 b pre.length).1:Int)<32) || decide (126<((za7 b pre.length).1:Int)))==true) then some (.inl (.inl (pre.length:Int))) else some (.inr (pre.length+(za7 b pre.length).2)):=by
   unfold z26;rw [if_pos hlen];simp only [bs,z12q]
  cases hc:okb c with
  | false =>
   refine ⟨fun h=>by simp [hc] at h, fun _=>⟨pre.length,z1l ?_⟩⟩;rw [hF,if_pos];by_cases h8:c.toNat<128
   ·rw [zpz hlen (by rw [hget]; exact h8),hget];simp only [okb,Bool.and_eq_false_iff,decide_eq_false_iff_not] at hc
    simp; omega
   ·have:=z111 hlen (by rw [hget]; omega)
    simp; omega
  | true =>
   simp only [okb,Bool.and_eq_true,decide_eq_true_eq] at hc;rw [zpz hlen (by rw [hget]; omega),hget,if_neg (by simp; omega)] at hF;have ih:=zv9 b rest (pre++[c]) (by simp [e]);simp only [List.length_append,List.length_cons,List.length_nil,Nat.zero_add] at ih;rw [z29 hF];have hc':okb c=true:=by simp [okb,hc]
   simpa [hc'] using ih
theorem zlh (b:List UInt8) (hb:b.length≤9223372036854775807):∀ (rest pre:List UInt8),b=pre++rest→iter (z4d b) (pre.length:Int)=some (if rest.all okb then .inr () else .inl false)
 | [],pre,e=>by
  refine z1l ?_;subst e;unfold z4d
  simp
 | c::rest,pre,e=>by
  have hlen:pre.length<b.length:=by rw [e]; simp
  have hget:b[pre.length]'hlen=c:=by subst e; simp
  have hF:z4d b (pre.length:Int)=if okb c then some (.inr ((pre.length+1:Nat):Int)) else some (.inl (.inl false)):=by
   unfold z4d;rw [if_pos (by simp <;> omega)]
   simp only [z0p hlen,hget,bs,z0u (show pre.length<9223372036854775807 by omega)];simp only [okb,UInt8.lt_iff_toNat_lt,UInt8.reduceToNat];by_cases h1:c.toNat<32
   ·have:¬ 32≤c.toNat:=by omega
    simp [h1,this]
   ·by_cases h2:126<c.toNat
    ·have:¬ c.toNat≤126:=by omega
     simp [h1,h2,this]
    ·have h3:32≤c.toNat:=by omega
     have h4:c.toNat≤126:=by omega
     simp [h1,h2,h3,h4]
  cases hc:okb c with
  | false=>rw [hc] at hF; rw [z1l hF]; simp [hc]
  | true =>
   rw [hc] at hF;rw [z29 hF];have ih:=zlh b hb rest (pre++[c]) (by simp [e]);simp only [List.length_append,List.length_cons,List.length_nil,Nat.zero_add] at ih;rw [ih]; simp [hc]
theorem zr8 (b:List UInt8) (hb:b.length≤9223372036854775807):z7m b=some (b.all okb):=by
 have h:=zlh b hb b [] rfl;unfold z7m;rw [show (0:Int)=(([]:List UInt8).length:Int) from rfl,h]
 cases b.all okb <;> rfl
theorem z12t (b:List UInt8) (hb:b.length≤9223372036854775807):zhs b=some (if decide (30<(b.length:Int)) then (⟨0,0,0,[]⟩,4) else if b.all okb then (⟨3,0,0,b⟩,0) else (⟨0,0,0,[]⟩,8)):=by
 unfold zhs z5h z5a
 cases decide (30<(b.length:Int))
 ·simp only [Bool.false_eq_true,if_false];obtain ⟨h1,h2⟩:=zv9 b b [] rfl;simp only [List.length_nil] at h1 h2
  cases h:b.all okb
  ·obtain ⟨i,hi⟩:=h2 h;rw [hi];simp only [or_l,bs];rw [if_pos (by simp)]; rfl
  ·rw [h1 h]; rfl
 ·rfl
theorem z134 (a:UInt64):zg7 a=some (((a.toNat / 4503599627370496 % 2048:Nat):Int),a % 4503599627370496):=by
 unfold zg7;simp only [bs];have h0:=UInt64.toNat_lt a;rw [zb1];have e1:(2:Nat) ^ (min 52 64)=4503599627370496:=by decide
 rw [e1,z13 (by omega) (by omega), show (2047:Int)=((2047:Nat):Int) from rfl,z12w (by omega) (by omega)]
 congr 2
 ·congr 1
  exact Nat.and_two_pow_sub_one_eq_mod _ 11
 ·apply UInt64.toNat_inj.1
  rw [UInt64.toNat_and,UInt64.toNat_mod];exact Nat.and_two_pow_sub_one_eq_mod _ 52
theorem z16s (a:UInt64):z87 a=some ((a.toNat / 4503599627370496 % 2048:Nat):Int):=by
 unfold z87;have h0:=UInt64.toNat_lt a;simp only [bs,UInt64.toNat_div,UInt64.toNat_mod,UInt64.reduceToNat];rw [z13 (by omega) (by omega)]
 congr 2
 omega
def zuc (a:UInt64):Nat:=a.toNat / 4503599627370496 % 2048
def mant (a:UInt64):Nat:=a.toNat % 4503599627370496
theorem z15y (a:UInt64):zuc a<2048:=Nat.mod_lt _ (by omega)
def clsF (a:UInt64):UInt8:=if zuc a=2047 then (if mant a=0 then 4 else 5) else if zuc a=0 then (if mant a=0 then 1 else 2) else 3
theorem z14a (a:UInt64):(a % 4503599627370496==0)=decide (mant a=0):=by
 rw [Bool.eq_iff_iff];simp only [beq_iff_eq,decide_eq_true_eq,← UInt64.toNat_inj,UInt64.toNat_mod];rfl
theorem z110 (a:UInt64):zfq a=some (clsF a):=by
 unfold zfq clsF;rw [z134];simp only [bs];have hm:=z14a a;have hne:(a % 4503599627370496 != 0)=!decide (mant a=0):=by rw [← hm]; rfl
 have he:((a.toNat / 4503599627370496 % 2048:Nat):Int)=(zuc a:Int):=rfl;rw [hne,he];by_cases h1:zuc a=2047
 ·rw [h1];by_cases h2:mant a=0
  ·rw [decide_eq_true h2,if_pos h2]; rfl
  ·rw [decide_eq_false h2,if_neg h2]; rfl
 ·have e1:((zuc a:Int)==2047)=false:=by simp; omega
  rw [if_neg h1,e1];simp only [Bool.false_eq_true,if_false,bs];by_cases h0:zuc a=0
  ·rw [h0];by_cases h2:mant a=0
   ·rw [decide_eq_true h2,if_pos h2]; rfl
   ·rw [decide_eq_false h2,if_neg h2]; rfl
  ·have e0:((zuc a:Int) != 0)=true:=by simp; omega
   rw [e0,if_neg h0]; rfl
theorem zzk (a:UInt64):zas a=some (clsF a):=by
 unfold zas zaz clsF;rw [z16s];simp only [bs];rw [z14a a];have hx:=z15y a;show z5o (if ((zuc a:Int)==0)=true then if decide (mant a=0)=true then some (.inl 1) else some (.inr ()) else some (.inr ())) (fun s5=>if ((zuc a:Int)==0)=true then some 2 else if decide ((zuc a:Int)<2047)=true then some 3 else if decide (mant a=0)=true then some 4 else some 5)=_;by_cases h1:zuc a=2047
 ·rw [h1];by_cases h2:mant a=0 <;> simp [h2,zpn,or_l]
 ·by_cases h0:zuc a=0
  ·rw [h0];by_cases h2:mant a=0 <;> simp [h2,zpn,or_l]
  ·have e0:((zuc a:Int)==0)=false:=by simp; omega
   have e2:decide ((zuc a:Int)<2047)=true:=by simp; omega
   rw [e0,e2,if_neg h1,if_neg h0]; rfl
def zii (a:UInt64):UInt64:=if clsF a=5 then 9221120237041090560 else a
theorem z10u (a:UInt64):zfu a=some (zii a):=by
 unfold zfu zii;rw [z110];simp only [bs];by_cases h:clsF a=5 <;> simp [h]
theorem zz1 (a:UInt64):zaw a=some (zii a):=by
 unfold zaw zii;rw [zzk];simp only [bs];by_cases h:clsF a=5 <;> simp [h]
theorem z11e (a:UInt64):zg8 a=some ⟨2,0,zii a,[]⟩:=by
 unfold zg8; rw [z10u]; rfl
def okV (v:z01):Bool :=
 if v.Kind=1 then decide (v.Bits=0)&&decide (v.Text=[])
 else if v.Kind=2 then decide (v.Num=0)&&decide (v.Text=[])&&decide (zii v.Bits=v.Bits)
 else if v.Kind=3 then decide (v.Num=0)&&decide (v.Bits=0)&&decide (v.Text.length≤30)&&v.Text.all okb
 else false
theorem zth (v:z01) (hb:v.Text.length≤9223372036854775807):z5p v=some (if okV v then 0 else 8):=by
 obtain ⟨K,n,f,t⟩:=v;unfold z5p okV;simp only at hb ⊢;rw [zz1,zr8 t hb];by_cases h1:K=1
 ·subst h1;by_cases hf:f=0 <;> by_cases ht:t=[] <;> simp [hf,ht]
 by_cases h2:K=2
 ·subst h2;by_cases hn:n=0 <;> by_cases ht:t=[] <;> by_cases hc:zii f=f <;> simp [hn,ht,hc,bs]
 by_cases h3:K=3
 ·subst h3;by_cases hl:t.length≤30
  ·have hl':(t.length:Int)≤30:=by omega
   by_cases hn:n=0 <;> by_cases hf:f=0 <;> cases t.all okb <;> simp [hn,hf,hl,hl',bs]
  ·have hl':¬ (t.length:Int)≤30:=by omega
   by_cases hn:n=0 <;> by_cases hf:f=0 <;> simp [hn,hf,hl,hl',bs]
 ·simp [h1,h2,h3]
theorem zn8 (v:z01) (hb:v.Text.length≤9223372036854775807):z9l v=some (if okV v then 0 else 8):=by
 obtain ⟨K,n,f,t⟩:=v;unfold z9l zh7 okV;simp only at hb ⊢;rw [z11e,z12t t hb];by_cases h1:K=1
 ·subst h1;by_cases hf:f=0 <;> by_cases ht:t=[] <;> simp [hf,ht,bs]
 by_cases h2:K=2
 ·subst h2;by_cases hc:zii f=f
  ·by_cases hn:n=0 <;> by_cases ht:t=[] <;> simp [hn,ht,hc,bs]
  ·have hc':¬ f=zii f:=fun e=>hc e.symm;by_cases hn:n=0 <;> by_cases ht:t=[] <;> simp [hn,ht,hc,hc',bs]
 by_cases h3:K=3
 ·subst h3;by_cases hl:30<(t.length:Int)
  ·have h4:¬ t.length≤30:=by omega
   rw [decide_eq_true hl,decide_eq_false h4];simp [bs]
  ·have h4:t.length≤30:=by omega
   rw [decide_eq_false hl,decide_eq_true h4]
   cases t.all okb <;> by_cases hn:n=0 <;> by_cases hf:f=0 <;> simp [hn,hf,bs]
 ·have e1:(K==1)=false:=by simpa using h1
  have e2:(K==2)=false:=by simpa using h2
  have e3:(K==3)=false:=by simpa using h3
  simp only [e1,e2,e3,Bool.false_eq_true,if_false,bs,h1,h2,h3];by_cases h0:K=0
  ·subst h0
   split <;> rfl
  ·simp [h0]
end
section
open Go
theorem z10o:∀ (n:Nat) (a:UInt64) (ds:List UInt8) (N:Nat),a.toNat=n→z2e N=ds++z2e n→(z2e N).length≤8→iter z5v (a,ds)=some (z2e N):=by
 intro n
 induction n using Nat.strongRecOn with
 | _ n ih =>
  intro a ds N ha hd hl;by_cases h0:n=0
  ·subst h0;refine z1l ?_;unfold z5v;rw [if_neg (by simp [UInt64.lt_iff_toNat_lt,ha])];rw [z98,List.append_nil] at hd;rw [hd]
  ·have hF:z5v (a,ds)=some (.inr (a / 256,ds++[(a % 256).toUInt8])):=by
    unfold z5v;rw [if_pos (by simp [UInt64.lt_iff_toNat_lt,ha]; omega)]
    have:ds.length≤8:=Nat.le_trans (zol hd) hl
    simp only [z1m (show (ds.length+[(a % 256).toUInt8].length) * 1≤140737488355328 by simp; omega),bs]
   rw [z29 hF];have hd2:=zse N n ds h0 hd;refine ih (n / 256) (Nat.div_lt_self (by omega) (by omega)) _ _ N ?_ ?_ hl
   ·simp [ha]
   ·rw [hd2]
    congr 2
    congr 1
    apply UInt8.toNat_inj.1
    simp [ha]
theorem zrn (s:List UInt8) (hl:s.length≤8):∀ (i:Nat) (acc:List UInt8),i≤s.length→acc.length+i≤100→iter (z5w s) (acc,(i:Int) - 1)=some (acc++(s.take i).reverse)
 | 0,acc,_,_=>by
  refine z1l ?_;unfold z5w;rw [if_neg (by simp)]; simp
 | i+1,acc,hi,ha=>by
  have hlt:i<s.length:=by omega
  have e:((i+1:Nat):Int) - 1=(i:Int):=by omega
  have hF:z5w s (acc,((i+1:Nat):Int) - 1)=some (.inr (acc++[s[i]],(i:Int) - 1)):=by
   unfold z5w;rw [e,if_pos (by simp)];simp only [z0p hlt,bs];rw [z1m (by simp; omega)];simp only [bs,z13 (show -9223372036854775808≤(i:Int) - 1 by omega) (by omega)]
  rw [z29 hF,zrn s hl i _ (by omega) (by simp; omega)]
  have:List.take (i+1) s=List.take i s++[s[i]]:=by rw [List.take_add_one,List.getElem?_eq_getElem hlt]; rfl
  rw [this]; simp only [List.reverse_append,List.reverse_cons,List.reverse_nil,List.nil_append,List.append_assoc]
theorem z4o (a:UInt64):z1u a=some (z0g a.toNat):=by
 unfold z1u z0g;have h0:=UInt64.toNat_lt a;by_cases h:a.toNat≤247
 ·have h':decide (a≤247)=true:=by simpa [UInt64.le_iff_toNat_le] using h
  rw [if_pos h',if_pos h]
  congr 2
 ·have h':¬ decide (a≤247)=true:=by simpa [UInt64.le_iff_toNat_le] using h
  rw [if_neg h',if_neg h];have hd:=zk9 a.toNat h0;rw [z10o a.toNat a [] a.toNat rfl rfl hd];simp only [bs];rw [z13 (show -9223372036854775808≤((z2e a.toNat).length:Int) - 1 by omega) (by omega),z13 (show -9223372036854775808≤247+((z2e a.toNat).length:Int) by omega) (by omega)];rw [zrn _ hd _ _ (Nat.le_refl _) (by simp; omega)];simp only [bs,List.take_length];rw [show (247+((z2e a.toNat).length:Int))=((247+(z2e a.toNat).length:Nat):Int) by omega]
  congr 1
  show _::_=_
  congr 1
  apply UInt8.toNat_inj.1
  simp [UInt8.ofInt];omega
theorem zws (a:UInt64) (k:Nat) (hk:k=(z2e a.toNat).length) (hk8:k≤8):iter (zcn a (k:Int)) (zd5 a.toNat 0,0)=some (zd5 a.toNat k):=by
 refine z3m k (fun i=>(zd5 a.toNat i,(i:Int))) (fun i hi=>?_) ?_
 ·have hf:=zub a.toNat i (by omega);unfold zcn;rw [if_pos (by simp; omega)];simp only [z13 (show -9223372036854775808≤8 * (i:Int) by omega) (by omega),z4f (show (0:Int)≤8 * (i:Int) by omega),bs,z13 (show -9223372036854775808≤(k:Int) - (i:Int) by omega) (by omega),z0u (show i<9223372036854775807 by omega)];rw [z15j (by omega) (by omega)];simp only [bs]
  have:=zsw a.toNat i (by omega)
  rw [← this];have e1:((k:Int) - (i:Int)).toNat=(z2e a.toNat).length - i:=by omega
  have e2:(z6r a (8 * (i:Int)).toNat).toUInt8=UInt8.ofNat (a.toNat / 2 ^ (8 * i)):=by
   apply UInt8.toNat_inj.1
   have e3:(8 * (i:Int)).toNat=8 * i:=by omega
   rw [e3];simp only [UInt64.toNat_toUInt8,zb1,Nat.min_eq_left (show 8 * i≤64 by omega)]
   simp
  rw [e1,e2]
 ·unfold zcn;rw [if_neg (by simp)]
theorem zhp (a:UInt64) (k:Nat) (hk:k<64):(z6r a k).toNat=a.toNat / 2 ^ k:=by rw [zb1,Nat.min_eq_left (by omega)]
set_option maxRecDepth 100000 in
theorem z12n (a:UInt64):zbf a=some (bitLen a.toNat:Int):=by
 unfold zbf;have h0:=UInt64.toNat_lt a;have s1:∃ (y:UInt64) (n:Nat),(if decide (4294967296≤a) then some (z6r a 32,(32:Int)) else some (a,0))=some (y,(n:Int))∧y.toNat<2 ^ 32∧n≤32∧bitLen a.toNat=n+bitLen y.toNat:=by
  by_cases h:4294967296≤a.toNat
  ·refine ⟨z6r a 32,32, by rw [if_pos (by simpa [UInt64.le_iff_toNat_le] using h)]; rfl,?_, by omega,?_⟩
   ·rw [zhp a 32 (by omega)]; omega
   ·rw [zhp a 32 (by omega)]; exact zei _ 32 (by omega)
  ·exact ⟨a,0, by rw [if_neg (by simpa [UInt64.le_iff_toNat_le] using h)]; rfl, by omega, by omega, by omega⟩
 obtain ⟨y,n,e1,hy,hn,hb⟩:=s1;rw [e1]; simp only [bs];have s2:∃ (z:UInt64) (k:Nat),(if decide (65536≤y) then some (z6r y 16) >>= fun y5=>some (w64 ((n:Int)+16)) >>= fun y6=>some (y5,y6) else some (y,(n:Int)))=some (z,(k:Int))∧z.toNat<2 ^ 16∧k≤48∧bitLen a.toNat=k+bitLen z.toNat:=by
  by_cases h:65536≤y.toNat
  ·refine ⟨z6r y 16,n+16, by rw [if_pos (by simpa [UInt64.le_iff_toNat_le] using h)]; simp only [bs,z13 (show -9223372036854775808≤(n:Int)+16 by omega) (by omega)]; rfl,?_, by omega,?_⟩
   ·rw [zhp y 16 (by omega)]; omega
   ·rw [zhp y 16 (by omega),hb,zei y.toNat 16 (by omega)]; omega
  ·exact ⟨y,n, by rw [if_neg (by simpa [UInt64.le_iff_toNat_le] using h)], by omega, by omega,hb⟩
 obtain ⟨z,k,e2,hz,hk,hb2⟩:=s2;simp only [bs] at e2;rw [e2]; simp only [bs];have s3:∃ (x:UInt64) (j:Nat),(if decide (256≤z) then some (w64 ((k:Int)+8)) >>= fun y9=>some (z6r z 8,y9) else some (z,(k:Int)))=some (x,(j:Int))∧x.toNat<256∧j≤56∧bitLen a.toNat=j+bitLen x.toNat:=by
  by_cases h:256≤z.toNat
  ·refine ⟨z6r z 8,k+8, by rw [if_pos (by simpa [UInt64.le_iff_toNat_le] using h)]; simp only [bs,z13 (show -9223372036854775808≤(k:Int)+8 by omega) (by omega)]; rfl,?_, by omega,?_⟩
   ·rw [zhp z 8 (by omega)]; omega
   ·rw [zhp z 8 (by omega),hb2,zei z.toNat 8 (by omega)]; omega
  ·exact ⟨z,k, by rw [if_neg (by simpa [UInt64.le_iff_toNat_le] using h)], by omega, by omega,hb2⟩
 obtain ⟨x,j,e3,hx,hj,hb3⟩:=s3;simp only [bs] at e3;rw [e3]; simp only [bs];have ht:=z13m ⟨x.toNat,hx⟩;have hx8:(x.toUInt8.toNat:Int)=((x.toNat:Nat):Int):=by simp; omega
 have hle:bitLen x.toNat≤8:=zh3 _ 8 (by omega);rw [hx8];have hlist:∀ (l:List UInt8),l=z10j.data.toList→idx l ((x.toNat:Nat):Int)=some (UInt8.ofNat (bitLen x.toNat)):=fun l hl=>by
  subst hl;unfold idx;rw [if_pos (by omega)]
  simpa using ht
 refine Eq.trans (congrArg (fun o:Option UInt8=>o >>= fun x10=>some (w64 ((j:Int)+(x10.toNat:Int)))) (hlist _ ?hh)) ?_
 case hh=>rfl
 simp only [bs];have e4:((UInt8.ofNat (bitLen x.toNat)).toNat:Int)=(bitLen x.toNat:Int):=by simp; omega
 rw [e4,z13 (by omega) (by omega),hb3]
 simp
theorem z56 (a:UInt64):z4y a=some (z0g a.toNat):=by
 unfold z4y;have h0:=UInt64.toNat_lt a;by_cases h:a.toNat≤247
 ·have h':decide (a≤247)=true:=by simpa [UInt64.le_iff_toNat_le] using h
  unfold z0g;rw [if_pos h',if_pos h]
  congr 2
 ·have h':¬ decide (a≤247)=true:=by simpa [UInt64.le_iff_toNat_le] using h
  rw [if_neg h',z12n];have hd:=zk9 a.toNat h0;have hl:=zkp a.toNat;have hb:bitLen a.toNat≤64:=zh3 _ 64 h0;simp only [bs];rw [z13 (show -9223372036854775808≤(bitLen a.toNat:Int)+7 by omega) (by omega)];have e1:Int.tdiv ((bitLen a.toNat:Int)+7) 8=((z2e a.toNat).length:Int):=by
   rw [hl, show ((bitLen a.toNat:Int)+7)=((bitLen a.toNat+7:Nat):Int) by omega];rfl
  rw [e1,z13 (show -9223372036854775808≤((z2e a.toNat).length:Int) by omega) (by omega),z0u (by omega),zlp (by omega) (by omega)];simp only [bs];rw [show (0:Int)=((0:Nat):Int) from rfl,z0p (by simp)];simp only [bs,Int.toNat_natCast];rw [z13 (show -9223372036854775808≤247+((z2e a.toNat).length:Int) by omega) (by omega)];have e2:UInt8.ofInt (247+((z2e a.toNat).length:Int))=UInt8.ofNat (247+(z2e a.toNat).length):=by
   apply UInt8.toNat_inj.1
   rw [show (247+((z2e a.toNat).length:Int))=((247+(z2e a.toNat).length:Nat):Int) by omega];simp [UInt8.ofInt];omega
  have:=zs4 a.toNat
  rw [e2,this]
  have:=zws a (z2e a.toNat).length rfl hd
  rw [show (0:Int)=((0:Nat):Int) from rfl] at this;rw [this];simp only [bs];rw [zs1 a.toNat (by omega)]
end
section
open Go
theorem okV1 {v:z01} (h:okV v=true) (k:v.Kind=1):v.Bits=0∧v.Text=[]:=by
 unfold okV at h; rw [if_pos k] at h; simpa using h
theorem okV2 {v:z01} (h:okV v=true) (k:v.Kind=2):v.Num=0∧v.Text=[]∧zii v.Bits=v.Bits:=by
 unfold okV at h; rw [if_neg (by rw [k]; decide),if_pos k] at h; simp at h; exact ⟨h.1.1,h.1.2,h.2⟩
theorem okV3 {v:z01} (h:okV v=true) (k:v.Kind=3):v.Num=0∧v.Bits=0∧v.Text.length≤30∧v.Text.all okb=true:=by
 unfold okV at h; rw [if_neg (by rw [k]; decide),if_neg (by rw [k]; decide),if_pos k] at h
 simp only [Bool.and_eq_true,decide_eq_true_eq] at h;exact ⟨h.1.1.1,h.1.1.2,h.1.2,h.2⟩
theorem zhk {v:z01} (h:okV v=true):v.Kind=1∨v.Kind=2∨v.Kind=3:=by
 by_cases h1:v.Kind=1
 ·exact .inl h1
 by_cases h2:v.Kind=2
 ·exact .inr (.inl h2)
 by_cases h3:v.Kind=3
 ·exact .inr (.inr h3)
 ·unfold okV at h; simp [h1,h2,h3] at h
theorem z136 (x:UInt64):(x ^^^ 18446744073709551615).toNat=18446744073709551615 - x.toNat:=by
 have e:x ^^^ 18446744073709551615 = ~~~x:=by
  apply UInt64.eq_of_toBitVec_eq
  rw [UInt64.toBitVec_xor,UInt64.toBitVec_not];exact BitVec.xor_allOnes
 rw [e,UInt64.toNat_not]; rfl
theorem z6f (n:Int):(UInt64.ofInt n).toNat=(n % 18446744073709551616).toNat:=by
 simp [UInt64.ofInt]; omega
theorem z191 (n:Int) (h:inI n):((zjc (UInt64.ofInt n) 1) ^^^ (UInt64.ofInt (shrI n 63))).toNat=zig n:=by
 obtain ⟨h1,h2⟩:=h;have es:(zjc (UInt64.ofInt n) 1).toNat=(n % 18446744073709551616).toNat * 2 % 18446744073709551616:=by
  rw [zix,z6f]; rfl
 by_cases h0:0≤n
 ·have e:shrI n 63=0:=by
   unfold shrI;rw [show (2:Int) ^ (min 63 64)=9223372036854775808 from rfl,Int.fdiv_eq_ediv_of_nonneg _ (by omega)]; omega
  rw [e, show UInt64.ofInt 0=0 from rfl,UInt64.xor_zero,es];unfold zig; rw [if_pos h0]; omega
 ·have e:shrI n 63 = -1:=by
   unfold shrI;rw [show (2:Int) ^ (min 63 64)=9223372036854775808 from rfl,Int.fdiv_eq_ediv_of_nonneg _ (by omega)]; omega
  rw [e, show UInt64.ofInt (-1)=18446744073709551615 from rfl,z136,es];unfold zig; rw [if_neg h0]; omega
theorem zyz (n:Int) (h:inI n):zg9 n=some (z0g (zig n)):=by
 unfold zg9;rw [z56,z191 n h]; rfl
theorem zmx (s:List UInt8) (h:s.length≤10000):zcc s=some (z0g s.length++s,0):=by
 unfold zcc;rw [if_neg (by simp; omega),z56];have e:(UInt64.ofInt (s.length:Int)).toNat=s.length:=by rw [z6f]; omega
 have:=z0n s.length (by omega)
 simp only [bs,e];rw [z1m (by omega)]; rfl
def be8 (b:UInt64):List UInt8:=[(z6r b 56).toUInt8,(z6r b 48).toUInt8,(z6r b 40).toUInt8,(z6r b 32).toUInt8,(z6r b 24).toUInt8,(z6r b 16).toUInt8,(z6r b 8).toUInt8,(z6r b 0).toUInt8]
theorem z11k (v:z01) (l:List UInt8) (k:Nat) (hl:l.length≤100) (hk:k≤56):z9b v (l,(k:Int))=some (.inr (l++[(z6r v.Bits k).toUInt8],(k:Int) - 8)):=by
 unfold z9b;rw [if_pos (by simp)];simp only;rw [z4f (by omega)];simp only [bs,Int.toNat_natCast];rw [z1m (by simp; omega)];simp only [bs];rw [z13 (by omega) (by omega)]
theorem z127 (v:z01):iter (z9b v) ([v.Kind],56)=some (v.Kind::be8 v.Bits):=by
 have hs:=fun l k h1 h2=>z11k v l k h1 h2;rw [show (56:Int)=((56:Nat):Int) from rfl,z29 (hs [v.Kind] 56 (by simp) (by omega))];simp only [List.cons_append,List.nil_append, show ((56:Nat):Int) - 8=((48:Nat):Int) from rfl];rw [z29 (hs _ 48 (by simp) (by omega))];simp only [List.cons_append,List.nil_append, show ((48:Nat):Int) - 8=((40:Nat):Int) from rfl];rw [z29 (hs _ 40 (by simp) (by omega))];simp only [List.cons_append,List.nil_append, show ((40:Nat):Int) - 8=((32:Nat):Int) from rfl]
 rw [z29 (hs _ 32 (by simp) (by omega))];simp only [List.cons_append,List.nil_append, show ((32:Nat):Int) - 8=((24:Nat):Int) from rfl];rw [z29 (hs _ 24 (by simp) (by omega))];simp only [List.cons_append,List.nil_append, show ((24:Nat):Int) - 8=((16:Nat):Int) from rfl];rw [z29 (hs _ 16 (by simp) (by omega))];simp only [List.cons_append,List.nil_append, show ((16:Nat):Int) - 8=((8:Nat):Int) from rfl]
 rw [z29 (hs _ 8 (by simp) (by omega))];simp only [List.cons_append,List.nil_append, show ((8:Nat):Int) - 8=((0:Nat):Int) from rfl];rw [z29 (hs _ 0 (by simp) (by omega))];simp only [List.cons_append,List.nil_append];refine z1l ?_;unfold z9b;rw [if_neg (by simp)]; rfl
def ztk (v:z01):List UInt8:=v.Kind::(if v.Kind=1 then z0g (zig v.Num) else if v.Kind=2 then be8 v.Bits else z0g v.Text.length++v.Text)
theorem zwq {n:Int} (h:inI n):zig n<18446744073709551616:=z17o h.1 h.2
theorem z17t (v:z01) (hI:inI v.Num) (hl:v.Text.length≤9223372036854775807):zep v=some (if okV v then (ztk v,0) else ([],8)):=by
 unfold zep;rw [zn8 v hl]
 cases hv:okV v
 ·rfl
 simp only [bs,if_true];rw [if_neg (by simp)];unfold ztk;rcases zhk hv with k | k | k
 ·have h1:=z0n (zig v.Num) (zwq hI);rw [k,zyz v.Num hI];simp only [bs];rw [if_pos (by decide),z1m (by simp; omega)]; simp [bs]
 ·rw [k,if_neg (by decide),if_pos (by decide),if_neg (by decide),if_pos rfl,← k,z127]; rfl
 ·have h3:=(okV3 hv k).2.2.1;have h1:=z0n v.Text.length (by omega);rw [k,zmx v.Text (by omega)];rw [if_neg (by decide),if_neg (by decide),if_pos (by decide),if_neg (by decide),if_neg (by decide),z4f (by omega)];simp only [bs];rw [z1m (by simp; omega)]; rfl
theorem zst (n:Int) (h:inI n):z9v n=some (z0g (zig n)):=by
 obtain ⟨h1,h2⟩:=h;unfold z9v;by_cases h0:0≤n
 ·rw [if_pos (by simpa using h0),z4o];have e:(2 * UInt64.ofInt n).toNat=zig n:=by
   rw [UInt64.toNat_mul,z6f, show (2:UInt64).toNat=2 from rfl];unfold zig; rw [if_pos h0]; omega
  rw [e]; rfl
 ·rw [if_neg (by simpa using h0),z4o];have e:((2 * UInt64.ofInt (w64 (0 - (w64 (n+1)))))+1).toNat=zig n:=by
   rw [z13 (x:=n+1) (by omega) (by omega),z13 (by omega) (by omega),UInt64.toNat_add,UInt64.toNat_mul,z6f, show (2:UInt64).toNat=2 from rfl, show (1:UInt64).toNat=1 from rfl];unfold zig; rw [if_neg h0]; omega
  rw [e]; rfl
theorem zks (s:List UInt8) (h:s.length≤100000):z6d s=some (z0g s.length++s):=by
 unfold z6d;rw [z4o];have e:(UInt64.ofInt (s.length:Int)).toNat=s.length:=by rw [z6f]; omega
 have:=z0n s.length (by omega)
 rw [e];simp only [bs];rw [z1m (by omega)]; rfl
theorem z10z (v:z01) (l:List UInt8) (k:Nat) (hl:l.length≤100) (hk:k≤7):z6i v (l,(k:Int))=some (.inr (l++[(z6r v.Bits (8 * k)).toUInt8],(k:Int) - 1)):=by
 unfold z6i;rw [if_pos (by simp)];simp only;have e:w64 (8 * (k:Int))=((8 * k:Nat):Int):=by rw [z13 (by omega) (by omega)]; omega
 rw [e,z4f (by omega)];simp only [bs,Int.toNat_natCast];rw [z1m (by simp; omega)];simp only [bs];rw [z13 (by omega) (by omega)]
theorem z130 (v:z01):iter (z6i v) ([v.Kind],7)=some (v.Kind::be8 v.Bits):=by
 have hs:=fun l k h1 h2=>z10z v l k h1 h2;rw [show (7:Int)=((7:Nat):Int) from rfl,z29 (hs [v.Kind] 7 (by simp) (by omega))];simp only [List.cons_append,List.nil_append, show ((7:Nat):Int) - 1=((6:Nat):Int) from rfl];rw [z29 (hs _ 6 (by simp) (by omega))];simp only [List.cons_append,List.nil_append, show ((6:Nat):Int) - 1=((5:Nat):Int) from rfl];rw [z29 (hs _ 5 (by simp) (by omega))];simp only [List.cons_append,List.nil_append, show ((5:Nat):Int) - 1=((4:Nat):Int) from rfl]
 rw [z29 (hs _ 4 (by simp) (by omega))];simp only [List.cons_append,List.nil_append, show ((4:Nat):Int) - 1=((3:Nat):Int) from rfl];rw [z29 (hs _ 3 (by simp) (by omega))];simp only [List.cons_append,List.nil_append, show ((3:Nat):Int) - 1=((2:Nat):Int) from rfl];rw [z29 (hs _ 2 (by simp) (by omega))];simp only [List.cons_append,List.nil_append, show ((2:Nat):Int) - 1=((1:Nat):Int) from rfl];rw [z29 (hs _ 1 (by simp) (by omega))]
 simp only [List.cons_append,List.nil_append, show ((1:Nat):Int) - 1=((0:Nat):Int) from rfl];rw [z29 (hs _ 0 (by simp) (by omega))];simp only [List.cons_append,List.nil_append];refine z1l ?_;unfold z6i;rw [if_neg (by simp)]; rfl
theorem zzx (v:z01) (hI:inI v.Num) (hv:okV v=true):zap v=some (ztk v):=by
 unfold ztk zap;rcases zhk hv with k | k | k
 ·have h1:=z0n (zig v.Num) (zwq hI);rw [k,zst v.Num hI];simp only [bs];rw [if_pos (by decide),z1m (by simp; omega)]; simp [bs]
 ·rw [k,if_neg (by decide),if_pos (by decide),if_neg (by decide),if_pos rfl,← k,z130]; rfl
 ·have h3:=(okV3 hv k).2.2.1;have h1:=z0n v.Text.length (by omega);rw [k,zks v.Text (by omega)];rw [if_neg (by decide),if_neg (by decide),if_neg (by decide),if_neg (by decide),z4f (by omega)];simp only [bs];rw [z1m (by simp; omega)]; rfl
end
section
open Go
theorem z135 (a b:V3):∀ (n i:Nat),32 - i=n→i≤32→∃ r:Sum Int Unit,iter (z7q a b) (i:Int)=some r∧(z5o (some r) (fun _=>some 0)=some (Lib.compareBytes (a.toList.drop i) (b.toList.drop i))):=by
 intro n
 induction n with
 | zero =>
  intro i hn hi
  have:i=32:=by omega
  subst this;refine ⟨.inr (),z1l ?_,?_⟩
  ·unfold z7q; rw [if_neg (by simp)]
  ·rw [List.drop_eq_nil_of_le (by simp),List.drop_eq_nil_of_le (by simp)]; rfl
 | succ n ih =>
  intro i hn hi;have hlt:i<32:=by omega
  have da:a.toList.drop i=a[i]::a.toList.drop (i+1):=by rw [List.drop_eq_getElem_cons (by simpa using hlt)]; simp
  have db:b.toList.drop i=b[i]::b.toList.drop (i+1):=by rw [List.drop_eq_getElem_cons (by simpa using hlt)]; simp
  have hF:z7q a b (i:Int)=if decide (a[i]<b[i]) then some (.inl (.inl (-1))) else if decide (b[i]<a[i]) then some (.inl (.inl 1)) else some (.inr ((i+1:Nat):Int)):=by
   unfold z7q;rw [if_pos (by simp; omega)];simp only [za1 hlt,bs,z0u (show i<9223372036854775807 by omega)]
  rw [da,db,Lib.compareBytes];by_cases h1:a[i]<b[i]
  ·rw [decide_eq_true h1] at hF;exact ⟨_,z1l hF, by rw [if_pos h1]; rfl⟩
  ·rw [decide_eq_false h1] at hF;by_cases h2:b[i]<a[i]
   ·rw [decide_eq_true h2] at hF;exact ⟨_,z1l hF, by rw [if_neg h1,if_pos h2]; rfl⟩
   ·rw [decide_eq_false h2] at hF;obtain ⟨r,k1,k2⟩:=ih (i+1) (by omega) (by omega);exact ⟨r, by rw [z29 hF]; exact k1, by rw [if_neg h1,if_neg h2]; exact k2⟩
theorem zrp (a b:V3):z8w a b=some (Lib.compareBytes a.toList b.toList):=by
 obtain ⟨r,h1,h2⟩:=z135 a b 32 0 rfl (by omega);unfold z8w;rw [show (0:Int)=((0:Nat):Int) from rfl,h1]
 simpa using h2
theorem zud (a b:V3):za2 a b=some (Lib.compareBytes a.toList b.toList):=by
 unfold za2 zfy; rfl
def zbc:List V3→Bool
 | a::b::l=>!decide (0≤Lib.compareBytes a.toList b.toList)&&zbc (b::l)
 | _=>true
theorem znw (l:List V3) (hl:l.length≤9223372036854775807):∀ (n i:Nat),l.length - i=n→1≤i→i≤l.length→iter (z4h l) (i:Int)=some (if zbc (l.drop (i - 1)) then .inr () else .inl false):=by
 intro n
 induction n with
 | zero =>
  intro i hn h1 hi
  have:i=l.length:=by omega
  refine z1l ?_;have e:l.drop (i - 1)=[l[i - 1]'(by omega)]:=by
   rw [List.drop_eq_getElem_cons (by omega),List.drop_eq_nil_of_le (by omega)]
  rw [e];unfold z4h;rw [if_neg (by simp; omega)];simp [zbc]
 | succ n ih =>
  intro i hn h1 hi;have hlt:i<l.length:=by omega
  have e:l.drop (i - 1)=l[i - 1]::l[i]::l.drop (i+1):=by
   rw [List.drop_eq_getElem_cons (by omega), show i - 1+1=i by omega,List.drop_eq_getElem_cons hlt]
  have e':l.drop (i+1 - 1)=l[i]::l.drop (i+1):=by rw [Nat.add_sub_cancel,List.drop_eq_getElem_cons hlt]
  have hF:z4h l (i:Int)=if decide (0≤Lib.compareBytes (l[i - 1]).toList (l[i]).toList) then some (.inl (.inl false)) else some (.inr ((i+1:Nat):Int)):=by
   unfold z4h;rw [if_pos (by simp; omega),z13 (by omega) (by omega), show ((i:Int) - 1)=((i - 1:Nat):Int) by omega];simp only [z0p hlt,z0p (show i - 1<l.length by omega),bs,zrp,z0u (show i<9223372036854775807 by omega)]
  rw [e,zbc]
  cases hc:decide (0≤Lib.compareBytes (l[i - 1]).toList (l[i]).toList) with
  | true=>rw [hc] at hF; rw [z1l hF]; rfl
  | false =>
   rw [hc] at hF;rw [z29 hF,ih (i+1) (by omega) (by omega) (by omega),e']; simp
theorem znv (l:List V3) (hl:l.length≤9223372036854775807):z62 l=some (zbc l):=by
 unfold z62
 cases l with
 | nil =>
  rw [z1l (b:=.inr ()) (by unfold z4h; rw [if_neg (by simp)])]; rfl
 | cons x l =>
  have:=znw (x::l) hl _ 1 rfl (by omega) (by simp)
  rw [show (1:Int)=((1:Nat):Int) from rfl,this];simp only [Nat.sub_self,List.drop_zero]
  cases zbc (x::l) <;> rfl
theorem zs0 (l:List V3) (hl:l.length≤9223372036854775806):∀ (n i:Nat),l.length - i=n→i≤l.length→∃ r,iter (z10 l l) ((i:Int),(i:Int))=some r∧(zbc (l.drop i)=true→∃ c,r=.inr c)∧(zbc (l.drop i)=false→∃ (k:Nat) (c:Int),r=.inl ((k:Int),c)):=by
 intro n
 induction n with
 | zero =>
  intro i hn hi
  have:i=l.length:=by omega
  refine ⟨.inr (i:Int),z1l ?_, fun _=>⟨_,rfl⟩, fun h=>?_⟩
  ·unfold z10;rw [if_neg (by simp; omega)]
  ·rw [List.drop_eq_nil_of_le (by omega)] at h; simp [zbc] at h
 | succ n ih =>
  intro i hn hi;have hlt:i<l.length:=by omega
  by_cases h2:i+1<l.length
  ·have e:l.drop i=l[i]::l[i+1]::l.drop (i+2):=by rw [List.drop_eq_getElem_cons hlt,List.drop_eq_getElem_cons h2]
   have e':l.drop (i+1)=l[i+1]::l.drop (i+2):=by rw [List.drop_eq_getElem_cons h2]
   have hF:z10 l l ((i:Int),(i:Int))=if decide (0≤Lib.compareBytes (l[i]).toList (l[i+1]).toList) then some (.inl (.inl ((i:Int),((i+1:Nat):Int)))) else some (.inr (((i+1:Nat):Int),((i+1:Nat):Int))):=by
    unfold z10 zdk;rw [if_pos (by simp; omega)];simp only [z0p hlt,bs,z0u (show i<9223372036854775807 by omega)];rw [if_pos (by simp; omega),z13 (by omega) (by omega), show ((i+1:Nat):Int) - 1=(i:Int) by omega];simp only [z0p hlt,z0p h2,bs,zud]
   rw [e,zbc]
   cases hc:decide (0≤Lib.compareBytes (l[i]).toList (l[i+1]).toList) with
   | true =>
    rw [hc] at hF;exact ⟨_,z1l hF, fun h=>by simp at h, fun _=>⟨i,_,rfl⟩⟩
   | false =>
    rw [hc] at hF;obtain ⟨r,k1,k2,k3⟩:=ih (i+1) (by omega) (by omega);rw [e'] at k2 k3;exact ⟨r, by rw [z29 hF]; exact k1, fun h=>k2 (by simpa using h), fun h=>k3 (by simpa using h)⟩
  ·have e:l.drop i=[l[i]]:=by rw [List.drop_eq_getElem_cons hlt,List.drop_eq_nil_of_le (by omega)]
   have hF:z10 l l ((i:Int),(i:Int))=some (.inr (((i+1:Nat):Int),((i+1:Nat):Int))):=by
    unfold z10 zdk;rw [if_pos (by simp; omega)];simp only [z0p hlt,bs,z0u (show i<9223372036854775807 by omega)];rw [if_neg (by simp; omega)];simp only [bs]; rfl
   obtain ⟨r,k1,k2,k3⟩:=ih (i+1) (by omega) (by omega);rw [List.drop_eq_nil_of_le (by omega)] at k2 k3;exact ⟨r, by rw [z29 hF]; exact k1, fun _=>k2 rfl, fun h=>by rw [e] at h; simp [zbc] at h⟩
theorem zp0 (l:List V3) (hl:l.length≤9223372036854775806):ze1 l=some (zbc l):=by
 obtain ⟨r,k1,k2,k3⟩:=zs0 l hl _ 0 rfl (by omega);unfold ze1 z2m z30;rw [show ((0:Int),(0:Int))=(((0:Nat):Int),((0:Nat):Int)) from rfl,k1];simp only [List.drop_zero] at k2 k3
 cases h:zbc l with
 | true=>obtain ⟨c,rfl⟩:=k2 h; rfl
 | false =>
  obtain ⟨k,c,rfl⟩:=k3 h;simp only [or_l,bs];rw [decide_eq_true (by omega)]; rfl
def zhu (l:List V3):List UInt8:=l.flatMap Vector.toList
theorem zho (l:List V3):(zhu l).length=32 * l.length:=by
 induction l with
 | nil=>rfl
 | cons x l ih=>unfold zhu at ih ⊢; rw [List.flatMap_cons,List.length_append,ih]; simp; omega
theorem zrj (l:List V3) (i:Nat) (hi:i<l.length):zhu (l.take (i+1))=zhu (l.take i)++(l[i]).toList:=by
 rw [List.take_add_one,List.getElem?_eq_getElem hi]; unfold zhu; rw [List.flatMap_append,Option.toList_some,List.flatMap_cons,List.flatMap_nil,List.append_nil]
theorem z151 (l:List V3) (h:l.length≤1000) (s:List UInt8) (hs:s.length≤9):iter (z7c l) (s,0)=some (s++zhu l):=by
 have:=z3m (F:=z7c l) (b:=s++zhu l) l.length (fun i=>(s++zhu (l.take i),(i:Int))) (fun i hi=>?_) ?_
 ·simpa [zhu] using this
 ·unfold z7c;have hf:=zho (l.take i);rw [if_pos (by simp; omega)];simp only [z0p hi,bs];rw [z1m (by simp at hf ⊢; omega)];simp only [bs,z0u (show i<9223372036854775807 by omega),zrj l i hi,List.append_assoc]
 ·unfold z7c;rw [if_neg (by simp)]
  simp
theorem z16v (l:List V3) (h:l.length≤1000) (s:List UInt8) (hs:s.length≤9):iter (ze4 l) (s,0)=some (s++zhu l):=by
 have:=z3m (F:=ze4 l) (b:=s++zhu l) l.length (fun i=>(s++zhu (l.take i),(i:Int))) (fun i hi=>?_) ?_
 ·simpa [zhu] using this
 ·unfold ze4;have hf:=zho (l.take i);rw [if_pos (by simp; omega)];simp only [z0p hi,bs];rw [z1m (by simp at hf ⊢; omega)];simp only [bs,z0u (show i<9223372036854775807 by omega),zrj l i hi,List.append_assoc]
 ·unfold ze4;rw [if_neg (by simp)]
  simp
theorem zan {n:Nat} (h:n<18446744073709551616):(UInt64.ofInt (n:Int)).toNat=n:=by
 simp [UInt64.ofInt]; omega
theorem z12g (l:List V3) (h:l.length≤1000):zbo l=some (z0g l.length++zhu l):=by
 unfold zbo;have hn:=z0n l.length (by omega);rw [z4o,zan (by omega)];simp only [bs];rw [z151 l h _ (by omega)]; rfl
theorem z14w (l:List V3) (h:l.length≤60) (hi:zbc l=true):zm7 l=some (z0g l.length++zhu l,0):=by
 unfold zm7;have hn:=z0n l.length (by omega);rw [if_neg (by simp; omega),zp0 l (by omega),hi,z56,zan (by omega)];simp only [bs,Bool.not_true,Bool.false_eq_true,if_false];rw [z16v l (by omega) _ (by omega)]; rfl
end
section
open Go
def nk:List UInt8→Nat
 | []=>0
 | a::l=>a.toNat * 256 ^ l.length+nk l
theorem z15v:∀ l:List UInt8,nk l<256 ^ l.length
 | []=>by simp [nk]
 | a::l=>by
  have ih:=z15v l;have ha:=UInt8.toNat_lt a;simp only [nk,List.length_cons,Nat.pow_succ];have h1:(a.toNat+1) * 256 ^ l.length≤256 * 256 ^ l.length:=Nat.mul_le_mul_right _ (by omega);rw [Nat.add_mul,Nat.one_mul] at h1;omega
theorem z10k:∀ a b:List UInt8,a.length=b.length→Lib.compareBytes a b=(if nk a<nk b then -1 else if nk b<nk a then 1 else 0)∧(nk a=nk b→a=b)
 | [],[],_=>by simp [Lib.compareBytes,nk]
 | [],_::_,h=>by simp at h
 | _::_,[],h=>by simp at h
 | a::x,b::y,h=>by
  have hl:x.length=y.length:=by simpa using h
  obtain ⟨i1,i2⟩:=z10k x y hl;have lx:=z15v x;have ly:=z15v y;simp only [Lib.compareBytes,nk,hl] at *;have e:∀ u v:UInt8,u.toNat<v.toNat→u.toNat * 256 ^ y.length+256 ^ y.length≤v.toNat * 256 ^ y.length:=fun u v huv=>by
   have:=Nat.mul_le_mul_right (256 ^ y.length) (show u.toNat+1≤v.toNat from huv)
   rwa [Nat.add_mul,Nat.one_mul] at this
  by_cases h1:a<b
  ·have h1':a.toNat<b.toNat:=UInt8.lt_iff_toNat_lt.1 h1
   have:=e a b h1'
   rw [if_pos h1,if_pos (by omega)];exact ⟨rfl, fun h=>by omega⟩
  ·by_cases h2:b<a
   ·have h2':b.toNat<a.toNat:=UInt8.lt_iff_toNat_lt.1 h2
    have:=e b a h2'
    rw [if_neg h1,if_pos h2,if_neg (by omega),if_pos (by omega)];exact ⟨rfl, fun h=>by omega⟩
   ·have h3:a=b:=UInt8.toNat_inj.1 (by rw [UInt8.lt_iff_toNat_lt] at h1 h2; omega);subst h3;rw [if_neg h1,if_neg h1,i1];refine ⟨?_, fun h=>by rw [i2 (by omega)]⟩;by_cases c1:nk x<nk y
    ·rw [if_pos c1,if_pos (by omega)]
    ·by_cases c2:nk y<nk x
     ·rw [if_neg c1,if_pos c2,if_neg (by omega),if_pos (by omega)]
     ·rw [if_neg c1,if_neg c2,if_neg (by omega),if_neg (by omega)]
def kd (d:V3):Nat:=nk d.toList
theorem z10x (a b:V3):Lib.compareBytes a.toList b.toList=if kd a<kd b then -1 else if kd b<kd a then 1 else 0:=(z10k a.toList b.toList (by simp)).1
theorem zw8 {a b:V3} (h:kd a=kd b):a=b:=by
 have:=(z10k a.toList b.toList (by simp)).2 h
 exact Vector.toList_inj.1 this
theorem z10e (a b:V3):za2 a b=some (if kd a<kd b then -1 else if kd b<kd a then 1 else 0):=by rw [zud,z10x]
theorem z15r (a b:V3):z8w a b=some (if kd a<kd b then -1 else if kd b<kd a then 1 else 0):=by rw [zrp,z10x]
theorem zvz (a b:V3):decide ((if kd a<kd b then (-1:Int) else if kd b<kd a then 1 else 0)<0)=decide (kd a<kd b):=by
 by_cases h:kd a<kd b
 ·simp [h]
 ·by_cases h2:kd b<kd a <;> simp [h,h2]
theorem z13t (a b:V3):decide (0≤(if kd a<kd b then (-1:Int) else if kd b<kd a then 1 else 0))=decide (kd b≤kd a):=by
 by_cases h:kd a<kd b
 ·have:¬ kd b≤kd a:=by omega
  simp [h,this]
 ·have h3:kd b≤kd a:=by omega
  by_cases h2:kd b<kd a <;> simp [h,h2,h3]
theorem z190 (a b:V3):((if kd a<kd b then (-1:Int) else if kd b<kd a then 1 else 0)==0)=decide (a=b):=by
 by_cases h:kd a<kd b
 ·have:a≠b:=fun e=>by rw [e] at h; omega
  simp [h,this]
 ·by_cases h2:kd b<kd a
  ·have:a≠b:=fun e=>by rw [e] at h2; omega
   simp [h,h2,this]
  ·have:a=b:=zw8 (by omega)
   simp [h,h2,this]
theorem zw7:∀ l:List V3,zbc l=true↔∀ i (h:i+1<l.length),kd (l[i]'(by omega))<kd l[i+1]
 | []=>by simp [zbc]
 | [a]=>by simp [zbc]
 | a::b::l=>by
  have ih:=zw7 (b::l);rw [zbc,Bool.and_eq_true,ih,z10x,z13t]
  constructor
  ·rintro ⟨h1,h2⟩ i hi
   cases i with
   | zero=>simpa using h1
   | succ i=>exact h2 i (by simpa using hi)
  ·intro h;refine ⟨?_, fun i hi=>h (i+1) (by simpa using hi)⟩
   have:=h 0 (by simp)
   simpa using this
theorem zqt:∀ l:List V3,zbc l=true↔l.Pairwise (fun a b=>kd a<kd b)
 | []=>by simp [zbc]
 | [a]=>by simp [zbc]
 | a::b::l=>by
  have ih:=zqt (b::l);rw [zbc,Bool.and_eq_true,ih,z10x,z13t]
  constructor
  ·rintro ⟨h1,h2⟩
   have h1':kd a<kd b:=by simpa using h1
   refine List.pairwise_cons.2 ⟨fun c hc=>?_,h2⟩;rcases List.mem_cons.1 hc with rfl | hc
   ·exact h1'
   ·have:=(List.pairwise_cons.1 h2).1 c hc; omega
  ·intro h;obtain ⟨h1,h2⟩:=List.pairwise_cons.1 h
   have:=h1 b (by simp)
   exact ⟨by simp; omega,h2⟩
theorem zzj (l:List V3) (hl:l.length≤9223372036854775807):∃ b,z1j l=some b∧(b=true↔∀ i (h:i+1<l.length),kd (l[i]'(by omega))≤kd l[i+1]):=by
 have key:∀ n,n<l.length→∃ r:Sum Bool Unit,iter (z18 l) (n:Int)=some r∧((r=.inr ()∧∀ i (h:i+1<l.length),i+1≤n→kd (l[i]'(by omega))≤kd l[i+1])∨(r=.inl false∧∃ i,∃ h:i+1<l.length,¬ kd (l[i]'(by omega))≤kd l[i+1])):=by
  intro n
  induction n with
  | zero =>
   intro h;refine ⟨_,z1l ?_,.inl ⟨rfl, fun i _ h=>by omega⟩⟩;unfold z18;rw [if_neg (by simp)]
  | succ n ih =>
   intro h;have hF:z18 l ((n+1:Nat):Int)=if decide (kd l[n+1]<kd l[n]) then some (.inl (.inl false)) else some (.inr (n:Int)):=by
    unfold z18;rw [if_pos (by simp <;> omega),z0p h,z13 (by omega) (by omega), show (((n+1:Nat):Int) - 1)=(n:Int) by omega,z0p (by omega)]
    simp only [bS];rw [z10e];simp only [bS];rw [zvz]
   by_cases hc:kd l[n+1]<kd l[n]
   ·rw [decide_eq_true hc,if_pos rfl] at hF;exact ⟨_,z1l hF,.inr ⟨rfl,n,h, by omega⟩⟩
   ·rw [decide_eq_false hc,if_neg (by simp)] at hF;obtain ⟨r,h1,h2⟩:=ih (by omega);refine ⟨r, by rw [z29 hF]; exact h1,?_⟩;rcases h2 with ⟨h2,h3⟩ | h2
    ·refine .inl ⟨h2, fun i hi hn=>?_⟩;by_cases hin:i=n
     ·subst hin; omega
     ·exact h3 i hi (by omega)
    ·exact .inr h2
 unfold z1j;simp only [bS];by_cases h0:l.length=0
 ·refine ⟨true,?_, by simp; intro i hi; omega⟩;rw [h0,z13 (by omega) (by omega),z1l (b:=.inr ())]
  ·rfl
  ·unfold z18;rw [if_neg (by simp)]
 ·obtain ⟨r,h1,h2⟩:=key (l.length - 1) (by omega);rw [z13 (by omega) (by omega), show ((l.length:Int) - 1)=((l.length - 1:Nat):Int) by omega,h1];rcases h2 with ⟨rfl,h3⟩ | ⟨rfl,i,hi,h3⟩
  ·exact ⟨true,rfl, by simp; exact fun i hi=>h3 i hi (by omega)⟩
  ·exact ⟨false,rfl, by simp; exact ⟨i,hi, by omega⟩⟩
theorem zym {k n j:Nat} (h:j<n):subi k n (j:Int)=some (k+j):=by unfold subi; rw [if_pos (by omega)]; simp
theorem z16a {α:Type} (b:List α) (k n:Nat) (x:α) (h:k+n≤b.length):(clr b k n x).length=b.length:=by
 unfold clr;simp only [List.length_append,List.length_take,List.length_replicate,List.length_drop]; omega
theorem zus (l:List V3) (s:Nat) (h1:1≤s) (hs:s<l.length) (hl:l.length≤9223372036854775806):∃ b:List V3 × Int,iter (z2x l s) (l,(s:Int),1)=some b∧b.1.length=l.length∧∃ j:Nat,b.2=(j:Int)∧j<l.length:=by
 refine z9o (F:=z2x l s) (l.length - s) (fun i st=>st.1.length=l.length∧st.2.2=(i:Int)∧1≤i∧∃ j:Nat,st.2.1=(j:Int)∧j+1≤s+i) _ ?_ ?_ _ 1 (by omega) ⟨rfl,rfl, by omega,s,rfl, by omega⟩
 ·rintro i ⟨c,j',i'⟩ hi ⟨e1,e2,e0,j,e3,e4⟩
  simp only at e1 e2 e3;subst e2 e3;unfold z2x;rw [if_pos (by simp; omega)];simp only [Int.toNat_natCast];rw [zym (by omega),z13 (x:=(i:Int) - 1) (by omega) (by omega), show ((i:Int) - 1)=((i - 1:Nat):Int) by omega,zym (by omega)];simp only [bS];rw [z0p (by omega),z0p (by omega)];simp only [bS];by_cases hc:c[s+i]'(by omega)=c[s+(i - 1)]'(by omega)
  ·rw [decide_eq_true hc,if_neg (by simp)];exact ⟨_,rfl,e1,z0u (by omega), by omega,j,rfl, by omega⟩
  ·rw [decide_eq_false hc,if_pos (by simp),z0p (by omega)];simp only [bS];exact ⟨_,rfl, by simpa using e1,z0u (by omega), by omega,j+1,z0u (by omega), by omega⟩
 ·rintro ⟨c,j',i'⟩ ⟨e1,e2,e0,j,e3,e4⟩
  simp only at e1 e2 e3;subst e2 e3;unfold z2x;rw [if_neg (by simp <;> omega)]
  exact ⟨_,rfl,e1,j,rfl, by omega⟩
theorem zxd (l:List V3) (hl:l.length≤9223372036854775806):∃ c,z3h l=some c∧(c.length=l.length↔∀ i (h:i+1<l.length),l[i]'(by omega)≠l[i+1]):=by
 have key:∀ k n,l.length - n=k→1≤n→n≤l.length→∃ r:Sum (List V3) Unit,iter (z1v l) (n:Int)=some r∧((r=.inr ()∧∀ i (h:i+1<l.length),n≤i+1→l[i]'(by omega)≠l[i+1])∨(∃ c,r=.inl c∧c.length≠l.length∧∃ i,∃ h:i+1<l.length,l[i]'(by omega)=l[i+1])):=by
  intro k
  induction k with
  | zero =>
   intro n hk h1 hn;refine ⟨_,z1l ?_,.inl ⟨rfl, fun i _ h=>by omega⟩⟩;unfold z1v;rw [if_neg (by simp; omega)]
  | succ k ih =>
   intro n hk h1 hn;have hlt:n<l.length:=by omega
   by_cases hc:l[n]=l[n - 1]
   ·obtain ⟨⟨c,j'⟩,e1,e2,j,e3,e4⟩:=zus l n h1 hlt hl;simp only at e2 e3;subst e3;have hF:z1v l (n:Int)=some (.inl (.inl ((clr c j (c.length - j) (Vector.replicate 32 0)).take j))):=by
     unfold z1v;rw [if_pos (by simp; omega),z0p hlt,z13 (by omega) (by omega), show ((n:Int) - 1)=((n - 1:Nat):Int) by omega,z0p (by omega)];simp only [bS];rw [decide_eq_true hc,if_pos rfl,z4f (by omega)];simp only [bS];rw [e1];simp only [bS];rw [z4f (by omega),z4f (by simp; omega)];simp only [bS,Int.toNat_natCast];rw [show (0:Int)=((0:Nat):Int) from rfl,z5i (by omega) (by rw [z16a _ _ _ _ (by omega)]; omega)]
     simp
    refine ⟨_,z1l hF,.inr ⟨_,rfl,?_,n - 1, by omega,?_⟩⟩
    ·rw [List.length_take]; omega
    ·have:n - 1+1=n:=by omega
     simp only [this]; exact hc.symm
   ·have hF:z1v l (n:Int)=some (.inr ((n+1:Nat):Int)):=by
     unfold z1v;rw [if_pos (by simp; omega),z0p hlt,z13 (x:=(n:Int) - 1) (by omega) (by omega), show ((n:Int) - 1)=((n - 1:Nat):Int) by omega,z0p (by omega)];simp only [bS];rw [decide_eq_false hc,if_neg (by simp),z0u (by omega)]
    obtain ⟨r,h2,h3⟩:=ih (n+1) (by omega) (by omega) (by omega);refine ⟨r, by rw [z29 hF]; exact h2,?_⟩;rcases h3 with ⟨h3,h4⟩ | h3
    ·refine .inl ⟨h3, fun i hi hni=>?_⟩;by_cases hin:i+1=n
     ·subst hin; exact fun e=>hc e.symm
     ·exact h4 i hi (by omega)
    ·exact .inr h3
 unfold z3h;by_cases h2:l.length<2
 ·rw [if_pos (by simp; omega)];exact ⟨l,rfl, by simp; intro i hi; omega⟩
 ·rw [if_neg (by simp; omega)];obtain ⟨r,e1,e2⟩:=key (l.length - 1) 1 rfl (by omega) (by omega);rw [show (1:Int)=((1:Nat):Int) from rfl,e1];rcases e2 with ⟨rfl,h3⟩ | ⟨c,rfl,h3,i,hi,h4⟩
  ·exact ⟨l,rfl, by simp; exact fun i hi=>h3 i hi (by omega)⟩
  ·exact ⟨c,rfl,⟨fun h=>absurd h h3, fun h=>absurd h4 (h i hi)⟩⟩
theorem z13j (l:List V3):zbc l=true↔(∀ i (h:i+1<l.length),kd (l[i]'(by omega))≤kd l[i+1])∧∀ i (h:i+1<l.length),l[i]'(by omega)≠l[i+1]:=by
 rw [zw7]
 constructor
 ·intro h;refine ⟨fun i hi=>Nat.le_of_lt (h i hi), fun i hi e=>?_⟩
  have:=h i hi
  rw [e] at this; omega
 ·rintro ⟨h1,h2⟩ i hi
  have:=h1 i hi
  rcases Nat.lt_or_eq_of_le this with h | h
  ·exact h
  ·exact absurd (zw8 h) (h2 i hi)
end
section
open Go Go.RowKit
set_option maxRecDepth 100000
def z9q (a0:List V3) (a1:List V3) (s3:Int):Option (Sum (Sum Bool Unit) Int) :=
 if decide (s3<(a0.length:Int)) then
  idx a0 s3 >>= fun x5 =>
  idx a1 s3 >>= fun x7 =>
  if !decide (x5=x7) then
   some (.inl (.inl false))
  else
   some (.inr (w64 (s3+1)))
 else
  some (.inl (.inr ()))
def z92 (a0:List V3) (a1:List V3):Option (Bool) :=
 if (a0.length:Int) != (a1.length:Int) then
  some false
 else
  z5o (iter (z9q a0 a1) 0) fun s2 =>
  some true
theorem zhb (a0:List V3) (a1:List V3):z2b Tryz.prog 27 [.rd (z04 aZ) a0,.rd (z04 aZ) a1] [] (z92 a0 a1) (fun r nv=>⟨[.rd z0l r],[]⟩):=by
 refine z2n 26 Tryz.func27 Z Z Z fun H w=>?_;refine gSR<|Zb Z<|z0v<|gSR<|Zm Z<|Zq (z2v Z .rd Z tu29)<|Zm Z<|Zq (z2v Z .rd Z tu29)<|Zq (I.neq Z Z)<|Zj Z (fun h1=>?_) (fun h1=>?_)
 ·refine gSR<|Zb Z<|z0o<|z0q<|Ze [] [] Z
 ·refine Zt<|z7j (fun (s2:Unit) aa ww=>Sta (ctx 26 H [] w) [] [] aa ww) ?_ (fun s2=>?_)
  ·refine gSR<|Zb Z<|z2a (fun (s3:Int) aa ww=>Sta (ctx 26 H [] w) [(0,.rd (z04 aZ) a0),(1,.rd (z04 aZ) a1),(5,.rd z0k s3)] [] aa ww) (fun aa ww h=>Zu h []) (fun s3=>?_);refine z0v<|gSR<|Zm Z<|Zm Z<|Zq (z2v Z .rd Z tu29)<|Zq (I.lss Z Z)<|Zj Z (fun h4=>?_) (fun h4=>?_)
   ·refine Zt<|z0v<|z5b<|z0v<|zi5 mixed (by kernel_rfl)<|Rq Z (mv Z)<|Rq Z (mv Z)<|z80 fun x5 h6=>Rq Z (ixR Z Z h6 tu29 z40 Z)<|Rq Z (ldR Z z83)<|Rq Z (mv Z)<|Rq Z (mv Z)<|z80 fun x7 h8=>Rq Z (ixR Z Z h8 tu29 z40 Z)<|Rq Z (ldR Z z83)<|Rq Z (neA Z Z eq45 Z Z gq45)<|ztj<|z0z<|gIf Z Z (fun h9=>?_) (fun h9=>?_)
    ·refine gSR<|Zb Z<|z0o<|z44<|z0q<|z6t<|z4g<|Ze [] [] Z
    ·refine z31<|z3f<|z0z<|z20<|Zm Z<|Zq (I.add Z Z)<|Za Z<|z1g<|z1q (fun aa ww h=>Zu h [])
   ·refine z21<|z15<|z17<|z5k (fun aa ww h=>Zu h [])
  ·refine gSR<|Zb Z<|z0o<|Ze [] [] Z
def zbg (a0:z03) (a1:z03):Option (Bool) :=
 if a0.Author==a1.Author then
  z92 a0.Preds a1.Preds >>= fun r4 =>
  if r4 then
   if a0.Stamp==a1.Stamp then
    if decide (a0.Act=a1.Act) then
     some (decide (a0.Sig=a1.Sig)) >>= fun y9 =>
     some y9
    else
     some false
   else
    some false
  else
   some false
 else
  some false
theorem zjo (a0:z03) (a1:z03):z2b Tryz.prog 62 [.rd z05 a0,.rd z05 a1] [] (zbg a0 a1) (fun r nv=>⟨[.rd z0l r],[]⟩):=by
 refine z2n 38 Tryz.func62 Z Z Z fun H w=>?_;refine gSR<|Eb Z (bx 1 Z) fun v1=>Eb Z (bx 2 Z) fun v2=>Zb Z<|gSR<|Zq (faB 1 Z Z Tryz.underlying43 Z (by exact z64))<|Zq (ld 1 Z Z (fP (z4k _)) z9r Z)<|Zq (faB 2 Z Z Tryz.underlying43 Z (by exact z64))<|Zq (ld 2 Z Z (fP (z4k _)) z9r Z)<|Zq (W.eql Z Z)<|Zm Z<|z19 10 Z (fun h3=>?_) (fun h3=>?_)
 ·refine lKn 9 Z h3<|z0w Zx Z Z (faB 1 Z Z Tryz.underlying43 Z (by exact za8))<|z0w Zx Z Z (ld 1 Z Z (fP (z16 _)) zeh Z)<|z0w Zx Z Z (faB 2 Z Z Tryz.underlying43 Z (by exact za8))<|z0w Zx Z Z (ld 2 Z Z (fP (z16 _)) zeh Z)<|zcs [] [] Zx Z Tryz.func27 Z Z (zhb _ _) (Y2 Z Z) rN fun r4 n5=>Zq (pkT Z Z)<|Zm Z<|z19 17 Z (fun h6=>?_) (fun h6=>?_)
  ·refine lKn 15 Z h6<|lKn 16 Z h6<|z0w Zx Z Z (faB 1 Z Z Tryz.underlying43 Z (by exact zo8))<|z0w Zx Z Z (ld 1 Z Z (fP (z7s _)) ztl Z)<|z0w Zx Z Z (faB 2 Z Z Tryz.underlying43 Z (by exact zo8))<|z0w Zx Z Z (ld 2 Z Z (fP (z7s _)) ztl Z)<|z0w Zx Z Z (U.eql Z Z)<|Zq (pkT Z Z)<|Zm Z<|z19 24 Z (fun h7=>?_) (fun h7=>?_)
   ·refine lKn 22 Z h7<|lKn 23 Z h7<|z0w Zx Z Z (faB 1 Z Z Tryz.underlying43 Z (by exact zgq))<|z0w Zx Z Z (ld 1 Z Z (fP (z2s _)) zrk Z)<|z0w Zx Z Z (faB 2 Z Z Tryz.underlying43 Z (by exact zgq))<|z0w Zx Z Z (ld 2 Z Z (fP (z2s _)) zrk Z)<|z0w Zx Z Z (eqA Z Z eq39 Z Z gq39)<|Zq (pkT Z Z)<|Zm Z<|z19 31 Z (fun h8=>?_) (fun h8=>?_)
    ·refine lKn 29 Z h8<|lKn 30 Z h8<|z0w Zx Z Z (faB 1 Z Z Tryz.underlying43 Z (by exact zqn))<|z0w Zx Z Z (ld 1 Z Z (fP (z3p _)) ty41 Z)<|z0w Zx Z Z (faB 2 Z Z Tryz.underlying43 Z (by exact zqn))<|z0w Zx Z Z (ld 2 Z Z (fP (z3p _)) ty41 Z)<|z0w Zx Z Z (eqA Z Z eq41 Z Z gq41)<|Zq (pkT Z Z)<|Za Z<|z1o 4 Z fun y9=>Zn<|z0o<|Ze [] [] Z
    ·refine lKn 29 Z h8<|lKn 30 Z h8<|Zk Z<|Zk Z<|Zk Z<|Zk Z<|Zk Z<|Zq (pkF Z Z)<|Zb Z<|z0o<|Ze [] [] Z
   ·refine lKn 22 Z h7<|lKn 23 Z h7<|Zk Z<|Zk Z<|Zk Z<|Zk Z<|Zk Z<|Zq (pkF Z Z)<|Zm Z<|Zk Z<|Zk Z<|Zk Z<|Zk Z<|Zk Z<|Zq (pkF Z Z)<|Zb Z<|z0o<|Ze [] [] Z
  ·refine lKn 15 Z h6<|lKn 16 Z h6<|Zk Z<|Zk Z<|Zk Z<|Zk Z<|Zk Z<|Zq (pkF Z Z)<|Zm Z<|Zk Z<|Zk Z<|Zk Z<|Zk Z<|Zk Z<|Zq (pkF Z Z)<|Zm Z<|Zk Z<|Zk Z<|Zk Z<|Zk Z<|Zk Z<|Zq (pkF Z Z)<|Zb Z<|z0o<|Ze [] [] Z
 ·refine lKn 9 Z h3<|Zk Z<|Zk Z<|Zk Z<|Zk Z<|Zk Z<|Zq (pkF Z Z)<|Zm Z<|Zk Z<|Zk Z<|Zk Z<|Zk Z<|Zk Z<|Zq (pkF Z Z)<|Zm Z<|Zk Z<|Zk Z<|Zk Z<|Zk Z<|Zk Z<|Zq (pkF Z Z)<|Zm Z<|Zk Z<|Zk Z<|Zk Z<|Zk Z<|Zk Z<|Zq (pkF Z Z)<|Zb Z<|z0o<|Ze [] [] Z
def z73 (a0:z03):Option (Bool) :=
 if decide (20<(a0.Preds.length:Int)) then
  some true
 else
  if decide (100<(a0.Act.Key.length:Int)) then
   some true
  else
   some (decide (100<(a0.Act.Value.Text.length:Int))) >>= fun y4 =>
   some y4
theorem zit (a0:z03):z2b Tryz.prog 67 [.rd z05 a0] [] (z73 a0) (fun r nv=>⟨[.rd z0l r],[]⟩):=by
 refine z2n 22 Tryz.func67 Z Z Z fun H w=>?_;refine gSR<|Eb Z (bx 1 Z) fun v1=>Zb Z<|gSR<|Zq (faB 1 Z Z Tryz.underlying43 Z (by exact za8))<|Zq (ld 1 Z Z (fP (z16 _)) zeh Z)<|Zq (z2v Z .rd Z tu29)<|Zq (I.gtr Z Z)<|Zm Z<|z19 7 Z (fun h2=>?_) (fun h2=>?_)
 ·refine lKn 6 Z h2<|Zk Z<|Zk Z<|Zk Z<|Zk Z<|Zk Z<|Zq (pkT Z Z)<|Zm Z<|Zk Z<|Zk Z<|Zk Z<|Zk Z<|Zk Z<|Zk Z<|Zq (pkT Z Z)<|Zb Z<|z0o<|Ze [] [] Z
 ·refine lKn 6 Z h2<|z0w Zx Z Z (faB 1 Z Z Tryz.underlying43 Z (by exact zgq))<|z0w Zx Z Z (faB 1 Z Z Tryz.underlying39 Z (by exact ti9))<|z0w Zx Z Z (ld 1 Z Z ((fP (z2s _)).part (z48 _)) ty9 Z)<|z0w Zx Z Z (lenT Z Z tu9)<|z0w Zx Z Z (I.gtr Z Z)<|Zq (pkF Z Z)<|Zm Z<|z19 14 Z (fun h3=>?_) (fun h3=>?_)
  ·refine lKn 12 Z h3<|lKn 13 Z h3<|Zk Z<|Zk Z<|Zk Z<|Zk Z<|Zk Z<|Zk Z<|Zq (pkT Z Z)<|Zb Z<|z0o<|Ze [] [] Z
  ·refine lKn 12 Z h3<|lKn 13 Z h3<|z0w Zx Z Z (faB 1 Z Z Tryz.underlying43 Z (by exact zgq))<|z0w Zx Z Z (faB 1 Z Z Tryz.underlying39 Z (by exact zcl))<|z0w Zx Z Z (faB 1 Z Z Tryz.underlying37 Z (by exact ti9))<|z0w Zx Z Z (ld 1 Z Z (((fP (z2s _)).part (z3t _)).part (z2u _)) ty9 Z)<|z0w Zx Z Z (lenT Z Z tu9)<|z0w Zx Z Z (I.gtr Z Z)<|Zq (pkF Z Z)<|Za Z<|z1o 2 Z fun y4=>Zn<|z0o<|Ze [] [] Z
def z51 (a0:z0f) (s3:Int):Option (Sum (Sum Bool Unit) Int) :=
 if decide (s3<(a0.Ops.length:Int)) then
  if decide (s3≤70) then
   idx a0.Ops s3 >>= fun x6 =>
   z73 x6 >>= fun r8 =>
   if r8 then
    some (.inl (.inl true))
   else
    some (.inr (w64 (s3+1)))
  else
   some (.inl (.inr ()))
 else
  some (.inl (.inr ()))
def z4m (a0:z0f):Option (Bool) :=
 z5o (iter (z51 a0) 0) fun s2 =>
 if decide (16<(a0.Ops.length:Int)) then
  if decide ((a0.Ops.length:Int)≤60) then
   some true
  else
   if decide (70<(a0.Ops.length:Int)) then
    some true
   else
    some (decide (70<(a0.IDs.length:Int))) >>= fun y14 =>
    some y14
 else
  if decide (70<(a0.Ops.length:Int)) then
   some true
  else
   some (decide (70<(a0.IDs.length:Int))) >>= fun y16 =>
   some y16
theorem zee (a0:z0f):z2b Tryz.prog 29 [.rd z11 a0] [] (z4m a0) (fun r nv=>⟨[.rd z0l r],[]⟩):=by
 refine z2n 43 Tryz.func29 Z Z Z fun H w=>?_;refine gSR<|Eb Z (bx 1 Z) fun v1=>Zb Z<|z7j (fun (s2:Unit) aa ww=>Sta (ctx 43 H [] w) [(1,.val (z0j v1 0))] [(1,some (v1,.box 66 [.rd z11 a0]))] aa ww) ?_ (fun s2=>?_)
 ·refine gSR<|Zb Z<|z2a (fun (s3:Int) aa ww=>Sta (ctx 43 H [] w) [(1,.val (z0j v1 0)),(3,.rd z0k s3)] [(1,some (v1,.box 66 [.rd z11 a0]))] aa ww) (fun aa ww h=>Zu h [1]) (fun s3=>?_);refine z0v<|gSR<|Zm Z<|Zq (faB 1 Z Z Tryz.underlying66 Z (by exact zlm))<|Zq (ld 1 Z Z (fP (z12 _)) zli Z)<|Zq (z2v Z .rd Z tu22)<|Zq (I.lss Z Z)<|Zm Z<|z19 9 Z (fun h4=>?_) (fun h4=>?_)
  ·refine lKn 8 Z h4<|z0w Zx Z Z (mv Z)<|z0w Zx Z Z (I.leq Z Z)<|Zq (pkT Z Z)<|Zj Z (fun h5=>?_) (fun h5=>?_)
   ·refine gKn 11 Z h5<|Zt<|z0v<|z5b<|gSR<|Zq (faB 1 Z Z Tryz.underlying66 Z (by exact zlm))<|Zq (ld 1 Z Z (fP (z12 _)) zli Z)<|Zm Z<|z0m fun x6 h7=>Zq (ixR Z Z h7 tu22 z6w Z)<|Zq (ldR Z z8y)<|Zc [] [] Tryz.func67 Z (zit _) fun r8 n9=>Zj Z (fun h10=>?_) (fun h10=>?_)
    ·refine gSR<|Zb Z<|z0o<|z44<|z0q<|z6t<|z4g<|Ze [] [] Z
    ·refine z31<|z3f<|z0z<|z20<|Zm Z<|Zq (I.add Z Z)<|Za Z<|z1g<|z1q (fun aa ww h=>Zu h [1])
   ·refine gKn 11 Z h5<|z21<|z15<|z17<|z5k (fun aa ww h=>Zu h [1])
  ·refine lKn 8 Z h4<|Zk Z<|Zk Z<|Zq (pkF Z Z)<|Zn<|zbu Z<|z21<|z15<|z17<|z5k (fun aa ww h=>Zu h [1])
 ·refine gSR<|Zq (faB 1 Z Z Tryz.underlying66 Z (by exact zlm))<|Zq (ld 1 Z Z (fP (z12 _)) zli Z)<|Zq (z2v Z .rd Z tu22)<|Zq (I.gtr Z Z)<|Zm Z<|z19 25 Z (fun h11=>?_) (fun h11=>?_)
  ·refine lKn 24 Z h11<|z0w Zx Z Z (faB 1 Z Z Tryz.underlying66 Z (by exact zlm))<|z0w Zx Z Z (ld 1 Z Z (fP (z12 _)) zli Z)<|z0w Zx Z Z (z2v Z .rd Z tu22)<|z0w Zx Z Z (I.leq Z Z)<|Zq (pkT Z Z)<|Zm Z<|z19 31 Z (fun h12=>?_) (fun h12=>?_)
   ·refine lKn 29 Z h12<|lKn 30 Z h12<|Zk Z<|Zk Z<|Zk Z<|Zk Z<|Zq (pkT Z Z)<|Zm Z<|Zk Z<|Zk Z<|Zk Z<|Zk Z<|Zq (pkT Z Z)<|Zb Z<|z0o<|Ze [] [] Z
   ·refine lKn 29 Z h12<|lKn 30 Z h12<|z0w Zx Z Z (faB 1 Z Z Tryz.underlying66 Z (by exact zlm))<|z0w Zx Z Z (ld 1 Z Z (fP (z12 _)) zli Z)<|z0w Zx Z Z (z2v Z .rd Z tu22)<|z0w Zx Z Z (I.gtr Z Z)<|Zq (pkF Z Z)<|Zm Z<|z19 37 Z (fun h13=>?_) (fun h13=>?_)
    ·refine lKn 35 Z h13<|lKn 36 Z h13<|Zk Z<|Zk Z<|Zk Z<|Zk Z<|Zq (pkT Z Z)<|Zb Z<|z0o<|Ze [] [] Z
    ·refine lKn 35 Z h13<|lKn 36 Z h13<|z0w Zx Z Z (faB 1 Z Z Tryz.underlying66 Z (by exact za8))<|z0w Zx Z Z (ld 1 Z Z (fP (z1y _)) zeh Z)<|z0w Zx Z Z (z2v Z .rd Z tu29)<|z0w Zx Z Z (I.gtr Z Z)<|Zq (pkF Z Z)<|Za Z<|z1o 2 Z fun y14=>Zn<|z0o<|Ze [] [] Z
  ·refine lKn 24 Z h11<|Zk Z<|Zk Z<|Zk Z<|Zk Z<|Zq (pkF Z Z)<|Zm Z<|z0w Zx Z Z (faB 1 Z Z Tryz.underlying66 Z (by exact zlm))<|z0w Zx Z Z (ld 1 Z Z (fP (z12 _)) zli Z)<|z0w Zx Z Z (z2v Z .rd Z tu22)<|z0w Zx Z Z (I.gtr Z Z)<|Zq (pkF Z Z)<|Zm Z<|z19 37 Z (fun h15=>?_) (fun h15=>?_)
   ·refine lKn 35 Z h15<|lKn 36 Z h15<|Zk Z<|Zk Z<|Zk Z<|Zk Z<|Zq (pkT Z Z)<|Zb Z<|z0o<|Ze [] [] Z
   ·refine lKn 35 Z h15<|lKn 36 Z h15<|z0w Zx Z Z (faB 1 Z Z Tryz.underlying66 Z (by exact za8))<|z0w Zx Z Z (ld 1 Z Z (fP (z1y _)) zeh Z)<|z0w Zx Z Z (z2v Z .rd Z tu29)<|z0w Zx Z Z (I.gtr Z Z)<|Zq (pkF Z Z)<|Za Z<|z1o 2 Z fun y16=>Zn<|z0o<|Ze [] [] Z
end
section
open Go Go.Shelf
def zxi:Go.Shelf.Ren:=⟨fun | 6=>87 | 15=>94 | 14=>130 | 28=>139 | 29=>105 | 20=>172 | 21=>173 | 22=>174 | 23=>175 | 24=>176 | 25=>177 | 26=>178 | 27=>179 | 46=>210 | 47=>181 | 48=>182 | 49=>211 | 50=>212 | 57=>231 | n=>n, fun | 22=>88 | 24=>94 | 25=>137 | 3=>3 | 39=>143 | 0=>0 | 53=>34 | 55=>35 | 4=>4 | 46=>181 | 45=>180 | 50=>106 | 5=>5 | 9=>9 | 66=>225 | 70=>229 | 76=>260 | 77=>261 | n=>n, fun | n=>n⟩
theorem z147:Go.Proofs.SlLaysF0.n6 Tryz.prog zxi:={
 mixed:=by kernel_rfl
 f6:=⟨Tryz.f87.name, by decide,Tryz.func87.trans (congrArg some (by kernel_rfl))⟩
 f14:=⟨Tryz.f130.name, by decide,Tryz.func130.trans (congrArg some (by kernel_rfl))⟩
 f15:=Tryz.func94.trans (congrArg some (by kernel_rfl))
 f20:=⟨Tryz.f172.name, by decide,Tryz.func172.trans (congrArg some (by kernel_rfl))⟩
 f21:=⟨Tryz.f173.name, by decide,Tryz.func173.trans (congrArg some (by kernel_rfl))⟩
 f22:=⟨Tryz.f174.name, by decide,Tryz.func174.trans (congrArg some (by kernel_rfl))⟩
 f23:=⟨Tryz.f175.name, by decide,Tryz.func175.trans (congrArg some (by kernel_rfl))⟩
 f24:=⟨Tryz.f176.name, by decide,Tryz.func176.trans (congrArg some (by kernel_rfl))⟩
 f25:=⟨Tryz.f177.name, by decide,Tryz.func177.trans (congrArg some (by kernel_rfl))⟩
 f26:=⟨Tryz.f178.name, by decide,Tryz.func178.trans (congrArg some (by kernel_rfl))⟩
 f27:=⟨Tryz.f179.name, by decide,Tryz.func179.trans (congrArg some (by kernel_rfl))⟩
 f28:=Tryz.func139.trans (congrArg some (by kernel_rfl))
 f29:=Tryz.func105.trans (congrArg some (by kernel_rfl))
 f46:=⟨Tryz.f210.name, by decide,Tryz.func210.trans (congrArg some (by kernel_rfl))⟩
 f47:=Tryz.func181.trans (congrArg some (by kernel_rfl))
 f48:=Tryz.func182.trans (congrArg some (by kernel_rfl))
 f49:=⟨Tryz.f211.name, by decide,Tryz.func211.trans (congrArg some (by kernel_rfl))⟩
 f50:=⟨Tryz.f212.name, by decide,Tryz.func212.trans (congrArg some (by kernel_rfl))⟩
 f57:=⟨Tryz.f231.name, by decide,Tryz.func231.trans (congrArg some (by kernel_rfl))⟩
 t0:=Tryz.underlying0
 a0:=Tryz.isAgg0
 z0:=Tryz.sizeOf0
 v0:=Tryz.zeroValue0
 t3:=Tryz.underlying3
 a3:=Tryz.isAgg3
 z3:=Tryz.sizeOf3
 v3:=Tryz.zeroValue3
 t4:=Tryz.underlying4
 a4:=Tryz.isAgg4
 z4:=Tryz.sizeOf4
 v4:=Tryz.zeroValue4
 t5:=Tryz.underlying5
 a5:=Tryz.isAgg5
 z5:=Tryz.sizeOf5
 v5:=Tryz.zeroValue5
 t9:=Tryz.underlying9
 a9:=Tryz.isAgg9
 z9:=Tryz.sizeOf9
 v9:=Tryz.zeroValue9
 t22:=Tryz.underlying88
 a22:=Tryz.isAgg88
 z22:=Tryz.sizeOf88
 v22:=Tryz.zeroValue88
 t25:=Tryz.underlying137
 a25:=Tryz.isAgg137
 z25:=Tryz.sizeOf137
 v25:=Tryz.zeroValue137
 t39:=Tryz.underlying143
 a39:=Tryz.isAgg143
 z39:=Tryz.sizeOf143
 v39:=Tryz.zeroValue143
 t45:=Tryz.underlying180
 a45:=Tryz.isAgg180
 z45:=Tryz.sizeOf180
 v45:=Tryz.zeroValue180
 t46:=Tryz.underlying181
 a46:=Tryz.isAgg181
 z46:=Tryz.sizeOf181
 v46:=Tryz.zeroValue181
 t50:=Tryz.underlying106
 a50:=Tryz.isAgg106
 z50:=Tryz.sizeOf106
 v50:=Tryz.zeroValue106
 t53:=Tryz.underlying34
 a53:=Tryz.isAgg34
 z53:=Tryz.sizeOf34
 v53:=Tryz.zeroValue34
 t55:=Tryz.underlying35
 a55:=Tryz.isAgg35
 z55:=Tryz.sizeOf35
 v55:=Tryz.zeroValue35
 t66:=Tryz.underlying225
 a66:=Tryz.isAgg225
 z66:=Tryz.sizeOf225
 v66:=Tryz.zeroValue225
 t70:=Tryz.underlying229
 a70:=Tryz.isAgg229
 z70:=Tryz.sizeOf229
 v70:=Tryz.zeroValue229
 t76:=Tryz.underlying260
 a76:=Tryz.isAgg260
 z76:=Tryz.sizeOf260
 v76:=Tryz.zeroValue260
 t77:=Tryz.underlying261
 a77:=Tryz.isAgg261
 z77:=Tryz.sizeOf261
 v77:=Tryz.zeroValue261 }
end
end Go.Proofs.YtojceajkeefnpaaGreatDoor
