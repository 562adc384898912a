import Derived.Test.YtefkialcgmohkaaGreatDoorZb
set_option linter.unusedSimpArgs false
set_option linter.unusedVariables false
namespace Go.Proofs.YtefkialcgmohkaaGreatDoor
section
open Go Go.RowKit
set_option maxRecDepth 100000
theorem zgj (a1:Int):z1u Tryz.prog 173 [.val (.slice none 0 0),.rd z0e a1] [] (z4g a1) (fun r nv=>⟨[.val (nv 0)],[(100,some (nv 0,.list u8R 5 r))]⟩):=by
 refine z2d 27 Tryz.func173 Z Z Z fun H w=>?_
 refine gSR<|Zb Z<|z0s<|gSR<|Zm Z<|Zq (I.lss Z Z)<|Zj Z (fun h1=>?_) (fun h1=>?_)
 ·
  refine z19e
 ·
  refine Zt<|z0s<|gSR<|Zm Z<|Zm Z<|Zq (capN Z Z tu75)<|Zm Z<|z151 u8R 11 Z<|Zq (z3g Z .rd Z tu75)<|Zq (I.sub Z Z)<|Zq (I.sub Z Z)<|Za Z<|z1t 1 Z fun y2=>Zn<|gSR<|Zm Z<|Zq (I.gtr Z Z)<|Zj Z (fun h3=>?_) (fun h3=>?_)
  ·
   refine z2e<|Zm Z<|Zm Z<|Zq (capN Z Z tu75)<|Zq (cutN Z Z tu75 ti5)<|Zm Z<|z0n fun x4 h5=>Ef Z (apZ 1 Z Z h5 tu75 tu3 ti5 (Zr.num Z) Z) fun v6=>Zm Z<|z151 u8R 23 Z<|Zq (z3g Z .rd Z tu75)<|z0n fun x7 h8=>Ef Z (cutO 1 Z Z Z h8 tu75 ti5) fun v9=>Zb Z<|gSR<|Zm Z<|Zb Z<|z0k<|Ze [v9] [1] Z
  ·
   refine Zt<|gSR<|Zm Z<|Zb Z<|z0k<|zuf u8R 5 2<|Ze [(.slice none 0 0)] [2] Z
def z14 (a0:List (List UInt8)) (s2:Int × Int):Option (Sum Int (Int × Int)) :=
 if decide (s2.2<(a0.length:Int)) then
  idx a0 s2.2 >>= fun x4 =>
  some (w64 (s2.1+(x4.length:Int))) >>= fun y6 =>
  if decide (y6<0) then
   none
  else
   some (.inr (y6,w64 (s2.2+1)))
 else
  some (.inl s2.1)
def z13 (a0:List (List UInt8)) (s11:(List UInt8) × Int):Option (Sum ((List UInt8)) ((List UInt8) × Int)) :=
 if decide (s11.2<(a0.length:Int)) then
  idx a0 s11.2 >>= fun x14 =>
  app 1 s11.1 x14 >>= fun x16 =>
  some (.inr (x16,w64 (s11.2+1)))
 else
  some (.inl s11.1)
def z2k (a0:List (List UInt8)):Option ((List UInt8)) :=
 (iter (z14 a0) (0,0)) >>= fun s1 =>
 z4g s1 >>= fun r8 =>
 (iter (z13 a0) (r8,0)) >>= fun s10 =>
 some s10
theorem z7m (a0:List (List UInt8)):z1u Tryz.prog 130 [.rd (z02 (z02 u8R)) a0] [] (z2k a0) (fun r nv=>⟨[.val (nv 0)],[(100,some (nv 0,.list u8R 5 r))]⟩):=by
 refine z2d 36 Tryz.func130 Z Z Z fun H w=>?_
 refine gSR<|Zb Z<|gSR<|Zb Z<|z8n (fun (s1:Int) aa ww=>Sta (ctx 36 H [] w) [(0,.rd (z02 (z02 u8R)) a0),(3,.rd z0e s1)] [] aa ww) ?_ (fun s1=>?_)
 ·
  refine gSR<|Zm Z<|Zq (z3g Z .rd Z tu42)<|Zm Z<|Zn<|z26 (fun (s2:Int × Int) aa ww=>Sta (ctx 36 H [] w) [(0,.rd (z02 (z02 u8R)) a0),(3,.rd z0e s2.1),(9,.rd (z02 (z02 u8R)) a0),(10,.rd z0e (a0.length:Int)),(11,.rd z0e s2.2)] [] aa ww) (fun aa ww h=>Zu h []) (fun s2=>?_)
  refine gSR<|Zq (I.lss Z Z)<|Zn<|z0s<|gIf Z Z (fun h3=>?_) (fun h3=>?_)
  ·
   refine Zt<|z0s<|z4y<|gSR<|z0n fun x4 h5=>Zq (ixR Z Z h5 tu42 zpy Z)<|Zq (ldR Z ty75)<|Zb Z<|gSR<|Zm Z<|Zm Z<|Zq (z3g Z .rd Z tu75)<|Zq (I.add Z Z)<|Za Z<|z1t 3 Z fun y6=>Zn<|gSR<|Zm Z<|Zq (I.lss Z Z)<|Zj Z (fun h7=>?_) (fun h7=>?_)
   ·
    refine z19e
   ·
    refine z2m<|z35<|z0o<|z2e<|Zq (I.add Z Z)<|Zm Z<|z1q<|z1k (fun aa ww h=>Zu h [])
  ·
   refine z1s<|z0x<|z0y<|z3n (fun aa ww h=>Zu h [])
 ·
  refine gSR<|Zm Z<|Zc [] [(100,1)] Tryz.func173 Z (zgj _) fun r8 n9=>Zb Z<|z8n (fun (s10:(List UInt8)) aa ww=>∃ nv:Nat→Value,Sta (ctx 36 H [] w) [(6,.val (nv 0))] [(1,some ((nv 0),.list u8R 5 s10))] aa ww) ?_ (fun s10=>?_)
  ·
   refine gSR<|Zm Z<|Zq (z3g Z .rd Z tu42)<|Zm Z<|Zn<|z26 (fun (s11:(List UInt8) × Int) aa ww=>∃ nv:Nat→Value,Sta (ctx 36 H [] w) [(6,.val (nv 0)),(25,.rd (z02 (z02 u8R)) a0),(26,.rd z0e (a0.length:Int)),(27,.rd z0e s11.2)] [(1,some ((nv 0),.list u8R 5 s11.1))] aa ww) (fun aa ww h=>⟨nvl [(n9 0)],Zu h [1]⟩) (fun s11=>?_)
   refine gEx fun n12=>gSR<|Zq (I.lss Z Z)<|Zn<|z0s<|gIf Z Z (fun h13=>?_) (fun h13=>?_)
   ·
    refine Zt<|z0s<|z4y<|gSR<|z0n fun x14 h15=>Zq (ixR Z Z h15 tu42 zpy Z)<|Zq (ldR Z ty75)<|Zb Z<|z2e<|Zm Z<|Zm Z<|z0n fun x16 h17=>Ef Z (apn 1 Z Z Z .rd h17 tu75 ti5 Z Z Z) fun v18=>Za Z<|z1q<|z35<|z0o<|z2e<|Zq (I.add Z Z)<|Zm Z<|z1q<|z1k (fun aa ww h=>⟨nvl [v18],Zu h [1]⟩)
   ·
    refine z1s<|z0x<|z0y<|z3n (fun aa ww h=>⟨nvl [(n12 0)],Zu h [1]⟩)
  ·
   refine gEx fun n19=>gSR<|Zm Z<|Zb Z<|z0k<|Ze [(n19 0)] [1] Z
def zdk (a0:List UInt8):Option ((List UInt8) × Int) :=
 if decide (10000<(a0.length:Int)) then
  some ([],4)
 else
  z54 (UInt64.ofInt (a0.length:Int)) >>= fun r2 =>
  app 1 r2 a0 >>= fun x4 =>
  some (x4,0)
theorem zhb (a0:List UInt8):z1u Tryz.prog 102 [.rd (z02 u8R) a0] [] (zdk a0) (fun r nv=>⟨[.val (nv 0),.rd z0e r.2],[(100,some (nv 0,.list u8R 5 r.1))]⟩):=by
 refine z2d 13 Tryz.func102 Z Z Z fun H w=>?_
 refine gSR<|Za Z<|Zb Z<|z0s<|gSR<|Zm Z<|Zq (z3g Z .rd Z tu75)<|Zq (I.gtr Z Z)<|Zj Z (fun h1=>?_) (fun h1=>?_)
 ·
  refine gSR<|Za Z<|Zb Z<|z0k<|z0w<|zuf u8R 5 1<|Ze [(.slice none 0 0)] [1] Z
 ·
  refine Zt<|gSR<|Zm Z<|Zq (z3g Z .rd Z tu75)<|Zq (I.toU Z tu3 tu41)<|Zc [] [(100,2)] Tryz.func101 Z (z59 _) fun r2 n3=>Zm Z<|z0n fun x4 h5=>Ef Z (apn 2 Z Z Z .rd h5 tu75 ti5 Z Z Z) fun v6=>Za Z<|Zb Z<|z0k<|Ze [v6] [2] Z
def zhe (a0:Int):Option ((List UInt8)) :=
 z54 ((zru (UInt64.ofInt a0) 1) ^^^ (UInt64.ofInt (shrI a0 63))) >>= fun r1 =>
 some r1
theorem zpw (a0:Int):z1u Tryz.prog 204 [.rd z0e a0] [] (zhe a0) (fun r nv=>⟨[.val (nv 0)],[(100,some (nv 0,.list u8R 5 r))]⟩):=by
 refine z2d 11 Tryz.func204 Z Z Z fun H w=>?_
 refine gSR<|Zb Z<|gSR<|Zm Z<|Zq (I.toU Z Tryz.underlying2 tu41)<|Zq (U.shl Z Z (Int.natCast_nonneg _))<|Zm Z<|Zq (I.shr Z Z (Int.natCast_nonneg _))<|Zq (I.toU Z Tryz.underlying2 tu41)<|Zq (U.xor Z Z)<|Zc [] [(100,1)] Tryz.func101 Z (z59 _) fun r1 n2=>Zb Z<|z0k<|Ze [(n2 0)] [1] Z
def zam (a0:z04) (s14:(List UInt8) × Int):Option (Sum ((List UInt8)) ((List UInt8) × Int)) :=
 if decide (0≤s14.2) then
  chk (0≤s14.2) >>= fun u17 =>
  app 1 s14.1 [(z9b a0.Bits ((s14.2:Int).toNat)).toUInt8] >>= fun x20 =>
  some (w64 (s14.2 - 8)) >>= fun y23 =>
  some (.inr (x20,y23))
 else
  some (.inl s14.1)
def zg3 (a0:z04):Option ((List UInt8) × Int) :=
 zfd a0 >>= fun r2 =>
 if r2 != 0 then
  some ([],r2)
 else
  (if a0.Kind==1 then
   zhe a0.Num >>= fun r8 =>
   app 1 [a0.Kind] r8 >>= fun x10 =>
   some x10
  else
   if a0.Kind==2 then
    iter (zam a0) ([a0.Kind],56)
   else
    if a0.Kind==3 then
     chk (a0.Text.length≤281474976710656) >>= fun u25 =>
     zdk a0.Text >>= fun r27 =>
     app 1 [a0.Kind] r27.1 >>= fun x29 =>
     some x29
    else
     some [a0.Kind]) >>= fun s6 =>
  some (s6,0)
theorem zol (a0:z04):z1u Tryz.prog 172 [.rd z28 a0] [] (zg3 a0) (fun r nv=>⟨[.val (nv 0),.rd z0e r.2],[(100,some (nv 0,.list u8R 5 r.1))]⟩):=by
 refine z2d 53 Tryz.func172 Z Z Z fun H w=>?_
 refine gSR<|Eb Z (bx 1 Z) fun v1=>Za Z<|Zb Z<|z0s<|gSR<|Zq (ld 1 Z Z fH zum Z)<|Zc [] [] Tryz.func203 Z (zju _) fun r2 n3=>Zb Z<|gSR<|Zm Z<|Zq (I.neq Z Z)<|Zj Z (fun h4=>?_) (fun h4=>?_)
 ·
  refine gSR<|Zm Z<|Za Z<|Zb Z<|z0k<|z0w<|zuf u8R 5 2<|Ze [(.slice none 0 0)] [2] Z
 ·
  refine Zt<|gSR<|Zq (faB 1 Z Z Tryz.underlying67 Z (by exact ti5))<|Zq (ld 1 Z Z (fP (z3d _)) ty5 Z)<|Ef Z (lit (R:=u8R) ([a0.Kind]:List UInt8) 3 (pP Z Z<|pN) Z tu75 ti5 Z Z) fun v5=>Zb Z<|z8n (fun (s6:(List UInt8)) aa ww=>∃ nv:Nat→Value,Sta (ctx 53 H [] w) [(5,.val (nv 0))] [(3,some ((nv 0),.list u8R 5 s6))] aa ww) ?_ (fun s6=>?_)
  ·
   refine gSR<|Zq (faB 1 Z Z Tryz.underlying67 Z (by exact ti5))<|Zq (ld 1 Z Z (fP (z3d _)) ty5 Z)<|Zn<|z4y<|gSR<|Zq (B.eql Z Z)<|Zb Z<|gIf Z Z (fun h7=>?_) (fun h7=>?_)
   ·
    refine gKn 20 Z h7<|z2e<|Zm Z<|Zq (faB 1 Z Z Tryz.underlying67 Z (by exact ti2))<|Zq (ld 1 Z Z (fP (z7o _)) ty2 Z)<|Zc [] [(100,4)] Tryz.func204 Z (zpw _) fun r8 n9=>z0n fun x10 h11=>Ef Z (apn 3 Z Z Z (.own 4 Z) h11 tu75 ti5 Z Z Z) fun v12=>Za Z<|z1q<|z35<|z3n (fun aa ww h=>⟨nvl [v12],Zu h [3]⟩)
   ·
    refine gKn 20 Z h7<|gSR<|Zq (B.eql Z Z)<|Zb Z<|gIf Z Z (fun h13=>?_) (fun h13=>?_)
    ·
     refine gKn 27 Z h13<|gSR<|Zb Z<|z26 (fun (s14:(List UInt8) × Int) aa ww=>∃ nv:Nat→Value,Sta (ctx 53 H [] w) [(1,.val (z06 v1 0)),(5,.val (nv 0)),(6,.rd z0e s14.2)] [(1,some (v1,.box 67 [.rd z28 a0])),(3,some ((nv 0),.list u8R 5 s14.1))] aa ww) (fun aa ww h=>⟨nvl [v5],Zu h [1,3]⟩) (fun s14=>?_)
     refine gEx fun n15=>z0s<|gSR<|Zm Z<|Zq (I.geq Z Z)<|Zj Z (fun h16=>?_) (fun h16=>?_)
     ·
      refine Zt<|z0s<|z4y<|z2e<|Zm Z<|Zq (faB 1 Z Z Tryz.underlying67 Z (by exact zsa))<|Zq (ld 1 Z Z (fP (z4c _)) zry Z)<|Zm Z<|z0n fun u17 h18=>Zq (U.shr Z Z (z4i h18))<|Zq (U.toB Z tu41 tu5)<|Ef Z (lit (R:=u8R) ([(z9b a0.Bits ((s14.2:Int).toNat)).toUInt8]:List UInt8) 5 (pP Z Z<|pN) Z tu75 ti5 Z Z) fun v19=>z0n fun x20 h21=>Ef Z (apn 3 Z Z Z (.own 5 Z) h21 tu75 ti5 Z Z Z) fun v22=>Za Z<|z1q<|z35<|z0o<|z2e<|Zm Z<|Zq (I.sub Z Z)<|Za Z<|z1t 6 Z fun y23=>z1q<|z1k (fun aa ww h=>⟨nvl [v22],Zu h [1,3]⟩)
     ·
      refine z1s<|z0x<|z0y<|z35<|z3n (fun aa ww h=>⟨nvl [(n15 0)],Zu h [3]⟩)
    ·
     refine gKn 27 Z h13<|gSR<|Zq (B.eql Z Z)<|Zb Z<|gIf Z Z (fun h24=>?_) (fun h24=>?_)
     ·
      refine gKn 41 Z h24<|gSR<|Zq (faB 1 Z Z Tryz.underlying67 Z (by exact ti9))<|Zq (ld 1 Z Z (fP (z3u _)) ty9 Z)<|z0n fun u25 h26=>z149 Z Z h26 tu9 tu75 tu5<|Zc [] [(100,6)] Tryz.func102 Z (zhb _) fun r27 n28=>Zm Z<|Zq (ext Z Z)<|Zq (ext Z Z)<|Za Z<|Zb Z<|z2e<|Zm Z<|Zm Z<|z0n fun x29 h30=>Ef Z (apn 3 Z Z Z (.own 6 Z) h30 tu75 ti5 Z Z Z) fun v31=>Za Z<|z1q<|z35<|z3n (fun aa ww h=>⟨nvl [v31],Zu h [3]⟩)
     ·
      refine gKn 41 Z h24<|z2m<|z35<|z3n (fun aa ww h=>⟨nvl [v5],Zu h [3]⟩)
  ·
   refine gEx fun n32=>gSR<|Zm Z<|Za Z<|Zb Z<|z0k<|Ze [(n32 0)] [3] Z
def zgh (a0:z07):Option ((List UInt8) × Int) :=
 zh2 ({ a0 with Sig:=(⟨0,0⟩:z0c) }) >>= fun r2 =>
 if r2 != 0 then
  some ([],r2)
 else
  zl3 (({ a0 with Sig:=(⟨0,0⟩:z0c) }).Preds) >>= fun r5 =>
  z54 ((({ a0 with Sig:=(⟨0,0⟩:z0c) }).Author).toUInt64) >>= fun r7 =>
  z54 (({ a0 with Sig:=(⟨0,0⟩:z0c) }).Stamp) >>= fun r10 =>
  z2k [[111],r7,r5.1,r10,[(({ a0 with Sig:=(⟨0,0⟩:z0c) }).Act).Kind]] >>= fun r13 =>
  if ((({ a0 with Sig:=(⟨0,0⟩:z0c) }).Act).Kind)==1 then
   some (r13,0)
  else
   chk (((({ a0 with Sig:=(⟨0,0⟩:z0c) }).Act).Key).length≤281474976710656) >>= fun u18 =>
   zdk ((({ a0 with Sig:=(⟨0,0⟩:z0c) }).Act).Key) >>= fun r20 =>
   app 1 r13 r20.1 >>= fun x22 =>
   if ((({ a0 with Sig:=(⟨0,0⟩:z0c) }).Act).Kind)==4 then
    zg3 ((({ a0 with Sig:=(⟨0,0⟩:z0c) }).Act).Value) >>= fun r26 =>
    app 1 x22 r26.1 >>= fun x28 =>
    some (x28,0)
   else
    some (x22,0)
set_option maxHeartbeats 4000000 in
theorem zl9 (a0:z07):z1u Tryz.prog 129 [.rd z03 a0] [] (zgh a0) (fun r nv=>⟨[.val (nv 0),.rd z0e r.2],[(100,some (nv 0,.list u8R 5 r.1))]⟩):=by
 refine z2d 71 Tryz.func129 Z Z Z fun H w=>?_
 refine gSR<|Eb Z (bx 1 Z) fun v1=>Za Z<|Zb Z<|gSR<|Zq (bld (x':=(⟨0,0⟩:z0c)) [(0,1),(1,1)] Tryz.underlying71 zng Z zm6 Z (Bld.done Z))<|Zq (faB 1 Z Z Tryz.underlying73 Z (by exact zng))<|Es (sto 1 Z Z (fP (z2j _)) Z zng)<|Zn<|z0s<|gSR<|Zq (ld 1 Z Z fH z9n Z)<|Zc [] [] Tryz.func128 Z (zko _) fun r2 n3=>Zb Z<|gSR<|Zm Z<|Zq (I.neq Z Z)<|Zj Z (fun h4=>?_) (fun h4=>?_)
 ·
  refine gSR<|Zm Z<|Za Z<|Zb Z<|z0k<|z0w<|zuf u8R 5 2<|Ze [(.slice none 0 0)] [2] Z
 ·
  refine Zt<|gSR<|Zq (faB 1 Z Z Tryz.underlying73 Z (by exact z6e))<|Zq (ld 1 Z Z (fP (z0z _)) z8j Z)<|Zc [] [(100,3)] Tryz.func100 Z (zog _) fun r5 n6=>Zm Z<|Zq (ext Z Z)<|Zq (ext Z Z)<|Za Z<|Zb Z<|z0s<|gFrz 3 [23,5] Z (fS Z<|fS Z<|fN)<|zsc [(1,.val (z06 v1 0)),(5,.rd (z02 u8R) r5.1)] [(1,some (v1,.box 73 [.rd z03 ({ a0 with Sig:=(⟨0,0⟩:z0c) })]))] [1] (sS Z<|sS Z<|sN) (y1 Z)<|z4l fun r7 h9=>z4l fun r10 h12=>z4l fun r13 h15=>gOr [] [⟨4,none,[(0,none)]⟩,⟨1,some ([], fun nv=>(v1,.box 73 [.rd z03 ({ a0 with Sig:=(⟨0,0⟩:z0c) })])),[]⟩,⟨5,none,[(4,none)]⟩,⟨6,none,[(8,none)]⟩,⟨7,none,[(12,none)]⟩,⟨8,none,[(13,none)]⟩,⟨9,none,[(14,some ([6], fun nv=>((nv 6),.list u8R 5 r13)))]⟩] [⟨some (25,[], fun nv=>.rd (z02 u8R) [111]),[(0,0,true)],[1],[]⟩,pk 26 (.val (z06 v1 (0+0))) [(1,0,false)],pk 27 (.rd z0p (({ a0 with Sig:=(⟨0,0⟩:z0c) }).Author)) [(1,0,false)],pd 28 (.rd z2c ((({ a0 with Sig:=(⟨0,0⟩:z0c) }).Author).toUInt64)),⟨some (29,[], fun nv=>.rd (z02 u8R) r7),[(2,0,true)],[2],[]⟩,pd 30 (.rd (z02 u8R) r5.1),pk 31 (.val (z06 v1 (0+2))) [(1,0,false)],pk 32 (.rd z2c (({ a0 with Sig:=(⟨0,0⟩:z0c) }).Stamp)) [(1,0,false)],⟨some (33,[], fun nv=>.rd (z02 u8R) r10),[(3,0,true)],[3],[]⟩,pk 34 (.val (z06 v1 (0+3))) [(1,0,false)],pk 35 (.val (z06 v1 (0+3+0))) [(1,0,false)],pk 36 (.rd u8R ((({ a0 with Sig:=(⟨0,0⟩:z0c) }).Act).Kind)) [(1,0,false)],⟨some (37,[], fun nv=>.rd (z02 u8R) [(({ a0 with Sig:=(⟨0,0⟩:z0c) }).Act).Kind]),[(4,0,true)],[4],[]⟩,⟨some (38,[], fun nv=>.rd (z02 (z02 u8R)) [[111],r7,r5.1,r10,[(({ a0 with Sig:=(⟨0,0⟩:z0c) }).Act).Kind]]),[(5,0,true)],[5],[]⟩,⟨some (39,[6], fun nv=>.val (nv 6)),[(6,0,true)],[6],[]⟩,⟨some (7,[6], fun nv=>.val (nv 6)),[],[],[]⟩] mixed (oC (oFz (A1:=fun nv=>[(4,some ((nv 1),.list u8R 5 [111]))]) 4 1 (oEf 4 1 (fun nv E=>lit (R:=u8R) ([111]:List UInt8) 4 (pP Z Z<|pN) Z tu75 ti5 Z Z)))<|oC (oRn (fun nv E=>faB 1 Z Z Tryz.underlying73 Z (by exact z6p)))<|oC (oRn (fun nv E=>ld 1 Z Z (fP (z36 _)) zaj Z))<|oC (oRn (fun nv E=>W.toU Z tu65 tu41))<|oC (oFz (A1:=fun nv=>[(5,some ((nv 2),.list u8R 5 r7))]) 5 2 (oCl [2] [] [(100,5)] h9 Tryz.func101 Z (fun nv=>(z59 _)) (fun nv=>(Y1 Z)) (fun nv E=>rN)))<|oC (oRn (fun nv E=>mv Z))<|oC (oRn (fun nv E=>faB 1 Z Z Tryz.underlying73 Z (by exact zsa)))<|oC (oRn (fun nv E=>ld 1 Z Z (fP (z4o _)) zry Z))<|oC (oFz (A1:=fun nv=>[(6,some ((nv 3),.list u8R 5 r10))]) 6 3 (oCl [3] [] [(100,6)] h12 Tryz.func101 Z (fun nv=>(z59 _)) (fun nv=>(Y1 Z)) (fun nv E=>rN)))<|oC (oRn (fun nv E=>faB 1 Z Z Tryz.underlying73 Z (by exact zpv)))<|oC (oRn (fun nv E=>faB 1 Z Z Tryz.underlying69 Z (by exact ti5)))<|oC (oRn (fun nv E=>ld 1 Z Z ((fP (z29 _)).part (z3z _)) ty5 Z))<|oC (oFz (A1:=fun nv=>[(7,some ((nv 4),.list u8R 5 [(({ a0 with Sig:=(⟨0,0⟩:z0c) }).Act).Kind]))]) 7 4 (oEf 7 4 (fun nv E=>lit (R:=u8R) ([(({ a0 with Sig:=(⟨0,0⟩:z0c) }).Act).Kind]:List UInt8) 7 (pP Z Z<|pN) Z tu75 ti5 Z Z)))<|oC (oFz (A1:=fun nv=>[(8,some ((nv 5),.list (z02 u8R) 75 [[111],r7,r5.1,r10,[(({ a0 with Sig:=(⟨0,0⟩:z0c) }).Act).Kind]]))]) 8 5 (oEf 8 5 (fun nv E=>lit (R:=(z02 u8R)) ([[111],r7,r5.1,r10,[(({ a0 with Sig:=(⟨0,0⟩:z0c) }).Act).Kind]]:List (List UInt8)) 8 (pP Z Z<|pP Z Z<|pP Z Z<|pP Z Z<|pP Z Z<|pN) Z tu42 zpy Z Z)))<|oC (oCl [6] [] [(100,9)] h15 Tryz.func130 Z (fun nv=>(z7m _)) (fun nv=>(Y1 Z)) (fun nv E=>rN))<|oC (oRn (fun nv E=>asg Z))<|oN) fun n16=>z0o<|z0s<|gSR<|Zq (faB 1 Z Z Tryz.underlying73 Z (by exact zpv))<|Zq (faB 1 Z Z Tryz.underlying69 Z (by exact ti5))<|Zq (ld 1 Z Z ((fP (z29 _)).part (z3z _)) ty5 Z)<|Zq (B.eql Z Z)<|Zj Z (fun h17=>?_) (fun h17=>?_)
  ·
   refine gSR<|Zm Z<|Za Z<|Zb Z<|z0k<|z0w<|Ze [(n16 6)] [9] Z
  ·
   refine Zt<|gSR<|Zq (faB 1 Z Z Tryz.underlying73 Z (by exact zpv))<|Zq (faB 1 Z Z Tryz.underlying69 Z (by exact ti9))<|Zq (ld 1 Z Z ((fP (z29 _)).part (z6h _)) ty9 Z)<|z0n fun u18 h19=>z149 Z Z h19 tu9 tu75 tu5<|Zc [] [(100,10)] Tryz.func102 Z (zhb _) fun r20 n21=>Zm Z<|Zq (ext Z Z)<|Zq (ext Z Z)<|Za Z<|Zb Z<|gSR<|Zm Z<|Zm Z<|z0n fun x22 h23=>Ef Z (apn 9 Z Z Z (.own 10 Z) h23 tu75 ti5 Z Z Z) fun v24=>Zb Z<|z0s<|gSR<|Zq (faB 1 Z Z Tryz.underlying73 Z (by exact zpv))<|Zq (faB 1 Z Z Tryz.underlying69 Z (by exact ti5))<|Zq (ld 1 Z Z ((fP (z29 _)).part (z3z _)) ty5 Z)<|Zq (B.eql Z Z)<|Zj Z (fun h25=>?_) (fun h25=>?_)
   ·
    refine gSR<|Zq (faB 1 Z Z Tryz.underlying73 Z (by exact zpv))<|Zq (faB 1 Z Z Tryz.underlying69 Z (by exact zmd))<|Zq (ld 1 Z Z ((fP (z29 _)).part (z5q _)) zum Z)<|Zc [] [(100,11)] Tryz.func172 Z (zol _) fun r26 n27=>Zm Z<|Zq (ext Z Z)<|Zq (ext Z Z)<|Za Z<|Zb Z<|z2e<|Zm Z<|Zm Z<|z0n fun x28 h29=>Ef Z (apn 9 Z Z Z (.own 11 Z) h29 tu75 ti5 Z Z Z) fun v30=>Zb Z<|gSR<|Zm Z<|Za Z<|Zb Z<|z0k<|Ze [v30] [9] Z
   ·
    refine Zt<|gSR<|Zm Z<|Za Z<|Zb Z<|z0k<|Ze [v24] [9] Z
def ze2 (a0:z07):Option ((List UInt8) × Int) :=
 zh2 a0 >>= fun r2 =>
 if r2 != 0 then
  some ([],r2)
 else
  zgh a0 >>= fun r5 =>
  z54 a0.Sig.E.toUInt64 >>= fun r7 =>
  z54 a0.Sig.S.toUInt64 >>= fun r9 =>
  z2k [r5.1,r7,r9] >>= fun r12 =>
  some (r12,0)
theorem zn1 (a0:z07):z1u Tryz.prog 89 [.rd z03 a0] [] (ze2 a0) (fun r nv=>⟨[.val (nv 0),.rd z0e r.2],[(100,some (nv 0,.list u8R 5 r.1))]⟩):=by
 refine z2d 30 Tryz.func89 Z Z Z fun H w=>?_
 refine gSR<|Eb Z (bx 1 Z) fun v1=>Za Z<|Zb Z<|z0s<|gSR<|Zq (ld 1 Z Z fH z9n Z)<|Zc [] [] Tryz.func128 Z (zko _) fun r2 n3=>Zb Z<|gSR<|Zm Z<|Zq (I.neq Z Z)<|Zj Z (fun h4=>?_) (fun h4=>?_)
 ·
  refine gSR<|Zm Z<|Za Z<|Zb Z<|z0k<|z0w<|zuf u8R 5 2<|Ze [(.slice none 0 0)] [2] Z
 ·
  refine Zt<|gSR<|Zq (ld 1 Z Z fH z9n Z)<|Zc [] [(100,3)] Tryz.func129 Z (zl9 _) fun r5 n6=>Zm Z<|Zq (ext Z Z)<|Zq (ext Z Z)<|Za Z<|Zb Z<|z0s<|z99 [19,34,37,40] mixed Z Z<|hTk 0 Z Z (mv Z)<|hTk 1 Z Z (faB 1 Z Z Tryz.underlying73 Z (by exact zng))<|hTk 2 Z Z (faB 1 Z Z Tryz.underlying71 Z (by exact z6p))<|hTk 3 Z Z (ld 1 Z Z ((fP (z2j _)).part (z5d _)) zaj Z)<|hTk 4 Z Z (W.toU Z tu65 tu41)<|hTk 6 Z Z (faB 1 Z Z Tryz.underlying73 Z (by exact zng))<|hTk 7 Z Z (faB 1 Z Z Tryz.underlying71 Z (by exact z6p))<|hTk 8 Z Z (ld 1 Z Z ((fP (z2j _)).part (z7x _)) zaj Z)<|hTk 9 Z Z (W.toU Z tu65 tu41)<|z4e 5 [] [(100,19)] Z (by kernel_rfl) Z (gd0 Z) Z Tryz.func101 Z Z (z59 _) (Y1 Z) rN Z (fun _ _=>z3t) fun r7 n8=>z4e 10 [] [(100,34)] Z (by kernel_rfl) Z (gd0 Z) Z Tryz.func101 Z Z (z59 _) (Y1 Z) rN Z (fun _ _=>z3t) fun r9 n10=>zz1 3 [15,5,17] Z (fS Z<|fS Z<|fS Z<|fN)<|zz1 19 [22] Z (fS Z<|fN)<|zz1 34 [27] Z (fS Z<|fN)<|Zo 11 Z Z Z (lit (R:=(z02 u8R)) ([r5.1,r7,r9]:List (List UInt8)) 37 (pP Z Z<|pP Z Z<|pP Z Z<|pN) Z tu42 zpy Z Z) fun v11=>zz1 37 [28] Z (fS Z<|fN)<|z4e 12 [] [(100,40)] Z (by kernel_rfl) Z (gd0 Z) Z Tryz.func130 Z Z (z7m _) (Y1 Z) rN Z (fun _ _=>z3t) fun r12 n13=>Zf 13 Z Z z3t (asg Z)<|hTk 14 Z Z (asg Z)<|z5a (by kernel_rfl)<|z0o<|z0k<|Ze [(n13 0)] [40] Z
def zfg (a0:List UInt8):Option (Bool) :=
 some (decide (10000<(a0.length:Int))) >>= fun y1 =>
 some y1
theorem zlu (a0:List UInt8):z1u Tryz.prog 214 [.rd (z02 u8R) a0] [] (zfg a0) (fun r nv=>⟨[.rd z0j r],[]⟩):=by
 refine z2d 6 Tryz.func214 Z Z Z fun H w=>?_
 refine gSR<|Zb Z<|gSR<|Zm Z<|Zq (z3g Z .rd Z tu75)<|Zq (I.gtr Z Z)<|Za Z<|z1t 2 Z fun y1=>Zn<|z0k<|Ze [] [] Z
def zfx  : Option (z2r) :=
 some (⟨(#v[1779033703,3144134277,1013904242,2773480762,1359893119,2600822924,528734635,1541459225]:Vector UInt32 8),[],0⟩:z2r)
theorem zon  : z1u Tryz.prog 215 [] [] (zfx) (fun r nv=>⟨[.rd z30 r],[]⟩):=by
 refine z2d 3 Tryz.func215 Z Z Z fun H w=>?_
 refine gSR<|Eb Z (z56 1 zq9 (ZrE.rd (R:=(z3j 8 z0p)) (x:=(Vector.replicate 8 0)) zu3 (ZrE.nilS (ZrE.rd (R:=z0e) (x:=0) (Zr.num Z) ZrE.nil Z)) Z)) fun v1=>Zn<|gSR<|Zq (litA (R:=z0p) [1779033703,3144134277,1013904242,2773480762,1359893119,2600822924,528734635,1541459225] (#v[1779033703,3144134277,1013904242,2773480762,1359893119,2600822924,528734635,1541459225]:Vector UInt32 8) (pP Z Z<|pP Z Z<|pP Z Z<|pP Z Z<|pP Z Z<|pP Z Z<|pP Z Z<|pP Z Z<|pN) Z tu164 zjh Z z6p)<|Zq (zm9 [(0,8),(8,1),(9,1)] Tryz.underlying227 zq9 (ZrE.rd (R:=(z3j 8 z0p)) (x:=(Vector.replicate 8 0)) zu3 (ZrE.nilS (ZrE.rd (R:=z0e) (x:=0) (Zr.num Z) ZrE.nil Z)) Z) Z (zgf.cons Z Z z19 (zao.cast (zao.here z19) Z)<|zgf.done Z))<|Es (zm7 1 Z Z (z08.cast (z08.cons z19 (z08.cons z05 (z08.cons z19 z08.nil))) Z) Z (z20.cons z95 (z20.cons z0q (z20.cons z95 z20.nil))) (z08.cast (z08.cons z19 (z08.cons z05 (z08.cons z19 z08.nil))) Z) zq9)<|Zn<|z0k<|zga u8R [.rd (z3j 8 z0p) (#v[1779033703,3144134277,1013904242,2773480762,1359893119,2600822924,528734635,1541459225]:Vector UInt32 8),.rd (z02 u8R) [],.rd z0e 0] 1 [.rd (z3j 8 z0p) (#v[1779033703,3144134277,1013904242,2773480762,1359893119,2600822924,528734635,1541459225]:Vector UInt32 8)] [.rd z0e 0] Z Z Z<|zny (R:=z30) (⟨(#v[1779033703,3144134277,1013904242,2773480762,1359893119,2600822924,528734635,1541459225]:Vector UInt32 8),[],0⟩:z2r) 1 Z (Sp.via (Sp.prod (Sp.prod (Sp.prod Sp.unit))))<|zbq [] [] Z (eC 1 Z Z ztn<|eN) (rN)
def z1z (a0:UInt32) (a1:Int):Option (UInt32) :=
 some ((UInt64.ofInt a1) &&& 31) >>= fun y1 =>
 some ((zs8 a0 y1.toNat) ||| (z4z a0 ((32 - y1).toNat))) >>= fun y2 =>
 some y2
theorem z2o (a0:UInt32) (a1:Int):z1u Tryz.prog 240 [.rd z0p a0,.rd z0e a1] [] (z1z a0 a1) (fun r nv=>⟨[.rd z0p r],[]⟩):=by
 refine z2d 17 Tryz.func240 Z Z Z fun H w=>?_
 refine gSR<|Zb Z<|gSR<|Zm Z<|Zq (I.toU Z tu3 Tryz.underlying150)<|Zq (U.and Z Z)<|Za Z<|z1t 5 Z fun y1=>Zn<|gSR<|Zm Z<|Zm Z<|Zq (W.shl Z Z (Int.natCast_nonneg _))<|Zm Z<|Zm Z<|Zq (U.sub Z Z)<|Zq (W.shr Z Z (Int.natCast_nonneg _))<|Zq (W.or Z Z)<|Za Z<|z1t 4 Z fun y2=>Zn<|z0k<|Ze [] [] Z
def z7t (x3:List UInt8) (s5:(Vector UInt32 64) × Int):Option (Sum ((Vector UInt32 64)) ((Vector UInt32 64) × Int)) :=
 if decide (s5.2<(x3.length:Int)) then
  idx x3 s5.2 >>= fun x7 =>
  z98 s5.1 (w64 (Int.tdiv s5.2 4)) >>= fun x9 =>
  z98 s5.1 (w64 (Int.tdiv s5.2 4)) >>= fun x11 =>
  some (.inr (zkq s5.1 (w64 (Int.tdiv s5.2 4)) ((zs8 x9 8) ||| x7.toUInt32),w64 (s5.2+1)))
 else
  some (.inl s5.1)
def z5p (s14:(Vector UInt32 64) × Int):Option (Sum ((Vector UInt32 64)) ((Vector UInt32 64) × Int)) :=
 if decide (s14.2<64) then
  z98 s14.1 (w64 (s14.2 - 15)) >>= fun x16 =>
  z98 s14.1 (w64 (s14.2 - 2)) >>= fun x18 =>
  z1z x16 (-7) >>= fun r20 =>
  z1z x16 (-18) >>= fun r22 =>
  some ((r20 ^^^ r22) ^^^ (z4z x16 3)) >>= fun y24 =>
  z1z x18 (-17) >>= fun r25 =>
  z1z x18 (-19) >>= fun r27 =>
  some ((r25 ^^^ r27) ^^^ (z4z x18 10)) >>= fun y29 =>
  z98 s14.1 (w64 (s14.2 - 16)) >>= fun x30 =>
  z98 s14.1 (w64 (s14.2 - 7)) >>= fun x32 =>
  z98 s14.1 s14.2 >>= fun x34 =>
  some (w64 (s14.2+1)) >>= fun y37 =>
  some (.inr (zkq s14.1 s14.2 (((x30+x32)+y24)+y29),y37))
 else
  some (.inl s14.1)
def zf7 (a0:List UInt8):Option ((Vector UInt32 64)) :=
 (cut a0 0 64 >>= fun x3 =>
 iter (z7t x3) ((Vector.replicate 64 0),0)) >>= fun s2 =>
 (iter (z5p) (s2,16)) >>= fun s13 =>
 some s13
set_option maxHeartbeats 4000000 in
theorem zl0 (a0:List UInt8):z1u Tryz.prog 237 [.rd (z02 u8R) a0] [] (zf7 a0) (fun r nv=>⟨[.rd (z3j 64 z0p) r],[]⟩):=by
 refine z2d 74 Tryz.func237 Z Z Z fun H w=>?_
 refine gSR<|Eb Z (z56 1 z127 (.zr (R:=(z3j 64 z0p)) (x:=(Vector.replicate 64 0)) z18j)) fun v1=>Zn<|z8n (fun (s2:(Vector UInt32 64)) aa ww=>Sta (ctx 74 H [] w) [(2,.val (z06 v1 0))] [(1,some (v1,.box 249 [.rd (z3j 64 z0p) s2]))] aa ww) ?_ (fun s2=>?_)
 ·
  refine gSR<|Zm Z<|z0n fun x3 h4=>Zq (cut' Z .no (.to Z) h4 tu75 ti5)<|Zq (z3g Z .rd Z tu75)<|Zm Z<|Zn<|z26 (fun (s5:(Vector UInt32 64) × Int) aa ww=>Sta (ctx 74 H [] w) [(2,.val (z06 v1 0)),(11,.rd (z02 u8R) x3),(12,.rd z0e (x3.length:Int)),(13,.rd z0e s5.2)] [(1,some (v1,.box 249 [.rd (z3j 64 z0p) s5.1]))] aa ww) (fun aa ww h=>Zu h [1]) (fun s5=>?_)
  refine gSR<|Zq (I.lss Z Z)<|Zn<|z0s<|gIf Z Z (fun h6=>?_) (fun h6=>?_)
  ·
   refine Zt<|z0s<|z4y<|gSR<|Zm Z<|z0n fun x7 h8=>Zq (ixR Z Z h8 tu75 ti5 Z)<|Zq (ldR Z ty5)<|Za Z<|Zb Z<|z2e<|Zm Z<|Zq (I.quo Z Z (by decide))<|Zm Z<|Zq (I.quo Z Z (by decide))<|z0n fun x9 h10=>Zq (ixB 1 Z Z Z h10 Tryz.underlying249 z6p)<|Zq (ld 1 Z Z (fP (.el h10)) zaj Z)<|Zq (W.shl Z Z (Int.natCast_nonneg _))<|Zm Z<|Zq (B.toW Z tu5 tu65)<|Zq (W.or Z Z)<|z0n fun x11 h12=>Zq (ixB 1 Z Z Z h12 Tryz.underlying249 z6p)<|Es (sto 1 Z Z (fP (.el h12)) Z z6p)<|z1q<|z35<|z0o<|z2e<|Zq (I.add Z Z)<|Zm Z<|z1q<|z1k (fun aa ww h=>Zu h [1])
  ·
   refine z1s<|z0x<|z0y<|z3n (fun aa ww h=>Zu h [1])
 ·
  refine z8n (fun (s13:(Vector UInt32 64)) aa ww=>Sta (ctx 74 H [] w) [(2,.val (z06 v1 0))] [(1,some (v1,.box 249 [.rd (z3j 64 z0p) s13]))] aa ww) ?_ (fun s13=>?_)
  ·
   refine gSR<|Zb Z<|z26 (fun (s14:(Vector UInt32 64) × Int) aa ww=>Sta (ctx 74 H [] w) [(2,.val (z06 v1 0)),(5,.rd z0e s14.2)] [(1,some (v1,.box 249 [.rd (z3j 64 z0p) s14.1]))] aa ww) (fun aa ww h=>Zu h [1]) (fun s14=>?_)
   refine z0s<|gSR<|Zm Z<|Zq (I.lss Z Z)<|Zj Z (fun h15=>?_) (fun h15=>?_)
   ·
    refine Zt<|z0s<|z4y<|z0s<|zjf mixed (by kernel_rfl)<|Rq Z (mv Z)<|Rq Z (I.sub Z Z)<|z9a fun x16 h17=>Rq Z (ixB 1 Z Z Z h17 Tryz.underlying249 z6p)<|Rq Z (ld 1 Z Z (fP (.el h17)) zaj Z)<|Rq Z (mv Z)<|Rq Z (I.sub Z Z)<|z9a fun x18 h19=>Rq Z (ixB 1 Z Z Z h19 Tryz.underlying249 z6p)<|Rq Z (ld 1 Z Z (fP (.el h19)) zaj Z)<|Rq Z (asg Z)<|Rq Z (asg Z)<|zug<|z0o<|gSR<|Zm Z<|Zc [] [] Tryz.func240 Z (z2o _ _) fun r20 n21=>Zm Z<|Zc [] [] Tryz.func240 Z (z2o _ _) fun r22 n23=>Zq (W.xor Z Z)<|Zm Z<|Zq (W.shr Z Z (Int.natCast_nonneg _))<|Zq (W.xor Z Z)<|Za Z<|z1t 8 Z fun y24=>Zn<|gSR<|Zm Z<|Zc [] [] Tryz.func240 Z (z2o _ _) fun r25 n26=>Zm Z<|Zc [] [] Tryz.func240 Z (z2o _ _) fun r27 n28=>Zq (W.xor Z Z)<|Zm Z<|Zq (W.shr Z Z (Int.natCast_nonneg _))<|Zq (W.xor Z Z)<|Za Z<|z1t 9 Z fun y29=>Zn<|zsc [(2,.val (z06 v1 0)),(5,.rd z0e s14.2),(8,.rd z0p y24),(9,.rd z0p y29)] [(1,some (v1,.box 249 [.rd (z3j 64 z0p) s14.1]))] [1] (Zs Z Z Z Z<|sN) (y1 Z)<|z4l fun x30 h31=>z4l fun x32 h33=>z4l fun x34 h35=>gOr [] [⟨1,some ([], fun nv=>(v1,.box 249 [.rd (z3j 64 z0p) s14.1])),[(15,some ([], fun nv=>(v1,.box 249 [.rd (z3j 64 z0p) (zkq s14.1 s14.2 (((x30+x32)+y24)+y29))])))]⟩] [pd 58 (.rd z0e s14.2),pd 59 (.rd z0e s14.2),pd 60 (.rd z0e (w64 (s14.2 - 16))),pk 61 (.val (z06 v1 (0+(w64 (s14.2 - 16):Int).toNat * 1))) [(0,0,false)],pk 62 (.rd z0p x30) [(0,0,false)],pd 63 (.rd z0e s14.2),pd 64 (.rd z0e (w64 (s14.2 - 7))),pk 65 (.val (z06 v1 (0+(w64 (s14.2 - 7):Int).toNat * 1))) [(0,0,false)],pk 66 (.rd z0p x32) [(0,0,false)],pd 67 (.rd z0p (x30+x32)),pd 68 (.rd z0p y24),pd 69 (.rd z0p ((x30+x32)+y24)),pd 70 (.rd z0p y29),pd 71 (.rd z0p (((x30+x32)+y24)+y29)),pk 72 (.val (z06 v1 (0+(s14.2:Int).toNat * 1))) [(0,0,false)],⟨none,[(0,0,true)],[],[]⟩] mixed (oC (oRn (fun nv E=>mv Z))<|oC (oRn (fun nv E=>mv Z))<|oC (oRn (fun nv E=>I.sub Z Z))<|oC (oRn (fun nv E=>ixB 1 Z Z Z h31 Tryz.underlying249 z6p))<|oC (oRn (fun nv E=>ld 1 Z Z (fP (.el h31)) zaj Z))<|oC (oRn (fun nv E=>mv Z))<|oC (oRn (fun nv E=>I.sub Z Z))<|oC (oRn (fun nv E=>ixB 1 Z Z Z h33 Tryz.underlying249 z6p))<|oC (oRn (fun nv E=>ld 1 Z Z (fP (.el h33)) zaj Z))<|oC (oRn (fun nv E=>W.add Z Z))<|oC (oRn (fun nv E=>mv Z))<|oC (oRn (fun nv E=>W.add Z Z))<|oC (oRn (fun nv E=>mv Z))<|oC (oRn (fun nv E=>W.add Z Z))<|oC (oRn (fun nv E=>ixB 1 Z Z Z h35 Tryz.underlying249 z6p))<|oC (oEs 1 (fun nv E=>sto 1 Z Z (fP (.el h35)) Z z6p))<|oN) fun n36=>z35<|z0o<|z2e<|Zm Z<|Zq (I.add Z Z)<|Za Z<|z1t 5 Z fun y37=>z1q<|z1k (fun aa ww h=>Zu h [1])
   ·
    refine z1s<|z0x<|z0y<|z3n (fun aa ww h=>Zu h [1])
  ·
   refine gSR<|Zq (ld 1 Z Z fH z19j Z)<|Es (sto 1 Z Z fH Z z127)<|Zn<|z0k<|zbq [] [] Z (eC 1 Z Z z19j<|eN) (rN)
def zgl (a0:UInt32) (a1:Int) (a2:Int) (a3:Int):Option (UInt32) :=
 z1z a0 (w64 (0 - a1)) >>= fun r1 =>
 z1z a0 (w64 (0 - a2)) >>= fun r3 =>
 z1z a0 (w64 (0 - a3)) >>= fun r5 =>
 some ((r1 ^^^ r3) ^^^ r5) >>= fun y7 =>
 some y7
theorem zl6 (a0:UInt32) (a1:Int) (a2:Int) (a3:Int):z1u Tryz.prog 238 [.rd z0p a0,.rd z0e a1,.rd z0e a2,.rd z0e a3] [] (zgl a0 a1 a2 a3) (fun r nv=>⟨[.rd z0p r],[]⟩):=by
 refine z2d 23 Tryz.func238 Z Z Z fun H w=>?_
 refine gSR<|Zb Z<|gSR<|Zm Z<|Zm Z<|Zq (I.neg Z)<|Zc [] [] Tryz.func240 Z (z2o _ _) fun r1 n2=>Zm Z<|Zm Z<|Zq (I.neg Z)<|Zc [] [] Tryz.func240 Z (z2o _ _) fun r3 n4=>Zq (W.xor Z Z)<|Zm Z<|Zm Z<|Zq (I.neg Z)<|Zc [] [] Tryz.func240 Z (z2o _ _) fun r5 n6=>Zq (W.xor Z Z)<|Za Z<|z1t 8 Z fun y7=>Zn<|z0k<|Ze [] [] Z
def za4 (a0:List UInt8):Option ((List UInt8)) :=
 app 1 ([]:List UInt8) a0 >>= fun x3 =>
 some x3
theorem zby (a0:List UInt8):z1u Tryz.prog 231 [.rd (z02 u8R) a0] [] (za4 a0) (fun r nv=>⟨[.val (nv 0)],[(100,some (nv 0,.list u8R 5 r))]⟩):=by
 refine z2d 8 Tryz.func231 Z Z Z fun H w=>?_
 refine gSR<|Zb Z<|z0s<|gSR<|Zm Z<|z16e Z Z .rd Z tu75 (fun h1=>?_) ?_
 ·
  subst h1
  refine Zn<|zir Z<|gSR<|Zb Z<|z0k<|z0w<|zuf u8R 5 1<|Ze [(.slice none 0 0)] [1] Z
 ·
  refine Zn<|zgp Z<|Zt<|gSR<|Ef Z (lit (R:=u8R) (([]:List UInt8):List UInt8) 2 (pN) Z tu75 ti5 Z Z) fun v2=>Zm Z<|z0n fun x3 h4=>Ef Z (apn 2 Z Z Z .rd h4 tu75 ti5 Z Z Z) fun v5=>Zb Z<|z0k<|Ze [v5] [2] Z
def z6y (r1:(Vector UInt32 64)) (s21:UInt32 × UInt32 × UInt32 × UInt32 × UInt32 × UInt32 × UInt32 × UInt32 × Int):Option (Sum (UInt32 × UInt32 × UInt32 × UInt32 × UInt32 × UInt32 × UInt32 × UInt32) (UInt32 × UInt32 × UInt32 × UInt32 × UInt32 × UInt32 × UInt32 × UInt32 × Int)) :=
 if decide (s21.2.2.2.2.2.2.2.2<64) then
  z98 z65 s21.2.2.2.2.2.2.2.2 >>= fun x23 =>
  z98 r1 s21.2.2.2.2.2.2.2.2 >>= fun x25 =>
  zgl s21.2.2.2.2.1 6 11 25 >>= fun r27 =>
  some ((((s21.2.2.2.2.2.2.2.1+r27)+((s21.2.2.2.2.1 &&& s21.2.2.2.2.2.1) ^^^ ((~~~s21.2.2.2.2.1) &&& s21.2.2.2.2.2.2.1)))+x23)+x25) >>= fun y29 =>
  zgl s21.1 2 13 22 >>= fun r30 =>
  some (r30+(((s21.1 &&& s21.2.1) ^^^ (s21.1 &&& s21.2.2.1)) ^^^ (s21.2.1 &&& s21.2.2.1))) >>= fun y32 =>
  some (s21.2.2.2.1+y29) >>= fun y33 =>
  some (.inr (y29+y32,s21.1,s21.2.1,s21.2.2.1,y33,s21.2.2.2.2.1,s21.2.2.2.2.2.1,s21.2.2.2.2.2.2.1,w64 (s21.2.2.2.2.2.2.2.2+1)))
 else
  some (.inl (s21.1,s21.2.1,s21.2.2.1,s21.2.2.2.1,s21.2.2.2.2.1,s21.2.2.2.2.2.1,s21.2.2.2.2.2.2.1,s21.2.2.2.2.2.2.2.1))
def zfh (s20:UInt32 × UInt32 × UInt32 × UInt32 × UInt32 × UInt32 × UInt32 × UInt32) (s34:(Vector UInt32 8) × Int):Option (Sum ((Vector UInt32 8)) ((Vector UInt32 8) × Int)) :=
 if decide (s34.2<8) then
  z98 (#v[s20.1,s20.2.1,s20.2.2.1,s20.2.2.2.1,s20.2.2.2.2.1,s20.2.2.2.2.2.1,s20.2.2.2.2.2.2.1,s20.2.2.2.2.2.2.2]:Vector UInt32 8) s34.2 >>= fun x36 =>
  z98 s34.1 s34.2 >>= fun x38 =>
  z98 s34.1 s34.2 >>= fun x40 =>
  some (.inr (zkq s34.1 s34.2 (x38+x36),w64 (s34.2+1)))
 else
  some (.inl s34.1)
def zfs (c0:Vector UInt32 8) (a1:List UInt8):Option ((Vector UInt32 8)) :=
 zf7 a1 >>= fun r1 =>
 z98 c0 0 >>= fun x4 =>
 z98 c0 1 >>= fun x6 =>
 z98 c0 2 >>= fun x8 =>
 z98 c0 3 >>= fun x10 =>
 z98 c0 4 >>= fun x12 =>
 z98 c0 5 >>= fun x14 =>
 z98 c0 6 >>= fun x16 =>
 z98 c0 7 >>= fun x18 =>
 (iter (z6y r1) (x4,x6,x8,x10,x12,x14,x16,x18,0)) >>= fun s20 =>
 iter (zfh s20) (c0,0)
theorem zop (ph0:Value) (kh0:Nat) (uh0:(Vector UInt32 8)→z5l) (hh0:∀ y,Foc (uh0 y) kh0 (z3j 8 z0p) y uh0) (c0:Vector UInt32 8) (a1:List UInt8):z1u Tryz.prog 230 [.val (z06 ph0 kh0),.rd (z02 u8R) a1] [(1,some (ph0,uh0 c0)),zG1] (zfs c0 a1) (fun r nv=>⟨[],[(1,some (ph0,uh0 r)),(1001,some (.bool true,.glob 1 (z3j 64 z0p) z65))]⟩):=by
 refine z2d 126 Tryz.func230 Z Z Z fun H w=>?_
 refine gSR<|Zm Z<|Zc [] [] Tryz.func237 Z (zl0 _) fun r1 n2=>Eb Z (z56 2 z127 (.zr (R:=(z3j 64 z0p)) (x:=(Vector.replicate 64 0)) z18j)) fun v3=>Es (sto 2 Z Z fH Z z127)<|Zn<|z0s<|zjf mixed (by kernel_rfl)<|Rq Z (mv Z)<|Rq Z (nckP 1 Z Z (hh0 _))<|z9a fun x4 h5=>Rq Z (ixH 1 Z Z (hh0 _) Z h5 tu164 z6p)<|Rq Z (ld 1 Z Z ((hh0 _).part (.el h5)) zaj Z)<|Rq Z (mv Z)<|Rq Z (nckP 1 Z Z (hh0 _))<|z9a fun x6 h7=>Rq Z (ixH 1 Z Z (hh0 _) Z h7 tu164 z6p)<|Rq Z (ld 1 Z Z ((hh0 _).part (.el h7)) zaj Z)<|Rq Z (mv Z)<|Rq Z (nckP 1 Z Z (hh0 _))<|z9a fun x8 h9=>Rq Z (ixH 1 Z Z (hh0 _) Z h9 tu164 z6p)<|Rq Z (ld 1 Z Z ((hh0 _).part (.el h9)) zaj Z)<|Rq Z (mv Z)<|Rq Z (nckP 1 Z Z (hh0 _))<|z9a fun x10 h11=>Rq Z (ixH 1 Z Z (hh0 _) Z h11 tu164 z6p)<|Rq Z (ld 1 Z Z ((hh0 _).part (.el h11)) zaj Z)<|Rq Z (mv Z)<|Rq Z (nckP 1 Z Z (hh0 _))<|z9a fun x12 h13=>Rq Z (ixH 1 Z Z (hh0 _) Z h13 tu164 z6p)<|Rq Z (ld 1 Z Z ((hh0 _).part (.el h13)) zaj Z)<|Rq Z (mv Z)<|Rq Z (nckP 1 Z Z (hh0 _))<|z9a fun x14 h15=>Rq Z (ixH 1 Z Z (hh0 _) Z h15 tu164 z6p)<|Rq Z (ld 1 Z Z ((hh0 _).part (.el h15)) zaj Z)<|Rq Z (mv Z)<|Rq Z (nckP 1 Z Z (hh0 _))<|z9a fun x16 h17=>Rq Z (ixH 1 Z Z (hh0 _) Z h17 tu164 z6p)<|Rq Z (ld 1 Z Z ((hh0 _).part (.el h17)) zaj Z)<|Rq Z (mv Z)<|Rq Z (nckP 1 Z Z (hh0 _))<|z9a fun x18 h19=>Rq Z (ixH 1 Z Z (hh0 _) Z h19 tu164 z6p)<|Rq Z (ld 1 Z Z ((hh0 _).part (.el h19)) zaj Z)<|Rq Z (asg Z)<|Rq Z (asg Z)<|Rq Z (asg Z)<|Rq Z (asg Z)<|Rq Z (asg Z)<|Rq Z (asg Z)<|Rq Z (asg Z)<|Rq Z (asg Z)<|zug<|z0o<|z8n (fun (s20:UInt32 × UInt32 × UInt32 × UInt32 × UInt32 × UInt32 × UInt32 × UInt32) aa ww=>Sta (ctx 126 H [(1,some (ph0,uh0 c0)),zG1] w) [(0,.val (z06 ph0 kh0)),(5,.rd z0p s20.1),(6,.rd z0p s20.2.1),(7,.rd z0p s20.2.2.1),(8,.rd z0p s20.2.2.2.1),(9,.rd z0p s20.2.2.2.2.1),(10,.rd z0p s20.2.2.2.2.2.1),(11,.rd z0p s20.2.2.2.2.2.2.1),(12,.rd z0p s20.2.2.2.2.2.2.2)] [(1,some (ph0,uh0 c0)),zG1] aa ww) ?_ (fun s20=>?_)
 ·
  refine gSR<|Zm Z<|Zn<|z26 (fun (s21:UInt32 × UInt32 × UInt32 × UInt32 × UInt32 × UInt32 × UInt32 × UInt32 × Int) aa ww=>Sta (ctx 126 H [(1,some (ph0,uh0 c0)),zG1] w) [(0,.val (z06 ph0 kh0)),(4,.val (z06 v3 0)),(5,.rd z0p s21.1),(6,.rd z0p s21.2.1),(7,.rd z0p s21.2.2.1),(8,.rd z0p s21.2.2.2.1),(9,.rd z0p s21.2.2.2.2.1),(10,.rd z0p s21.2.2.2.2.2.1),(11,.rd z0p s21.2.2.2.2.2.2.1),(12,.rd z0p s21.2.2.2.2.2.2.2.1),(52,.rd z0e s21.2.2.2.2.2.2.2.2)] [(1,some (ph0,uh0 c0)),(2,some (v3,.box 249 [.rd (z3j 64 z0p) r1])),zG1] aa ww) (fun aa ww h=>Zu h [1,2,1001]) (fun s21=>?_)
  refine gSR<|Zq (I.lss Z Z)<|Zn<|z0s<|gIf Z Z (fun h22=>?_) (fun h22=>?_)
  ·
   refine Zt<|z0s<|z4y<|gSR<|Zm Z<|Zb Z<|z0s<|z99 [] mixed Z Z<|hTk 0 Z Z (mv Z)<|hTk 1 Z Z (mv Z)<|hTk 4 Z Z (mv Z)<|hTk 5 Z Z (mv Z)<|hTk 6 Z Z (W.and Z Z)<|hTk 7 Z Z (mv Z)<|hTk 8 Z Z (W.cpl Z)<|hTk 9 Z Z (mv Z)<|hTk 10 Z Z (W.and Z Z)<|hTk 11 Z Z (W.xor Z Z)<|hTk 13 Z Z (mv Z)<|z64 fun x23 h24=>hTk 14 Z Z (ixG 1001 Z Z h24 Tryz.underlying249 z6p)<|hTk 15 Z Z (ldR Z zaj)<|hTk 17 Z Z (mv Z)<|z64 fun x25 h26=>hTk 18 Z Z (ixB 2 Z Z Z h26 Tryz.underlying249 z6p)<|hTk 19 Z Z (ld 2 Z Z (fP (.el h26)) zaj Z)<|z4e 2 [] [] Z (by kernel_rfl) Z (gd0 Z) Z Tryz.func238 Z Z (zl6 _ _ _ _) (aQ Z<|aQ Z<|aQ Z<|aQ Z<|aN) rN Z (fun _ _=>z34) fun r27 n28=>hTk 3 Z Z (W.add Z Z)<|hTk 12 Z Z (W.add Z Z)<|hTk 16 Z Z (W.add Z Z)<|hTk 20 Z Z (W.add Z Z)<|hTk 21 Z Z (asg Z)<|z10t 14 Z Z fun y29=>z5a (by kernel_rfl)<|z0o<|gSR<|Zm Z<|Zc [] [] Tryz.func238 Z (zl6 _ _ _ _) fun r30 n31=>Zm Z<|Zm Z<|Zq (W.and Z Z)<|Zm Z<|Zm Z<|Zq (W.and Z Z)<|Zq (W.xor Z Z)<|Zm Z<|Zm Z<|Zq (W.and Z Z)<|Zq (W.xor Z Z)<|Zq (W.add Z Z)<|Za Z<|z1t 15 Z fun y32=>Zn<|z2e<|Zm Z<|Zm Z<|Zq (W.add Z Z)<|Zm Z<|Zm Z<|Zm Z<|Zm Z<|Zm Z<|Zq (W.add Z Z)<|Zm Z<|Zm Z<|Zm Z<|Za Z<|Za Z<|Za Z<|Za Z<|Za Z<|z1t 9 Z fun y33=>Za Z<|Za Z<|Za Z<|z1q<|z35<|z0o<|z2e<|Zq (I.add Z Z)<|Zm Z<|z1q<|z1k (fun aa ww h=>Zu h [1,2,1001])
  ·
   refine z1s<|z0x<|z0y<|z3n (fun aa ww h=>Zu h [1,1001])
 ·
  refine gSR<|Zm Z<|Zm Z<|Zm Z<|Zm Z<|Zm Z<|Zm Z<|Zm Z<|Zm Z<|Zq (litA (R:=z0p) [s20.1,s20.2.1,s20.2.2.1,s20.2.2.2.1,s20.2.2.2.2.1,s20.2.2.2.2.2.1,s20.2.2.2.2.2.2.1,s20.2.2.2.2.2.2.2] (#v[s20.1,s20.2.1,s20.2.2.1,s20.2.2.2.1,s20.2.2.2.2.1,s20.2.2.2.2.2.1,s20.2.2.2.2.2.2.1,s20.2.2.2.2.2.2.2]:Vector UInt32 8) (pP Z Z<|pP Z Z<|pP Z Z<|pP Z Z<|pP Z Z<|pP Z Z<|pP Z Z<|pP Z Z<|pN) Z tu164 zjh Z z6p)<|Zm Z<|Zn<|z26 (fun (s34:(Vector UInt32 8) × Int) aa ww=>Sta (ctx 126 H [(1,some (ph0,uh0 c0)),zG1] w) [(0,.val (z06 ph0 kh0)),(111,.rd (z3j 8 z0p) (#v[s20.1,s20.2.1,s20.2.2.1,s20.2.2.2.1,s20.2.2.2.2.1,s20.2.2.2.2.2.1,s20.2.2.2.2.2.2.1,s20.2.2.2.2.2.2.2]:Vector UInt32 8)),(112,.rd z0e s34.2)] [(1,some (ph0,uh0 s34.1)),zG1] aa ww) (fun aa ww h=>Zu h [1,1001]) (fun s34=>?_)
  refine gSR<|Zq (I.lss Z Z)<|Zn<|z0s<|gIf Z Z (fun h35=>?_) (fun h35=>?_)
  ·
   refine Zt<|z0s<|z4y<|gSR<|Zm Z<|z0n fun x36 h37=>Zq (idxV Z Z h37 tu164 z6p zaj)<|Za Z<|Zb Z<|z99 [1] mixed Z Z<|hTk 0 Z Z (mv Z)<|hTk 1 Z Z (mv Z)<|hTk 2 Z Z (nckP 1 Z Z (hh0 _))<|z64 fun x38 h39=>hTk 3 Z Z (ixH 1 Z Z (hh0 _) Z h39 tu164 z6p)<|hTk 5 Z Z (mv Z)<|hTk 7 Z Z (nckP 1 Z Z (hh0 _))<|hRun 4 Z (by kernel_rfl) (gd0 Z) Z Z z34 (ld 1 Z Z ((hh0 _).part (.el h39)) zaj Z)<|hTk 6 Z Z (W.add Z Z)<|z64 fun x40 h41=>hTk 8 Z Z (ixH 1 Z Z (hh0 _) Z h41 tu164 z6p)<|Zp 9 Z Z Z Z Z (sto 1 Z Z ((hh0 _).part (.el h41)) Z z6p)<|z5a (by kernel_rfl)<|z35<|z0o<|z2e<|Zq (I.add Z Z)<|Zm Z<|z1q<|z1k (fun aa ww h=>Zu h [1,1001])
  ·
   refine z1s<|z0x<|z0y<|Ze [] [1,1001] Z
def zbs (s7:z2r × (List UInt8)):Option (Sum (z2r × (List UInt8)) (z2r × (List UInt8))) :=
 if decide (64≤(s7.2.length:Int)) then
  zfs s7.1.Words s7.2 >>= fun r10 =>
  cut s7.2 64 (s7.2.length:Int) >>= fun x12 =>
  some (.inr ({ s7.1 with Words:=r10 },x12))
 else
  some (.inl (s7.1,s7.2))
def zdq (a0:z2r) (a1:List UInt8):Option (z2r) :=
 z2k [a0.Rest,a1] >>= fun r4 =>
 (iter (zbs) (a0,r4)) >>= fun s6 =>
 za4 s6.2 >>= fun r14 =>
 some (⟨({ s6.1 with N:=w64 (s6.1.N+(a1.length:Int)) }).Words,r14,({ s6.1 with N:=w64 (s6.1.N+(a1.length:Int)) }).N⟩:z2r)
theorem zjm (a0:z2r) (a1:List UInt8):z1u Tryz.prog 216 [.rd z30 a0,.rd (z02 u8R) a1] [zG1] (zdq a0 a1) (fun r nv=>⟨[.rd z30 r],[(1001,some (.bool true,.glob 1 (z3j 64 z0p) z65))]⟩):=by
 refine z2d 29 Tryz.func216 Z Z Z fun H w=>?_
 refine gSR<|Eb Z (bx 1 Z) fun v1=>Eb Z (z56 2 zq9 (ZrE.rd (R:=(z3j 8 z0p)) (x:=(Vector.replicate 8 0)) zu3 (ZrE.nilS (ZrE.rd (R:=z0e) (x:=0) (Zr.num Z) ZrE.nil Z)) Z)) fun v2=>Zn<|gSR<|Zq (faB 1 Z Z Tryz.underlying227 Z (by exact zpy))<|Zq (ld 1 Z Z (fP (znl _)) ty75 Z)<|Zm Z<|Ef Z (lit (R:=(z02 u8R)) ([a0.Rest,a1]:List (List UInt8)) 3 (pP Z Z<|pP Z Z<|pN) Z tu42 zpy Z Z) fun v3=>zh0 3 [9] Z (fS Z<|fN)<|Zc [] [(100,4)] Tryz.func130 Z (z7m _) fun r4 n5=>Zb Z<|z8n (fun (s6:z2r × (List UInt8)) aa ww=>Sta (ctx 29 H [zG1] w) [(1,.rd (z02 u8R) a1),(2,.val (z06 v1 0)),(4,.val (z06 v2 0)),(5,.rd (z02 u8R) s6.2)] [(1,some (v1,.box 227 [.rd z30 s6.1])),(2,some (v2,.box 227 [.rd (z3j 8 z0p) (Vector.replicate 8 0),.val (.slice none 0 0),.rd z0e 0])),zG1] aa ww) ?_ (fun s6=>?_)
 ·
  refine gFrz 4 [10,5] Z (fS Z<|fS Z<|fN)<|z26 (fun (s7:z2r × (List UInt8)) aa ww=>Sta (ctx 29 H [zG1] w) [(1,.rd (z02 u8R) a1),(2,.val (z06 v1 0)),(4,.val (z06 v2 0)),(5,.rd (z02 u8R) s7.2)] [(1,some (v1,.box 227 [.rd z30 s7.1])),(2,some (v2,.box 227 [.rd (z3j 8 z0p) (Vector.replicate 8 0),.val (.slice none 0 0),.rd z0e 0])),zG1] aa ww) (fun aa ww h=>Zu h [1,2,1001]) (fun s7=>?_)
  refine z0s<|gSR<|Zm Z<|Zq (z3g Z .rd Z tu75)<|Zq (I.geq Z Z)<|Zj Z (fun h8=>?_) (fun h8=>?_)
  ·
   refine Zt<|z4y<|gSR<|Zq (faB 1 Z Z Tryz.underlying227 Z (by exact zjh))<|Zm Z<|call [1,1001] [(1,1)] Z Tryz.func230 Z Z (zop _ _ (fun y9=>.box 227 [.rd z30 ({ s7.1 with Words:=y9 })]) (fun _=>(fP (zgm _))) _ _) (Y2 Z Z) (Zi Z<|Zi Z<|rN) fun r10 n11=>Zn<|z2e<|Zm Z<|z0n fun x12 h13=>Zq (cut' Z (.to Z) .no h13 tu75 ti5)<|Za Z<|z1q<|z35<|z1k (fun aa ww h=>Zu h [1,2,1001])
  ·
   refine z1s<|z0x<|z0y<|z3n (fun aa ww h=>Zu h [1,2,1001])
 ·
  refine z0s<|z99 [1,1020] mixed Z Z<|hTk 0 Z Z (faB 1 Z Z Tryz.underlying227 Z (by exact ti3))<|hTk 2 Z Z (mv Z)<|hTk 3 Z Z (z3g Z .rd Z tu75)<|hTk 5 Z Z (mv Z)<|hAlt [1,6] (by kernel_rfl) Z ⟨?_,?_,trivial⟩
  ·
   refine oRun 1 Z (gd0 Z) Z Z z34 (ld 1 Z Z (fP (zb6 _)) ty3 Z)<|hTk 4 Z Z (I.add Z Z)<|z4e 6 [] [(100,1020)] Z (by kernel_rfl) Z (gd0 Z) Z Tryz.func231 Z Z (zby _) (Y1 Z) rN Z (fun _ _=>z3t) fun r14 n15=>hTk 7 Z Z (faB 1 Z Z Tryz.underlying227 Z (by exact ti3))<|Zp 8 Z Z Z Z Z (sto 1 Z Z (fP (zb6 _)) Z ti3)<|Zf 9 Z Z z3t (faB 1 Z Z Tryz.underlying227 Z (by exact zpy))<|hSpl (R:=z30) 1 Z (Sp.via (Sp.prod (Sp.prod (Sp.prod Sp.unit))))<|Zp 10 Z Z Z Z Z (zpj 1 Z Z (zao.cast (zao.next z19 (zao.here z19)) Z) Z z0q z05 zpy)<|z5a (by kernel_rfl)<|z0o<|gSR<|zyt [.rd (z3j 8 z0p) (({ s6.1 with N:=w64 (s6.1.N+(a1.length:Int)) }).Words),.rd (z02 u8R) r14,.rd z0e (({ s6.1 with N:=w64 (s6.1.N+(a1.length:Int)) }).N)] 1 1020 [.rd (z3j 8 z0p) (({ s6.1 with N:=w64 (s6.1.N+(a1.length:Int)) }).Words)] [.rd z0e (({ s6.1 with N:=w64 (s6.1.N+(a1.length:Int)) }).N)] Z Z Z Z Z<|zd3 (R:=z30) (⟨({ s6.1 with N:=w64 (s6.1.N+(a1.length:Int)) }).Words,r14,({ s6.1 with N:=w64 (s6.1.N+(a1.length:Int)) }).N⟩:z2r) 1 Z (Sp.via (Sp.prod (Sp.prod (Sp.prod Sp.unit))))<|Zq (ld 1 Z Z fH ztn Z)<|za6 u8R [.rd (z3j 8 z0p) (Vector.replicate 8 0),.rd (z02 u8R) [],.rd z0e 0] 2 [.rd (z3j 8 z0p) (Vector.replicate 8 0)] [.rd z0e 0] Z Z Z<|zd3 (R:=z30) (⟨(Vector.replicate 8 0),[],0⟩:z2r) 2 Z (Sp.via (Sp.prod (Sp.prod (Sp.prod Sp.unit))))<|Es (sto 2 Z Z fH Z zq9)<|Zn<|z0k<|zbq [] [1001] Z (eC 2 Z Z ztn<|eN) (y1 Z)
  ·
   refine z15k 6 [] [(100,1020)] Z Z (gd0 Z) Z Tryz.func231 Z Z (zby _) (Y1 Z) rN Z (fun _ _=>z3t) fun r16 n17=>hRun 1 Z (by kernel_rfl) (gd0 Z) Z Z z34 (ld 1 Z Z (fP (zb6 _)) ty3 Z)<|hTk 4 Z Z (I.add Z Z)<|hTk 7 Z Z (faB 1 Z Z Tryz.underlying227 Z (by exact ti3))<|Zp 8 Z Z Z Z Z (sto 1 Z Z (fP (zb6 _)) Z ti3)<|Zf 9 Z Z z3t (faB 1 Z Z Tryz.underlying227 Z (by exact zpy))<|hSpl (R:=z30) 1 Z (Sp.via (Sp.prod (Sp.prod (Sp.prod Sp.unit))))<|Zp 10 Z Z Z Z Z (zpj 1 Z Z (zao.cast (zao.next z19 (zao.here z19)) Z) Z z0q z05 zpy)<|z5a (by kernel_rfl)<|z0o<|gSR<|zyt [.rd (z3j 8 z0p) (({ s6.1 with N:=w64 (s6.1.N+(a1.length:Int)) }).Words),.rd (z02 u8R) r16,.rd z0e (({ s6.1 with N:=w64 (s6.1.N+(a1.length:Int)) }).N)] 1 1020 [.rd (z3j 8 z0p) (({ s6.1 with N:=w64 (s6.1.N+(a1.length:Int)) }).Words)] [.rd z0e (({ s6.1 with N:=w64 (s6.1.N+(a1.length:Int)) }).N)] Z Z Z Z Z<|zd3 (R:=z30) (⟨({ s6.1 with N:=w64 (s6.1.N+(a1.length:Int)) }).Words,r16,({ s6.1 with N:=w64 (s6.1.N+(a1.length:Int)) }).N⟩:z2r) 1 Z (Sp.via (Sp.prod (Sp.prod (Sp.prod Sp.unit))))<|Zq (ld 1 Z Z fH ztn Z)<|za6 u8R [.rd (z3j 8 z0p) (Vector.replicate 8 0),.rd (z02 u8R) [],.rd z0e 0] 2 [.rd (z3j 8 z0p) (Vector.replicate 8 0)] [.rd z0e 0] Z Z Z<|zd3 (R:=z30) (⟨(Vector.replicate 8 0),[],0⟩:z2r) 2 Z (Sp.via (Sp.prod (Sp.prod (Sp.prod Sp.unit))))<|Es (sto 2 Z Z fH Z zq9)<|Zn<|z0k<|zbq [] [1001] Z (eC 2 Z Z ztn<|eN) (y1 Z)
def zcu (y3:UInt64) (s9:(List UInt8) × Int):Option (Sum ((List UInt8)) ((List UInt8) × Int)) :=
 if decide (0≤s9.2) then
  chk (0≤s9.2) >>= fun u12 =>
  app 1 s9.1 [(z9b y3 ((s9.2:Int).toNat)).toUInt8] >>= fun x15 =>
  some (w64 (s9.2 - 8)) >>= fun y18 =>
  some (.inr (x15,y18))
 else
  some (.inl s9.1)
def zbe (r21:z2r) (s23:V3 × Int):Option (Sum (V3) (V3 × Int)) :=
 if decide (s23.2<8) then
  z98 r21.Words s23.2 >>= fun x25 =>
  z98 s23.1 (w64 (4 * s23.2)) >>= fun x27 =>
  z98 (zkq s23.1 (w64 (4 * s23.2)) ((z4z x25 24).toUInt8)) (w64 ((w64 (4 * s23.2))+1)) >>= fun x29 =>
  z98 (zkq (zkq s23.1 (w64 (4 * s23.2)) ((z4z x25 24).toUInt8)) (w64 ((w64 (4 * s23.2))+1)) ((z4z x25 16).toUInt8)) (w64 ((w64 (4 * s23.2))+2)) >>= fun x31 =>
  z98 (zkq (zkq (zkq s23.1 (w64 (4 * s23.2)) ((z4z x25 24).toUInt8)) (w64 ((w64 (4 * s23.2))+1)) ((z4z x25 16).toUInt8)) (w64 ((w64 (4 * s23.2))+2)) ((z4z x25 8).toUInt8)) (w64 ((w64 (4 * s23.2))+3)) >>= fun x33 =>
  some (.inr (zkq (zkq (zkq (zkq s23.1 (w64 (4 * s23.2)) ((z4z x25 24).toUInt8)) (w64 ((w64 (4 * s23.2))+1)) ((z4z x25 16).toUInt8)) (w64 ((w64 (4 * s23.2))+2)) ((z4z x25 8).toUInt8)) (w64 ((w64 (4 * s23.2))+3)) x25.toUInt8,w64 (s23.2+1)))
 else
  some (.inl s23.1)
def ziv (a0:z2r):Option (V3) :=
 some ((UInt64.ofInt a0.N) * 8) >>= fun y3 =>
 appz 1 [128] 0 (Int.tmod (w64 (119 - (Int.tmod a0.N 64))) 64) >>= fun x5 =>
 (iter (zcu y3) (x5,56)) >>= fun s8 =>
 (zdq a0 s8 >>= fun r21 =>
 iter (zbe r21) ((Vector.replicate 32 0),0)) >>= fun s20 =>
 some s20
theorem zrj (a0:z2r):z1u Tryz.prog 217 [.rd z30 a0] [zG1] (ziv a0) (fun r nv=>⟨[.rd aZ r],[(1001,some (.bool true,.glob 1 (z3j 64 z0p) z65))]⟩):=by
 refine z2d 66 Tryz.func217 Z Z Z fun H w=>?_
 refine gSR<|Eb Z (bx 1 Z) fun v1=>Eb Z (z56 2 z2b (.zr (R:=aZ) (x:=(Vector.replicate 32 0)) zgg)) fun v2=>Zn<|gSR<|Zq (faB 1 Z Z Tryz.underlying227 Z (by exact ti3))<|Zq (ld 1 Z Z (fP (zb6 _)) ty3 Z)<|Zq (I.toU Z tu3 tu41)<|Zq (U.mul Z Z)<|Za Z<|z1t 3 Z fun y3=>Zn<|gSR<|Ef Z (lit (R:=u8R) ([128]:List UInt8) 3 (pP Z Z<|pN) Z tu75 ti5 Z Z) fun v4=>Zq (faB 1 Z Z Tryz.underlying227 Z (by exact ti3))<|Zq (ld 1 Z Z (fP (zb6 _)) ty3 Z)<|Zq (I.rem Z Z (by decide))<|Zq (I.sub Z Z)<|Zq (I.rem Z Z (by decide))<|z0n fun x5 h6=>Ef Z (apZO 3 Z Z Z h6 tu75 tu3 ti5 (Zr.num Z) Z) fun v7=>Zb Z<|z8n (fun (s8:(List UInt8)) aa ww=>∃ nv:Nat→Value,Sta (ctx 66 H [zG1] w) [(1,.val (z06 v1 0)),(2,.val (z06 v2 0)),(4,.val (nv 0))] [(1,some (v1,.box 227 [.rd z30 a0])),(2,some (v2,.box 62 [.rd aZ (Vector.replicate 32 0)])),(3,some ((nv 0),.list u8R 5 s8)),zG1] aa ww) ?_ (fun s8=>?_)
 ·
  refine gSR<|Zb Z<|z26 (fun (s9:(List UInt8) × Int) aa ww=>∃ nv:Nat→Value,Sta (ctx 66 H [zG1] w) [(1,.val (z06 v1 0)),(2,.val (z06 v2 0)),(3,.rd z2c y3),(4,.val (nv 0)),(5,.rd z0e s9.2)] [(1,some (v1,.box 227 [.rd z30 a0])),(2,some (v2,.box 62 [.rd aZ (Vector.replicate 32 0)])),(3,some ((nv 0),.list u8R 5 s9.1)),zG1] aa ww) (fun aa ww h=>⟨nvl [v7],Zu h [1,2,3,1001]⟩) (fun s9=>?_)
  refine gEx fun n10=>z0s<|gSR<|Zm Z<|Zq (I.geq Z Z)<|Zj Z (fun h11=>?_) (fun h11=>?_)
  ·
   refine Zt<|z0s<|z4y<|z2e<|Zm Z<|Zm Z<|Zm Z<|z0n fun u12 h13=>Zq (U.shr Z Z (z4i h13))<|Zq (U.toB Z tu41 tu5)<|Ef Z (lit (R:=u8R) ([(z9b y3 ((s9.2:Int).toNat)).toUInt8]:List UInt8) 1100 (pP Z Z<|pN) Z tu75 ti5 Z Z) fun v14=>z0n fun x15 h16=>Ef Z (apn 3 Z Z Z (.own 1100 Z) h16 tu75 ti5 Z Z Z) fun v17=>Za Z<|z1q<|z35<|z0o<|z2e<|Zm Z<|Zq (I.sub Z Z)<|Za Z<|z1t 5 Z fun y18=>z1q<|z1k (fun aa ww h=>⟨nvl [v17],Zu h [1,2,3,1001]⟩)
  ·
   refine z1s<|z0x<|z0y<|z3n (fun aa ww h=>⟨nvl [(n10 0)],Zu h [1,2,3,1001]⟩)
 ·
  refine gEx fun n19=>z8n (fun (s20:V3) aa ww=>Sta (ctx 66 H [zG1] w) [(2,.val (z06 v2 0))] [(2,some (v2,.box 62 [.rd aZ s20])),zG1] aa ww) ?_ (fun s20=>?_)
  ·
   refine gSR<|Zq (ld 1 Z Z fH ztn Z)<|Zm Z<|zh0 3 [4,31] Z (fS Z<|fS Z<|fN)<|Zc [1001] [] Tryz.func216 Z (zjm _ _) fun r21 n22=>Zq (fldV Z (zgm _) Z Tryz.underlying227 Z zsz)<|Zm Z<|Zn<|z26 (fun (s23:V3 × Int) aa ww=>Sta (ctx 66 H [zG1] w) [(2,.val (z06 v2 0)),(33,.rd (z3j 8 z0p) r21.Words),(34,.rd z0e s23.2)] [(2,some (v2,.box 62 [.rd aZ s23.1])),zG1] aa ww) (fun aa ww h=>Zu h [2,1001]) (fun s23=>?_)
   refine gSR<|Zq (I.lss Z Z)<|Zn<|z0s<|gIf Z Z (fun h24=>?_) (fun h24=>?_)
   ·
    refine Zt<|z0s<|z4y<|gSR<|Zm Z<|z0n fun x25 h26=>Zq (idxV Z Z h26 tu164 z6p zaj)<|Za Z<|Zb Z<|z2e<|Zm Z<|Zq (I.mul Z Z)<|Zm Z<|Zq (I.mul Z Z)<|Zq (I.add Z Z)<|Zm Z<|Zq (I.mul Z Z)<|Zq (I.add Z Z)<|Zm Z<|Zq (I.mul Z Z)<|Zq (I.add Z Z)<|Zm Z<|Zq (W.shr Z Z (Int.natCast_nonneg _))<|Zq (W.toB Z tu65 tu5)<|Zm Z<|Zq (W.shr Z Z (Int.natCast_nonneg _))<|Zq (W.toB Z tu65 tu5)<|Zm Z<|Zq (W.shr Z Z (Int.natCast_nonneg _))<|Zq (W.toB Z tu65 tu5)<|Zm Z<|Zq (W.toB Z tu65 tu5)<|z0n fun x27 h28=>Zq (ixB 2 Z Z Z h28 tu62 ti5)<|Es (sto 2 Z Z (fP (.el h28)) Z ti5)<|z0n fun x29 h30=>Zq (ixB 2 Z Z Z h30 tu62 ti5)<|Es (sto 2 Z Z (fP (.el h30)) Z ti5)<|z0n fun x31 h32=>Zq (ixB 2 Z Z Z h32 tu62 ti5)<|Es (sto 2 Z Z (fP (.el h32)) Z ti5)<|z0n fun x33 h34=>Zq (ixB 2 Z Z Z h34 tu62 ti5)<|Es (sto 2 Z Z (fP (.el h34)) Z ti5)<|z1q<|z35<|z0o<|z2e<|Zq (I.add Z Z)<|Zm Z<|z1q<|z1k (fun aa ww h=>Zu h [2,1001])
   ·
    refine z1s<|z0x<|z0y<|z3n (fun aa ww h=>Zu h [2,1001])
  ·
   refine gSR<|Zq (ld 2 Z Z fH z43 Z)<|Es (sto 2 Z Z fH Z z2b)<|Zn<|z0k<|zbq [] [1001] Z (eC 2 Z Z z43<|eN) (y1 Z)
def z1e (a0:List (List UInt8)) (s2:Int):Option (Sum (Sum Int Unit) Int) :=
 if decide (s2<(a0.length:Int)) then
  idx a0 s2 >>= fun x4 =>
  zfg x4 >>= fun r6 =>
  if r6 then
   some (.inl (.inl s2))
  else
   some (.inr (w64 (s2+1)))
 else
  some (.inl (.inr ()))
def z38 (a0:List (List UInt8)):Option (Int) :=
 z5g (iter (z1e a0) 0) fun s1 =>
 some (-1)
theorem z8x (a0:List (List UInt8)):z1u Tryz.prog 229 [.rd (z02 (z02 u8R)) a0,.val (.func (.func 214) #[] #[])] [] (z38 a0) (fun r nv=>⟨[.rd z0e r],[]⟩):=by
 refine z2d 19 Tryz.func229 Z Z Z fun H w=>?_
 refine gSR<|Zb Z<|z8c (fun (s1:Unit) aa ww=>Sta (ctx 19 H [] w) [] [] aa ww) ?_ (fun s1=>?_)
 ·
  refine gSR<|Zm Z<|Zq (z3g Z .rd Z tu42)<|Zm Z<|Zn<|z26 (fun (s2:Int) aa ww=>Sta (ctx 19 H [] w) [(0,.rd (z02 (z02 u8R)) a0),(1,.val (.func (.func 214) #[] #[])),(7,.rd z0e (a0.length:Int)),(8,.rd z0e s2)] [] aa ww) (fun aa ww h=>Zu h []) (fun s2=>?_)
  refine gSR<|Zq (I.lss Z Z)<|Zn<|z0s<|gIf Z Z (fun h3=>?_) (fun h3=>?_)
  ·
   refine Zt<|z0s<|z4y<|gSR<|Zm Z<|Zb Z<|gSR<|Zm Z<|Zm Z<|Zm Z<|z0n fun x4 h5=>Zq (ixR Z Z h5 tu42 zpy Z)<|Zq (ldR Z ty75)<|zhd [] [] (gd0 Z) Z Z Tryz.func214 Z Z (zlu _) (Y1 Z) (cN) rN fun r6 n7=>Zj Z (fun h8=>?_) (fun h8=>?_)
   ·
    refine gSR<|Zm Z<|Zb Z<|z0k<|z42<|z0w<|z7g<|z7a<|Ze [] [] Z
   ·
    refine z2m<|z35<|z0o<|z2e<|Zq (I.add Z Z)<|Zm Z<|z1q<|z1k (fun aa ww h=>Zu h [])
  ·
   refine z1s<|z0x<|z0y<|z79 (fun aa ww h=>Zu h [])
 ·
  refine gSR<|Zb Z<|z0k<|Ze [] [] Z
def z1w (a0:List (List UInt8)):Option (Bool) :=
 z38 a0 >>= fun r1 =>
 some (decide (0≤r1)) >>= fun y3 =>
 some y3
theorem z81 (a0:List (List UInt8)):z1u Tryz.prog 213 [.rd (z02 (z02 u8R)) a0,.val (.func (.func 214) #[] #[])] [] (z1w a0) (fun r nv=>⟨[.rd z0j r],[]⟩):=by
 refine z2d 9 Tryz.func213 Z Z Z fun H w=>?_
 refine gSR<|Zb Z<|gSR<|Zm Z<|Zm Z<|Zc [] [] Tryz.func229 Z (z8x _) fun r1 n2=>Zq (I.geq Z Z)<|Za Z<|z1t 4 Z fun y3=>Zn<|z0k<|Ze [] [] Z
def z9t (a0:List (List UInt8)) (s11:z2r × Int):Option (Sum z2r (z2r × Int)) :=
 if decide (s11.2<(a0.length:Int)) then
  idx a0 s11.2 >>= fun x13 =>
  zdq s11.1 x13 >>= fun r15 =>
  some (.inr (r15,w64 (s11.2+1)))
 else
  some (.inl s11.1)
def zd6 (a0:List (List UInt8)):Option (V3 × Int) :=
 (if decide (20<(a0.length:Int)) then
  some true
 else
  z1w a0 >>= fun r4 =>
  some r4) >>= fun s2 =>
 if s2 then
  some ((Vector.replicate 32 0),4)
 else
  zfx >>= fun r7 =>
  (iter (z9t a0) (r7,0)) >>= fun s10 =>
  ziv s10 >>= fun r17 =>
  some (r17,0)
theorem zhu (a0:List (List UInt8)):z1u Tryz.prog 191 [.rd (z02 (z02 u8R)) a0] [zG1] (zd6 a0) (fun r nv=>⟨[.rd aZ r.1,.rd z0e r.2],[(1001,some (.bool true,.glob 1 (z3j 64 z0p) z65))]⟩):=by
 refine z2d 28 Tryz.func191 Z Z Z fun H w=>?_
 refine gSR<|Eb Z (z56 1 z2b (.zr (R:=aZ) (x:=(Vector.replicate 32 0)) zgg)) fun v1=>Zb Z<|z0s<|z8n (fun (s2:Bool) aa ww=>Sta (ctx 28 H [zG1] w) [(0,.rd (z02 (z02 u8R)) a0),(2,.val (z06 v1 0)),(13,.rd z0j s2)] [(1,some (v1,.box 62 [.rd aZ (Vector.replicate 32 0)])),zG1] aa ww) ?_ (fun s2=>?_)
 ·
  refine z2e<|Zm Z<|Zq (z3g Z .rd Z tu42)<|Zq (I.gtr Z Z)<|Zm Z<|z1b 10 Z (fun h3=>?_) (fun h3=>?_)
  ·
   refine lKn 9 Z h3<|Zk Z<|Zk Z<|Zq (pkT Z Z)<|z1q<|z3n (fun aa ww h=>Zu h [1,1001])
  ·
   refine lKn 9 Z h3<|z17 Zx Z Z (mv Z)<|zdb [] [] Zx Z Tryz.func213 Z Z (z81 _) (Y2 Z Z) rN fun r4 n5=>Zq (pkF Z Z)<|z1q<|z3n (fun aa ww h=>Zu h [1,1001])
 ·
  refine gIf Z Z (fun h6=>?_) (fun h6=>?_)
  ·
   refine gSR<|Zq (bldG (x':=((Vector.replicate 32 0):V3)) tu62 z2b zgg ti5 (Bld.done Z))<|Es (sto 1 Z Z fH Z z2b)<|Zb Z<|z0k<|z0w<|zbq [] [1001] Z (eC 1 Z Z z43<|eE Z<|eN) (y1 Z)
  ·
   refine Zt<|gSR<|Zc [] [] Tryz.func215 Z (zon) fun r7 n8=>Eb Z (z56 1100 zq9 (ZrE.rd (R:=(z3j 8 z0p)) (x:=(Vector.replicate 8 0)) zu3 (ZrE.nilS (ZrE.rd (R:=z0e) (x:=0) (Zr.num Z) ZrE.nil Z)) Z)) fun v9=>za6 u8R [.rd (z3j 8 z0p) (Vector.replicate 8 0),.rd (z02 u8R) [],.rd z0e 0] 1100 [.rd (z3j 8 z0p) (Vector.replicate 8 0)] [.rd z0e 0] Z Z Z<|zd3 (R:=z30) (⟨(Vector.replicate 8 0),[],0⟩:z2r) 1100 Z (Sp.via (Sp.prod (Sp.prod (Sp.prod Sp.unit))))<|Es (sto 1100 Z Z fH Z zq9)<|Zn<|z8n (fun (s10:z2r) aa ww=>Sta (ctx 28 H [zG1] w) [(2,.val (z06 v1 0)),(4,.val (z06 v9 0))] [(1,some (v1,.box 62 [.rd aZ (Vector.replicate 32 0)])),(1100,some (v9,.box 227 [.rd z30 s10])),zG1] aa ww) ?_ (fun s10=>?_)
   ·
    refine gSR<|Zm Z<|Zq (z3g Z .rd Z tu42)<|Zm Z<|Zn<|z26 (fun (s11:z2r × Int) aa ww=>Sta (ctx 28 H [zG1] w) [(2,.val (z06 v1 0)),(4,.val (z06 v9 0)),(16,.rd (z02 (z02 u8R)) a0),(17,.rd z0e (a0.length:Int)),(18,.rd z0e s11.2)] [(1,some (v1,.box 62 [.rd aZ (Vector.replicate 32 0)])),(1100,some (v9,.box 227 [.rd z30 s11.1])),zG1] aa ww) (fun aa ww h=>Zu h [1,1100,1001]) (fun s11=>?_)
    refine gSR<|Zq (I.lss Z Z)<|Zn<|z0s<|gIf Z Z (fun h12=>?_) (fun h12=>?_)
    ·
     refine Zt<|z0s<|z4y<|gSR<|z0n fun x13 h14=>Zq (ixR Z Z h14 tu42 zpy Z)<|Zq (ldR Z ty75)<|Zb Z<|z2e<|Zq (ld 1100 Z Z fH ztn Z)<|Zm Z<|Zc [1001] [] Tryz.func216 Z (zjm _ _) fun r15 n16=>Es (sto 1100 Z Z fH Z zq9)<|z1q<|z35<|z0o<|z2e<|Zq (I.add Z Z)<|Zm Z<|z1q<|z1k (fun aa ww h=>Zu h [1,1100,1001])
    ·
     refine z1s<|z0x<|z0y<|z3n (fun aa ww h=>Zu h [1,1100,1001])
   ·
    refine gSR<|Zq (ld 1100 Z Z fH ztn Z)<|Zc [1001] [] Tryz.func217 Z (zrj _) fun r17 n18=>Es (sto 1 Z Z fH Z z2b)<|Zb Z<|z0k<|zbq [] [1001] Z (eC 1 Z Z z43<|eE Z<|eN) (y1 Z)
def zj3 (a0:List UInt8):Option (V3 × Int) :=
 zd6 [a0] >>= fun r3 =>
 some (r3.1,r3.2)
theorem zrg (a0:List UInt8):z1u Tryz.prog 153 [.rd (z02 u8R) a0] [zG1] (zj3 a0) (fun r nv=>⟨[.rd aZ r.1,.rd z0e r.2],[(1001,some (.bool true,.glob 1 (z3j 64 z0p) z65))]⟩):=by
 refine z2d 9 Tryz.func153 Z Z Z fun H w=>?_
 refine gSR<|Eb Z (z56 1 z2b (.zr (R:=aZ) (x:=(Vector.replicate 32 0)) zgg)) fun v1=>Zb Z<|gSR<|Zm Z<|Ef Z (lit (R:=(z02 u8R)) ([a0]:List (List UInt8)) 2 (pP Z Z<|pN) Z tu42 zpy Z Z) fun v2=>zh0 2 [5] Z (fS Z<|fN)<|Zc [1001] [] Tryz.func191 Z (zhu _) fun r3 n4=>Zq (ext Z Z)<|Zq (ext Z Z)<|Es (sto 1 Z Z fH Z z2b)<|Zb Z<|z0k<|zbq [] [1001] Z (eC 1 Z Z z43<|eE Z<|eN) (y1 Z)
def zzp (a0:z07):Option (V3 × Int) :=
 ze2 a0 >>= fun r3 =>
 if r3.2 != 0 then
  some ((Vector.replicate 32 0),r3.2)
 else
  zj3 r3.1 >>= fun r6 =>
  some (r6.1,r6.2)
theorem zx5 (a0:z07):z1u Tryz.prog 111 [.rd z03 a0] [zG1] (zzp a0) (fun r nv=>⟨[.rd aZ r.1,.rd z0e r.2],[(1001,some (.bool true,.glob 1 (z3j 64 z0p) z65))]⟩):=by
 refine z2d 19 Tryz.func111 Z Z Z fun H w=>?_
 refine gSR<|Eb Z (bx 1 Z) fun v1=>Eb Z (z56 2 z2b (.zr (R:=aZ) (x:=(Vector.replicate 32 0)) zgg)) fun v2=>Zb Z<|gSR<|Zq (ld 1 Z Z fH z9n Z)<|Zc [] [(100,3)] Tryz.func89 Z (zn1 _) fun r3 n4=>Zm Z<|Zq (ext Z Z)<|Zq (ext Z Z)<|Za Z<|Zb Z<|z0s<|gSR<|Zm Z<|Zq (I.neq Z Z)<|Zj Z (fun h5=>?_) (fun h5=>?_)
 ·
  refine gSR<|Zq (bldG (x':=((Vector.replicate 32 0):V3)) tu62 z2b zgg ti5 (Bld.done Z))<|Zm Z<|Es (sto 2 Z Z fH Z z2b)<|Zb Z<|z0k<|z0w<|zbq [] [1001] Z (eC 2 Z Z z43<|eE Z<|eN) (y1 Z)
 ·
  refine Zt<|gSR<|Zm Z<|zh0 3 [9,4,15] Z (fS Z<|fS Z<|fS Z<|fN)<|Zc [1001] [] Tryz.func153 Z (zrg _) fun r6 n7=>Zq (ext Z Z)<|Zq (ext Z Z)<|Es (sto 2 Z Z fH Z z2b)<|Zb Z<|z0k<|zbq [] [1001] Z (eC 2 Z Z z43<|eE Z<|eN) (y1 Z)
def z5f (a0:List UInt32) (s2:Int):Option (Sum (Sum Bool Unit) Int) :=
 if decide (s2<(a0.length:Int)) then
  idx a0 s2 >>= fun x4 =>
  zj0 x4 >>= fun r6 =>
  if !r6 then
   some (.inl (.inl false))
  else
   some (.inr (w64 (s2+1)))
 else
  some (.inl (.inr ()))
def zf0 (a0:List UInt32):Option (Bool) :=
 z5g (iter (z5f a0) 0) fun s1 =>
 some true
theorem znb (a0:List UInt32):z1u Tryz.prog 218 [.rd (z02 z0p) a0] [] (zf0 a0) (fun r nv=>⟨[.rd z0j r],[]⟩):=by
 refine z2d 15 Tryz.func218 Z Z Z fun H w=>?_
 refine gSR<|Zb Z<|z8c (fun (s1:Unit) aa ww=>Sta (ctx 15 H [] w) [] [] aa ww) ?_ (fun s1=>?_)
 ·
  refine gSR<|Zm Z<|Zq (z3g Z .rd Z tu217)<|Zm Z<|Zn<|z26 (fun (s2:Int) aa ww=>Sta (ctx 15 H [] w) [(5,.rd (z02 z0p) a0),(6,.rd z0e (a0.length:Int)),(7,.rd z0e s2)] [] aa ww) (fun aa ww h=>Zu h []) (fun s2=>?_)
  refine gSR<|Zq (I.lss Z Z)<|Zn<|z0s<|gIf Z Z (fun h3=>?_) (fun h3=>?_)
  ·
   refine Zt<|z0s<|z4y<|gSR<|z0n fun x4 h5=>Zq (ixR Z Z h5 tu217 z6p Z)<|Zq (ldR Z zaj)<|Zb Z<|gSR<|Zm Z<|Zc [] [] Tryz.func170 Z (zk2 _) fun r6 n7=>Zq (zfl Z)<|Zj Z (fun h8=>?_) (fun h8=>?_)
   ·
    refine gSR<|Zb Z<|z0k<|z42<|z0w<|z7g<|z7a<|Ze [] [] Z
   ·
    refine z2m<|z35<|z0o<|z2e<|Zq (I.add Z Z)<|Zm Z<|z1q<|z1k (fun aa ww h=>Zu h [])
  ·
   refine z1s<|z0x<|z0y<|z79 (fun aa ww h=>Zu h [])
 ·
  refine gSR<|Zb Z<|z0k<|Ze [] [] Z
def zp4 (a0:UInt32) (a1:UInt64):Option (UInt32 × Int) :=
 zf0 [a0] >>= fun r2 =>
 if !r2 then
  some (0,2)
 else
  zgq a0 a1 >>= fun r5 =>
  some (r5,0)
end
section
open Go Go.RowKit
set_option maxRecDepth 100000
theorem zsq (a0:UInt32) (a1:UInt64):z1u Tryz.prog 192 [.rd z0p a0,.rd z2c a1] [] (zp4 a0 a1) (fun r nv=>⟨[.rd z0p r.1,.rd z0e r.2],[]⟩):=by
 refine z2d 13 Tryz.func192 Z Z Z fun H w=>?_
 refine gSR<|Za Z<|Zb Z<|z0s<|gSR<|Zm Z<|Ef Z (lit (R:=z0p) ([a0]:List UInt32) 1 (pP Z Z<|pN) Z tu217 z6p Z Z) fun v1=>zh0 1 [7] Z (fS Z<|fN)<|Zc [] [] Tryz.func218 Z (znb _) fun r2 n3=>Zq (zfl Z)<|Zj Z (fun h4=>?_) (fun h4=>?_)
 ·
  refine gSR<|Za Z<|Zb Z<|z0k<|z0w<|Ze [] [] Z
 ·
  refine Zt<|gSR<|Zm Z<|Zm Z<|Zc [] [] Tryz.func201 Z (zi7 _ _) fun r5 n6=>Za Z<|Zb Z<|z0k<|Ze [] [] Z
def zmw (a0:UInt64):Option (UInt32) :=
 zgq 4 a0 >>= fun r1 =>
 some r1
theorem zrt (a0:UInt64):z1u Tryz.prog 194 [.rd z2c a0] [] (zmw a0) (fun r nv=>⟨[.rd z0p r],[]⟩):=by
 refine z2d 5 Tryz.func194 Z Z Z fun H w=>?_
 refine gSR<|Zb Z<|gSR<|Zm Z<|Zc [] [] Tryz.func201 Z (zi7 _ _) fun r1 n2=>Zb Z<|z0k<|Ze [] [] Z
def zo8 (a0:UInt32) (a1:UInt32):Option (UInt32 × Int) :=
 zf0 [a0,a1] >>= fun r2 =>
 if !r2 then
  some (0,2)
 else
  zgo 1000000007 [a0,a1] >>= fun r6 =>
  some (r6,0)
theorem ztz (a0:UInt32) (a1:UInt32):z1u Tryz.prog 193 [.rd z0p a0,.rd z0p a1] [] (zo8 a0 a1) (fun r nv=>⟨[.rd z0p r.1,.rd z0e r.2],[]⟩):=by
 refine z2d 15 Tryz.func193 Z Z Z fun H w=>?_
 refine gSR<|Za Z<|Zb Z<|z0s<|gSR<|Zm Z<|Zm Z<|Ef Z (lit (R:=z0p) ([a0,a1]:List UInt32) 1 (pP Z Z<|pP Z Z<|pN) Z tu217 z6p Z Z) fun v1=>zh0 1 [8] Z (fS Z<|fN)<|Zc [] [] Tryz.func218 Z (znb _) fun r2 n3=>Zq (zfl Z)<|Zj Z (fun h4=>?_) (fun h4=>?_)
 ·
  refine gSR<|Za Z<|Zb Z<|z0k<|z0w<|Ze [] [] Z
 ·
  refine Zt<|gSR<|Zm Z<|Zm Z<|Ef Z (lit (R:=z0p) ([a0,a1]:List UInt32) 2 (pP Z Z<|pP Z Z<|pN) Z tu217 z6p Z Z) fun v5=>zh0 2 [13] Z (fS Z<|fN)<|Zc [] [] Tryz.func219 Z (zid _ _) fun r6 n7=>Za Z<|Zb Z<|z0k<|Ze [] [] Z
def z9d (a2:List UInt32) (s4:(List UInt8) × Int):Option (Sum ((List UInt8)) ((List UInt8) × Int)) :=
 if decide (s4.2<(a2.length:Int)) then
  idx a2 s4.2 >>= fun x7 =>
  app 1 s4.1 [(z4z x7 24).toUInt8,(z4z x7 16).toUInt8,(z4z x7 8).toUInt8,x7.toUInt8] >>= fun x10 =>
  some (.inr (x10,w64 (s4.2+1)))
 else
  some (.inl s4.1)
def zdz (r15:V3 × Int) (s19:UInt64 × Int):Option (Sum UInt64 (UInt64 × Int)) :=
 if decide (s19.2<(((r15.1.toList.drop 0).take 8).length:Int)) then
  idx ((r15.1.toList.drop 0).take 8) s19.2 >>= fun x21 =>
  some ((zru s19.1 8) ||| x21.toUInt64) >>= fun y23 =>
  some (.inr (y23,w64 (s19.2+1)))
 else
  some (.inl s19.1)
def zkr (a0:UInt8) (a1:List UInt8) (a2:List UInt32):Option (UInt64 × Int) :=
 if decide (9991<(a1.length:Int)) then
  some (0,4)
 else
  (iter (z9d a2) ([a0],0)) >>= fun s3 =>
  zd6 [s3,a1] >>= fun r15 =>
  (iter (zdz r15) (0,0)) >>= fun s18 =>
  some (s18,r15.2)
theorem zty (a0:UInt8) (a1:List UInt8) (a2:List UInt32):z1u Tryz.prog 220 [.rd u8R a0,.rd (z02 u8R) a1,.rd (z02 z0p) a2] [zG1] (zkr a0 a1 a2) (fun r nv=>⟨[.rd z2c r.1,.rd z0e r.2],[(1001,some (.bool true,.glob 1 (z3j 64 z0p) z65))]⟩):=by
 refine z2d 63 Tryz.func220 Z Z Z fun H w=>?_
 refine gSR<|Za Z<|Zb Z<|z0s<|gSR<|Zm Z<|Zq (z3g Z .rd Z tu75)<|Zq (I.gtr Z Z)<|Zj Z (fun h1=>?_) (fun h1=>?_)
 ·
  refine gSR<|Za Z<|Zb Z<|z0k<|z0w<|Ze [] [1001] Z
 ·
  refine Zt<|gSR<|Zm Z<|Ef Z (lit (R:=u8R) ([a0]:List UInt8) 1 (pP Z Z<|pN) Z tu75 ti5 Z Z) fun v2=>Zb Z<|z8n (fun (s3:(List UInt8)) aa ww=>∃ nv:Nat→Value,Sta (ctx 63 H [zG1] w) [(1,.rd (z02 u8R) a1),(8,.val (nv 0))] [(1,some ((nv 0),.list u8R 5 s3)),zG1] aa ww) ?_ (fun s3=>?_)
  ·
   refine gSR<|Zm Z<|Zq (z3g Z .rd Z tu217)<|Zm Z<|Zn<|z26 (fun (s4:(List UInt8) × Int) aa ww=>∃ nv:Nat→Value,Sta (ctx 63 H [zG1] w) [(1,.rd (z02 u8R) a1),(8,.val (nv 0)),(21,.rd (z02 z0p) a2),(22,.rd z0e (a2.length:Int)),(23,.rd z0e s4.2)] [(1,some ((nv 0),.list u8R 5 s4.1)),zG1] aa ww) (fun aa ww h=>⟨nvl [v2],Zu h [1,1001]⟩) (fun s4=>?_)
   refine gEx fun n5=>gSR<|Zq (I.lss Z Z)<|Zn<|z0s<|gIf Z Z (fun h6=>?_) (fun h6=>?_)
   ·
    refine Zt<|z0s<|z4y<|gSR<|z0n fun x7 h8=>Zq (ixR Z Z h8 tu217 z6p Z)<|Zq (ldR Z zaj)<|Zb Z<|z2e<|Zm Z<|Zm Z<|Zq (W.shr Z Z (Int.natCast_nonneg _))<|Zq (W.toB Z tu65 tu5)<|Zm Z<|Zq (W.shr Z Z (Int.natCast_nonneg _))<|Zq (W.toB Z tu65 tu5)<|Zm Z<|Zq (W.shr Z Z (Int.natCast_nonneg _))<|Zq (W.toB Z tu65 tu5)<|Zm Z<|Zq (W.toB Z tu65 tu5)<|Ef Z (lit (R:=u8R) ([(z4z x7 24).toUInt8,(z4z x7 16).toUInt8,(z4z x7 8).toUInt8,x7.toUInt8]:List UInt8) 1100 (pP Z Z<|pP Z Z<|pP Z Z<|pP Z Z<|pN) Z tu75 ti5 Z Z) fun v9=>z0n fun x10 h11=>Ef Z (apn 1 Z Z Z (.own 1100 Z) h11 tu75 ti5 Z Z Z) fun v12=>Za Z<|z1q<|z35<|z0o<|z2e<|Zq (I.add Z Z)<|Zm Z<|z1q<|z1k (fun aa ww h=>⟨nvl [v12],Zu h [1,1001]⟩)
   ·
    refine z1s<|z0x<|z0y<|z3n (fun aa ww h=>⟨nvl [(n5 0)],Zu h [1,1001]⟩)
  ·
   refine gEx fun n13=>gSR<|Zm Z<|Zm Z<|zh0 1 [8,43] Z (fS Z<|fS Z<|fN)<|Ef Z (lit (R:=(z02 u8R)) ([s3,a1]:List (List UInt8)) 1101 (pP Z Z<|pP Z Z<|pN) Z tu42 zpy Z Z) fun v14=>zh0 1101 [45] Z (fS Z<|fN)<|Zc [1001] [] Tryz.func191 Z (zhu _) fun r15 n16=>Zm Z<|Zq (ext Z Z)<|Zq (ext Z Z)<|Eb Z (z56 1102 z2b (.zr (R:=aZ) (x:=(Vector.replicate 32 0)) zgg)) fun v17=>Es (sto 1102 Z Z fH Z z2b)<|Zb Z<|gSR<|Zb Z<|z8n (fun (s18:UInt64) aa ww=>Sta (ctx 63 H [zG1] w) [(12,.rd z0e r15.2),(13,.rd z2c s18)] [zG1] aa ww) ?_ (fun s18=>?_)
   ·
    refine gSR<|z18p 1102 11 Z Z<|Zq (z1ad (i:=0) (j:=8) Z .no (.to Z) tu62 ti5 (by decide) Z Z Z)<|Zq (z3g Z .rd Z tu75)<|Zm Z<|Zn<|z26 (fun (s19:UInt64 × Int) aa ww=>Sta (ctx 63 H [zG1] w) [(12,.rd z0e r15.2),(13,.rd z2c s19.1),(49,.rd (z02 u8R) ((r15.1.toList.drop 0).take 8)),(50,.rd z0e (((r15.1.toList.drop 0).take 8).length:Int)),(51,.rd z0e s19.2)] [zG1] aa ww) (fun aa ww h=>Zu h [1001]) (fun s19=>?_)
    refine gSR<|Zq (I.lss Z Z)<|Zn<|z0s<|gIf Z Z (fun h20=>?_) (fun h20=>?_)
    ·
     refine Zt<|z0s<|z4y<|gSR<|z0n fun x21 h22=>Zq (ixR Z Z h22 tu75 ti5 Z)<|Zq (ldR Z ty5)<|Zb Z<|z2e<|Zm Z<|Zq (U.shl Z Z (Int.natCast_nonneg _))<|Zm Z<|Zq (B.toU Z tu5 tu41)<|Zq (U.or Z Z)<|Za Z<|z1t 13 Z fun y23=>z1q<|z35<|z0o<|z2e<|Zq (I.add Z Z)<|Zm Z<|z1q<|z1k (fun aa ww h=>Zu h [1001])
    ·
     refine z1s<|z0x<|z0y<|z3n (fun aa ww h=>Zu h [1001])
   ·
    refine gSR<|Zm Z<|Zm Z<|Za Z<|Zb Z<|z0k<|Ze [] [1001] Z
def zdx (a0:UInt32) (a1:UInt32) (a2:List UInt8):Option (UInt32 × Int) :=
 zkr 99 a2 [a0,a1] >>= fun r2 =>
 if r2.2 != 0 then
  some (0,r2.2)
 else
  some ((r2.1 % 500000003).toUInt32) >>= fun y5 =>
  some (y5,0)
theorem zme (a0:UInt32) (a1:UInt32) (a2:List UInt8):z1u Tryz.prog 195 [.rd z0p a0,.rd z0p a1,.rd (z02 u8R) a2] [zG1] (zdx a0 a1 a2) (fun r nv=>⟨[.rd z0p r.1,.rd z0e r.2],[(1001,some (.bool true,.glob 1 (z3j 64 z0p) z65))]⟩):=by
 refine z2d 24 Tryz.func195 Z Z Z fun H w=>?_
 refine gSR<|Za Z<|Zb Z<|gSR<|Zm Z<|Zm Z<|Zm Z<|Ef Z (lit (R:=z0p) ([a0,a1]:List UInt32) 1 (pP Z Z<|pP Z Z<|pN) Z tu217 z6p Z Z) fun v1=>zh0 1 [14] Z (fS Z<|fN)<|Zc [1001] [] Tryz.func220 Z (zty _ _ _) fun r2 n3=>Zm Z<|Zq (ext Z Z)<|Zq (ext Z Z)<|Za Z<|Zb Z<|z0s<|gSR<|Zm Z<|Zq (I.neq Z Z)<|Zj Z (fun h4=>?_) (fun h4=>?_)
 ·
  refine gSR<|Zm Z<|Za Z<|Zb Z<|z0k<|z0w<|Ze [] [1001] Z
 ·
  refine Zt<|gSR<|Zm Z<|Zq (U.rem Z Z (by decide))<|Zq (U.toW Z tu41 tu65)<|Za Z<|z1t 6 Z fun y5=>Zb Z<|z0k<|Ze [] [1001] Z
def zh9 (a0:UInt32) (a1:List UInt8) (a2:z0c):Option (Int) :=
 zj0 a0 >>= fun r2 =>
 if !r2 then
  some 2
 else
  if decide (9991<(a1.length:Int)) then
   some 4
  else
   if decide (500000003≤(max a2.E a2.S)) then
    some 22
   else
    zp4 a0 (500000003 - a2.E.toUInt64) >>= fun r7 =>
    zmw a2.S.toUInt64 >>= fun r9 =>
    zo8 r9 r7.1 >>= fun r11 =>
    zdx r11.1 a0 a1 >>= fun r13 =>
    if r13.2 != 0 then
     some 22
    else
     if r13.1 != a2.E then
      some 22
     else
      some 0
theorem zpr (a0:UInt32) (a1:List UInt8) (a2:z0c):z1u Tryz.prog 154 [.rd z0p a0,.rd (z02 u8R) a1,.rd z0g a2] [zG1] (zh9 a0 a1 a2) (fun r nv=>⟨[.rd z0e r],[(1001,some (.bool true,.glob 1 (z3j 64 z0p) z65))]⟩):=by
 refine z2d 58 Tryz.func154 Z Z Z fun H w=>?_
 refine gSR<|Eb Z (bx 1 Z) fun v1=>Zb Z<|z0s<|gSR<|Zm Z<|Zc [] [] Tryz.func170 Z (zk2 _) fun r2 n3=>Zq (zfl Z)<|Zj Z (fun h4=>?_) (fun h4=>?_)
 ·
  refine gSR<|Zb Z<|z0k<|z0w<|Ze [] [1001] Z
 ·
  refine Zt<|z0s<|gSR<|Zm Z<|Zq (z3g Z .rd Z tu75)<|Zq (I.gtr Z Z)<|Zj Z (fun h5=>?_) (fun h5=>?_)
  ·
   refine gSR<|Zb Z<|z0k<|z0w<|Ze [] [1001] Z
  ·
   refine Zt<|z0s<|gSR<|Zq (faB 1 Z Z Tryz.underlying71 Z (by exact z6p))<|Zq (ld 1 Z Z (fP (z5d _)) zaj Z)<|Zq (faB 1 Z Z Tryz.underlying71 Z (by exact z6p))<|Zq (ld 1 Z Z (fP (z7x _)) zaj Z)<|Zq (W.max Z Z)<|Zq (W.geq Z Z)<|Zj Z (fun h6=>?_) (fun h6=>?_)
   ·
    refine gSR<|Zb Z<|z0k<|z0w<|Ze [] [1001] Z
   ·
    refine Zt<|gSR<|Zm Z<|Zq (faB 1 Z Z Tryz.underlying71 Z (by exact z6p))<|Zq (ld 1 Z Z (fP (z5d _)) zaj Z)<|Zq (W.toU Z tu65 tu41)<|Zq (U.sub Z Z)<|Zc [] [] Tryz.func192 Z (zsq _ _) fun r7 n8=>Zm Z<|Zq (ext Z Z)<|Zq (ext Z Z)<|Za Z<|Zb Z<|gSR<|Zq (faB 1 Z Z Tryz.underlying71 Z (by exact z6p))<|Zq (ld 1 Z Z (fP (z7x _)) zaj Z)<|Zq (W.toU Z tu65 tu41)<|Zc [] [] Tryz.func194 Z (zrt _) fun r9 n10=>Zm Z<|Zc [] [] Tryz.func193 Z (ztz _ _) fun r11 n12=>Zm Z<|Zq (ext Z Z)<|Zq (ext Z Z)<|Za Z<|Zb Z<|z0s<|gSR<|Zm Z<|Zm Z<|Zm Z<|Zc [1001] [] Tryz.func195 Z (zme _ _ _) fun r13 n14=>Zm Z<|Zq (ext Z Z)<|Zq (ext Z Z)<|Za Z<|Zb Z<|gSR<|Zm Z<|Zq (I.neq Z Z)<|Zm Z<|z1b 52 Z (fun h15=>?_) (fun h15=>?_)
    ·
     refine lKn 51 Z h15<|Zk Z<|Zk Z<|Zk Z<|Zk Z<|Zq (pkT Z Z)<|Zn<|zir Z<|gSR<|Zb Z<|z0k<|z0w<|Ze [] [1001] Z
    ·
     refine lKn 51 Z h15<|z17 Zx Z Z (mv Z)<|z17 Zx Z Z (faB 1 Z Z Tryz.underlying71 Z (by exact z6p))<|z17 Zx Z Z (ld 1 Z Z (fP (z5d _)) zaj Z)<|z17 Zx Z Z (W.neq Z Z)<|Zq (pkF Z Z)<|Zj Z (fun h16=>?_) (fun h16=>?_)
     ·
      refine gKn 56 Z h16<|gSR<|Zb Z<|z0k<|z0w<|Ze [] [1001] Z
     ·
      refine gKn 56 Z h16<|Zt<|gSR<|Zb Z<|z0k<|Ze [] [1001] Z
def zih (a0:z07):Option (Int) :=
 zh2 a0 >>= fun r2 =>
 if r2 != 0 then
  some r2
 else
  zgh a0 >>= fun r5 =>
  zh9 a0.Author r5.1 a0.Sig >>= fun r7 =>
  some r7
theorem zn5 (a0:z07):z1u Tryz.prog 112 [.rd z03 a0] [zG1] (zih a0) (fun r nv=>⟨[.rd z0e r],[(1001,some (.bool true,.glob 1 (z3j 64 z0p) z65))]⟩):=by
 refine z2d 22 Tryz.func112 Z Z Z fun H w=>?_
 refine gSR<|Eb Z (bx 1 Z) fun v1=>Zb Z<|z0s<|gSR<|Zq (ld 1 Z Z fH z9n Z)<|Zc [] [] Tryz.func128 Z (zko _) fun r2 n3=>Zb Z<|gSR<|Zm Z<|Zq (I.neq Z Z)<|Zj Z (fun h4=>?_) (fun h4=>?_)
 ·
  refine gSR<|Zm Z<|Zb Z<|z0k<|z0w<|Ze [] [1001] Z
 ·
  refine Zt<|gSR<|Zq (ld 1 Z Z fH z9n Z)<|Zc [] [(100,2)] Tryz.func129 Z (zl9 _) fun r5 n6=>Zm Z<|Zq (ext Z Z)<|Zq (ext Z Z)<|Za Z<|Zb Z<|gSR<|Zq (faB 1 Z Z Tryz.underlying73 Z (by exact z6p))<|Zq (ld 1 Z Z (fP (z36 _)) zaj Z)<|Zm Z<|Zq (faB 1 Z Z Tryz.underlying73 Z (by exact zng))<|Zq (ld 1 Z Z (fP (z2j _)) ty71 Z)<|zh0 2 [14,4,18] Z (fS Z<|fS Z<|fS Z<|fN)<|Zc [1001] [] Tryz.func154 Z (zpr _ _ _) fun r7 n8=>Zb Z<|z0k<|Ze [] [1001] Z
def z62 (s4:UInt64 × (List UInt8)):Option (Sum ((List UInt8)) (UInt64 × (List UInt8))) :=
 if decide (0<s4.1) then
  app 1 s4.2 [(s4.1 % 256).toUInt8] >>= fun x8 =>
  some (.inr (s4.1 / 256,x8))
 else
  some (.inl s4.2)
def z5z (s3:(List UInt8)) (s15:(List UInt8) × Int):Option (Sum ((List UInt8)) ((List UInt8) × Int)) :=
 if decide (0≤s15.2) then
  idx s3 s15.2 >>= fun x18 =>
  app 1 s15.1 [x18] >>= fun x21 =>
  some (w64 (s15.2 - 1)) >>= fun y24 =>
  some (.inr (x21,y24))
 else
  some (.inl s15.1)
def z2t (a0:UInt64):Option ((List UInt8)) :=
 if decide (a0≤247) then
  some [a0.toUInt8]
 else
  (iter (z62) (a0,[])) >>= fun s3 =>
  (some (w64 ((s3.length:Int) - 1)) >>= fun y14 =>
  iter (z5z s3) ([UInt8.ofInt (w64 (247+(s3.length:Int)))],y14)) >>= fun s13 =>
  some s13
theorem z3f (a0:UInt64):z1u Tryz.prog 140 [.rd z2c a0] [] (z2t a0) (fun r nv=>⟨[.val (nv 0)],[(100,some (nv 0,.list u8R 5 r))]⟩):=by
 refine z2d 41 Tryz.func140 Z Z Z fun H w=>?_
 refine gSR<|Zb Z<|z0s<|gSR<|Zm Z<|Zq (U.leq Z Z)<|Zj Z (fun h1=>?_) (fun h1=>?_)
 ·
  refine gSR<|Zm Z<|Zq (U.toB Z tu41 tu5)<|Ef Z (lit (R:=u8R) ([a0.toUInt8]:List UInt8) 1 (pP Z Z<|pN) Z tu75 ti5 Z Z) fun v2=>Zb Z<|z0k<|z0w<|Ze [v2] [1] Z
 ·
  refine Zt<|gSR<|Zb Z<|z8n (fun (s3:(List UInt8)) aa ww=>∃ nv:Nat→Value,Sta (ctx 41 H [] w) [(3,.val (nv 0))] [(3,some ((nv 0),.list u8R 5 s3))] aa ww) ?_ (fun s3=>?_)
  ·
   refine zxu u8R 5 6<|z26 (fun (s4:UInt64 × (List UInt8)) aa ww=>∃ nv:Nat→Value,Sta (ctx 41 H [] w) [(0,.rd z2c s4.1),(3,.val (nv 0))] [(5,some ((nv 0),.list u8R 5 s4.2))] aa ww) (fun aa ww h=>⟨nvl [(.slice none 0 0)],Zu h [6]⟩) (fun s4=>?_)
   refine gEx fun n5=>z0s<|gSR<|Zm Z<|Zq (U.gtr Z Z)<|Zj Z (fun h6=>?_) (fun h6=>?_)
   ·
    refine Zt<|z4y<|gSR<|Zm Z<|Zm Z<|Zq (U.rem Z Z (by decide))<|Zq (U.toB Z tu41 tu5)<|Ef Z (lit (R:=u8R) ([(s4.1 % 256).toUInt8]:List UInt8) 7 (pP Z Z<|pN) Z tu75 ti5 Z Z) fun v7=>z0n fun x8 h9=>Ef Z (apn 5 Z Z Z (.own 7 Z) h9 tu75 ti5 Z Z Z) fun v10=>Zb Z<|z2e<|Zm Z<|Zq (U.quo Z Z (by decide))<|Za Z<|z1q<|z35<|z1k (fun aa ww h=>⟨nvl [v10],Zu h [5]⟩)
   ·
    refine z1s<|z0x<|z0y<|z3n (fun aa ww h=>⟨nvl [(n5 0)],Zu h [5]⟩)
  ·
   refine gEx fun n11=>gSR<|Zm Z<|Zq (z3g Z (.own 3 Z) Z tu75)<|Zq (I.add Z Z)<|Zq (I.toB Z tu3 tu5)<|Ef Z (lit (R:=u8R) ([UInt8.ofInt (w64 (247+(s3.length:Int)))]:List UInt8) 8 (pP Z Z<|pN) Z tu75 ti5 Z Z) fun v12=>Zb Z<|z8n (fun (s13:(List UInt8)) aa ww=>∃ nv:Nat→Value,Sta (ctx 41 H [] w) [(4,.val (nv 0))] [(8,some ((nv 0),.list u8R 5 s13))] aa ww) ?_ (fun s13=>?_)
   ·
    refine gSR<|Zm Z<|Zq (z3g Z (.own 3 Z) Z tu75)<|Zq (I.sub Z Z)<|Za Z<|z1t 5 Z fun y14=>Zn<|z26 (fun (s15:(List UInt8) × Int) aa ww=>∃ nv:Nat→Value,Sta (ctx 41 H [] w) [(3,.val (n11 0)),(4,.val (nv 0)),(5,.rd z0e s15.2)] [(3,some ((n11 0),.list u8R 5 s3)),(8,some ((nv 0),.list u8R 5 s15.1))] aa ww) (fun aa ww h=>⟨nvl [v12],Zu h [3,8]⟩) (fun s15=>?_)
    refine gEx fun n16=>z0s<|gSR<|Zm Z<|Zq (I.geq Z Z)<|Zj Z (fun h17=>?_) (fun h17=>?_)
    ·
     refine Zt<|z0s<|z4y<|z2e<|Zm Z<|Zm Z<|Zm Z<|z0n fun x18 h19=>Zq (ixO 3 Z Z Z h19 tu75 ti5)<|Zq (ld 3 Z Z (Foc.el h19) ty5 Z)<|Ef Z (lit (R:=u8R) ([x18]:List UInt8) 9 (pP Z Z<|pN) Z tu75 ti5 Z Z) fun v20=>z0n fun x21 h22=>Ef Z (apn 8 Z Z Z (.own 9 Z) h22 tu75 ti5 Z Z Z) fun v23=>Za Z<|z1q<|z35<|z0o<|z2e<|Zm Z<|Zq (I.sub Z Z)<|Za Z<|z1t 5 Z fun y24=>z1q<|z1k (fun aa ww h=>⟨nvl [v23],Zu h [3,8]⟩)
    ·
     refine z1s<|z0x<|z0y<|z3n (fun aa ww h=>⟨nvl [(n16 0)],Zu h [8]⟩)
   ·
    refine gEx fun n25=>gSR<|Zm Z<|Zb Z<|z0k<|Ze [(n25 0)] [8] Z
def z82 (a0:List V3) (s4:(List UInt8) × Int):Option (Sum ((List UInt8)) ((List UInt8) × Int)) :=
 if decide (s4.2<(a0.length:Int)) then
  idx a0 s4.2 >>= fun x7 =>
  app 1 s4.1 x7.toList >>= fun x9 =>
  some (w64 (s4.2+1)) >>= fun y12 =>
  some (.inr (x9,y12))
 else
  some (.inl s4.1)
def zcx (a0:List V3):Option ((List UInt8)) :=
 z2t (UInt64.ofInt (a0.length:Int)) >>= fun r1 =>
 (iter (z82 a0) (r1,0)) >>= fun s3 =>
 some s3
theorem zlr (a0:List V3):z1u Tryz.prog 174 [.rd (z02 aZ) a0] [] (zcx a0) (fun r nv=>⟨[.val (nv 0)],[(100,some (nv 0,.list u8R 5 r))]⟩):=by
 refine z2d 22 Tryz.func174 Z Z Z fun H w=>?_
 refine gSR<|Zb Z<|gSR<|Zm Z<|Zq (z3g Z .rd Z tu22)<|Zq (I.toU Z tu3 tu41)<|Zc [] [(100,1)] Tryz.func140 Z (z3f _) fun r1 n2=>Zb Z<|z8n (fun (s3:(List UInt8)) aa ww=>∃ nv:Nat→Value,Sta (ctx 22 H [] w) [(3,.val (nv 0))] [(1,some ((nv 0),.list u8R 5 s3))] aa ww) ?_ (fun s3=>?_)
 ·
  refine gSR<|Zb Z<|z26 (fun (s4:(List UInt8) × Int) aa ww=>∃ nv:Nat→Value,Sta (ctx 22 H [] w) [(0,.rd (z02 aZ) a0),(3,.val (nv 0)),(4,.rd z0e s4.2)] [(1,some ((nv 0),.list u8R 5 s4.1))] aa ww) (fun aa ww h=>⟨nvl [(n2 0)],Zu h [1]⟩) (fun s4=>?_)
  refine gEx fun n5=>z0s<|gSR<|Zm Z<|Zm Z<|Zq (z3g Z .rd Z tu22)<|Zq (I.lss Z Z)<|Zj Z (fun h6=>?_) (fun h6=>?_)
  ·
   refine Zt<|z0s<|z4y<|z2e<|Zm Z<|Zm Z<|Zm Z<|z0n fun x7 h8=>Zq (ixR Z Z h8 tu22 z2b Z)<|Zq (cutV Z tu62 ti5 Z Z Z)<|z0n fun x9 h10=>Ef Z (apn 1 Z Z Z .rd h10 tu75 ti5 Z Z Z) fun v11=>Za Z<|z1q<|z35<|z0o<|z2e<|Zm Z<|Zq (I.add Z Z)<|Za Z<|z1t 4 Z fun y12=>z1q<|z1k (fun aa ww h=>⟨nvl [v11],Zu h [1]⟩)
  ·
   refine z1s<|z0x<|z0y<|z3n (fun aa ww h=>⟨nvl [(n5 0)],Zu h [1]⟩)
 ·
  refine gEx fun n13=>gSR<|Zm Z<|Zb Z<|z0k<|Ze [(n13 0)] [1] Z
def z93 (a0:List UInt8):Option ((List UInt8)) :=
 z2t (UInt64.ofInt (a0.length:Int)) >>= fun r1 =>
 app 1 r1 a0 >>= fun x3 =>
 some x3
theorem zg1 (a0:List UInt8):z1u Tryz.prog 175 [.rd (z02 u8R) a0] [] (z93 a0) (fun r nv=>⟨[.val (nv 0)],[(100,some (nv 0,.list u8R 5 r))]⟩):=by
 refine z2d 9 Tryz.func175 Z Z Z fun H w=>?_
 refine gSR<|Zb Z<|gSR<|Zm Z<|Zq (z3g Z .rd Z tu75)<|Zq (I.toU Z tu3 tu41)<|Zc [] [(100,1)] Tryz.func140 Z (z3f _) fun r1 n2=>Zm Z<|z0n fun x3 h4=>Ef Z (apn 1 Z Z Z .rd h4 tu75 ti5 Z Z Z) fun v5=>Zb Z<|z0k<|Ze [v5] [1] Z
def zbc (a0:Int):Option ((List UInt8)) :=
 if decide (0≤a0) then
  z2t (2 * (UInt64.ofInt a0)) >>= fun r2 =>
  some r2
 else
  z2t ((2 * (UInt64.ofInt (w64 (0 - (w64 (a0+1))))))+1) >>= fun r4 =>
  some r4
theorem zjb (a0:Int):z1u Tryz.prog 207 [.rd z0e a0] [] (zbc a0) (fun r nv=>⟨[.val (nv 0)],[(100,some (nv 0,.list u8R 5 r))]⟩):=by
 refine z2d 16 Tryz.func207 Z Z Z fun H w=>?_
 refine gSR<|Zb Z<|z0s<|gSR<|Zm Z<|Zq (I.geq Z Z)<|Zj Z (fun h1=>?_) (fun h1=>?_)
 ·
  refine gSR<|Zm Z<|Zq (I.toU Z Tryz.underlying2 tu41)<|Zq (U.mul Z Z)<|Zc [] [(100,1)] Tryz.func140 Z (z3f _) fun r2 n3=>Zb Z<|z0k<|z0w<|Ze [(n3 0)] [1] Z
 ·
  refine Zt<|gSR<|Zm Z<|Zq (I.add Z Z)<|Zq (I.neg Z)<|Zq (I.toU Z Tryz.underlying2 tu41)<|Zq (U.mul Z Z)<|Zq (U.add Z Z)<|Zc [] [(100,2)] Tryz.func140 Z (z3f _) fun r4 n5=>Zb Z<|z0k<|Ze [(n5 0)] [2] Z
def z6v (a0:z04) (s11:(List UInt8) × Int):Option (Sum ((List UInt8)) ((List UInt8) × Int)) :=
 if decide (0≤s11.2) then
  chk (0≤w64 (8 * s11.2)) >>= fun u14 =>
  app 1 s11.1 [(z9b a0.Bits ((w64 (8 * s11.2):Int).toNat)).toUInt8] >>= fun x17 =>
  some (w64 (s11.2 - 1)) >>= fun y20 =>
  some (.inr (x17,y20))
 else
  some (.inl s11.1)
def zc5 (a0:z04):Option ((List UInt8)) :=
 if a0.Kind==1 then
  zbc a0.Num >>= fun r4 =>
  app 1 [a0.Kind] r4 >>= fun x6 =>
  some x6
 else
  if a0.Kind==2 then
   (iter (z6v a0) ([a0.Kind],7)) >>= fun s10 =>
   some s10
  else
   chk (a0.Text.length≤281474976710656) >>= fun u22 =>
   z93 a0.Text >>= fun r24 =>
   app 1 [a0.Kind] r24 >>= fun x26 =>
   some x26
theorem zk4 (a0:z04):z1u Tryz.prog 177 [.rd z28 a0] [] (zc5 a0) (fun r nv=>⟨[.val (nv 0)],[(100,some (nv 0,.list u8R 5 r))]⟩):=by
 refine z2d 39 Tryz.func177 Z Z Z fun H w=>?_
 refine gSR<|Eb Z (bx 1 Z) fun v1=>Zb Z<|gSR<|Zq (faB 1 Z Z Tryz.underlying67 Z (by exact ti5))<|Zq (ld 1 Z Z (fP (z3d _)) ty5 Z)<|Ef Z (lit (R:=u8R) ([a0.Kind]:List UInt8) 2 (pP Z Z<|pN) Z tu75 ti5 Z Z) fun v2=>Zb Z<|z0s<|gSR<|Zq (faB 1 Z Z Tryz.underlying67 Z (by exact ti5))<|Zq (ld 1 Z Z (fP (z3d _)) ty5 Z)<|Zn<|z4y<|gSR<|Zq (B.eql Z Z)<|Zb Z<|gIf Z Z (fun h3=>?_) (fun h3=>?_)
 ·
  refine gKn 11 Z h3<|gSR<|Zm Z<|Zq (faB 1 Z Z Tryz.underlying67 Z (by exact ti2))<|Zq (ld 1 Z Z (fP (z7o _)) ty2 Z)<|Zc [] [(100,3)] Tryz.func207 Z (zjb _) fun r4 n5=>z0n fun x6 h7=>Ef Z (apn 2 Z Z Z (.own 3 Z) h7 tu75 ti5 Z Z Z) fun v8=>Zb Z<|z0k<|z42<|z0w<|Ze [v8] [2] Z
 ·
  refine gKn 11 Z h3<|gSR<|Zq (B.eql Z Z)<|Zb Z<|gIf Z Z (fun h9=>?_) (fun h9=>?_)
  ·
   refine gKn 18 Z h9<|z8n (fun (s10:(List UInt8)) aa ww=>∃ nv:Nat→Value,Sta (ctx 39 H [] w) [(3,.val (nv 0))] [(2,some ((nv 0),.list u8R 5 s10))] aa ww) ?_ (fun s10=>?_)
   ·
    refine gSR<|Zb Z<|z26 (fun (s11:(List UInt8) × Int) aa ww=>∃ nv:Nat→Value,Sta (ctx 39 H [] w) [(1,.val (z06 v1 0)),(3,.val (nv 0)),(4,.rd z0e s11.2)] [(1,some (v1,.box 67 [.rd z28 a0])),(2,some ((nv 0),.list u8R 5 s11.1))] aa ww) (fun aa ww h=>⟨nvl [v2],Zu h [1,2]⟩) (fun s11=>?_)
    refine gEx fun n12=>z0s<|gSR<|Zm Z<|Zq (I.geq Z Z)<|Zj Z (fun h13=>?_) (fun h13=>?_)
    ·
     refine Zt<|z0s<|z4y<|z2e<|Zm Z<|Zq (faB 1 Z Z Tryz.underlying67 Z (by exact zsa))<|Zq (ld 1 Z Z (fP (z4c _)) zry Z)<|Zm Z<|Zq (I.mul Z Z)<|z0n fun u14 h15=>Zq (U.shr Z Z (z4i h15))<|Zq (U.toB Z tu41 tu5)<|Ef Z (lit (R:=u8R) ([(z9b a0.Bits ((w64 (8 * s11.2):Int).toNat)).toUInt8]:List UInt8) 4 (pP Z Z<|pN) Z tu75 ti5 Z Z) fun v16=>z0n fun x17 h18=>Ef Z (apn 2 Z Z Z (.own 4 Z) h18 tu75 ti5 Z Z Z) fun v19=>Za Z<|z1q<|z35<|z0o<|z2e<|Zm Z<|Zq (I.sub Z Z)<|Za Z<|z1t 4 Z fun y20=>z1q<|z1k (fun aa ww h=>⟨nvl [v19],Zu h [1,2]⟩)
    ·
     refine z1s<|z0x<|z0y<|z3n (fun aa ww h=>⟨nvl [(n12 0)],Zu h [2]⟩)
   ·
    refine gEx fun n21=>gSR<|Zm Z<|Zb Z<|z0k<|z42<|z0w<|Ze [(n21 0)] [2] Z
  ·
   refine gKn 18 Z h9<|z2m<|z35<|z0o<|gSR<|Zm Z<|Zq (faB 1 Z Z Tryz.underlying67 Z (by exact ti9))<|Zq (ld 1 Z Z (fP (z3u _)) ty9 Z)<|z0n fun u22 h23=>z149 Z Z h23 tu9 tu75 tu5<|Zc [] [(100,5)] Tryz.func175 Z (zg1 _) fun r24 n25=>z0n fun x26 h27=>Ef Z (apn 2 Z Z Z (.own 5 Z) h27 tu75 ti5 Z Z Z) fun v28=>Zb Z<|z0k<|Ze [v28] [2] Z
def z6u (a0:z07):Option ((List UInt8)) :=
 z2t a0.Author.toUInt64 >>= fun r3 =>
 app 1 [111] r3 >>= fun x5 =>
 zcx a0.Preds >>= fun r8 =>
 app 1 x5 r8 >>= fun x10 =>
 z2t a0.Stamp >>= fun r13 =>
 app 1 x10 r13 >>= fun x15 =>
 app 1 x15 [a0.Act.Kind] >>= fun x19 =>
 (if a0.Act.Kind != 1 then
  chk (a0.Act.Key.length≤281474976710656) >>= fun u24 =>
  z93 a0.Act.Key >>= fun r26 =>
  app 1 x19 r26 >>= fun x28 =>
  some x28
 else
  some x19) >>= fun s22 =>
 if a0.Act.Kind==4 then
  zc5 a0.Act.Value >>= fun r33 =>
  app 1 s22 r33 >>= fun x35 =>
  some x35
 else
  some s22
theorem zd7 (a0:z07):z1u Tryz.prog 139 [.rd z03 a0] [] (z6u a0) (fun r nv=>⟨[.val (nv 0)],[(100,some (nv 0,.list u8R 5 r))]⟩):=by
 refine z2d 47 Tryz.func139 Z Z Z fun H w=>?_
 refine gSR<|Eb Z (bx 1 Z) fun v1=>Zb Z<|gSR<|Ef Z (lit (R:=u8R) ([111]:List UInt8) 2 (pP Z Z<|pN) Z tu75 ti5 Z Z) fun v2=>Zq (faB 1 Z Z Tryz.underlying73 Z (by exact z6p))<|Zq (ld 1 Z Z (fP (z36 _)) zaj Z)<|Zq (W.toU Z tu65 tu41)<|Zc [] [(100,3)] Tryz.func140 Z (z3f _) fun r3 n4=>z0n fun x5 h6=>Ef Z (apn 2 Z Z Z (.own 3 Z) h6 tu75 ti5 Z Z Z) fun v7=>Zb Z<|z0s<|z99 [2,13,25] mixed Z Z<|hTk 0 Z Z (mv Z)<|hTk 1 Z Z (faB 1 Z Z Tryz.underlying73 Z (by exact z6e))<|hTk 2 Z Z (ld 1 Z Z (fP (z0z _)) z8j Z)<|hTk 5 Z Z (faB 1 Z Z Tryz.underlying73 Z (by exact zsa))<|hTk 6 Z Z (ld 1 Z Z (fP (z4o _)) zry Z)<|z4e 3 [] [(100,13)] Z (by kernel_rfl) Z (gd0 Z) Z Tryz.func174 Z Z (zlr _) (Y1 Z) rN Z (fun _ _=>z3t) fun r8 n9=>z64 fun x10 h11=>Zo 4 Z Z Z (apn 2 Z Z Z (.own 13 Z) h11 tu75 ti5 Z Z Z) fun v12=>z4e 7 [] [(100,25)] Z (by kernel_rfl) Z (gd0 Z) Z Tryz.func140 Z Z (z3f _) (Y1 Z) rN Z (fun _ _=>z3t) fun r13 n14=>z64 fun x15 h16=>Zo 8 Z Z Z (apn 2 Z Z Z (.own 25 Z) h16 tu75 ti5 Z Z Z) fun v17=>Zf 9 Z Z z3t (asg Z)<|z5a (by kernel_rfl)<|z0o<|gSR<|Zm Z<|Zq (faB 1 Z Z Tryz.underlying73 Z (by exact zpv))<|Zq (faB 1 Z Z Tryz.underlying69 Z (by exact ti5))<|Zq (ld 1 Z Z ((fP (z29 _)).part (z3z _)) ty5 Z)<|Ef Z (lit (R:=u8R) ([a0.Act.Kind]:List UInt8) 37 (pP Z Z<|pN) Z tu75 ti5 Z Z) fun v18=>z0n fun x19 h20=>Ef Z (apn 2 Z Z Z (.own 37 Z) h20 tu75 ti5 Z Z Z) fun v21=>Zb Z<|z8n (fun (s22:(List UInt8)) aa ww=>∃ nv:Nat→Value,Sta (ctx 47 H [] w) [(1,.val (z06 v1 0)),(3,.val (nv 0))] [(1,some (v1,.box 73 [.rd z03 a0])),(2,some ((nv 0),.list u8R 5 s22))] aa ww) ?_ (fun s22=>?_)
 ·
  refine gSR<|Zq (faB 1 Z Z Tryz.underlying73 Z (by exact zpv))<|Zq (faB 1 Z Z Tryz.underlying69 Z (by exact ti5))<|Zq (ld 1 Z Z ((fP (z29 _)).part (z3z _)) ty5 Z)<|Zq (B.neq Z Z)<|Zj Z (fun h23=>?_) (fun h23=>?_)
  ·
   refine z2e<|Zm Z<|Zq (faB 1 Z Z Tryz.underlying73 Z (by exact zpv))<|Zq (faB 1 Z Z Tryz.underlying69 Z (by exact ti9))<|Zq (ld 1 Z Z ((fP (z29 _)).part (z6h _)) ty9 Z)<|z0n fun u24 h25=>z149 Z Z h25 tu9 tu75 tu5<|Zc [] [(100,38)] Tryz.func175 Z (zg1 _) fun r26 n27=>z0n fun x28 h29=>Ef Z (apn 2 Z Z Z (.own 38 Z) h29 tu75 ti5 Z Z Z) fun v30=>Za Z<|z1q<|z3n (fun aa ww h=>⟨nvl [v30],Zu h [1,2]⟩)
  ·
   refine z2m<|z3n (fun aa ww h=>⟨nvl [v21],Zu h [1,2]⟩)
 ·
  refine gEx fun n31=>z0s<|gSR<|Zq (faB 1 Z Z Tryz.underlying73 Z (by exact zpv))<|Zq (faB 1 Z Z Tryz.underlying69 Z (by exact ti5))<|Zq (ld 1 Z Z ((fP (z29 _)).part (z3z _)) ty5 Z)<|Zq (B.eql Z Z)<|Zj Z (fun h32=>?_) (fun h32=>?_)
  ·
   refine z2e<|Zm Z<|Zq (faB 1 Z Z Tryz.underlying73 Z (by exact zpv))<|Zq (faB 1 Z Z Tryz.underlying69 Z (by exact zmd))<|Zq (ld 1 Z Z ((fP (z29 _)).part (z5q _)) zum Z)<|Zc [] [(100,39)] Tryz.func177 Z (zk4 _) fun r33 n34=>z0n fun x35 h36=>Ef Z (apn 2 Z Z Z (.own 39 Z) h36 tu75 ti5 Z Z Z) fun v37=>Zb Z<|gSR<|Zm Z<|Zb Z<|z0k<|Ze [v37] [2] Z
  ·
   refine Zt<|gSR<|Zm Z<|Zb Z<|z0k<|Ze [(n31 0)] [2] Z
def zc3 (a0:z07):Option ((List UInt8)) :=
 z6u a0 >>= fun r2 =>
 z2t a0.Sig.E.toUInt64 >>= fun r4 =>
 app 1 r2 r4 >>= fun x6 =>
 z2t a0.Sig.S.toUInt64 >>= fun r9 =>
 app 1 x6 r9 >>= fun x11 =>
 some x11
theorem zkb (a0:z07):z1u Tryz.prog 96 [.rd z03 a0] [] (zc3 a0) (fun r nv=>⟨[.val (nv 0)],[(100,some (nv 0,.list u8R 5 r))]⟩):=by
 refine z2d 17 Tryz.func96 Z Z Z fun H w=>?_
 refine gSR<|Eb Z (bx 1 Z) fun v1=>Zb Z<|z0s<|z99 [5,20,38] mixed Z Z<|hTk 0 Z Z (ld 1 Z Z fH z9n Z)<|hTk 2 Z Z (faB 1 Z Z Tryz.underlying73 Z (by exact zng))<|hTk 3 Z Z (faB 1 Z Z Tryz.underlying71 Z (by exact z6p))<|hTk 4 Z Z (ld 1 Z Z ((fP (z2j _)).part (z5d _)) zaj Z)<|hTk 5 Z Z (W.toU Z tu65 tu41)<|hTk 8 Z Z (faB 1 Z Z Tryz.underlying73 Z (by exact zng))<|hTk 9 Z Z (faB 1 Z Z Tryz.underlying71 Z (by exact z6p))<|hTk 10 Z Z (ld 1 Z Z ((fP (z2j _)).part (z7x _)) zaj Z)<|hTk 11 Z Z (W.toU Z tu65 tu41)<|z4e 1 [] [(100,5)] Z (by kernel_rfl) Z (gd0 Z) Z Tryz.func139 Z Z (zd7 _) (Y1 Z) rN Z (fun _ _=>z3t) fun r2 n3=>z4e 6 [] [(100,20)] Z (by kernel_rfl) Z (gd0 Z) Z Tryz.func140 Z Z (z3f _) (Y1 Z) rN Z (fun _ _=>z3t) fun r4 n5=>z64 fun x6 h7=>Zo 7 Z Z Z (apn 5 Z Z Z (.own 20 Z) h7 tu75 ti5 Z Z Z) fun v8=>z4e 12 [] [(100,38)] Z (by kernel_rfl) Z (gd0 Z) Z Tryz.func140 Z Z (z3f _) (Y1 Z) rN Z (fun _ _=>z3t) fun r9 n10=>z64 fun x11 h12=>Zo 13 Z Z Z (apn 5 Z Z Z (.own 38 Z) h12 tu75 ti5 Z Z Z) fun v13=>Zf 14 Z Z z3t (asg Z)<|z5a (by kernel_rfl)<|z0o<|z0k<|Ze [v13] [5] Z
def zeh  : Option ((Vector UInt32 8)) :=
 some (#v[1779033703,3144134277,1013904242,2773480762,1359893119,2600822924,528734635,1541459225]:Vector UInt32 8)
theorem zk5  : z1u Tryz.prog 137 [] [] (zeh) (fun r nv=>⟨[.rd (z3j 8 z0p) r],[]⟩):=by
 refine z2d 2 Tryz.func137 Z Z Z fun H w=>?_
 refine gSR<|Eb Z (z56 1 zjh (.zr (R:=(z3j 8 z0p)) (x:=(Vector.replicate 8 0)) zu3)) fun v1=>Zn<|gSR<|Zq (litA (R:=z0p) [1779033703,3144134277,1013904242,2773480762,1359893119,2600822924,528734635,1541459225] (#v[1779033703,3144134277,1013904242,2773480762,1359893119,2600822924,528734635,1541459225]:Vector UInt32 8) (pP Z Z<|pP Z Z<|pP Z Z<|pP Z Z<|pP Z Z<|pP Z Z<|pP Z Z<|pP Z Z<|pN) Z tu164 zjh Z z6p)<|Es (sto 1 Z Z fH Z zjh)<|Zn<|z0k<|zbq [] [] Z (eC 1 Z Z zsz<|eN) (rN)
def z87 (a0:Int) (s3:(List UInt8)):Option (Sum ((List UInt8)) ((List UInt8))) :=
 if (Int.tmod (w64 ((w64 (a0+(s3.length:Int)))+8)) 64) != 0 then
  app 1 s3 [0] >>= fun x7 =>
  some (.inr x7)
 else
  some (.inl s3)
def z86 (a0:Int) (s12:(List UInt8) × Int):Option (Sum ((List UInt8)) ((List UInt8) × Int)) :=
 if decide (0≤s12.2) then
  chk (0≤w64 (8 * s12.2)) >>= fun u15 =>
  app 1 s12.1 [(z9b (8 * (UInt64.ofInt a0)) ((w64 (8 * s12.2):Int).toNat)).toUInt8] >>= fun x18 =>
  some (w64 (s12.2 - 1)) >>= fun y21 =>
  some (.inr (x18,y21))
 else
  some (.inl s12.1)
def zct (a0:Int):Option ((List UInt8)) :=
 (iter (z87 a0) [128]) >>= fun s2 =>
 (iter (z86 a0) (s2,7)) >>= fun s11 =>
 some s11
theorem zm1 (a0:Int):z1u Tryz.prog 138 [.rd z0e a0] [] (zct a0) (fun r nv=>⟨[.val (nv 0)],[(100,some (nv 0,.list u8R 5 r))]⟩):=by
 refine z2d 31 Tryz.func138 Z Z Z fun H w=>?_
 refine gSR<|Zb Z<|gSR<|Ef Z (lit (R:=u8R) ([128]:List UInt8) 1 (pP Z Z<|pN) Z tu75 ti5 Z Z) fun v1=>Zb Z<|z8n (fun (s2:(List UInt8)) aa ww=>∃ nv:Nat→Value,Sta (ctx 31 H [] w) [(0,.rd z0e a0),(3,.val (nv 0))] [(1,some ((nv 0),.list u8R 5 s2))] aa ww) ?_ (fun s2=>?_)
 ·
  refine z26 (fun (s3:(List UInt8)) aa ww=>∃ nv:Nat→Value,Sta (ctx 31 H [] w) [(0,.rd z0e a0),(3,.val (nv 0))] [(1,some ((nv 0),.list u8R 5 s3))] aa ww) (fun aa ww h=>⟨nvl [v1],Zu h [1]⟩) (fun s3=>?_)
  refine gEx fun n4=>z0s<|gSR<|Zm Z<|Zm Z<|Zq (z3g Z (.own 1 Z) Z tu75)<|Zq (I.add Z Z)<|Zq (I.add Z Z)<|Zq (I.rem Z Z (by decide))<|Zq (I.neq Z Z)<|Zj Z (fun h5=>?_) (fun h5=>?_)
  ·
   refine Zt<|z4y<|z2e<|Zm Z<|Ef Z (lit (R:=u8R) ([0]:List UInt8) 2 (pP Z Z<|pN) Z tu75 ti5 Z Z) fun v6=>z0n fun x7 h8=>Ef Z (apn 1 Z Z Z (.own 2 Z) h8 tu75 ti5 Z Z Z) fun v9=>Za Z<|z1q<|z35<|z1k (fun aa ww h=>⟨nvl [v9],Zu h [1]⟩)
  ·
   refine z1s<|z0x<|z0y<|z3n (fun aa ww h=>⟨nvl [(n4 0)],Zu h [1]⟩)
 ·
  refine gEx fun n10=>z8n (fun (s11:(List UInt8)) aa ww=>∃ nv:Nat→Value,Sta (ctx 31 H [] w) [(3,.val (nv 0))] [(1,some ((nv 0),.list u8R 5 s11))] aa ww) ?_ (fun s11=>?_)
  ·
   refine gSR<|Zb Z<|z26 (fun (s12:(List UInt8) × Int) aa ww=>∃ nv:Nat→Value,Sta (ctx 31 H [] w) [(0,.rd z0e a0),(3,.val (nv 0)),(4,.rd z0e s12.2)] [(1,some ((nv 0),.list u8R 5 s12.1))] aa ww) (fun aa ww h=>⟨nvl [(n10 0)],Zu h [1]⟩) (fun s12=>?_)
   refine gEx fun n13=>z0s<|gSR<|Zm Z<|Zq (I.geq Z Z)<|Zj Z (fun h14=>?_) (fun h14=>?_)
   ·
    refine Zt<|z0s<|z4y<|z2e<|Zm Z<|Zm Z<|Zq (I.toU Z tu3 tu41)<|Zq (U.mul Z Z)<|Zm Z<|Zq (I.mul Z Z)<|z0n fun u15 h16=>Zq (U.shr Z Z (z4i h16))<|Zq (U.toB Z tu41 tu5)<|Ef Z (lit (R:=u8R) ([(z9b (8 * (UInt64.ofInt a0)) ((w64 (8 * s12.2):Int).toNat)).toUInt8]:List UInt8) 3 (pP Z Z<|pN) Z tu75 ti5 Z Z) fun v17=>z0n fun x18 h19=>Ef Z (apn 1 Z Z Z (.own 3 Z) h19 tu75 ti5 Z Z Z) fun v20=>Za Z<|z1q<|z35<|z0o<|z2e<|Zm Z<|Zq (I.sub Z Z)<|Za Z<|z1t 4 Z fun y21=>z1q<|z1k (fun aa ww h=>⟨nvl [v20],Zu h [1]⟩)
   ·
    refine z1s<|z0x<|z0y<|z3n (fun aa ww h=>⟨nvl [(n13 0)],Zu h [1]⟩)
  ·
   refine gEx fun n22=>gSR<|Zm Z<|Zb Z<|z0k<|Ze [(n22 0)] [1] Z
def z2v (a0:UInt32) (a1:Int):Option (UInt32) :=
 chk (0≤a1) >>= fun u1 =>
 chk (0≤w64 (32 - a1)) >>= fun u3 =>
 some ((z4z a0 ((a1:Int).toNat)) ||| (zs8 a0 ((w64 (32 - a1):Int).toNat))) >>= fun y5 =>
 some y5
theorem z2w (a0:UInt32) (a1:Int):z1u Tryz.prog 205 [.rd z0p a0,.rd z0e a1] [] (z2v a0 a1) (fun r nv=>⟨[.rd z0p r],[]⟩):=by
 refine z2d 13 Tryz.func205 Z Z Z fun H w=>?_
 refine gSR<|Zb Z<|z0s<|zjf mixed (by kernel_rfl)<|Rq Z (mv Z)<|Rq Z (mv Z)<|z9a fun u1 h2=>Rq Z (W.shr Z Z (z4i h2))<|Rq Z (mv Z)<|Rq Z (mv Z)<|Rq Z (I.sub Z Z)<|z9a fun u3 h4=>Rq Z (W.shl Z Z (z4i h4))<|Rq Z (W.or Z Z)<|Rq Z (asg Z)<|z1ai 4 Z fun y5=>zug<|z0o<|z0k<|Ze [] [] Z
def zbk  : Option ((List UInt32)) :=
 some [1116352408,1899447441,3049323471,3921009573,961987163,1508970993,2453635748,2870763221,3624381080,310598401,607225278,1426881987,1925078388,2162078206,2614888103,3248222580,3835390401,4022224774,264347078,604807628,770255983,1249150122,1555081692,1996064986,2554220882,2821834349,2952996808,3210313671,3336571891,3584528711,113926993,338241895,666307205,773529912,1294757372,1396182291,1695183700,1986661051,2177026350,2456956037,2730485921,2820302411,3259730800,3345764771,3516065817,3600352804,4094571909,275423344,430227734,506948616,659060556,883997877,958139571,1322822218,1537002063,1747873779,1955562222,2024104815,2227730452,2361852424,2428436474,2756734187,3204031479,3329325298]
theorem zhk  : z1u Tryz.prog 206 [] [] (zbk) (fun r nv=>⟨[.val (nv 0)],[(100,some (nv 0,.list z0p 65 r))]⟩):=by
 refine z2d 2 Tryz.func206 Z Z Z fun H w=>?_
 refine gSR<|Zb Z<|gSR<|Ef Z (lit (R:=z0p) ([1116352408,1899447441,3049323471,3921009573,961987163,1508970993,2453635748,2870763221,3624381080,310598401,607225278,1426881987,1925078388,2162078206,2614888103,3248222580,3835390401,4022224774,264347078,604807628,770255983,1249150122,1555081692,1996064986,2554220882,2821834349,2952996808,3210313671,3336571891,3584528711,113926993,338241895,666307205,773529912,1294757372,1396182291,1695183700,1986661051,2177026350,2456956037,2730485921,2820302411,3259730800,3345764771,3516065817,3600352804,4094571909,275423344,430227734,506948616,659060556,883997877,958139571,1322822218,1537002063,1747873779,1955562222,2024104815,2227730452,2361852424,2428436474,2756734187,3204031479,3329325298]:List UInt32) 1 (pP Z Z<|pP Z Z<|pP Z Z<|pP Z Z<|pP Z Z<|pP Z Z<|pP Z Z<|pP Z Z<|pP Z Z<|pP Z Z<|pP Z Z<|pP Z Z<|pP Z Z<|pP Z Z<|pP Z Z<|pP Z Z<|pP Z Z<|pP Z Z<|pP Z Z<|pP Z Z<|pP Z Z<|pP Z Z<|pP Z Z<|pP Z Z<|pP Z Z<|pP Z Z<|pP Z Z<|pP Z Z<|pP Z Z<|pP Z Z<|pP Z Z<|pP Z Z<|pP Z Z<|pP Z Z<|pP Z Z<|pP Z Z<|pP Z Z<|pP Z Z<|pP Z Z<|pP Z Z<|pP Z Z<|pP Z Z<|pP Z Z<|pP Z Z<|pP Z Z<|pP Z Z<|pP Z Z<|pP Z Z<|pP Z Z<|pP Z Z<|pP Z Z<|pP Z Z<|pP Z Z<|pP Z Z<|pP Z Z<|pP Z Z<|pP Z Z<|pP Z Z<|pP Z Z<|pP Z Z<|pP Z Z<|pP Z Z<|pP Z Z<|pP Z Z<|pN) Z tu217 z6p Z Z) fun v1=>Zb Z<|z0k<|Ze [v1] [1] Z
def z61 (a1:List UInt8) (s4:(List UInt32) × Int):Option (Sum ((List UInt32)) ((List UInt32) × Int)) :=
 if decide (s4.2<16) then
  idx a1 (w64 (4 * s4.2)) >>= fun x7 =>
  idx a1 (w64 ((w64 (4 * s4.2))+1)) >>= fun x9 =>
  idx a1 (w64 ((w64 (4 * s4.2))+2)) >>= fun x11 =>
  idx a1 (w64 ((w64 (4 * s4.2))+3)) >>= fun x13 =>
  app 4 s4.1 [(((((x7.toUInt32 * 256)+x9.toUInt32) * 256)+x11.toUInt32) * 256)+x13.toUInt32] >>= fun x16 =>
  some (w64 (s4.2+1)) >>= fun y19 =>
  some (.inr (x16,y19))
 else
  some (.inl s4.1)
def z5v (s22:(List UInt32) × Int):Option (Sum ((List UInt32)) ((List UInt32) × Int)) :=
 if decide (s22.2<64) then
  idx s22.1 (w64 (s22.2 - 15)) >>= fun x25 =>
  idx s22.1 (w64 (s22.2 - 2)) >>= fun x27 =>
  idx s22.1 (w64 (s22.2 - 16)) >>= fun x29 =>
  idx s22.1 (w64 (s22.2 - 7)) >>= fun x31 =>
  z2v x25 7 >>= fun r33 =>
  z2v x25 18 >>= fun r36 =>
  z2v x27 17 >>= fun r39 =>
  z2v x27 19 >>= fun r42 =>
  app 4 s22.1 [((x29+x31)+((r33 ^^^ r36) ^^^ (z4z x25 3)))+((r39 ^^^ r42) ^^^ (z4z x27 10))] >>= fun x45 =>
  some (w64 (s22.2+1)) >>= fun y48 =>
  some (.inr (x45,y48))
 else
  some (.inl s22.1)
def z3x (s21:(List UInt32)) (r50:(List UInt32)) (s54:(Vector UInt32 8) × Int):Option (Sum ((Vector UInt32 8)) ((Vector UInt32 8) × Int)) :=
 if decide (s54.2<64) then
  z98 s54.1 0 >>= fun x56 =>
  z98 s54.1 1 >>= fun x58 =>
  z98 s54.1 2 >>= fun x60 =>
  z98 s54.1 4 >>= fun x62 =>
  z98 s54.1 5 >>= fun x64 =>
  z98 s54.1 6 >>= fun x66 =>
  z98 s54.1 7 >>= fun x68 =>
  idx r50 s54.2 >>= fun x70 =>
  idx s21 s54.2 >>= fun x72 =>
  z2v x62 6 >>= fun r74 =>
  z2v x62 11 >>= fun r76 =>
  z2v x62 25 >>= fun r78 =>
  some ((((x68+((r74 ^^^ r76) ^^^ r78))+((x62 &&& x64) ^^^ ((~~~x62) &&& x66)))+x70)+x72) >>= fun y80 =>
  z2v x56 2 >>= fun r81 =>
  z2v x56 13 >>= fun r83 =>
  z2v x56 22 >>= fun r85 =>
  some (((r81 ^^^ r83) ^^^ r85)+(((x56 &&& x58) ^^^ (x56 &&& x60)) ^^^ (x58 &&& x60))) >>= fun y87 =>
  z98 s54.1 3 >>= fun x88 =>
  some (w64 (s54.2+1)) >>= fun y90 =>
  some (.inr ((#v[y80+y87,x56,x58,x60,x88+y80,x62,x64,x66]:Vector UInt32 8),y90))
 else
  some (.inl s54.1)
def z24 (s53:(Vector UInt32 8)) (s92:(Vector UInt32 8) × Int):Option (Sum ((Vector UInt32 8)) ((Vector UInt32 8) × Int)) :=
 if decide (s92.2<8) then
  z98 s92.1 s92.2 >>= fun x94 =>
  z98 s53 s92.2 >>= fun x96 =>
  z98 s92.1 s92.2 >>= fun x98 =>
  some (w64 (s92.2+1)) >>= fun y100 =>
  some (.inr (zkq s92.1 s92.2 (x94+x96),y100))
 else
  some (.inl s92.1)
def zb5 (a0:Vector UInt32 8) (a1:List UInt8):Option ((Vector UInt32 8)) :=
 (iter (z61 a1) ([],0)) >>= fun s3 =>
 (iter (z5v) (s3,16)) >>= fun s21 =>
 zbk >>= fun r50 =>
 (iter (z3x s21 r50) (a0,0)) >>= fun s53 =>
 (iter (z24 s53) (a0,0)) >>= fun s91 =>
 some s91
set_option maxHeartbeats 4000000 in
theorem zjj (a0:Vector UInt32 8) (a1:List UInt8):z1u Tryz.prog 176 [.rd (z3j 8 z0p) a0,.rd (z02 u8R) a1] [] (zb5 a0 a1) (fun r nv=>⟨[.rd (z3j 8 z0p) r],[]⟩):=by
 refine z2d 203 Tryz.func176 Z Z Z fun H w=>?_
 refine gSR<|Eb Z (bx 1 Z) fun v1=>Eb Z (z56 2 zjh (.zr (R:=(z3j 8 z0p)) (x:=(Vector.replicate 8 0)) zu3)) fun v2=>Zn<|gSR<|Zb Z<|z8n (fun (s3:(List UInt32)) aa ww=>∃ nv:Nat→Value,Sta (ctx 203 H [] w) [(2,.val (z06 v1 0)),(4,.val (z06 v2 0)),(5,.val (nv 0))] [(1,some (v1,.box 164 [.rd (z3j 8 z0p) a0])),(2,some (v2,.box 164 [.rd (z3j 8 z0p) (Vector.replicate 8 0)])),(108,some ((nv 0),.list z0p 65 s3))] aa ww) ?_ (fun s3=>?_)
 ·
  refine gSR<|Zb Z<|zxu z0p 65 215<|z26 (fun (s4:(List UInt32) × Int) aa ww=>∃ nv:Nat→Value,Sta (ctx 203 H [] w) [(1,.rd (z02 u8R) a1),(2,.val (z06 v1 0)),(4,.val (z06 v2 0)),(5,.val (nv 0)),(6,.rd z0e s4.2)] [(1,some (v1,.box 164 [.rd (z3j 8 z0p) a0])),(2,some (v2,.box 164 [.rd (z3j 8 z0p) (Vector.replicate 8 0)])),(214,some ((nv 0),.list z0p 65 s4.1))] aa ww) (fun aa ww h=>⟨nvl [(.slice none 0 0)],Zu h [1,2,215]⟩) (fun s4=>?_)
  refine gEx fun n5=>z0s<|gSR<|Zm Z<|Zq (I.lss Z Z)<|Zj Z (fun h6=>?_) (fun h6=>?_)
  ·
   refine Zt<|z0s<|z4y<|z99 [214,318] mixed Z Z<|hTk 0 Z Z (mv Z)<|hTk 1 Z Z (mv Z)<|hTk 2 Z Z (mv Z)<|hTk 3 Z Z (I.mul Z Z)<|z64 fun x7 h8=>hTk 4 Z Z (ixR Z Z h8 tu75 ti5 Z)<|hTk 5 Z Z (ldR Z ty5)<|hTk 6 Z Z (B.toW Z tu5 tu65)<|hTk 7 Z Z (W.mul Z Z)<|hTk 8 Z Z (mv Z)<|hTk 9 Z Z (mv Z)<|hTk 10 Z Z (I.mul Z Z)<|hTk 11 Z Z (I.add Z Z)<|z64 fun x9 h10=>hTk 12 Z Z (ixR Z Z h10 tu75 ti5 Z)<|hTk 13 Z Z (ldR Z ty5)<|hTk 14 Z Z (B.toW Z tu5 tu65)<|hTk 15 Z Z (W.add Z Z)<|hTk 16 Z Z (W.mul Z Z)<|hTk 17 Z Z (mv Z)<|hTk 18 Z Z (mv Z)<|hTk 19 Z Z (I.mul Z Z)<|hTk 20 Z Z (I.add Z Z)<|z64 fun x11 h12=>hTk 21 Z Z (ixR Z Z h12 tu75 ti5 Z)<|hTk 22 Z Z (ldR Z ty5)<|hTk 23 Z Z (B.toW Z tu5 tu65)<|hTk 24 Z Z (W.add Z Z)<|hTk 25 Z Z (W.mul Z Z)<|hTk 26 Z Z (mv Z)<|hTk 27 Z Z (mv Z)<|hTk 28 Z Z (I.mul Z Z)<|hTk 29 Z Z (I.add Z Z)<|z64 fun x13 h14=>hTk 30 Z Z (ixR Z Z h14 tu75 ti5 Z)<|hTk 31 Z Z (ldR Z ty5)<|hTk 32 Z Z (B.toW Z tu5 tu65)<|hTk 33 Z Z (W.add Z Z)<|Zo 34 Z Z Z (lit (R:=z0p) ([(((((x7.toUInt32 * 256)+x9.toUInt32) * 256)+x11.toUInt32) * 256)+x13.toUInt32]:List UInt32) 318 (pP Z Z<|pN) Z tu217 z6p Z Z) fun v15=>z64 fun x16 h17=>Zo 35 Z Z Z (apn 214 Z Z Z (.own 318 Z) h17 tu217 z6p Z Z Z) fun v18=>Zf 36 Z Z z3t (asg Z)<|z5a (by kernel_rfl)<|z35<|z0o<|z2e<|Zm Z<|Zq (I.add Z Z)<|Za Z<|z1t 6 Z fun y19=>z1q<|z1k (fun aa ww h=>⟨nvl [v18],Zu h [1,2,214]⟩)
  ·
   refine z1s<|z0x<|z0y<|z3n (fun aa ww h=>⟨nvl [(n5 0)],Zu h [1,2,214]⟩)
 ·
  refine gEx fun n20=>z8n (fun (s21:(List UInt32)) aa ww=>∃ nv:Nat→Value,Sta (ctx 203 H [] w) [(2,.val (z06 v1 0)),(4,.val (z06 v2 0)),(5,.val (nv 0))] [(1,some (v1,.box 164 [.rd (z3j 8 z0p) a0])),(2,some (v2,.box 164 [.rd (z3j 8 z0p) (Vector.replicate 8 0)])),(108,some ((nv 0),.list z0p 65 s21))] aa ww) ?_ (fun s21=>?_)
  ·
   refine gSR<|Zb Z<|z26 (fun (s22:(List UInt32) × Int) aa ww=>∃ nv:Nat→Value,Sta (ctx 203 H [] w) [(2,.val (z06 v1 0)),(4,.val (z06 v2 0)),(5,.val (nv 0)),(7,.rd z0e s22.2)] [(1,some (v1,.box 164 [.rd (z3j 8 z0p) a0])),(2,some (v2,.box 164 [.rd (z3j 8 z0p) (Vector.replicate 8 0)])),(108,some ((nv 0),.list z0p 65 s22.1))] aa ww) (fun aa ww h=>⟨nvl [(n20 0)],Zu h [1,2,108]⟩) (fun s22=>?_)
   refine gEx fun n23=>z0s<|gSR<|Zm Z<|Zq (I.lss Z Z)<|Zj Z (fun h24=>?_) (fun h24=>?_)
   ·
    refine Zt<|z0s<|z4y<|z0s<|zjf mixed (by kernel_rfl)<|Rq Z (mv Z)<|Rq Z (mv Z)<|Rq Z (I.sub Z Z)<|z9a fun x25 h26=>Rq Z (ixO 108 Z Z Z h26 tu217 z6p)<|Rq Z (ld 108 Z Z (Foc.el h26) zaj Z)<|Rq Z (mv Z)<|Rq Z (mv Z)<|Rq Z (I.sub Z Z)<|z9a fun x27 h28=>Rq Z (ixO 108 Z Z Z h28 tu217 z6p)<|Rq Z (ld 108 Z Z (Foc.el h28) zaj Z)<|Rq Z (asg Z)<|Rq Z (asg Z)<|zug<|z0o<|zsc [(5,.val (n23 0)),(2,.val (z06 v1 0)),(4,.val (z06 v2 0)),(7,.rd z0e s22.2),(8,.rd z0p x25),(9,.rd z0p x27)] [(1,some (v1,.box 164 [.rd (z3j 8 z0p) a0])),(2,some (v2,.box 164 [.rd (z3j 8 z0p) (Vector.replicate 8 0)])),(108,some ((n23 0),.list z0p 65 s22.1))] [1,2,108] (Zs Z Z Z Z<|sS Z<|sS Z<|sN) (Zi Z<|Zi Z<|Zi Z<|rN)<|z4l fun x29 h30=>z4l fun x31 h32=>z4l fun r33 h35=>z4l fun r36 h38=>z4l fun r39 h41=>z4l fun r42 h44=>z4l fun x45 h46=>gOr [(5,.val (n23 0),32)] [⟨108,some ([], fun nv=>((n23 0),.list z0p 65 s22.1)),[(31,some ([2], fun nv=>((nv 2),.list z0p 65 x45)))]⟩,⟨330,none,[(30,some ([1], fun nv=>((nv 1),.list z0p 65 [((x29+x31)+((r33 ^^^ r36) ^^^ (z4z x25 3)))+((r39 ^^^ r42) ^^^ (z4z x27 10))])))]⟩] [⟨some (76,[], fun nv=>.val (n23 0)),[],[],[0]⟩,⟨some (77,[], fun nv=>.val (n23 0)),[],[],[0]⟩,pd 78 (.rd z0e s22.2),pd 79 (.rd z0e (w64 (s22.2 - 16))),pk 80 (.val (z06 (n23 0) ((w64 (s22.2 - 16):Int).toNat * 1))) [(0,0,false)],pk 81 (.rd z0p x29) [(0,0,false)],⟨some (82,[], fun nv=>.val (n23 0)),[],[],[0]⟩,pd 83 (.rd z0e s22.2),pd 84 (.rd z0e (w64 (s22.2 - 7))),pk 85 (.val (z06 (n23 0) ((w64 (s22.2 - 7):Int).toNat * 1))) [(0,0,false)],pk 86 (.rd z0p x31) [(0,0,false)],pd 87 (.rd z0p (x29+x31)),pd 88 (.rd z0p x25),pd 89 (.rd z0p r33),pd 90 (.rd z0p x25),pd 91 (.rd z0p r36),pd 92 (.rd z0p (r33 ^^^ r36)),pd 93 (.rd z0p x25),pd 94 (.rd z0p (z4z x25 3)),pd 95 (.rd z0p ((r33 ^^^ r36) ^^^ (z4z x25 3))),pd 96 (.rd z0p ((x29+x31)+((r33 ^^^ r36) ^^^ (z4z x25 3)))),pd 97 (.rd z0p x27),pd 98 (.rd z0p r39),pd 99 (.rd z0p x27),pd 100 (.rd z0p r42),pd 101 (.rd z0p (r39 ^^^ r42)),pd 102 (.rd z0p x27),pd 103 (.rd z0p (z4z x27 10)),pd 104 (.rd z0p ((r39 ^^^ r42) ^^^ (z4z x27 10))),pd 105 (.rd z0p (((x29+x31)+((r33 ^^^ r36) ^^^ (z4z x25 3)))+((r39 ^^^ r42) ^^^ (z4z x27 10)))),⟨some (106,[1], fun nv=>.val (nv 1)),[(1,0,true)],[1],[]⟩,⟨some (107,[2], fun nv=>.val (nv 2)),[(1,1,false),(0,0,true)],[2],[]⟩,⟨some (5,[2], fun nv=>.val (nv 2)),[],[],[]⟩] mixed (oC (oRn (fun nv E=>mv Z))<|oC (oRn (fun nv E=>mv Z))<|oC (oRn (fun nv E=>mv Z))<|oC (oRn (fun nv E=>I.sub Z Z))<|oC (oRn (fun nv E=>ixO 108 Z Z Z h30 tu217 z6p))<|oC (oRn (fun nv E=>ld 108 Z Z (Foc.el h30) zaj Z))<|oC (oRn (fun nv E=>mv Z))<|oC (oRn (fun nv E=>mv Z))<|oC (oRn (fun nv E=>I.sub Z Z))<|oC (oRn (fun nv E=>ixO 108 Z Z Z h32 tu217 z6p))<|oC (oRn (fun nv E=>ld 108 Z Z (Foc.el h32) zaj Z))<|oC (oRn (fun nv E=>W.add Z Z))<|oC (oRn (fun nv E=>mv Z))<|oC (oCl [] [] [] h35 Tryz.func205 Z (fun nv=>(z2w _ _)) (fun nv=>(Y2 Z Z)) (fun nv E=>rN))<|oC (oRn (fun nv E=>mv Z))<|oC (oCl [] [] [] h38 Tryz.func205 Z (fun nv=>(z2w _ _)) (fun nv=>(Y2 Z Z)) (fun nv E=>rN))<|oC (oRn (fun nv E=>W.xor Z Z))<|oC (oRn (fun nv E=>mv Z))<|oC (oRn (fun nv E=>W.shr Z Z (Int.natCast_nonneg _)))<|oC (oRn (fun nv E=>W.xor Z Z))<|oC (oRn (fun nv E=>W.add Z Z))<|oC (oRn (fun nv E=>mv Z))<|oC (oCl [] [] [] h41 Tryz.func205 Z (fun nv=>(z2w _ _)) (fun nv=>(Y2 Z Z)) (fun nv E=>rN))<|oC (oRn (fun nv E=>mv Z))<|oC (oCl [] [] [] h44 Tryz.func205 Z (fun nv=>(z2w _ _)) (fun nv=>(Y2 Z Z)) (fun nv E=>rN))<|oC (oRn (fun nv E=>W.xor Z Z))<|oC (oRn (fun nv E=>mv Z))<|oC (oRn (fun nv E=>W.shr Z Z (Int.natCast_nonneg _)))<|oC (oRn (fun nv E=>W.xor Z Z))<|oC (oRn (fun nv E=>W.add Z Z))<|oC (oEf 330 1 (fun nv E=>lit (R:=z0p) ([((x29+x31)+((r33 ^^^ r36) ^^^ (z4z x25 3)))+((r39 ^^^ r42) ^^^ (z4z x27 10))]:List UInt32) 330 (pP Z Z<|pN) Z tu217 z6p Z Z))<|oC (oEf 108 2 (fun nv E=>apn 108 Z Z Z (.own 330 Z) h46 tu217 z6p Z Z Z))<|oC (oRn (fun nv E=>asg Z))<|oN) fun n47=>z35<|z0o<|z2e<|Zm Z<|Zq (I.add Z Z)<|Za Z<|z1t 7 Z fun y48=>z1q<|z1k (fun aa ww h=>⟨nvl [(n47 2)],Zu h [1,2,108]⟩)
   ·
    refine z1s<|z0x<|z0y<|z3n (fun aa ww h=>⟨nvl [(n23 0)],Zu h [1,2,108]⟩)
  ·
   refine gEx fun n49=>gSR<|Zc [] [(100,331)] Tryz.func206 Z (zhk) fun r50 n51=>Zb Z<|gSR<|Zq (ld 1 Z Z fH zsz Z)<|Eb Z (z56 332 zjh (.zr (R:=(z3j 8 z0p)) (x:=(Vector.replicate 8 0)) zu3)) fun v52=>Es (sto 332 Z Z fH Z zjh)<|Zn<|z8n (fun (s53:(Vector UInt32 8)) aa ww=>Sta (ctx 203 H [] w) [(2,.val (z06 v1 0)),(4,.val (z06 v2 0)),(11,.val (z06 v52 0))] [(1,some (v1,.box 164 [.rd (z3j 8 z0p) a0])),(2,some (v2,.box 164 [.rd (z3j 8 z0p) (Vector.replicate 8 0)])),(332,some (v52,.box 164 [.rd (z3j 8 z0p) s53]))] aa ww) ?_ (fun s53=>?_)
   ·
    refine gSR<|Zb Z<|z26 (fun (s54:(Vector UInt32 8) × Int) aa ww=>Sta (ctx 203 H [] w) [(2,.val (z06 v1 0)),(4,.val (z06 v2 0)),(5,.val (n49 0)),(10,.val (n51 0)),(11,.val (z06 v52 0)),(12,.rd z0e s54.2)] [(1,some (v1,.box 164 [.rd (z3j 8 z0p) a0])),(2,some (v2,.box 164 [.rd (z3j 8 z0p) (Vector.replicate 8 0)])),(108,some ((n49 0),.list z0p 65 s21)),(331,some ((n51 0),.list z0p 65 r50)),(332,some (v52,.box 164 [.rd (z3j 8 z0p) s54.1]))] aa ww) (fun aa ww h=>Zu h [1,2,108,331,332]) (fun s54=>?_)
    refine z0s<|gSR<|Zm Z<|Zq (I.lss Z Z)<|Zj Z (fun h55=>?_) (fun h55=>?_)
    ·
     refine Zt<|z0s<|z4y<|z0s<|zjf mixed (by kernel_rfl)<|z9a fun x56 h57=>Rq Z (ixB 332 Z Z Z h57 tu164 z6p)<|Rq Z (ld 332 Z Z (fP (.el h57)) zaj Z)<|z9a fun x58 h59=>Rq Z (ixB 332 Z Z Z h59 tu164 z6p)<|Rq Z (ld 332 Z Z (fP (.el h59)) zaj Z)<|z9a fun x60 h61=>Rq Z (ixB 332 Z Z Z h61 tu164 z6p)<|Rq Z (ld 332 Z Z (fP (.el h61)) zaj Z)<|z9a fun x62 h63=>Rq Z (ixB 332 Z Z Z h63 tu164 z6p)<|Rq Z (ld 332 Z Z (fP (.el h63)) zaj Z)<|z9a fun x64 h65=>Rq Z (ixB 332 Z Z Z h65 tu164 z6p)<|Rq Z (ld 332 Z Z (fP (.el h65)) zaj Z)<|z9a fun x66 h67=>Rq Z (ixB 332 Z Z Z h67 tu164 z6p)<|Rq Z (ld 332 Z Z (fP (.el h67)) zaj Z)<|Rq Z (asg Z)<|Rq Z (asg Z)<|Rq Z (asg Z)<|Rq Z (asg Z)<|Rq Z (asg Z)<|Rq Z (asg Z)<|zug<|z0o<|z0s<|z99 [] mixed Z Z<|z64 fun x68 h69=>hTk 0 Z Z (ixB 332 Z Z Z h69 tu164 z6p)<|hTk 1 Z Z (ld 332 Z Z (fP (.el h69)) zaj Z)<|hTk 2 Z Z (mv Z)<|hTk 4 Z Z (mv Z)<|hTk 7 Z Z (mv Z)<|hTk 11 Z Z (mv Z)<|hTk 12 Z Z (mv Z)<|hTk 13 Z Z (W.and Z Z)<|hTk 14 Z Z (mv Z)<|hTk 15 Z Z (W.cpl Z)<|hTk 16 Z Z (mv Z)<|hTk 17 Z Z (W.and Z Z)<|hTk 18 Z Z (W.xor Z Z)<|hTk 20 Z Z (mv Z)<|hTk 21 Z Z (mv Z)<|z64 fun x70 h71=>hTk 22 Z Z (ixO 331 Z Z Z h71 tu217 z6p)<|hTk 23 Z Z (ld 331 Z Z (Foc.el h71) zaj Z)<|hTk 25 Z Z (mv Z)<|hTk 26 Z Z (mv Z)<|z64 fun x72 h73=>hTk 27 Z Z (ixO 108 Z Z Z h73 tu217 z6p)<|hTk 28 Z Z (ld 108 Z Z (Foc.el h73) zaj Z)<|z4e 3 [] [] Z (by kernel_rfl) Z (gd0 Z) Z Tryz.func205 Z Z (z2w _ _) (Y2 Z Z) rN Z (fun _ _=>z34) fun r74 n75=>z4e 5 [] [] Z (by kernel_rfl) Z (gd0 Z) Z Tryz.func205 Z Z (z2w _ _) (Y2 Z Z) rN Z (fun _ _=>z34) fun r76 n77=>hTk 6 Z Z (W.xor Z Z)<|z4e 8 [] [] Z (by kernel_rfl) Z (gd0 Z) Z Tryz.func205 Z Z (z2w _ _) (Y2 Z Z) rN Z (fun _ _=>z34) fun r78 n79=>hTk 9 Z Z (W.xor Z Z)<|hTk 10 Z Z (W.add Z Z)<|hTk 19 Z Z (W.add Z Z)<|hTk 24 Z Z (W.add Z Z)<|hTk 29 Z Z (W.add Z Z)<|hTk 30 Z Z (asg Z)<|z10t 19 Z Z fun y80=>z5a (by kernel_rfl)<|z0o<|gSR<|Zm Z<|Zc [] [] Tryz.func205 Z (z2w _ _) fun r81 n82=>Zm Z<|Zc [] [] Tryz.func205 Z (z2w _ _) fun r83 n84=>Zq (W.xor Z Z)<|Zm Z<|Zc [] [] Tryz.func205 Z (z2w _ _) fun r85 n86=>Zq (W.xor Z Z)<|Zm Z<|Zm Z<|Zq (W.and Z Z)<|Zm Z<|Zm Z<|Zq (W.and Z Z)<|Zq (W.xor Z Z)<|Zm Z<|Zm Z<|Zq (W.and Z Z)<|Zq (W.xor Z Z)<|Zq (W.add Z Z)<|Za Z<|z1t 20 Z fun y87=>Zn<|z2e<|Zm Z<|Zm Z<|Zq (W.add Z Z)<|Zm Z<|Zm Z<|Zm Z<|z0n fun x88 h89=>Zq (ixB 332 Z Z Z h89 tu164 z6p)<|Zq (ld 332 Z Z (fP (.el h89)) zaj Z)<|Zm Z<|Zq (W.add Z Z)<|Zm Z<|Zm Z<|Zm Z<|Zq (litA (R:=z0p) [y80+y87,x56,x58,x60,x88+y80,x62,x64,x66] (#v[y80+y87,x56,x58,x60,x88+y80,x62,x64,x66]:Vector UInt32 8) (pP Z Z<|pP Z Z<|pP Z Z<|pP Z Z<|pP Z Z<|pP Z Z<|pP Z Z<|pP Z Z<|pN) Z tu164 zjh Z z6p)<|Es (sto 332 Z Z fH Z zjh)<|z1q<|z35<|z0o<|z2e<|Zm Z<|Zq (I.add Z Z)<|Za Z<|z1t 12 Z fun y90=>z1q<|z1k (fun aa ww h=>Zu h [1,2,108,331,332])
    ·
     refine z1s<|z0x<|z0y<|z3n (fun aa ww h=>Zu h [1,2,332])
   ·
    refine z8n (fun (s91:(Vector UInt32 8)) aa ww=>Sta (ctx 203 H [] w) [(2,.val (z06 v1 0)),(4,.val (z06 v2 0))] [(1,some (v1,.box 164 [.rd (z3j 8 z0p) s91])),(2,some (v2,.box 164 [.rd (z3j 8 z0p) (Vector.replicate 8 0)]))] aa ww) ?_ (fun s91=>?_)
    ·
     refine gSR<|Zb Z<|z26 (fun (s92:(Vector UInt32 8) × Int) aa ww=>Sta (ctx 203 H [] w) [(2,.val (z06 v1 0)),(4,.val (z06 v2 0)),(11,.val (z06 v52 0)),(21,.rd z0e s92.2)] [(1,some (v1,.box 164 [.rd (z3j 8 z0p) s92.1])),(2,some (v2,.box 164 [.rd (z3j 8 z0p) (Vector.replicate 8 0)])),(332,some (v52,.box 164 [.rd (z3j 8 z0p) s53]))] aa ww) (fun aa ww h=>Zu h [1,2,332]) (fun s92=>?_)
     refine z0s<|gSR<|Zm Z<|Zq (I.lss Z Z)<|Zj Z (fun h93=>?_) (fun h93=>?_)
     ·
      refine Zt<|z0s<|z4y<|z99 [1] mixed Z Z<|hTk 0 Z Z (mv Z)<|z64 fun x94 h95=>hTk 1 Z Z (ixB 1 Z Z Z h95 tu164 z6p)<|hTk 3 Z Z (mv Z)<|z64 fun x96 h97=>hTk 4 Z Z (ixB 332 Z Z Z h97 tu164 z6p)<|hTk 5 Z Z (ld 332 Z Z (fP (.el h97)) zaj Z)<|hRun 2 Z (by kernel_rfl) (gd0 Z) Z Z z34 (ld 1 Z Z (fP (.el h95)) zaj Z)<|hTk 6 Z Z (W.add Z Z)<|z64 fun x98 h99=>hTk 7 Z Z (ixB 1 Z Z Z h99 tu164 z6p)<|Zp 8 Z Z Z Z Z (sto 1 Z Z (fP (.el h99)) Z z6p)<|z5a (by kernel_rfl)<|z35<|z0o<|z2e<|Zm Z<|Zq (I.add Z Z)<|Za Z<|z1t 21 Z fun y100=>z1q<|z1k (fun aa ww h=>Zu h [1,2,332])
     ·
      refine z1s<|z0x<|z0y<|z3n (fun aa ww h=>Zu h [1,2])
    ·
     refine gSR<|Zq (ld 1 Z Z fH zsz Z)<|Es (sto 2 Z Z fH Z zjh)<|Zn<|z0k<|zbq [] [] Z (eC 2 Z Z zsz<|eN) (rN)
def z60 (a1:List UInt8) (s4:(Vector UInt32 8) × Int):Option (Sum ((Vector UInt32 8)) ((Vector UInt32 8) × Int)) :=
 if decide ((w64 (s4.2+64))≤(a1.length:Int)) then
  cut a1 s4.2 (w64 (s4.2+64)) >>= fun x6 =>
  zb5 s4.1 x6 >>= fun r8 =>
  some (w64 (s4.2+64)) >>= fun y10 =>
  some (.inr (r8,y10))
 else
  some (.inl s4.1)
def zbf (a0:Vector UInt32 8) (a1:List UInt8):Option ((Vector UInt32 8)) :=
 (iter (z60 a1) (a0,0)) >>= fun s3 =>
 some s3
theorem zji (a0:Vector UInt32 8) (a1:List UInt8):z1u Tryz.prog 136 [.rd (z3j 8 z0p) a0,.rd (z02 u8R) a1] [] (zbf a0 a1) (fun r nv=>⟨[.rd (z3j 8 z0p) r],[]⟩):=by
 refine z2d 21 Tryz.func136 Z Z Z fun H w=>?_
 refine gSR<|Eb Z (bx 1 Z) fun v1=>Eb Z (z56 2 zjh (.zr (R:=(z3j 8 z0p)) (x:=(Vector.replicate 8 0)) zu3)) fun v2=>Zn<|z8n (fun (s3:(Vector UInt32 8)) aa ww=>Sta (ctx 21 H [] w) [(2,.val (z06 v1 0)),(4,.val (z06 v2 0))] [(1,some (v1,.box 164 [.rd (z3j 8 z0p) s3])),(2,some (v2,.box 164 [.rd (z3j 8 z0p) (Vector.replicate 8 0)]))] aa ww) ?_ (fun s3=>?_)
 ·
  refine gSR<|Zb Z<|z26 (fun (s4:(Vector UInt32 8) × Int) aa ww=>Sta (ctx 21 H [] w) [(1,.rd (z02 u8R) a1),(2,.val (z06 v1 0)),(4,.val (z06 v2 0)),(5,.rd z0e s4.2)] [(1,some (v1,.box 164 [.rd (z3j 8 z0p) s4.1])),(2,some (v2,.box 164 [.rd (z3j 8 z0p) (Vector.replicate 8 0)]))] aa ww) (fun aa ww h=>Zu h [1,2]) (fun s4=>?_)
  refine z0s<|gSR<|Zm Z<|Zq (I.add Z Z)<|Zm Z<|Zq (z3g Z .rd Z tu75)<|Zq (I.leq Z Z)<|Zj Z (fun h5=>?_) (fun h5=>?_)
  ·
   refine Zt<|z0s<|z4y<|z99 [1] mixed Z Z<|hTk 1 Z Z (mv Z)<|hTk 2 Z Z (mv Z)<|hTk 3 Z Z (mv Z)<|hTk 4 Z Z (I.add Z Z)<|z64 fun x6 h7=>hTk 5 Z Z (cut' Z (.to Z) (.to Z) h7 tu75 ti5)<|hRun 0 Z (by kernel_rfl) (gd0 Z) Z Z anyJ (ld 1 Z Z fH zsz Z)<|zl8 6 [] [] Z (by kernel_rfl) Z (gd0 Z) Z Tryz.func176 Z Z (zjj _ _) (Y2 Z Z) rN Z fun r8 n9=>Zp 7 Z Z Z Z Z (sto 1 Z Z fH Z zjh)<|z5a (by kernel_rfl)<|z35<|z0o<|z2e<|Zm Z<|Zq (I.add Z Z)<|Za Z<|z1t 5 Z fun y10=>z1q<|z1k (fun aa ww h=>Zu h [1,2])
  ·
   refine z1s<|z0x<|z0y<|z3n (fun aa ww h=>Zu h [1,2])
 ·
  refine gSR<|Zq (ld 1 Z Z fH zsz Z)<|Es (sto 2 Z Z fH Z zjh)<|Zn<|z0k<|zbq [] [] Z (eC 2 Z Z zsz<|eN) (rN)
def z5h (a0:Vector UInt32 8) (s5:V3 × Int):Option (Sum (V3) (V3 × Int)) :=
 if decide (s5.2<32) then
  z98 a0 (w64 (Int.tdiv s5.2 4)) >>= fun x7 =>
  chk (0≤w64 (24 - (w64 (8 * (Int.tmod s5.2 4))))) >>= fun u9 =>
  z98 s5.1 s5.2 >>= fun x11 =>
  some (w64 (s5.2+1)) >>= fun y13 =>
  some (.inr (zkq s5.1 s5.2 ((z4z x7 ((w64 (24 - (w64 (8 * (Int.tmod s5.2 4)))):Int).toNat)).toUInt8),y13))
 else
  some (.inl s5.1)
def zad (a0:Vector UInt32 8):Option (V3) :=
 (iter (z5h a0) ((Vector.replicate 32 0),0)) >>= fun s4 =>
 some s4
theorem zim (a0:Vector UInt32 8):z1u Tryz.prog 135 [.rd (z3j 8 z0p) a0] [] (zad a0) (fun r nv=>⟨[.rd aZ r],[]⟩):=by
 refine z2d 22 Tryz.func135 Z Z Z fun H w=>?_
 refine gSR<|Eb Z (bx 1 Z) fun v1=>Eb Z (z56 2 z2b (.zr (R:=aZ) (x:=(Vector.replicate 32 0)) zgg)) fun v2=>Zn<|gSR<|Eb Z (z56 3 z2b (.zr (R:=aZ) (x:=(Vector.replicate 32 0)) zgg)) fun v3=>Zn<|z8n (fun (s4:V3) aa ww=>Sta (ctx 22 H [] w) [(2,.val (z06 v2 0)),(3,.val (z06 v3 0))] [(2,some (v2,.box 62 [.rd aZ (Vector.replicate 32 0)])),(3,some (v3,.box 62 [.rd aZ s4]))] aa ww) ?_ (fun s4=>?_)
 ·
  refine gSR<|Zb Z<|z26 (fun (s5:V3 × Int) aa ww=>Sta (ctx 22 H [] w) [(1,.val (z06 v1 0)),(2,.val (z06 v2 0)),(3,.val (z06 v3 0)),(4,.rd z0e s5.2)] [(1,some (v1,.box 164 [.rd (z3j 8 z0p) a0])),(2,some (v2,.box 62 [.rd aZ (Vector.replicate 32 0)])),(3,some (v3,.box 62 [.rd aZ s5.1]))] aa ww) (fun aa ww h=>Zu h [1,2,3]) (fun s5=>?_)
  refine z0s<|gSR<|Zm Z<|Zq (I.lss Z Z)<|Zj Z (fun h6=>?_) (fun h6=>?_)
  ·
   refine Zt<|z0s<|z4y<|z2e<|Zm Z<|Zm Z<|Zq (I.quo Z Z (by decide))<|z0n fun x7 h8=>Zq (ixB 1 Z Z Z h8 tu164 z6p)<|Zq (ld 1 Z Z (fP (.el h8)) zaj Z)<|Zm Z<|Zq (I.rem Z Z (by decide))<|Zq (I.mul Z Z)<|Zq (I.sub Z Z)<|z0n fun u9 h10=>Zq (W.shr Z Z (z4i h10))<|Zq (W.toB Z tu65 tu5)<|z0n fun x11 h12=>Zq (ixB 3 Z Z Z h12 tu62 ti5)<|Es (sto 3 Z Z (fP (.el h12)) Z ti5)<|z1q<|z35<|z0o<|z2e<|Zm Z<|Zq (I.add Z Z)<|Za Z<|z1t 4 Z fun y13=>z1q<|z1k (fun aa ww h=>Zu h [1,2,3])
  ·
   refine z1s<|z0x<|z0y<|z3n (fun aa ww h=>Zu h [2,3])
 ·
  refine gSR<|Zq (ld 3 Z Z fH z43 Z)<|Es (sto 2 Z Z fH Z z2b)<|Zn<|z0k<|zbq [] [] Z (eC 2 Z Z z43<|eN) (rN)
def zcz (a0:List UInt8):Option (V3) :=
 zeh >>= fun r2 =>
 app 1 ([]:List UInt8) a0 >>= fun x5 =>
 zct (a0.length:Int) >>= fun r8 =>
 app 1 x5 r8 >>= fun x10 =>
 zbf r2 x10 >>= fun r13 =>
 zad r13 >>= fun r15 =>
 some r15
end
section
open Go Go.RowKit
set_option maxRecDepth 100000
theorem zhq (a0:List UInt8):z1u Tryz.prog 95 [.rd (z02 u8R) a0] [] (zcz a0) (fun r nv=>⟨[.rd aZ r],[]⟩):=by
 refine z2d 13 Tryz.func95 Z Z Z fun H w=>?_
 refine gSR<|Eb Z (z56 1 z2b (.zr (R:=aZ) (x:=(Vector.replicate 32 0)) zgg)) fun v1=>Zn<|gSR<|Zc [] [] Tryz.func137 Z (zk5) fun r2 n3=>Ef Z (lit (R:=u8R) (([]:List UInt8):List UInt8) 2 (pN) Z tu75 ti5 Z Z) fun v4=>Zm Z<|z0n fun x5 h6=>Ef Z (apn 2 Z Z Z .rd h6 tu75 ti5 Z Z Z) fun v7=>Zm Z<|Zq (z3g Z .rd Z tu75)<|Zc [] [(100,3)] Tryz.func138 Z (zm1 _) fun r8 n9=>z0n fun x10 h11=>Ef Z (apn 2 Z Z Z (.own 3 Z) h11 tu75 ti5 Z Z Z) fun v12=>zh0 2 [10] Z (fS Z<|fN)<|Zc [] [] Tryz.func136 Z (zji _ _) fun r13 n14=>Zc [] [] Tryz.func135 Z (zim _) fun r15 n16=>Es (sto 1 Z Z fH Z z2b)<|Zn<|z0k<|zbq [] [] Z (eC 1 Z Z z43<|eN) (rN)
def z3s (a0:z07):Option (V3) :=
 zc3 a0 >>= fun r3 =>
 zcz r3 >>= fun r5 =>
 some r5
theorem z4w (a0:z07):z1u Tryz.prog 58 [.rd z03 a0] [] (z3s a0) (fun r nv=>⟨[.rd aZ r],[]⟩):=by
 refine z2d 6 Tryz.func58 Z Z Z fun H w=>?_
 refine gSR<|Eb Z (bx 1 Z) fun v1=>Eb Z (z56 2 z2b (.zr (R:=aZ) (x:=(Vector.replicate 32 0)) zgg)) fun v2=>Zn<|gSR<|Zq (ld 1 Z Z fH z9n Z)<|Zc [] [(100,3)] Tryz.func96 Z (zkb _) fun r3 n4=>zh0 3 [4] Z (fS Z<|fN)<|Zc [] [] Tryz.func95 Z (zhq _) fun r5 n6=>Es (sto 2 Z Z fH Z z2b)<|Zn<|z0k<|zbq [] [] Z (eC 2 Z Z z43<|eN) (rN)
def z8t (a0:V3) (a1:V3) (s4:Int):Option (Sum (Sum Int Unit) Int) :=
 if decide (s4<32) then
  z98 a0 s4 >>= fun x6 =>
  z98 a1 s4 >>= fun x8 =>
  if decide (x6<x8) then
   some (.inl (.inl (-1)))
  else
   z98 a0 s4 >>= fun x11 =>
   z98 a1 s4 >>= fun x13 =>
   if decide (x13<x11) then
    some (.inl (.inl 1))
   else
    some (.inr (w64 (s4+1)))
 else
  some (.inl (.inr ()))
def z8b (a0:V3) (a1:V3):Option (Int) :=
 z5g (iter (z8t a0 a1) 0) fun s3 =>
 some 0
theorem zgy (a0:V3) (a1:V3):z1u Tryz.prog 110 [.rd aZ a0,.rd aZ a1] [] (z8b a0 a1) (fun r nv=>⟨[.rd z0e r],[]⟩):=by
 refine z2d 24 Tryz.func110 Z Z Z fun H w=>?_
 refine gSR<|Eb Z (bx 1 Z) fun v1=>Eb Z (bx 2 Z) fun v2=>Zb Z<|z8c (fun (s3:Unit) aa ww=>Sta (ctx 24 H [] w) [] [] aa ww) ?_ (fun s3=>?_)
 ·
  refine gSR<|Zb Z<|z26 (fun (s4:Int) aa ww=>Sta (ctx 24 H [] w) [(2,.val (z06 v1 0)),(3,.val (z06 v2 0)),(5,.rd z0e s4)] [(1,some (v1,.box 62 [.rd aZ a0])),(2,some (v2,.box 62 [.rd aZ a1]))] aa ww) (fun aa ww h=>Zu h [1,2]) (fun s4=>?_)
  refine z0s<|gSR<|Zm Z<|Zq (I.lss Z Z)<|Zj Z (fun h5=>?_) (fun h5=>?_)
  ·
   refine Zt<|z0s<|z4y<|z0s<|z0s<|zjf mixed (by kernel_rfl)<|Rq Z (mv Z)<|z9a fun x6 h7=>Rq Z (ixB 1 Z Z Z h7 tu62 ti5)<|Rq Z (ld 1 Z Z (fP (.el h7)) ty5 Z)<|Rq Z (mv Z)<|z9a fun x8 h9=>Rq Z (ixB 2 Z Z Z h9 tu62 ti5)<|Rq Z (ld 2 Z Z (fP (.el h9)) ty5 Z)<|Rq Z (B.lss Z Z)<|zug<|z0o<|gIf Z Z (fun h10=>?_) (fun h10=>?_)
   ·
    refine gSR<|Zb Z<|z0k<|z0w<|z42<|z0w<|z7g<|z7a<|Ze [] [] Z
   ·
    refine Zt<|z0s<|zjf mixed (by kernel_rfl)<|Rq Z (mv Z)<|z9a fun x11 h12=>Rq Z (ixB 1 Z Z Z h12 tu62 ti5)<|Rq Z (ld 1 Z Z (fP (.el h12)) ty5 Z)<|Rq Z (mv Z)<|z9a fun x13 h14=>Rq Z (ixB 2 Z Z Z h14 tu62 ti5)<|Rq Z (ld 2 Z Z (fP (.el h14)) ty5 Z)<|Rq Z (B.gtr Z Z)<|zug<|z0o<|gIf Z Z (fun h15=>?_) (fun h15=>?_)
    ·
     refine gSR<|Zb Z<|z0k<|z42<|z0w<|z7g<|z7a<|Ze [] [] Z
    ·
     refine z2m<|z35<|z0o<|z2e<|Zm Z<|Zq (I.add Z Z)<|Za Z<|z1q<|z1k (fun aa ww h=>Zu h [1,2])
  ·
   refine z1s<|z0x<|z0y<|z79 (fun aa ww h=>Zu h [])
 ·
  refine gSR<|Zb Z<|z0k<|Ze [] [] Z
def z4t (a0:List V3) (s2:Int):Option (Sum (Sum Bool Unit) Int) :=
 if decide (s2<(a0.length:Int)) then
  idx a0 (w64 (s2 - 1)) >>= fun x4 =>
  idx a0 s2 >>= fun x6 =>
  z8b x4 x6 >>= fun r8 =>
  if decide (0≤r8) then
   some (.inl (.inl false))
  else
   some (.inr (w64 (s2+1)))
 else
  some (.inl (.inr ()))
def z8q (a0:List V3):Option (Bool) :=
 z5g (iter (z4t a0) 1) fun s1 =>
 some true
theorem zel (a0:List V3):z1u Tryz.prog 108 [.rd (z02 aZ) a0] [] (z8q a0) (fun r nv=>⟨[.rd z0j r],[]⟩):=by
 refine z2d 21 Tryz.func108 Z Z Z fun H w=>?_
 refine gSR<|Zb Z<|z8c (fun (s1:Unit) aa ww=>Sta (ctx 21 H [] w) [] [] aa ww) ?_ (fun s1=>?_)
 ·
  refine gSR<|Zb Z<|z26 (fun (s2:Int) aa ww=>Sta (ctx 21 H [] w) [(0,.rd (z02 aZ) a0),(3,.rd z0e s2)] [] aa ww) (fun aa ww h=>Zu h []) (fun s2=>?_)
  refine z0s<|gSR<|Zm Z<|Zm Z<|Zq (z3g Z .rd Z tu22)<|Zq (I.lss Z Z)<|Zj Z (fun h3=>?_) (fun h3=>?_)
  ·
   refine Zt<|z0s<|z4y<|z0s<|z99 [] mixed Z Z<|hTk 0 Z Z (mv Z)<|hTk 1 Z Z (mv Z)<|hTk 2 Z Z (I.sub Z Z)<|z64 fun x4 h5=>hTk 3 Z Z (ixR Z Z h5 tu22 z2b Z)<|hTk 4 Z Z (ldR Z z43)<|hTk 5 Z Z (mv Z)<|hTk 6 Z Z (mv Z)<|z64 fun x6 h7=>hTk 7 Z Z (ixR Z Z h7 tu22 z2b Z)<|hTk 8 Z Z (ldR Z z43)<|z4e 9 [] [] Z (by kernel_rfl) Z (gd0 Z) Z Tryz.func110 Z Z (zgy _ _) (Y2 Z Z) rN Z (fun _ _=>z34) fun r8 n9=>hTk 10 Z Z (I.geq Z Z)<|z5a (by kernel_rfl)<|z0o<|gIf Z Z (fun h10=>?_) (fun h10=>?_)
   ·
    refine gSR<|Zb Z<|z0k<|z42<|z0w<|z7g<|z7a<|Ze [] [] Z
   ·
    refine z2m<|z35<|z0o<|z2e<|Zm Z<|Zq (I.add Z Z)<|Za Z<|z1q<|z1k (fun aa ww h=>Zu h [])
  ·
   refine z1s<|z0x<|z0y<|z79 (fun aa ww h=>Zu h [])
 ·
  refine gSR<|Zb Z<|z0k<|Ze [] [] Z
def z6x (a2:UInt64) (s2:UInt64 × UInt64 × UInt64):Option (Sum UInt64 (UInt64 × UInt64 × UInt64)) :=
 if decide (0<s2.2.1) then
  (if (s2.2.1 % 2)==1 then
   chk (a2≠0) >>= fun u6 =>
   some ((s2.2.2 * s2.1) % a2) >>= fun y8 =>
   some y8
  else
   some s2.2.2) >>= fun s4 =>
  chk (a2≠0) >>= fun u9 =>
  some ((s2.1 * s2.1) % a2) >>= fun y11 =>
  some (.inr (y11,s2.2.1 / 2,s4))
 else
  some (.inl s2.2.2)
def z9x (a0:UInt64) (a1:UInt64) (a2:UInt64):Option (UInt64) :=
 (iter (z6x a2) (a0,a1,1)) >>= fun s1 =>
 some s1
theorem zfb (a0:UInt64) (a1:UInt64) (a2:UInt64):z1u Tryz.prog 184 [.rd z2c a0,.rd z2c a1,.rd z2c a2] [] (z9x a0 a1 a2) (fun r nv=>⟨[.rd z2c r],[]⟩):=by
 refine z2d 26 Tryz.func184 Z Z Z fun H w=>?_
 refine gSR<|Zb Z<|gSR<|Zb Z<|z8n (fun (s1:UInt64) aa ww=>Sta (ctx 26 H [] w) [(7,.rd z2c s1)] [] aa ww) ?_ (fun s1=>?_)
 ·
  refine z26 (fun (s2:UInt64 × UInt64 × UInt64) aa ww=>Sta (ctx 26 H [] w) [(0,.rd z2c s2.1),(1,.rd z2c s2.2.1),(2,.rd z2c a2),(7,.rd z2c s2.2.2)] [] aa ww) (fun aa ww h=>Zu h []) (fun s2=>?_)
  refine z0s<|gSR<|Zm Z<|Zq (U.gtr Z Z)<|Zj Z (fun h3=>?_) (fun h3=>?_)
  ·
   refine Zt<|z4y<|z8n (fun (s4:UInt64) aa ww=>Sta (ctx 26 H [] w) [(0,.rd z2c s2.1),(1,.rd z2c s2.2.1),(2,.rd z2c a2),(7,.rd z2c s4)] [] aa ww) ?_ (fun s4=>?_)
   ·
    refine gSR<|Zm Z<|Zq (U.rem Z Z (by decide))<|Zq (U.eql Z Z)<|Zj Z (fun h5=>?_) (fun h5=>?_)
    ·
     refine z2e<|Zm Z<|Zm Z<|Zq (U.mul Z Z)<|Zm Z<|z0n fun u6 h7=>Zq (U.rem Z Z (z4i h7))<|Za Z<|z1t 7 Z fun y8=>z1q<|z3n (fun aa ww h=>Zu h [])
    ·
     refine z2m<|z3n (fun aa ww h=>Zu h [])
   ·
    refine gSR<|Zm Z<|Zm Z<|Zq (U.mul Z Z)<|Zm Z<|z0n fun u9 h10=>Zq (U.rem Z Z (z4i h10))<|Za Z<|z1t 0 Z fun y11=>Zn<|z2e<|Zm Z<|Zq (U.quo Z Z (by decide))<|Za Z<|z1q<|z35<|z1k (fun aa ww h=>Zu h [])
  ·
   refine z1s<|z0x<|z0y<|z3n (fun aa ww h=>Zu h [])
 ·
  refine gSR<|Zm Z<|Zb Z<|z0k<|Ze [] [] Z
def zd2 (a0:UInt32):Option (Bool) :=
 if decide (1≤a0) then
  if decide (a0<1000000007) then
   z9x a0.toUInt64 500000003 1000000007 >>= fun r3 =>
   some (r3==1)
  else
   some false
 else
  some false
theorem zht (a0:UInt32):z1u Tryz.prog 147 [.rd z0p a0] [] (zd2 a0) (fun r nv=>⟨[.rd z0j r],[]⟩):=by
 refine z2d 15 Tryz.func147 Z Z Z fun H w=>?_
 refine gSR<|Zb Z<|gSR<|Zm Z<|Zq (W.geq Z Z)<|Zm Z<|z1b 5 Z (fun h1=>?_) (fun h1=>?_)
 ·
  refine lKn 4 Z h1<|z17 Zx Z Z (mv Z)<|z17 Zx Z Z (W.lss Z Z)<|Zq (pkT Z Z)<|Zm Z<|z1b 9 Z (fun h2=>?_) (fun h2=>?_)
  ·
   refine lKn 7 Z h2<|lKn 8 Z h2<|z17 Zx Z Z (mv Z)<|z17 Zx Z Z (W.toU Z tu65 tu41)<|zdb [] [] Zx Z Tryz.func184 Z Z (zfb _ _ _) (aQ Z<|aQ Z<|aQ Z<|aN) rN fun r3 n4=>z17 Zx Z Z (U.eql Z Z)<|Zq (pkT Z Z)<|Zb Z<|z0k<|Ze [] [] Z
  ·
   refine lKn 7 Z h2<|lKn 8 Z h2<|Zk Z<|Zk Z<|Zk Z<|Zk Z<|Zq (pkF Z Z)<|Zb Z<|z0k<|Ze [] [] Z
 ·
  refine lKn 4 Z h1<|Zk Z<|Zk Z<|Zq (pkF Z Z)<|Zm Z<|Zk Z<|Zk Z<|Zk Z<|Zk Z<|Zq (pkF Z Z)<|Zb Z<|z0k<|Ze [] [] Z
def z7w (a0:List UInt8) (s4:Int):Option (Sum (Sum Bool Unit) Int) :=
 if decide (s4<(a0.length:Int)) then
  idx a0 s4 >>= fun x6 =>
  if decide (x6<33) then
   some (.inl (.inl false))
  else
   idx a0 s4 >>= fun x9 =>
   if decide (126<x9) then
    some (.inl (.inl false))
   else
    some (.inr (w64 (s4+1)))
 else
  some (.inl (.inr ()))
def zaz (a0:List UInt8):Option (Bool) :=
 if decide ((a0.length:Int)<1) then
  some false
 else
  if decide (20<(a0.length:Int)) then
   some false
  else
   z5g (iter (z7w a0) 0) fun s3 =>
   some true
theorem zfu (a0:List UInt8):z1u Tryz.prog 185 [.rd zmk a0] [] (zaz a0) (fun r nv=>⟨[.rd z0j r],[]⟩):=by
 refine z2d 28 Tryz.func185 Z Z Z fun H w=>?_
 refine gSR<|Zb Z<|z0s<|gSR<|Zm Z<|Zq (lenT Z Z tu9)<|Zq (I.lss Z Z)<|Zm Z<|z1b 7 Z (fun h1=>?_) (fun h1=>?_)
 ·
  refine lKn 6 Z h1<|Zk Z<|Zk Z<|Zk Z<|Zq (pkT Z Z)<|Zn<|zir Z<|gSR<|Zb Z<|z0k<|z0w<|Ze [] [] Z
 ·
  refine lKn 6 Z h1<|z17 Zx Z Z (mv Z)<|z17 Zx Z Z (lenT Z Z tu9)<|z17 Zx Z Z (I.gtr Z Z)<|Zq (pkF Z Z)<|Zj Z (fun h2=>?_) (fun h2=>?_)
  ·
   refine gKn 10 Z h2<|gSR<|Zb Z<|z0k<|z0w<|Ze [] [] Z
  ·
   refine gKn 10 Z h2<|Zt<|z8c (fun (s3:Unit) aa ww=>Sta (ctx 28 H [] w) [] [] aa ww) ?_ (fun s3=>?_)
   ·
    refine gSR<|Zb Z<|z26 (fun (s4:Int) aa ww=>Sta (ctx 28 H [] w) [(0,.rd zmk a0),(3,.rd z0e s4)] [] aa ww) (fun aa ww h=>Zu h []) (fun s4=>?_)
    refine z0s<|gSR<|Zm Z<|Zm Z<|Zq (lenT Z Z tu9)<|Zq (I.lss Z Z)<|Zj Z (fun h5=>?_) (fun h5=>?_)
    ·
     refine Zt<|z0s<|z4y<|gSR<|Zm Z<|Zm Z<|z0n fun x6 h7=>Zq (idxT Z Z tu9 (z72 h7).1 (z72 h7).2.1)<|Zq (B.lss Z Z)<|Zm Z<|z1b 22 Z (fun h8=>?_) (fun h8=>?_)
     ·
      refine lKn 21 Z h8<|Zk Z<|Zk Z<|Zk Z<|Zk Z<|Zq (pkT Z Z)<|Zn<|zir Z<|gSR<|Zb Z<|z0k<|z42<|z0w<|z7g<|z7a<|Ze [] [] Z
     ·
      refine lKn 21 Z h8<|z17 Zx Z Z (mv Z)<|z17 Zx Z Z (mv Z)<|z0n fun x9 h10=>z17 Zx Z Z (idxT Z Z tu9 (z72 h10).1 (z72 h10).2.1)<|z17 Zx Z Z (B.gtr Z Z)<|Zq (pkF Z Z)<|Zj Z (fun h11=>?_) (fun h11=>?_)
      ·
       refine gKn 26 Z h11<|gSR<|Zb Z<|z0k<|z42<|z0w<|z7g<|z7a<|Ze [] [] Z
      ·
       refine gKn 26 Z h11<|z2m<|z35<|z0o<|z2e<|Zm Z<|Zq (I.add Z Z)<|Za Z<|z1q<|z1k (fun aa ww h=>Zu h [])
    ·
     refine z1s<|z0x<|z0y<|z79 (fun aa ww h=>Zu h [])
   ·
    refine gSR<|Zb Z<|z0k<|Ze [] [] Z
def z9l (a0:UInt64):Option (Int) :=
 some (w64 (((a0 % 9223372036854775808) / 4503599627370496).toNat:Int)) >>= fun y1 =>
 some y1
theorem zi0 (a0:UInt64):z1u Tryz.prog 235 [.rd z2c a0] [] (z9l a0) (fun r nv=>⟨[.rd z0e r],[]⟩):=by
 refine z2d 7 Tryz.func235 Z Z Z fun H w=>?_
 refine gSR<|Zb Z<|gSR<|Zm Z<|Zq (U.rem Z Z (by decide))<|Zq (U.quo Z Z (by decide))<|Zq (U.toI Z tu41 tu3)<|Za Z<|z1t 2 Z fun y1=>Zn<|z0k<|Ze [] [] Z
def zce (a0:UInt64):Option (UInt64) :=
 some (a0 % 4503599627370496) >>= fun y1 =>
 some y1
theorem zhy (a0:UInt64):z1u Tryz.prog 236 [.rd z2c a0] [] (zce a0) (fun r nv=>⟨[.rd z2c r],[]⟩):=by
 refine z2d 5 Tryz.func236 Z Z Z fun H w=>?_
 refine gSR<|Zb Z<|gSR<|Zm Z<|Zq (U.rem Z Z (by decide))<|Za Z<|z1t 2 Z fun y1=>Zn<|z0k<|Ze [] [] Z
def zc4 (a0:UInt64):Option (UInt8) :=
 z9l a0 >>= fun r1 =>
 zce a0 >>= fun r3 =>
 z5g (if r1==0 then
  if r3==0 then
   some (.inl 1)
  else
   some (.inr ())
 else
  some (.inr ())) fun s5 =>
 if r1==0 then
  some 2
 else
  if decide (r1<2047) then
   some 3
  else
   if r3==0 then
    some 4
   else
    some 5
theorem zkn (a0:UInt64):z1u Tryz.prog 228 [.rd z2c a0] [] (zc4 a0) (fun r nv=>⟨[.rd u8R r],[]⟩):=by
 refine z2d 21 Tryz.func228 Z Z Z fun H w=>?_
 refine gSR<|Zb Z<|gSR<|Zm Z<|Zc [] [] Tryz.func235 Z (zi0 _) fun r1 n2=>Zm Z<|Zc [] [] Tryz.func236 Z (zhy _) fun r3 n4=>Za Z<|Zb Z<|z8c (fun (s5:Unit) aa ww=>Sta (ctx 21 H [] w) [(3,.rd z0e r1),(4,.rd z2c r3)] [] aa ww) ?_ (fun s5=>?_)
 ·
  refine gSR<|Zm Z<|Zq (I.eql Z Z)<|Zm Z<|z1b 11 Z (fun h6=>?_) (fun h6=>?_)
  ·
   refine lKn 10 Z h6<|z17 Zx Z Z (mv Z)<|z17 Zx Z Z (U.eql Z Z)<|Zq (pkT Z Z)<|Zj Z (fun h7=>?_) (fun h7=>?_)
   ·
    refine gKn 13 Z h7<|gSR<|Zb Z<|z0k<|z7a<|Ze [] [] Z
   ·
    refine gKn 13 Z h7<|z2m<|z79 (fun aa ww h=>Zu h [])
  ·
   refine lKn 10 Z h6<|Zk Z<|Zk Z<|Zq (pkF Z Z)<|Zn<|zgp Z<|z2m<|z79 (fun aa ww h=>Zu h [])
 ·
  refine z0s<|gSR<|Zm Z<|Zq (I.eql Z Z)<|Zj Z (fun h8=>?_) (fun h8=>?_)
  ·
   refine gSR<|Zb Z<|z0k<|z0w<|Ze [] [] Z
  ·
   refine Zt<|z0s<|gSR<|Zm Z<|Zq (I.lss Z Z)<|Zj Z (fun h9=>?_) (fun h9=>?_)
   ·
    refine gSR<|Zb Z<|z0k<|z0w<|Ze [] [] Z
   ·
    refine Zt<|z0s<|gSR<|Zm Z<|Zq (U.eql Z Z)<|Zj Z (fun h10=>?_) (fun h10=>?_)
    ·
     refine gSR<|Zb Z<|z0k<|z0w<|Ze [] [] Z
    ·
     refine Zt<|gSR<|Zb Z<|z0k<|Ze [] [] Z
def zc9 (a0:UInt64):Option (UInt64) :=
 zc4 a0 >>= fun r1 =>
 if r1==5 then
  some 9221120237041090560
 else
  some a0
theorem zk6 (a0:UInt64):z1u Tryz.prog 210 [.rd z2c a0] [] (zc9 a0) (fun r nv=>⟨[.rd z2c r],[]⟩):=by
 refine z2d 7 Tryz.func210 Z Z Z fun H w=>?_
 refine gSR<|Zb Z<|z0s<|gSR<|Zm Z<|Zc [] [] Tryz.func228 Z (zkn _) fun r1 n2=>Zq (B.eql Z Z)<|Zj Z (fun h3=>?_) (fun h3=>?_)
 ·
  refine gSR<|Zb Z<|z0k<|z0w<|Ze [] [] Z
 ·
  refine Zt<|gSR<|Zm Z<|Zb Z<|z0k<|Ze [] [] Z
def z4q (a0:List UInt8) (s2:Int):Option (Sum (Sum Bool Unit) Int) :=
 if decide (s2<(a0.length:Int)) then
  idx a0 s2 >>= fun x4 =>
  if decide (x4<32) then
   some (.inl (.inl false))
  else
   idx a0 s2 >>= fun x7 =>
   if decide (126<x7) then
    some (.inl (.inl false))
   else
    some (.inr (w64 (s2+1)))
 else
  some (.inl (.inr ()))
def z8m (a0:List UInt8):Option (Bool) :=
 z5g (iter (z4q a0) 0) fun s1 =>
 some true
theorem zh3 (a0:List UInt8):z1u Tryz.prog 211 [.rd zmk a0] [] (z8m a0) (fun r nv=>⟨[.rd z0j r],[]⟩):=by
 refine z2d 20 Tryz.func211 Z Z Z fun H w=>?_
 refine gSR<|Zb Z<|z8c (fun (s1:Unit) aa ww=>Sta (ctx 20 H [] w) [] [] aa ww) ?_ (fun s1=>?_)
 ·
  refine gSR<|Zb Z<|z26 (fun (s2:Int) aa ww=>Sta (ctx 20 H [] w) [(0,.rd zmk a0),(3,.rd z0e s2)] [] aa ww) (fun aa ww h=>Zu h []) (fun s2=>?_)
  refine z0s<|gSR<|Zm Z<|Zm Z<|Zq (lenT Z Z tu9)<|Zq (I.lss Z Z)<|Zj Z (fun h3=>?_) (fun h3=>?_)
  ·
   refine Zt<|z0s<|z4y<|gSR<|Zm Z<|Zm Z<|z0n fun x4 h5=>Zq (idxT Z Z tu9 (z72 h5).1 (z72 h5).2.1)<|Zq (B.lss Z Z)<|Zm Z<|z1b 14 Z (fun h6=>?_) (fun h6=>?_)
   ·
    refine lKn 13 Z h6<|Zk Z<|Zk Z<|Zk Z<|Zk Z<|Zq (pkT Z Z)<|Zn<|zir Z<|gSR<|Zb Z<|z0k<|z42<|z0w<|z7g<|z7a<|Ze [] [] Z
   ·
    refine lKn 13 Z h6<|z17 Zx Z Z (mv Z)<|z17 Zx Z Z (mv Z)<|z0n fun x7 h8=>z17 Zx Z Z (idxT Z Z tu9 (z72 h8).1 (z72 h8).2.1)<|z17 Zx Z Z (B.gtr Z Z)<|Zq (pkF Z Z)<|Zj Z (fun h9=>?_) (fun h9=>?_)
    ·
     refine gKn 18 Z h9<|gSR<|Zb Z<|z0k<|z42<|z0w<|z7g<|z7a<|Ze [] [] Z
    ·
     refine gKn 18 Z h9<|z2m<|z35<|z0o<|z2e<|Zm Z<|Zq (I.add Z Z)<|Za Z<|z1q<|z1k (fun aa ww h=>Zu h [])
  ·
   refine z1s<|z0x<|z0y<|z79 (fun aa ww h=>Zu h [])
 ·
  refine gSR<|Zb Z<|z0k<|Ze [] [] Z
def zca (a0:z04):Option (Int) :=
 if a0.Kind==1 then
  if a0.Bits==0 then
   if a0.Text==[] then
    some 0
   else
    some 8
  else
   some 8
 else
  if a0.Kind==2 then
   (if a0.Num==0 then
    if a0.Text==[] then
     zc9 a0.Bits >>= fun r9 =>
     some (r9==a0.Bits)
    else
     some false
   else
    some false) >>= fun s6 =>
   if s6 then
    some 0
   else
    some 8
  else
   if a0.Kind==3 then
    (if a0.Num==0 then
     if a0.Bits==0 then
      if decide ((a0.Text.length:Int)≤30) then
       z8m a0.Text >>= fun r17 =>
       some r17
      else
       some false
     else
      some false
    else
     some false) >>= fun s13 =>
    if s13 then
     some 0
    else
     some 8
   else
    some 8
theorem zke (a0:z04):z1u Tryz.prog 186 [.rd z28 a0] [] (zca a0) (fun r nv=>⟨[.rd z0e r],[]⟩):=by
 refine z2d 54 Tryz.func186 Z Z Z fun H w=>?_
 refine gSR<|Eb Z (bx 1 Z) fun v1=>Zb Z<|z0s<|gSR<|Zq (faB 1 Z Z Tryz.underlying67 Z (by exact ti5))<|Zq (ld 1 Z Z (fP (z3d _)) ty5 Z)<|Zn<|z4y<|gSR<|Zq (B.eql Z Z)<|Zb Z<|gIf Z Z (fun h2=>?_) (fun h2=>?_)
 ·
  refine gKn 6 Z h2<|gSR<|Zq (faB 1 Z Z Tryz.underlying67 Z (by exact zsa))<|Zq (ld 1 Z Z (fP (z4c _)) zry Z)<|Zq (U.eql Z Z)<|Zm Z<|z1b 10 Z (fun h3=>?_) (fun h3=>?_)
  ·
   refine lKn 9 Z h3<|z17 Zx Z Z (faB 1 Z Z Tryz.underlying67 Z (by exact ti9))<|z17 Zx Z Z (ld 1 Z Z (fP (z3u _)) ty9 Z)<|z17 Zx Z Z (eqS Z Z)<|Zq (pkT Z Z)<|Zj Z (fun h4=>?_) (fun h4=>?_)
   ·
    refine gKn 13 Z h4<|gSR<|Zb Z<|z0k<|z42<|z0w<|Ze [] [] Z
   ·
    refine gKn 13 Z h4<|z2m<|z35<|z0o<|gSR<|Zb Z<|z0k<|Ze [] [] Z
  ·
   refine lKn 9 Z h3<|Zk Z<|Zk Z<|Zk Z<|Zq (pkF Z Z)<|Zn<|zgp Z<|z2m<|z35<|z0o<|gSR<|Zb Z<|z0k<|Ze [] [] Z
 ·
  refine gKn 6 Z h2<|gSR<|Zq (B.eql Z Z)<|Zb Z<|gIf Z Z (fun h5=>?_) (fun h5=>?_)
  ·
   refine gKn 16 Z h5<|z8n (fun (s6:Bool) aa ww=>Sta (ctx 54 H [] w) [(32,.rd z0j s6)] [] aa ww) ?_ (fun s6=>?_)
   ·
    refine z99 [] mixed Z Z<|hTk 0 Z Z (faB 1 Z Z Tryz.underlying67 Z (by exact ti2))<|hTk 1 Z Z (ld 1 Z Z (fP (z7o _)) ty2 Z)<|hTk 2 Z Z (I.eql Z Z)<|hTk 3 Z Z (mv Z)<|hIf 20 Z Z (fun h7=>?_) (fun h7=>?_)
    ·
     refine hKn 19 Z Z h7<|Zg 4 Z Z (faB 1 Z Z Tryz.underlying67 Z (by exact ti9))<|Zg 5 Z Z (ld 1 Z Z (fP (z3u _)) ty9 Z)<|Zg 6 Z Z (eqS Z Z)<|hTk 7 Z Z (pkT Z Z)<|hTk 8 Z Z (mv Z)<|hIf 25 Z Z (fun h8=>?_) (fun h8=>?_)
     ·
      refine hKn 23 Z Z h8<|hKn 24 Z Z h8<|Zg 9 Z Z (faB 1 Z Z Tryz.underlying67 Z (by exact zsa))<|Zg 10 Z Z (ld 1 Z Z (fP (z4c _)) zry Z)<|Zg 12 Z Z (faB 1 Z Z Tryz.underlying67 Z (by exact zsa))<|Zg 13 Z Z (ld 1 Z Z (fP (z4c _)) zry Z)<|z4e 11 [] [] Z (by kernel_rfl) Z Zx Z Tryz.func210 Z Z (zk6 _) (Y1 Z) rN Z (fun _ _=>z34) fun r9 n10=>Zg 14 Z Z (U.eql Z Z)<|hTk 15 Z Z (pkT Z Z)<|z5a (by kernel_rfl)<|z3n (fun aa ww h=>Zu h [])
     ·
      refine hKn 23 Z Z h8<|hKn 24 Z Z h8<|hSk 9 Z Z<|hSk 10 Z Z<|hSk 11 Z Z<|hSk 12 Z Z<|hSk 13 Z Z<|hSk 14 Z Z<|hTk 15 Z Z (pkF Z Z)<|z5a (by kernel_rfl)<|z3n (fun aa ww h=>Zu h [])
    ·
     refine hKn 19 Z Z h7<|hSk 4 Z Z<|hSk 5 Z Z<|hSk 6 Z Z<|hTk 7 Z Z (pkF Z Z)<|hTk 8 Z Z (mv Z)<|hSk 9 Z Z<|hSk 10 Z Z<|hSk 11 Z Z<|hSk 12 Z Z<|hSk 13 Z Z<|hSk 14 Z Z<|hTk 15 Z Z (pkF Z Z)<|z5a (by kernel_rfl)<|z3n (fun aa ww h=>Zu h [])
   ·
    refine gIf Z Z (fun h11=>?_) (fun h11=>?_)
    ·
     refine gSR<|Zb Z<|z0k<|z42<|z0w<|Ze [] [] Z
    ·
     refine z2m<|z35<|z0o<|gSR<|Zb Z<|z0k<|Ze [] [] Z
  ·
   refine gKn 16 Z h5<|gSR<|Zq (B.eql Z Z)<|Zb Z<|gIf Z Z (fun h12=>?_) (fun h12=>?_)
   ·
    refine gKn 34 Z h12<|z8n (fun (s13:Bool) aa ww=>Sta (ctx 54 H [] w) [(53,.rd z0j s13)] [] aa ww) ?_ (fun s13=>?_)
    ·
     refine z2e<|Zq (faB 1 Z Z Tryz.underlying67 Z (by exact ti2))<|Zq (ld 1 Z Z (fP (z7o _)) ty2 Z)<|Zq (I.eql Z Z)<|Zm Z<|z1b 38 Z (fun h14=>?_) (fun h14=>?_)
     ·
      refine lKn 37 Z h14<|z17 Zx Z Z (faB 1 Z Z Tryz.underlying67 Z (by exact zsa))<|z17 Zx Z Z (ld 1 Z Z (fP (z4c _)) zry Z)<|z17 Zx Z Z (U.eql Z Z)<|Zq (pkT Z Z)<|Zm Z<|z1b 43 Z (fun h15=>?_) (fun h15=>?_)
      ·
       refine lKn 41 Z h15<|lKn 42 Z h15<|z17 Zx Z Z (faB 1 Z Z Tryz.underlying67 Z (by exact ti9))<|z17 Zx Z Z (ld 1 Z Z (fP (z3u _)) ty9 Z)<|z17 Zx Z Z (lenT Z Z tu9)<|z17 Zx Z Z (I.leq Z Z)<|Zq (pkT Z Z)<|Zm Z<|z1b 49 Z (fun h16=>?_) (fun h16=>?_)
       ·
        refine lKn 47 Z h16<|lKn 48 Z h16<|z17 Zx Z Z (faB 1 Z Z Tryz.underlying67 Z (by exact ti9))<|z17 Zx Z Z (ld 1 Z Z (fP (z3u _)) ty9 Z)<|zdb [] [] Zx Z Tryz.func211 Z Z (zh3 _) (Y1 Z) rN fun r17 n18=>Zq (pkT Z Z)<|z1q<|z3n (fun aa ww h=>Zu h [])
       ·
        refine lKn 47 Z h16<|lKn 48 Z h16<|Zk Z<|Zk Z<|Zk Z<|Zq (pkF Z Z)<|z1q<|z3n (fun aa ww h=>Zu h [])
      ·
       refine lKn 41 Z h15<|lKn 42 Z h15<|Zk Z<|Zk Z<|Zk Z<|Zk Z<|Zq (pkF Z Z)<|Zm Z<|Zk Z<|Zk Z<|Zk Z<|Zq (pkF Z Z)<|z1q<|z3n (fun aa ww h=>Zu h [])
     ·
      refine lKn 37 Z h14<|Zk Z<|Zk Z<|Zk Z<|Zq (pkF Z Z)<|Zm Z<|Zk Z<|Zk Z<|Zk Z<|Zk Z<|Zq (pkF Z Z)<|Zm Z<|Zk Z<|Zk Z<|Zk Z<|Zq (pkF Z Z)<|z1q<|z3n (fun aa ww h=>Zu h [])
    ·
     refine gIf Z Z (fun h19=>?_) (fun h19=>?_)
     ·
      refine gSR<|Zb Z<|z0k<|z42<|z0w<|Ze [] [] Z
     ·
      refine z2m<|z35<|z0o<|gSR<|Zb Z<|z0k<|Ze [] [] Z
   ·
    refine gKn 34 Z h12<|z2m<|z35<|z0o<|gSR<|Zb Z<|z0k<|Ze [] [] Z
def z9j (a0:z0h):Option (Int) :=
 some (decide (a0.Value=(⟨0,0,0,[]⟩:z04))) >>= fun y2 =>
 if a0.Kind==1 then
  if a0.Key==[] then
   if y2 then
    some 0
   else
    some 8
  else
   some 8
 else
  (if a0.Kind==2 then
   some true
  else
   some (a0.Kind==3)) >>= fun s6 =>
  if s6 then
   zaz a0.Key >>= fun r9 =>
   if r9 then
    if y2 then
     some 0
    else
     some 8
   else
    some 8
  else
   if a0.Kind==4 then
    zaz a0.Key >>= fun r14 =>
    if r14 then
     zca a0.Value >>= fun r17 =>
     if r17==0 then
      some 0
     else
      some 8
    else
     some 8
   else
    some 8
theorem zhx (a0:z0h):z1u Tryz.prog 148 [.rd z0f a0] [] (z9j a0) (fun r nv=>⟨[.rd z0e r],[]⟩):=by
 refine z2d 38 Tryz.func148 Z Z Z fun H w=>?_
 refine gSR<|Eb Z (bx 1 Z) fun v1=>Zb Z<|gSR<|Zq (faB 1 Z Z Tryz.underlying69 Z (by exact zmd))<|Zq (ld 1 Z Z (fP (z5q _)) zum Z)<|Zq (bld (x':=(⟨0,0,0,[]⟩:z04)) [(0,1),(1,1),(2,1),(3,1)] Tryz.underlying67 zmd Z zz2 Z (Bld.done Z))<|Zq (eqA Z Z eq67 Z Z gq67)<|Za Z<|z1t 3 Z fun y2=>Zn<|z0s<|gSR<|Zq (faB 1 Z Z Tryz.underlying69 Z (by exact ti5))<|Zq (ld 1 Z Z (fP (z3z _)) ty5 Z)<|Zn<|z4y<|gSR<|Zq (B.eql Z Z)<|Zb Z<|gIf Z Z (fun h3=>?_) (fun h3=>?_)
 ·
  refine gKn 11 Z h3<|gSR<|Zq (faB 1 Z Z Tryz.underlying69 Z (by exact ti9))<|Zq (ld 1 Z Z (fP (z6h _)) ty9 Z)<|Zq (eqS Z Z)<|Zm Z<|z1b 15 Z (fun h4=>?_) (fun h4=>?_)
  ·
   refine lKn 14 Z h4<|z17 Zx Z Z (mv Z)<|Zq (pkT Z Z)<|Zj Z (fun h5=>?_) (fun h5=>?_)
   ·
    refine gKn 3 Z h5<|gKn 16 Z h5<|gSR<|Zb Z<|z0k<|z42<|z0w<|Ze [] [] Z
   ·
    refine gKn 3 Z h5<|gKn 16 Z h5<|z2m<|z35<|z0o<|gSR<|Zb Z<|z0k<|Ze [] [] Z
  ·
   refine lKn 14 Z h4<|Zk Z<|Zq (pkF Z Z)<|Zn<|zgp Z<|z2m<|z35<|z0o<|gSR<|Zb Z<|z0k<|Ze [] [] Z
 ·
  refine gKn 11 Z h3<|z8n (fun (s6:Bool) aa ww=>Sta (ctx 38 H [] w) [(1,.val (z06 v1 0)),(3,.rd z0j y2),(9,.rd u8R a0.Kind),(18,.rd z0j s6)] [(1,some (v1,.box 69 [.rd z0f a0]))] aa ww) ?_ (fun s6=>?_)
  ·
   refine gSR<|Zq (B.eql Z Z)<|Zb Z<|gIf Z Z (fun h7=>?_) (fun h7=>?_)
   ·
    refine gKn 19 Z h7<|z2m<|z3n (fun aa ww h=>Zu h [1])
   ·
    refine gKn 19 Z h7<|z2e<|Zq (B.eql Z Z)<|Za Z<|z1q<|z3n (fun aa ww h=>Zu h [1])
  ·
   refine gIf Z Z (fun h8=>?_) (fun h8=>?_)
   ·
    refine gSR<|Zq (faB 1 Z Z Tryz.underlying69 Z (by exact ti9))<|Zq (ld 1 Z Z (fP (z6h _)) ty9 Z)<|Zc [] [] Tryz.func185 Z (zfu _) fun r9 n10=>Zm Z<|z1b 24 Z (fun h11=>?_) (fun h11=>?_)
    ·
     refine lKn 23 Z h11<|z17 Zx Z Z (mv Z)<|Zq (pkT Z Z)<|Zj Z (fun h12=>?_) (fun h12=>?_)
     ·
      refine gKn 3 Z h12<|gKn 25 Z h12<|gSR<|Zb Z<|z0k<|z42<|z0w<|Ze [] [] Z
     ·
      refine gKn 3 Z h12<|gKn 25 Z h12<|z2m<|z35<|z0o<|gSR<|Zb Z<|z0k<|Ze [] [] Z
    ·
     refine lKn 23 Z h11<|Zk Z<|Zq (pkF Z Z)<|Zn<|zgp Z<|z2m<|z35<|z0o<|gSR<|Zb Z<|z0k<|Ze [] [] Z
   ·
    refine gSR<|Zq (B.eql Z Z)<|Zb Z<|gIf Z Z (fun h13=>?_) (fun h13=>?_)
    ·
     refine gKn 28 Z h13<|gSR<|Zq (faB 1 Z Z Tryz.underlying69 Z (by exact ti9))<|Zq (ld 1 Z Z (fP (z6h _)) ty9 Z)<|Zc [] [] Tryz.func185 Z (zfu _) fun r14 n15=>Zm Z<|z1b 32 Z (fun h16=>?_) (fun h16=>?_)
     ·
      refine lKn 31 Z h16<|z17 Zx Z Z (faB 1 Z Z Tryz.underlying69 Z (by exact zmd))<|z17 Zx Z Z (ld 1 Z Z (fP (z5q _)) zum Z)<|zdb [] [] Zx Z Tryz.func186 Z Z (zke _) (Y1 Z) rN fun r17 n18=>z17 Zx Z Z (I.eql Z Z)<|Zq (pkT Z Z)<|Zj Z (fun h19=>?_) (fun h19=>?_)
      ·
       refine gKn 36 Z h19<|gSR<|Zb Z<|z0k<|z42<|z0w<|Ze [] [] Z
      ·
       refine gKn 36 Z h19<|z2m<|z35<|z0o<|gSR<|Zb Z<|z0k<|Ze [] [] Z
     ·
      refine lKn 31 Z h16<|Zk Z<|Zk Z<|Zk Z<|Zk Z<|Zq (pkF Z Z)<|Zn<|zgp Z<|z2m<|z35<|z0o<|gSR<|Zb Z<|z0k<|Ze [] [] Z
    ·
     refine gKn 28 Z h13<|z2m<|z35<|z0o<|gSR<|Zb Z<|z0k<|Ze [] [] Z
def z4a (a0:UInt32):Option (Bool) :=
 some (decide (a0.toUInt64<500000003)) >>= fun y1 =>
 some y1
theorem z71 (a0:UInt32):z1u Tryz.prog 149 [.rd z0p a0] [] (z4a a0) (fun r nv=>⟨[.rd z0j r],[]⟩):=by
 refine z2d 6 Tryz.func149 Z Z Z fun H w=>?_
 refine gSR<|Zb Z<|gSR<|Zm Z<|Zq (W.toU Z tu65 tu41)<|Zq (U.lss Z Z)<|Za Z<|z1t 2 Z fun y1=>Zn<|z0k<|Ze [] [] Z
def z4x (a0:z07):Option (Int) :=
 if decide (4<(a0.Preds.length:Int)) then
  some 4
 else
  z8q a0.Preds >>= fun r3 =>
  if !r3 then
   some 32
  else
   (zd2 a0.Author >>= fun r7 =>
   if !r7 then
    some true
   else
    if decide (1000000000000<a0.Stamp) then
     some true
    else
     z9j a0.Act >>= fun r11 =>
     if r11 != 0 then
      some true
     else
      z4a a0.Sig.E >>= fun r14 =>
      if !r14 then
       some true
      else
       z4a a0.Sig.S >>= fun r17 =>
       some (!r17)) >>= fun s6 =>
   if s6 then
    some 8
   else
    some 0
theorem z9h (a0:z07):z1u Tryz.prog 103 [.rd z03 a0] [] (z4x a0) (fun r nv=>⟨[.rd z0e r],[]⟩):=by
 refine z2d 40 Tryz.func103 Z Z Z fun H w=>?_
 refine gSR<|Eb Z (bx 1 Z) fun v1=>Zb Z<|z0s<|gSR<|Zq (faB 1 Z Z Tryz.underlying73 Z (by exact z6e))<|Zq (ld 1 Z Z (fP (z0z _)) z8j Z)<|Zq (z3g Z .rd Z tu22)<|Zq (I.gtr Z Z)<|Zj Z (fun h2=>?_) (fun h2=>?_)
 ·
  refine gSR<|Zb Z<|z0k<|z0w<|Ze [] [] Z
 ·
  refine Zt<|z0s<|gSR<|Zq (faB 1 Z Z Tryz.underlying73 Z (by exact z6e))<|Zq (ld 1 Z Z (fP (z0z _)) z8j Z)<|Zc [] [] Tryz.func108 Z (zel _) fun r3 n4=>Zq (zfl Z)<|Zj Z (fun h5=>?_) (fun h5=>?_)
  ·
   refine gSR<|Zb Z<|z0k<|z0w<|Ze [] [] Z
  ·
   refine Zt<|z0s<|z8n (fun (s6:Bool) aa ww=>Sta (ctx 40 H [] w) [(39,.rd z0j s6)] [] aa ww) ?_ (fun s6=>?_)
   ·
    refine z2e<|Zq (faB 1 Z Z Tryz.underlying73 Z (by exact z6p))<|Zq (ld 1 Z Z (fP (z36 _)) zaj Z)<|Zc [] [] Tryz.func147 Z (zht _) fun r7 n8=>Zq (zfl Z)<|Zm Z<|z1b 15 Z (fun h9=>?_) (fun h9=>?_)
    ·
     refine lKn 14 Z h9<|Zk Z<|Zk Z<|Zk Z<|Zq (pkT Z Z)<|Zm Z<|Zk Z<|Zk Z<|Zk Z<|Zk Z<|Zq (pkT Z Z)<|Zm Z<|Zk Z<|Zk Z<|Zk Z<|Zk Z<|Zk Z<|Zq (pkT Z Z)<|Zm Z<|Zk Z<|Zk Z<|Zk Z<|Zk Z<|Zk Z<|Zq (pkT Z Z)<|z1q<|z3n (fun aa ww h=>Zu h [])
    ·
     refine lKn 14 Z h9<|z17 Zx Z Z (faB 1 Z Z Tryz.underlying73 Z (by exact zsa))<|z17 Zx Z Z (ld 1 Z Z (fP (z4o _)) zry Z)<|z17 Zx Z Z (U.gtr Z Z)<|Zq (pkF Z Z)<|Zm Z<|z1b 20 Z (fun h10=>?_) (fun h10=>?_)
     ·
      refine lKn 18 Z h10<|lKn 19 Z h10<|Zk Z<|Zk Z<|Zk Z<|Zk Z<|Zq (pkT Z Z)<|Zm Z<|Zk Z<|Zk Z<|Zk Z<|Zk Z<|Zk Z<|Zq (pkT Z Z)<|Zm Z<|Zk Z<|Zk Z<|Zk Z<|Zk Z<|Zk Z<|Zq (pkT Z Z)<|z1q<|z3n (fun aa ww h=>Zu h [])
     ·
      refine lKn 18 Z h10<|lKn 19 Z h10<|z17 Zx Z Z (faB 1 Z Z Tryz.underlying73 Z (by exact zpv))<|z17 Zx Z Z (ld 1 Z Z (fP (z29 _)) ty69 Z)<|zdb [] [] Zx Z Tryz.func148 Z Z (zhx _) (Y1 Z) rN fun r11 n12=>z17 Zx Z Z (I.neq Z Z)<|Zq (pkF Z Z)<|Zm Z<|z1b 26 Z (fun h13=>?_) (fun h13=>?_)
      ·
       refine lKn 24 Z h13<|lKn 25 Z h13<|Zk Z<|Zk Z<|Zk Z<|Zk Z<|Zk Z<|Zq (pkT Z Z)<|Zm Z<|Zk Z<|Zk Z<|Zk Z<|Zk Z<|Zk Z<|Zq (pkT Z Z)<|z1q<|z3n (fun aa ww h=>Zu h [])
      ·
       refine lKn 24 Z h13<|lKn 25 Z h13<|z17 Zx Z Z (faB 1 Z Z Tryz.underlying73 Z (by exact zng))<|z17 Zx Z Z (faB 1 Z Z Tryz.underlying71 Z (by exact z6p))<|z17 Zx Z Z (ld 1 Z Z ((fP (z2j _)).part (z5d _)) zaj Z)<|zdb [] [] Zx Z Tryz.func149 Z Z (z71 _) (Y1 Z) rN fun r14 n15=>z17 Zx Z Z (zfl Z)<|Zq (pkF Z Z)<|Zm Z<|z1b 33 Z (fun h16=>?_) (fun h16=>?_)
       ·
        refine lKn 31 Z h16<|lKn 32 Z h16<|Zk Z<|Zk Z<|Zk Z<|Zk Z<|Zk Z<|Zq (pkT Z Z)<|z1q<|z3n (fun aa ww h=>Zu h [])
       ·
        refine lKn 31 Z h16<|lKn 32 Z h16<|z17 Zx Z Z (faB 1 Z Z Tryz.underlying73 Z (by exact zng))<|z17 Zx Z Z (faB 1 Z Z Tryz.underlying71 Z (by exact z6p))<|z17 Zx Z Z (ld 1 Z Z ((fP (z2j _)).part (z7x _)) zaj Z)<|zdb [] [] Zx Z Tryz.func149 Z Z (z71 _) (Y1 Z) rN fun r17 n18=>z17 Zx Z Z (zfl Z)<|Zq (pkF Z Z)<|z1q<|z3n (fun aa ww h=>Zu h [])
   ·
    refine gIf Z Z (fun h19=>?_) (fun h19=>?_)
    ·
     refine gSR<|Zb Z<|z0k<|z0w<|Ze [] [] Z
    ·
     refine Zt<|gSR<|Zb Z<|z0k<|Ze [] [] Z
def z6j (a0:UInt32) (a1:UInt64):Option (UInt32) :=
 z9x a0.toUInt64 a1 1000000007 >>= fun r1 =>
 some r1.toUInt32
theorem zbl (a0:UInt32) (a1:UInt64):z1u Tryz.prog 189 [.rd z0p a0,.rd z2c a1] [] (z6j a0 a1) (fun r nv=>⟨[.rd z0p r],[]⟩):=by
 refine z2d 10 Tryz.func189 Z Z Z fun H w=>?_
 refine gSR<|Zb Z<|gSR<|Zm Z<|Zq (W.toU Z tu65 tu41)<|Zm Z<|Zc [] [] Tryz.func184 Z (zfb _ _ _) fun r1 n2=>Zq (U.toW Z tu41 tu65)<|Zb Z<|z0k<|Ze [] [] Z
def zgd (a0:UInt32):Option (UInt32 × Int) :=
 zd2 a0 >>= fun r1 =>
 if !r1 then
  some (0,2)
 else
  z6j a0 500000002 >>= fun r4 =>
  some (r4,0)
theorem zmu (a0:UInt32):z1u Tryz.prog 188 [.rd z0p a0] [] (zgd a0) (fun r nv=>⟨[.rd z0p r.1,.rd z0e r.2],[]⟩):=by
 refine z2d 9 Tryz.func188 Z Z Z fun H w=>?_
 refine gSR<|Za Z<|Zb Z<|z0s<|gSR<|Zm Z<|Zc [] [] Tryz.func147 Z (zht _) fun r1 n2=>Zq (zfl Z)<|Zj Z (fun h3=>?_) (fun h3=>?_)
 ·
  refine gSR<|Za Z<|Zb Z<|z0k<|z0w<|Ze [] [] Z
 ·
  refine Zt<|gSR<|Zm Z<|Zc [] [] Tryz.func189 Z (zbl _ _) fun r4 n5=>Za Z<|Zb Z<|z0k<|Ze [] [] Z
def zd1 (a0:UInt64):Option (UInt32) :=
 z6j 4 a0 >>= fun r1 =>
 some r1
theorem zm5 (a0:UInt64):z1u Tryz.prog 178 [.rd z2c a0] [] (zd1 a0) (fun r nv=>⟨[.rd z0p r],[]⟩):=by
 refine z2d 5 Tryz.func178 Z Z Z fun H w=>?_
 refine gSR<|Zb Z<|gSR<|Zm Z<|Zc [] [] Tryz.func189 Z (zbl _ _) fun r1 n2=>Zb Z<|z0k<|Ze [] [] Z
def z6f (a0:UInt32):Option (UInt32) :=
 zd1 a0.toUInt64 >>= fun r1 =>
 some r1
theorem zbh (a0:UInt32):z1u Tryz.prog 143 [.rd z0p a0] [] (z6f a0) (fun r nv=>⟨[.rd z0p r],[]⟩):=by
 refine z2d 6 Tryz.func143 Z Z Z fun H w=>?_
 refine gSR<|Zb Z<|gSR<|Zm Z<|Zq (W.toU Z tu65 tu41)<|Zc [] [] Tryz.func178 Z (zm5 _) fun r1 n2=>Zb Z<|z0k<|Ze [] [] Z
def zcm (a0:UInt32) (a1:UInt32):Option (UInt32) :=
 some (((a0.toUInt64 * a1.toUInt64) % 1000000007).toUInt32) >>= fun y1 =>
 some y1
theorem zi6 (a0:UInt32) (a1:UInt32):z1u Tryz.prog 190 [.rd z0p a0,.rd z0p a1] [] (zcm a0 a1) (fun r nv=>⟨[.rd z0p r],[]⟩):=by
 refine z2d 12 Tryz.func190 Z Z Z fun H w=>?_
 refine gSR<|Zb Z<|gSR<|Zm Z<|Zq (W.toU Z tu65 tu41)<|Zm Z<|Zq (W.toU Z tu65 tu41)<|Zq (U.mul Z Z)<|Zq (U.rem Z Z (by decide))<|Zq (U.toW Z tu41 tu65)<|Za Z<|z1t 4 Z fun y1=>Zn<|z0k<|Ze [] [] Z
def z8w (a0:UInt32):Option ((List UInt8)) :=
 some [(a0 / 16777216).toUInt8,((a0 / 65536) % 256).toUInt8,((a0 / 256) % 256).toUInt8,(a0 % 256).toUInt8]
theorem zda (a0:UInt32):z1u Tryz.prog 208 [.rd z0p a0] [] (z8w a0) (fun r nv=>⟨[.val (nv 0)],[(100,some (nv 0,.list u8R 5 r))]⟩):=by
 refine z2d 18 Tryz.func208 Z Z Z fun H w=>?_
 refine gSR<|Zb Z<|gSR<|Zm Z<|Zq (W.quo Z Z (by decide))<|Zq (W.toB Z tu65 tu5)<|Zm Z<|Zq (W.quo Z Z (by decide))<|Zq (W.rem Z Z (by decide))<|Zq (W.toB Z tu65 tu5)<|Zm Z<|Zq (W.quo Z Z (by decide))<|Zq (W.rem Z Z (by decide))<|Zq (W.toB Z tu65 tu5)<|Zm Z<|Zq (W.rem Z Z (by decide))<|Zq (W.toB Z tu65 tu5)<|Ef Z (lit (R:=u8R) ([(a0 / 16777216).toUInt8,((a0 / 65536) % 256).toUInt8,((a0 / 256) % 256).toUInt8,(a0 % 256).toUInt8]:List UInt8) 1 (pP Z Z<|pP Z Z<|pP Z Z<|pP Z Z<|pN) Z tu75 ti5 Z Z) fun v1=>Zb Z<|z0k<|Ze [v1] [1] Z
def z5x (r1:V3) (s5:UInt64 × Int):Option (Sum UInt64 (UInt64 × Int)) :=
 if decide (s5.2<8) then
  z98 r1 s5.2 >>= fun x7 =>
  some ((256 * s5.1)+x7.toUInt64) >>= fun y9 =>
  some (w64 (s5.2+1)) >>= fun y10 =>
  some (.inr (y9,y10))
 else
  some (.inl s5.1)
def z8z (a0:List UInt8):Option (UInt64) :=
 zcz a0 >>= fun r1 =>
 (iter (z5x r1) (0,0)) >>= fun s4 =>
 some s4
theorem zen (a0:List UInt8):z1u Tryz.prog 209 [.rd (z02 u8R) a0] [] (z8z a0) (fun r nv=>⟨[.rd z2c r],[]⟩):=by
 refine z2d 20 Tryz.func209 Z Z Z fun H w=>?_
 refine gSR<|Zb Z<|gSR<|Zm Z<|Zc [] [] Tryz.func95 Z (zhq _) fun r1 n2=>Eb Z (z56 1 z2b (.zr (R:=aZ) (x:=(Vector.replicate 32 0)) zgg)) fun v3=>Es (sto 1 Z Z fH Z z2b)<|Zn<|gSR<|Zb Z<|z8n (fun (s4:UInt64) aa ww=>Sta (ctx 20 H [] w) [(4,.rd z2c s4)] [] aa ww) ?_ (fun s4=>?_)
 ·
  refine gSR<|Zb Z<|z26 (fun (s5:UInt64 × Int) aa ww=>Sta (ctx 20 H [] w) [(3,.val (z06 v3 0)),(4,.rd z2c s5.1),(5,.rd z0e s5.2)] [(1,some (v3,.box 62 [.rd aZ r1]))] aa ww) (fun aa ww h=>Zu h [1]) (fun s5=>?_)
  refine z0s<|gSR<|Zm Z<|Zq (I.lss Z Z)<|Zj Z (fun h6=>?_) (fun h6=>?_)
  ·
   refine Zt<|z0s<|z4y<|z2e<|Zm Z<|Zq (U.mul Z Z)<|Zm Z<|z0n fun x7 h8=>Zq (ixB 1 Z Z Z h8 tu62 ti5)<|Zq (ld 1 Z Z (fP (.el h8)) ty5 Z)<|Zq (B.toU Z tu5 tu41)<|Zq (U.add Z Z)<|Za Z<|z1t 4 Z fun y9=>z1q<|z35<|z0o<|z2e<|Zm Z<|Zq (I.add Z Z)<|Za Z<|z1t 5 Z fun y10=>z1q<|z1k (fun aa ww h=>Zu h [1])
  ·
   refine z1s<|z0x<|z0y<|z3n (fun aa ww h=>Zu h [])
 ·
  refine gSR<|Zm Z<|Zb Z<|z0k<|Ze [] [] Z
def z5y (a0:UInt32) (a1:UInt32) (a2:List UInt8):Option (UInt32) :=
 z8w a0 >>= fun r2 =>
 app 1 [99] r2 >>= fun x4 =>
 z8w a1 >>= fun r7 =>
 app 1 x4 r7 >>= fun x9 =>
 app 1 x9 a2 >>= fun x12 =>
 z8z x12 >>= fun r15 =>
 some ((r15 % 500000003).toUInt32) >>= fun y17 =>
 some y17
theorem zcr (a0:UInt32) (a1:UInt32) (a2:List UInt8):z1u Tryz.prog 180 [.rd z0p a0,.rd z0p a1,.rd (z02 u8R) a2] [] (z5y a0 a1 a2) (fun r nv=>⟨[.rd z0p r],[]⟩):=by
 refine z2d 21 Tryz.func180 Z Z Z fun H w=>?_
 refine gSR<|Zb Z<|gSR<|Ef Z (lit (R:=u8R) ([99]:List UInt8) 1 (pP Z Z<|pN) Z tu75 ti5 Z Z) fun v1=>Zm Z<|Zc [] [(100,2)] Tryz.func208 Z (zda _) fun r2 n3=>z0n fun x4 h5=>Ef Z (apn 1 Z Z Z (.own 2 Z) h5 tu75 ti5 Z Z Z) fun v6=>Zm Z<|Zc [] [(100,3)] Tryz.func208 Z (zda _) fun r7 n8=>z0n fun x9 h10=>Ef Z (apn 1 Z Z Z (.own 3 Z) h10 tu75 ti5 Z Z Z) fun v11=>Zb Z<|gSR<|Zm Z<|Zm Z<|z0n fun x12 h13=>Ef Z (apn 1 Z Z Z .rd h13 tu75 ti5 Z Z Z) fun v14=>zh0 1 [17] Z (fS Z<|fN)<|Zc [] [] Tryz.func209 Z (zen _) fun r15 n16=>Zq (U.rem Z Z (by decide))<|Zq (U.toW Z tu41 tu65)<|Za Z<|z1t 6 Z fun y17=>Zn<|z0k<|Ze [] [] Z
def zc1 (a0:UInt32) (a1:List UInt8) (a2:z0c):Option (Bool) :=
 z4a a2.E >>= fun r2 =>
 if !r2 then
  some false
 else
  z4a a2.S >>= fun r5 =>
  if !r5 then
   some false
  else
   z6j a0 a2.E.toUInt64 >>= fun r8 =>
   zgd r8 >>= fun r10 =>
   z6f a2.S >>= fun r12 =>
   zcm r12 r10.1 >>= fun r14 =>
   z5y r14 a0 a1 >>= fun r16 =>
   some (r16==a2.E)
theorem zk9 (a0:UInt32) (a1:List UInt8) (a2:z0c):z1u Tryz.prog 152 [.rd z0p a0,.rd (z02 u8R) a1,.rd z0g a2] [] (zc1 a0 a1 a2) (fun r nv=>⟨[.rd z0j r],[]⟩):=by
 refine z2d 39 Tryz.func152 Z Z Z fun H w=>?_
 refine gSR<|Eb Z (bx 1 Z) fun v1=>Zb Z<|z0s<|gSR<|Zq (faB 1 Z Z Tryz.underlying71 Z (by exact z6p))<|Zq (ld 1 Z Z (fP (z5d _)) zaj Z)<|Zc [] [] Tryz.func149 Z (z71 _) fun r2 n3=>Zq (zfl Z)<|Zm Z<|z1b 13 Z (fun h4=>?_) (fun h4=>?_)
 ·
  refine lKn 12 Z h4<|Zk Z<|Zk Z<|Zk Z<|Zk Z<|Zq (pkT Z Z)<|Zn<|zir Z<|gSR<|Zb Z<|z0k<|z0w<|Ze [] [] Z
 ·
  refine lKn 12 Z h4<|z17 Zx Z Z (faB 1 Z Z Tryz.underlying71 Z (by exact z6p))<|z17 Zx Z Z (ld 1 Z Z (fP (z7x _)) zaj Z)<|zdb [] [] Zx Z Tryz.func149 Z Z (z71 _) (Y1 Z) rN fun r5 n6=>z17 Zx Z Z (zfl Z)<|Zq (pkF Z Z)<|Zj Z (fun h7=>?_) (fun h7=>?_)
  ·
   refine gKn 17 Z h7<|gSR<|Zb Z<|z0k<|z0w<|Ze [] [] Z
  ·
   refine gKn 17 Z h7<|Zt<|gSR<|Zm Z<|Zq (faB 1 Z Z Tryz.underlying71 Z (by exact z6p))<|Zq (ld 1 Z Z (fP (z5d _)) zaj Z)<|Zq (W.toU Z tu65 tu41)<|Zc [] [] Tryz.func189 Z (zbl _ _) fun r8 n9=>Zc [] [] Tryz.func188 Z (zmu _) fun r10 n11=>Zm Z<|Zq (ext Z Z)<|Zq (ext Z Z)<|Za Z<|Zb Z<|z0s<|z99 [] mixed Z Z<|hTk 0 Z Z (faB 1 Z Z Tryz.underlying71 Z (by exact z6p))<|hTk 1 Z Z (ld 1 Z Z (fP (z7x _)) zaj Z)<|hTk 3 Z Z (mv Z)<|hTk 5 Z Z (mv Z)<|hTk 6 Z Z (mv Z)<|hTk 8 Z Z (faB 1 Z Z Tryz.underlying71 Z (by exact z6p))<|hTk 9 Z Z (ld 1 Z Z (fP (z5d _)) zaj Z)<|z4e 2 [] [] Z (by kernel_rfl) Z (gd0 Z) Z Tryz.func143 Z Z (zbh _) (Y1 Z) rN Z (fun _ _=>z34) fun r12 n13=>z4e 4 [] [] Z (by kernel_rfl) Z (gd0 Z) Z Tryz.func190 Z Z (zi6 _ _) (Y2 Z Z) rN Z (fun _ _=>z34) fun r14 n15=>z4e 7 [] [] Z (by kernel_rfl) Z (gd0 Z) Z Tryz.func180 Z Z (zcr _ _ _) (aQ Z<|aQ Z<|aQ Z<|aN) rN Z (fun _ _=>z34) fun r16 n17=>hTk 10 Z Z (W.eql Z Z)<|hTk 11 Z Z (asg Z)<|z5a (by kernel_rfl)<|z0o<|z0k<|Ze [] [] Z
def zdg (a0:z07):Option (Bool) :=
 z6u a0 >>= fun r2 =>
 zc1 a0.Author r2 a0.Sig >>= fun r4 =>
 some r4
theorem zje (a0:z07):z1u Tryz.prog 107 [.rd z03 a0] [] (zdg a0) (fun r nv=>⟨[.rd z0j r],[]⟩):=by
 refine z2d 10 Tryz.func107 Z Z Z fun H w=>?_
 refine gSR<|Eb Z (bx 1 Z) fun v1=>Zb Z<|z0s<|z99 [11] mixed Z Z<|hTk 0 Z Z (faB 1 Z Z Tryz.underlying73 Z (by exact z6p))<|hTk 1 Z Z (ld 1 Z Z (fP (z36 _)) zaj Z)<|hTk 2 Z Z (ld 1 Z Z fH z9n Z)<|hTk 4 Z Z (faB 1 Z Z Tryz.underlying73 Z (by exact zng))<|hTk 5 Z Z (ld 1 Z Z (fP (z2j _)) ty71 Z)<|z4e 3 [] [(100,11)] Z (by kernel_rfl) Z (gd0 Z) Z Tryz.func139 Z Z (zd7 _) (Y1 Z) rN Z (fun _ _=>z3t) fun r2 n3=>zz1 11 [6] Z (fS Z<|fN)<|z4e 6 [] [] Z (by kernel_rfl) Z (gd0 Z) Z Tryz.func152 Z Z (zk9 _ _ _) (aQ Z<|aQ Z<|aQ Z<|aN) rN Z (fun _ _=>ze8) fun r4 n5=>hTk 7 Z Z (asg Z)<|z5a (by kernel_rfl)<|z0o<|z0k<|Ze [] [] Z
def z4d (a0:z07):Option (Int) :=
 z4x a0 >>= fun r2 =>
 if r2 != 0 then
  z4x a0 >>= fun r5 =>
  some r5
 else
  zdg a0 >>= fun r7 =>
  if !r7 then
   some 22
  else
   some 0
theorem zbm (a0:z07):z1u Tryz.prog 69 [.rd z03 a0] [] (z4d a0) (fun r nv=>⟨[.rd z0e r],[]⟩):=by
 refine z2d 11 Tryz.func69 Z Z Z fun H w=>?_
 refine gSR<|Eb Z (bx 1 Z) fun v1=>Zb Z<|z0s<|gSR<|Zq (ld 1 Z Z fH z9n Z)<|Zc [] [] Tryz.func103 Z (z9h _) fun r2 n3=>Zq (I.neq Z Z)<|Zj Z (fun h4=>?_) (fun h4=>?_)
 ·
  refine gSR<|Zq (ld 1 Z Z fH z9n Z)<|Zc [] [] Tryz.func103 Z (z9h _) fun r5 n6=>Zb Z<|z0k<|z0w<|Ze [] [] Z
 ·
  refine Zt<|z0s<|gSR<|Zq (ld 1 Z Z fH z9n Z)<|Zc [] [] Tryz.func107 Z (zje _) fun r7 n8=>Zq (zfl Z)<|Zj Z (fun h9=>?_) (fun h9=>?_)
  ·
   refine gSR<|Zb Z<|z0k<|z0w<|Ze [] [] Z
  ·
   refine Zt<|gSR<|Zb Z<|z0k<|Ze [] [] Z
end
section
open Go Go.RowKit
set_option maxRecDepth 100000
def z0m (a0:List V3) (a1:V3) (s4:Int × Int):Option (Sum Int (Int × Int)) :=
 if decide (s4.1<s4.2) then
  some (w64 ((z9b (UInt64.ofInt (w64 (s4.1+s4.2))) 1).toNat:Int)) >>= fun y6 =>
  idx a0 y6 >>= fun x7 =>
  za3 x7 a1 >>= fun r9 =>
  if decide (r9<0) then
   some (.inr (w64 (y6+1),s4.2))
  else
   some (.inr (s4.1,y6))
 else
  some (.inl s4.1)
def z0r (a0:List V3) (a1:V3):Option (Int × Bool) :=
 some (a0.length:Int) >>= fun y2 =>
 (iter (z0m a0 a1) (0,y2)) >>= fun s3 =>
 if decide (s3<y2) then
  idx a0 s3 >>= fun x13 =>
  za3 x13 a1 >>= fun r15 =>
  some (s3,r15==0)
 else
  some (s3,false)
theorem z58 (a0:List V3) (a1:V3):z1u Tryz.prog 104 [.rd (z02 aZ) a0,.rd aZ a1,.val (.func (.func 105) #[] #[])] [] (z0r a0 a1) (fun r nv=>⟨[.rd z0e r.1,.rd z0j r.2],[]⟩):=by
 refine z2d 49 Tryz.func104 Z Z Z fun H w=>?_
 refine gSR<|Eb Z (bx 1 Z) fun v1=>Za Z<|Zb Z<|gSR<|Zm Z<|Zq (z3g Z .rd Z tu22)<|Za Z<|z1t 8 Z fun y2=>Zn<|gSR<|Zm Z<|Za Z<|Zb Z<|z8n (fun (s3:Int) aa ww=>Sta (ctx 49 H [] w) [(0,.rd (z02 aZ) a0),(2,.val (.func (.func 105) #[] #[])),(4,.val (z06 v1 0)),(8,.rd z0e y2),(9,.rd z0e s3)] [(1,some (v1,.box 62 [.rd aZ a1]))] aa ww) ?_ (fun s3=>?_)
 ·
  refine z26 (fun (s4:Int × Int) aa ww=>Sta (ctx 49 H [] w) [(0,.rd (z02 aZ) a0),(2,.val (.func (.func 105) #[] #[])),(4,.val (z06 v1 0)),(8,.rd z0e y2),(9,.rd z0e s4.1),(10,.rd z0e s4.2)] [(1,some (v1,.box 62 [.rd aZ a1]))] aa ww) (fun aa ww h=>Zu h [1]) (fun s4=>?_)
  refine z0s<|gSR<|Zm Z<|Zm Z<|Zq (I.lss Z Z)<|Zj Z (fun h5=>?_) (fun h5=>?_)
  ·
   refine Zt<|z4y<|gSR<|Zm Z<|Zm Z<|Zq (I.add Z Z)<|Zq (I.toU Z tu3 Tryz.underlying150)<|Zq (U.shr Z Z (Int.natCast_nonneg _))<|Zq (U.toI Z Tryz.underlying150 tu3)<|Za Z<|z1t 11 Z fun y6=>Zn<|z0s<|z99 [] mixed Z Z<|hTk 0 Z Z (mv Z)<|hTk 1 Z Z (mv Z)<|hTk 2 Z Z (mv Z)<|z64 fun x7 h8=>hTk 3 Z Z (ixR Z Z h8 tu22 z2b Z)<|hTk 4 Z Z (ldR Z z43)<|hTk 5 Z Z (ld 1 Z Z fH z43 Z)<|zvu 6 [] [] Z (by kernel_rfl) Z (gd0 Z) Z Tryz.func105 Z Z Z (zb3 _ _) (Y2 Z Z) (cN) Z rN Z (fun _ _=>z34) fun r9 n10=>hTk 7 Z Z (I.lss Z Z)<|z5a (by kernel_rfl)<|z0o<|gIf Z Z (fun h11=>?_) (fun h11=>?_)
   ·
    refine z2e<|Zm Z<|Zq (I.add Z Z)<|Za Z<|z1q<|z35<|z1k (fun aa ww h=>Zu h [1])
   ·
    refine z2e<|Zm Z<|Za Z<|z1q<|z35<|z1k (fun aa ww h=>Zu h [1])
  ·
   refine z1s<|z0x<|z0y<|z3n (fun aa ww h=>Zu h [1])
 ·
  refine z0s<|z99 [] mixed Z Z<|hTk 0 Z Z (mv Z)<|hTk 1 Z Z (mv Z)<|hTk 2 Z Z (mv Z)<|hTk 3 Z Z (I.lss Z Z)<|hTk 4 Z Z (mv Z)<|hIf 39 Z Z (fun h12=>?_) (fun h12=>?_)
  ·
   refine hKn 38 Z Z h12<|Zg 5 Z Z (mv Z)<|Zg 6 Z Z (mv Z)<|Zg 7 Z Z (mv Z)<|z64 fun x13 h14=>Zg 8 Z Z (ixR Z Z h14 tu22 z2b Z)<|Zg 9 Z Z (ldR Z z43)<|Zg 10 Z Z (ld 1 Z Z fH z43 Z)<|zvu 11 [] [] Z (by kernel_rfl) Z Zx Z Tryz.func105 Z Z Z (zb3 _ _) (Y2 Z Z) (cN) Z rN Z (fun _ _=>z34) fun r15 n16=>Zg 12 Z Z (I.eql Z Z)<|hTk 13 Z Z (pkT Z Z)<|hTk 14 Z Z (asg Z)<|hTk 15 Z Z (asg Z)<|z5a (by kernel_rfl)<|z0o<|z0k<|Ze [] [] Z
  ·
   refine hKn 38 Z Z h12<|hSk 5 Z Z<|hSk 6 Z Z<|hSk 7 Z Z<|hSk 8 Z Z<|hSk 9 Z Z<|hSk 10 Z Z<|hSk 11 Z Z<|hSk 12 Z Z<|hTk 13 Z Z (pkF Z Z)<|hTk 14 Z Z (asg Z)<|hTk 15 Z Z (asg Z)<|z5a (by kernel_rfl)<|z0o<|z0k<|Ze [] [] Z
def zdy (a0:z00) (a1:V3):Option (Int × Bool) :=
 z0r a0.IDs a1 >>= fun r3 =>
 some (r3.1,r3.2)
theorem zfk (a0:z00) (a1:V3):z1u Tryz.prog 65 [.rd z01 a0,.rd aZ a1] [] (zdy a0 a1) (fun r nv=>⟨[.rd z0e r.1,.rd z0j r.2],[]⟩):=by
 refine z2d 12 Tryz.func65 Z Z Z fun H w=>?_
 refine gSR<|Eb Z (bx 1 Z) fun v1=>Eb Z (bx 2 Z) fun v2=>Za Z<|Zb Z<|gSR<|Zq (faB 1 Z Z Tryz.underlying25 Z (by exact z6e))<|Zq (ld 1 Z Z (fP (z0a _)) z8j Z)<|Zq (ld 2 Z Z fH z43 Z)<|Zc [] [] Tryz.func104 Z (z58 _ _) fun r3 n4=>Zq (ext Z Z)<|Zq (ext Z Z)<|Za Z<|Zb Z<|z0k<|Ze [] [] Z
def zan (a0:z00) (s3:Int):Option (Sum (Sum Int Unit) Int) :=
 if decide (s3<(a0.IDs.length:Int)) then
  idx a0.IDs (w64 (s3 - 1)) >>= fun x5 =>
  idx a0.IDs s3 >>= fun x7 =>
  za3 x5 x7 >>= fun r9 =>
  if decide (0≤r9) then
   some (.inl (.inl 32))
  else
   some (.inr (w64 (s3+1)))
 else
  some (.inl (.inr ()))
def zci (a0:z00) (s19:(List Int) × (List (List Int)) × (List Int) × Int) (x22:z07) (s26:(List (List Int)) × Int):Option (Sum (Sum (Sum (Sum Int ((List Int) × (List (List Int)) × (List Int))) ((List Int) × (List (List Int)) × (List Int) × Int)) ((List (List Int)))) ((List (List Int)) × Int)) :=
 if decide (s26.2<(x22.Preds.length:Int)) then
  idx x22.Preds s26.2 >>= fun x29 =>
  zdy a0 x29 >>= fun r32 =>
  if !r32.2 then
   some (.inl (.inl (.inl (.inl 40))))
  else
   idx s26.1 r32.1 >>= fun x35 =>
   app 8 x35 [s19.2.2.2] >>= fun x38 =>
   some (.inr (s26.1.set (r32.1:Int).toNat x38,w64 (s26.2+1)))
 else
  some (.inl (.inr s26.1))
def zcj (a0:z00) (s19:(List Int) × (List (List Int)) × (List Int) × Int):Option (Sum (Sum Int ((List Int) × (List (List Int)) × (List Int))) ((List Int) × (List (List Int)) × (List Int) × Int)) :=
 if decide (s19.2.2.2<(a0.Ops.length:Int)) then
  idx a0.Ops s19.2.2.2 >>= fun x22 =>
  z5g (iter (zci a0 s19 x22) (s19.2.1,0)) fun s25 =>
  idx s19.1 s19.2.2.2 >>= fun x42 =>
  idx (s19.1.set (s19.2.2.2:Int).toNat (x22.Preds.length:Int)) s19.2.2.2 >>= fun x44 =>
  if x44==0 then
   app 8 s19.2.2.1 [s19.2.2.2] >>= fun x48 =>
   some (.inr (s19.1.set (s19.2.2.2:Int).toNat (x22.Preds.length:Int),s25,x48,w64 (s19.2.2.2+1)))
  else
   some (.inr (s19.1.set (s19.2.2.2:Int).toNat (x22.Preds.length:Int),s25,s19.2.2.1,w64 (s19.2.2.2+1)))
 else
  some (.inl (.inr (s19.1,s19.2.1,s19.2.2.1)))
def zck (x59:List Int) (s61:(List Int) × (List Int) × Int):Option (Sum ((List Int) × (List Int)) ((List Int) × (List Int) × Int)) :=
 if decide (s61.2.2<(x59.length:Int)) then
  idx x59 s61.2.2 >>= fun x64 =>
  idx s61.1 x64 >>= fun x66 =>
  idx s61.1 x64 >>= fun x68 =>
  idx (s61.1.set (x64:Int).toNat (w64 (x66 - 1))) x64 >>= fun x70 =>
  if x70==0 then
   app 8 s61.2.1 [x64] >>= fun x74 =>
   some (.inr (s61.1.set (x64:Int).toNat (w64 (x66 - 1)),x74,w64 (s61.2.2+1)))
  else
   some (.inr (s61.1.set (x64:Int).toNat (w64 (x66 - 1)),s61.2.1,w64 (s61.2.2+1)))
 else
  some (.inl (s61.1,s61.2.1))
def ze0 (s18:(List Int) × (List (List Int)) × (List Int)) (s53:(List Int) × (List Int) × Int):Option (Sum Int ((List Int) × (List Int) × Int)) :=
 if decide (s53.2.2<(s53.2.1.length:Int)) then
  (idx s53.2.1 s53.2.2 >>= fun x57 =>
  idx s18.2.1 x57 >>= fun x59 =>
  iter (zck x59) (s53.1,s53.2.1,0)) >>= fun s56 =>
  some (w64 (s53.2.2+1)) >>= fun y78 =>
  some (.inr (s56.1,s56.2,y78))
 else
  some (.inl s53.2.2)
def zla (a0:z00):Option (Int) :=
 z5g (iter (zan a0) 1) fun s2 =>
 mkn 8 0 (a0.Ops.length:Int) >>= fun x12 =>
 mkn 24 ([]:List Int) (a0.Ops.length:Int) >>= fun x15 =>
 z5g (iter (zcj a0) (x12,x15,[],0)) fun s18 =>
 (iter (ze0 s18) (s18.1,s18.2.2,0)) >>= fun s52 =>
 if decide (s52<(a0.Ops.length:Int)) then
  some 36
 else
  some 0
theorem ztr (a0:z00):z1u Tryz.prog 113 [.rd z01 a0] [] (zla a0) (fun r nv=>⟨[.rd z0e r],[]⟩):=by
 refine z2d 133 Tryz.func113 Z Z Z fun H w=>?_
 refine gSR<|Eb Z (bx 1 Z) fun v1=>Zb Z<|z8c (fun (s2:Unit) aa ww=>Sta (ctx 133 H [] w) [(1,.val (z06 v1 0))] [(1,some (v1,.box 25 [.rd z01 a0]))] aa ww) ?_ (fun s2=>?_)
 ·
  refine gSR<|Zb Z<|z26 (fun (s3:Int) aa ww=>Sta (ctx 133 H [] w) [(1,.val (z06 v1 0)),(3,.rd z0e s3)] [(1,some (v1,.box 25 [.rd z01 a0]))] aa ww) (fun aa ww h=>h.sub [1] (sS Z<|sS Z<|sN) (y1 Z)) (fun s3=>?_)
  refine z0s<|gSR<|Zm Z<|Zq (faB 1 Z Z Tryz.underlying25 Z (by exact z6e))<|Zq (ld 1 Z Z (fP (z0a _)) z8j Z)<|Zq (z3g Z .rd Z tu22)<|Zq (I.lss Z Z)<|Zj Z (fun h4=>?_) (fun h4=>?_)
  ·
   refine Zt<|z0s<|z4y<|z0s<|z99 [] mixed Z Z<|hTk 0 Z Z (faB 1 Z Z Tryz.underlying25 Z (by exact z6e))<|hTk 1 Z Z (ld 1 Z Z (fP (z0a _)) z8j Z)<|hTk 2 Z Z (mv Z)<|hTk 3 Z Z (I.sub Z Z)<|z64 fun x5 h6=>hTk 4 Z Z (ixR Z Z h6 tu22 z2b Z)<|hTk 5 Z Z (ldR Z z43)<|hTk 6 Z Z (faB 1 Z Z Tryz.underlying25 Z (by exact z6e))<|hTk 7 Z Z (ld 1 Z Z (fP (z0a _)) z8j Z)<|hTk 8 Z Z (mv Z)<|z64 fun x7 h8=>hTk 9 Z Z (ixR Z Z h8 tu22 z2b Z)<|hTk 10 Z Z (ldR Z z43)<|z4e 11 [] [] Z (by kernel_rfl) Z (gd0 Z) Z Tryz.func105 Z Z (zb3 _ _) (Y2 Z Z) rN Z (fun _ _=>z34) fun r9 n10=>hTk 12 Z Z (I.geq Z Z)<|z5a (by kernel_rfl)<|z0o<|gIf Z Z (fun h11=>?_) (fun h11=>?_)
   ·
    refine gSR<|Zb Z<|z0k<|z42<|z0w<|z7g<|z7a<|zbq [] [] Z (eE Z<|eN) (rN)
   ·
    refine z2m<|z35<|z0o<|z2e<|Zm Z<|Zq (I.add Z Z)<|Za Z<|z1q<|z1k (fun aa ww h=>h.sub [1] (sS Z<|sS Z<|sN) (y1 Z))
  ·
   refine z1s<|z0x<|z0y<|z79 (fun aa ww h=>h.sub [1] (sS Z<|sN) (y1 Z))
 ·
  refine gSR<|Zq (faB 1 Z Z Tryz.underlying25 Z (by exact zai))<|Zq (ld 1 Z Z (fP (z09 _)) zec Z)<|Zq (z3g Z .rd Z tu23)<|z0n fun x12 h13=>Ef Z (mks (R:=z0e) 44 Z Z h13 tu142 ti3 (Zr.num Z) Z) fun v14=>Zb Z<|gSR<|Zq (faB 1 Z Z Tryz.underlying25 Z (by exact zai))<|Zq (ld 1 Z Z (fP (z09 _)) zec Z)<|Zq (z3g Z .rd Z tu23)<|z0n fun x15 h16=>Ef Z (mksF 45 Z Z h16 Tryz.underlying178 z13z Z) fun v17=>z1a7 (base:=100000) (lits:=[(1,some (v1,.box 25 [.rd z01 a0])),(44,some (v14,.list z0e 3 x12)),(45,some (v17,.list zjn 142 (zd5 (fun _=>Value.slice none 0 0) x15)))]) z0e 3 [1,44,45] (z17f h16) (Zi Z<|Zi Z<|Zi Z<|rN)<|Zb Z<|gSR<|Zb Z<|z8c (fun (s18:(List Int) × (List (List Int)) × (List Int)) aa ww=>∃ nv:Nat→Value,Sta (ctx 133 H [] w) [(1,.val (z06 v1 0)),(4,.val v14),(5,.val v17),(6,.val (nv 0))] ([(1,some (v1,.box 25 [.rd z01 a0])),(44,some (v14,.list z0e 3 s18.1)),(45,some (v17,.list zjn 142 (zd5 (fun j=>nv (j+1)) s18.2.1))),(50,some ((nv 0),.list z0e 3 s18.2.2))]++zsb 100000 z0e 3 (fun j=>nv (j+1)) s18.2.1 0) aa ww) ?_ (fun s18=>?_)
  ·
   refine gSR<|Zq (faB 1 Z Z Tryz.underlying25 Z (by exact zai))<|Zq (ld 1 Z Z (fP (z09 _)) zec Z)<|Zq (z3g Z .rd Z tu23)<|Zm Z<|Zn<|zxu z0e 3 56<|z26 (fun (s19:(List Int) × (List (List Int)) × (List Int) × Int) aa ww=>∃ nv:Nat→Value,Sta (ctx 133 H [] w) [(1,.val (z06 v1 0)),(4,.val v14),(5,.val v17),(6,.val (nv 0)),(45,.rd (z02 z03) a0.Ops),(46,.rd z0e (a0.Ops.length:Int)),(47,.rd z0e s19.2.2.2)] ([(1,some (v1,.box 25 [.rd z01 a0])),(44,some (v14,.list z0e 3 s19.1)),(45,some (v17,.list zjn 142 (zd5 (fun j=>nv (j+1)) s19.2.1))),(55,some ((nv 0),.list z0e 3 s19.2.2.1))]++zsb 100000 z0e 3 (fun j=>nv (j+1)) s19.2.1 0) aa ww) (fun aa ww h=>⟨nvlF [(.slice none 0 0)] (fun _=>Value.slice none 0 0),h.subF (by repeat (first | refine z8i.cons Z ?_ | exact z8i.tail)) [1,44,45,56] (Zs Z Z Z Z<|sS Z<|sS Z<|sS Z<|sN) (Zi Z<|Zi Z<|Zi Z<|Zi Z<|rN) rfl⟩) (fun s19=>?_)
   refine gEx fun n20=>gSR<|Zq (I.lss Z Z)<|Zn<|z0s<|gIf Z Z (fun h21=>?_) (fun h21=>?_)
   ·
    refine Zt<|z0s<|z4y<|gSR<|Zm Z<|z0n fun x22 h23=>Zq (ixR Z Z h23 tu23 z5n Z)<|Zq (ldR Z z9n)<|Eb Z (z56 57 z5n (ZrE.rd (R:=z0p) (x:=0) (Zr.num Z) (ZrE.nilS (ZrE.rd (R:=z2c) (x:=0) (Zr.num Z) (ZrE.rd (R:=z0f) (x:=(⟨0,[],(⟨0,0,0,[]⟩:z04)⟩:z0h)) zn8 (ZrE.rd (R:=z0g) (x:=(⟨0,0⟩:z0c)) zm6 ZrE.nil Z) Z) Z)) Z)) fun v24=>Za Z<|za6 aZ [.rd z0p 0,.rd (z02 aZ) [],.rd z2c 0,.rd z0f (⟨0,[],(⟨0,0,0,[]⟩:z04)⟩:z0h),.rd z0g (⟨0,0⟩:z0c)] 57 [.rd z0p 0] [.rd z2c 0,.rd z0f (⟨0,[],(⟨0,0,0,[]⟩:z04)⟩:z0h),.rd z0g (⟨0,0⟩:z0c)] Z Z Z<|zd3 (R:=z03) (⟨0,[],0,(⟨0,[],(⟨0,0,0,[]⟩:z04)⟩:z0h),(⟨0,0⟩:z0c)⟩:z07) 57 Z (Sp.via (Sp.prod (Sp.prod (Sp.prod (Sp.prod (Sp.prod Sp.unit))))))<|Es (sto 57 Z Z fH Z z5n)<|Zn<|z8c (fun (s25:(List (List Int))) aa ww=>∃ nv:Nat→Value,Sta (ctx 133 H [] w) [(1,.val (z06 v1 0)),(4,.val v14),(5,.val v17),(6,.val (n20 0)),(7,.rd z0e s19.2.2.2),(8,.val (z06 v24 0)),(45,.rd (z02 z03) a0.Ops),(46,.rd z0e (a0.Ops.length:Int)),(47,.rd z0e s19.2.2.2)] ([(1,some (v1,.box 25 [.rd z01 a0])),(44,some (v14,.list z0e 3 s19.1)),(45,some (v17,.list zjn 142 (zd5 (fun j=>nv (j+0)) s25))),(55,some ((n20 0),.list z0e 3 s19.2.2.1)),(57,some (v24,.box 73 [.rd z03 x22]))]++zsb 100000 z0e 3 (fun j=>nv (j+0)) s25 0) aa ww) ?_ (fun s25=>?_)
    ·
     refine gSR<|Zq (faB 57 Z Z Tryz.underlying73 Z (by exact z6e))<|Zq (ld 57 Z Z (fP (z0z _)) z8j Z)<|Zq (z3g Z .rd Z tu22)<|Zm Z<|Zn<|z26 (fun (s26:(List (List Int)) × Int) aa ww=>∃ nv:Nat→Value,Sta (ctx 133 H [] w) [(1,.val (z06 v1 0)),(4,.val v14),(5,.val v17),(6,.val (n20 0)),(7,.rd z0e s19.2.2.2),(8,.val (z06 v24 0)),(45,.rd (z02 z03) a0.Ops),(46,.rd z0e (a0.Ops.length:Int)),(47,.rd z0e s19.2.2.2),(53,.rd (z02 aZ) x22.Preds),(54,.rd z0e (x22.Preds.length:Int)),(55,.rd z0e s26.2)] ([(1,some (v1,.box 25 [.rd z01 a0])),(44,some (v14,.list z0e 3 s19.1)),(45,some (v17,.list zjn 142 (zd5 (fun j=>nv (j+0)) s26.1))),(55,some ((n20 0),.list z0e 3 s19.2.2.1)),(57,some (v24,.box 73 [.rd z03 x22]))]++zsb 100000 z0e 3 (fun j=>nv (j+0)) s26.1 0) aa ww) (fun aa ww h=>⟨nvlF [] (fun j=>n20 (j+1)),h.subF (by repeat (first | refine z8i.cons Z ?_ | exact z8i.tail)) [1,44,45,55,57] (Zs Z Z Z Z<|Zs Z Z Z Z<|Zs Z Z Z Z<|sN) (Zi Z<|Zi Z<|Zi Z<|Zi Z<|Zi Z<|rN) rfl⟩) (fun s26=>?_)
     refine gEx fun n27=>gSR<|Zq (I.lss Z Z)<|Zn<|z0s<|gIf Z Z (fun h28=>?_) (fun h28=>?_)
     ·
      refine Zt<|z0s<|z4y<|gSR<|z0n fun x29 h30=>Zq (ixR Z Z h30 tu22 z2b Z)<|Zq (ldR Z z43)<|Eb Z (z56 58 z2b (.zr (R:=aZ) (x:=(Vector.replicate 32 0)) zgg)) fun v31=>Es (sto 58 Z Z fH Z z2b)<|Zn<|gSR<|Zq (ld 1 Z Z fH z3v Z)<|Zq (ld 58 Z Z fH z43 Z)<|call [] [] Z Tryz.func65 Z Z (zfk _ _) (Y2 Z Z) rN fun r32 n33=>Zm Z<|Zq (ext Z Z)<|Zq (ext Z Z)<|Za Z<|Zb Z<|z0s<|gSR<|Zm Z<|Zq (zfl Z)<|Zj Z (fun h34=>?_) (fun h34=>?_)
      ·
       refine gSR<|Zb Z<|z0k<|z0w<|z42<|z0w<|z7g<|z7a<|z42<|z0w<|z7g<|z7a<|zbq [] [] Z (eE Z<|eN) (rN)
      ·
       refine Zt<|z2e<|Zm Z<|Zm Z<|Zm Z<|Zm Z<|z0n fun x35 h36=>Zq (ixO 45 Z Z Z (zrn h36) Tryz.underlying178 z13z)<|Zq (ldF 45 Z Z h36 z16f Z)<|Zm Z<|Ef Z (lit (R:=z0e) ([s19.2.2.2]:List Int) 59 (pP Z Z<|pN) Z tu142 ti3 Z Z) fun v37=>z0n fun x38 h39=>lApF (base:=100000) (lits:=[(1,some (v1,.box 25 [.rd z01 a0])),(44,some (v14,.list z0e 3 s19.1)),(55,some ((n20 0),.list z0e 3 s19.2.2.1)),(57,some (v24,.box 73 [.rd z03 x22])),(58,some (v31,.box 62 [.rd aZ x29])),(59,some (v37,.list z0e 3 [s19.2.2.2]))]) 45 [1,44,55,57,58,59] (by repeat (first | refine z8i.cons Z ?_ | exact z8i.tail)) Z Z Z h36 Z Z Z Z (.own 59 Z) h39 Z (fun _ h=>by cases h; rfl) (fun _ h=>by cases h; rfl) Z Z tu142 ti3 Z Z Z Tryz.underlying178 z13z z16f (Zi Z<|Zi Z<|Zi Z<|Zi Z<|Zi Z<|Zi Z<|rN) Z fun v40=>z1q<|z35<|z0o<|z2e<|Zq (I.add Z Z)<|Zm Z<|z1q<|z1k (fun aa ww h=>⟨nvlF [] (updF (fun j=>n27 (j+0)) (r32.1:Int).toNat v40),h.subF (by repeat (first | refine z8i.cons Z ?_ | exact z8i.tail)) [1,44,45,55,57] (Zs Z Z Z Z<|Zs Z Z Z Z<|Zs Z Z Z Z<|sN) (Zi Z<|Zi Z<|Zi Z<|Zi Z<|Zi Z<|rN) rfl⟩)
     ·
      refine z1s<|z0x<|z0y<|z79 (fun aa ww h=>⟨nvlF [] (fun j=>n27 (j+0)),h.subF (by repeat (first | refine z8i.cons Z ?_ | exact z8i.tail)) [1,44,45,55,57] (Zs Z Z Z Z<|Zs Z Z Z Z<|sS Z<|sN) (Zi Z<|Zi Z<|Zi Z<|Zi Z<|Zi Z<|rN) rfl⟩)
    ·
     refine gEx fun n41=>gSR<|Zm Z<|Zm Z<|Zq (faB 57 Z Z Tryz.underlying73 Z (by exact z6e))<|Zq (ld 57 Z Z (fP (z0z _)) z8j Z)<|Zq (z3g Z .rd Z tu22)<|z0n fun x42 h43=>Zq (ixO 44 Z Z Z h43 tu142 ti3)<|Es (sto 44 Z Z (Foc.el h43) Z ti3)<|Zn<|gSR<|Zm Z<|Zm Z<|z0n fun x44 h45=>Zq (ixO 44 Z Z Z h45 tu142 ti3)<|Zq (ld 44 Z Z (Foc.el h45) ty3 Z)<|Zq (I.eql Z Z)<|Zj Z (fun h46=>?_) (fun h46=>?_)
     ·
      refine z2e<|Zm Z<|Zm Z<|Ef Z (lit (R:=z0e) ([s19.2.2.2]:List Int) 60 (pP Z Z<|pN) Z tu142 ti3 Z Z) fun v47=>z0n fun x48 h49=>Ef Z (apn 55 Z Z Z (.own 60 Z) h49 tu142 ti3 Z Z Z) fun v50=>Za Z<|z1q<|z35<|z0o<|z2e<|Zq (I.add Z Z)<|Zm Z<|z1q<|z1k (fun aa ww h=>⟨nvlF [v50] (fun j=>n41 (j+0)),h.subF (by repeat (first | refine z8i.cons Z ?_ | exact z8i.tail)) [1,44,45,55] (Zs Z Z Z Z<|sS Z<|sS Z<|sS Z<|sN) (Zi Z<|Zi Z<|Zi Z<|Zi Z<|rN) rfl⟩)
     ·
      refine z2m<|z35<|z0o<|z2e<|Zq (I.add Z Z)<|Zm Z<|z1q<|z1k (fun aa ww h=>⟨nvlF [(n20 0)] (fun j=>n41 (j+0)),h.subF (by repeat (first | refine z8i.cons Z ?_ | exact z8i.tail)) [1,44,45,55] (Zs Z Z Z Z<|sS Z<|sS Z<|sS Z<|sN) (Zi Z<|Zi Z<|Zi Z<|Zi Z<|rN) rfl⟩)
   ·
    refine z1s<|z0x<|z0y<|z79 (fun aa ww h=>⟨nvlF [(n20 0)] (fun j=>n20 (j+1)),h.subF (by repeat (first | refine z8i.cons Z ?_ | exact z8i.tail)) [1,44,45,55] (Zs Z Z Z Z<|sN) (Zi Z<|Zi Z<|Zi Z<|Zi Z<|rN) rfl⟩)
  ·
   refine gEx fun n51=>gSR<|Zb Z<|z8n (fun (s52:Int) aa ww=>Sta (ctx 133 H [] w) [(1,.val (z06 v1 0)),(13,.rd z0e s52)] [(1,some (v1,.box 25 [.rd z01 a0]))] aa ww) ?_ (fun s52=>?_)
   ·
    refine z1a6 (base:=100000) (T:=3) (lits:=[(1,some (v1,.box 25 [.rd z01 a0])),(44,some (v14,.list z0e 3 s18.1)),(50,some ((n51 0),.list z0e 3 s18.2.2))]) (by repeat (first | refine z8i.cons Z ?_ | exact z8i.tail)) 45 Z [1,44,50] (Zi Z<|Zi Z<|Zi Z<|rN) Z Z<|z26 (fun (s53:(List Int) × (List Int) × Int) aa ww=>∃ nv:Nat→Value,Sta (ctx 133 H [] w) [(1,.val (z06 v1 0)),(4,.val v14),(5,.val v17),(6,.val (nv 0)),(13,.rd z0e s53.2.2)] [(1,some (v1,.box 25 [.rd z01 a0])),(44,some (v14,.list z0e 3 s53.1)),(45,some (v17,.list (z02 z0e) 142 s18.2.1)),(50,some ((nv 0),.list z0e 3 s53.2.1))] aa ww) (fun aa ww h=>⟨nvl [(n51 0)],h.sub [1,44,45,50] (Zs Z Z Z Z<|sS Z<|sN) (Zi Z<|Zi Z<|Zi Z<|Zi Z<|rN)⟩) (fun s53=>?_)
    refine gEx fun n54=>z0s<|gSR<|Zm Z<|Zm Z<|Zq (z3g Z (.own 50 Z) Z tu142)<|Zq (I.lss Z Z)<|Zj Z (fun h55=>?_) (fun h55=>?_)
    ·
     refine Zt<|z8n (fun (s56:(List Int) × (List Int)) aa ww=>∃ nv:Nat→Value,Sta (ctx 133 H [] w) [(1,.val (z06 v1 0)),(4,.val v14),(5,.val v17),(6,.val (nv 0)),(13,.rd z0e s53.2.2)] [(1,some (v1,.box 25 [.rd z01 a0])),(44,some (v14,.list z0e 3 s56.1)),(45,some (v17,.list (z02 z0e) 142 s18.2.1)),(50,some ((nv 0),.list z0e 3 s56.2))] aa ww) ?_ (fun s56=>?_)
     ·
      refine z4y<|gSR<|Zm Z<|Zm Z<|Zm Z<|z0n fun x57 h58=>Zq (ixO 50 Z Z Z h58 tu142 ti3)<|Zq (ld 50 Z Z (Foc.el h58) ty3 Z)<|z0n fun x59 h60=>Zq (ixO 45 Z Z Z h60 Tryz.underlying178 z13z)<|Zq (ld 45 Z Z (Foc.el h60) z16f Z)<|Zq (z3g Z .rd Z tu142)<|Zm Z<|Zn<|z26 (fun (s61:(List Int) × (List Int) × Int) aa ww=>∃ nv:Nat→Value,Sta (ctx 133 H [] w) [(1,.val (z06 v1 0)),(4,.val v14),(5,.val v17),(6,.val (nv 0)),(13,.rd z0e s53.2.2),(106,.rd (z02 z0e) x59),(107,.rd z0e (x59.length:Int)),(108,.rd z0e s61.2.2)] [(1,some (v1,.box 25 [.rd z01 a0])),(44,some (v14,.list z0e 3 s61.1)),(45,some (v17,.list (z02 z0e) 142 s18.2.1)),(50,some ((nv 0),.list z0e 3 s61.2.1))] aa ww) (fun aa ww h=>⟨nvl [(n54 0)],h.sub [1,44,45,50] (Zs Z Z Z Z<|Zs Z Z Z Z<|sN) (Zi Z<|Zi Z<|Zi Z<|Zi Z<|rN)⟩) (fun s61=>?_)
      refine gEx fun n62=>gSR<|Zq (I.lss Z Z)<|Zn<|z0s<|gIf Z Z (fun h63=>?_) (fun h63=>?_)
      ·
       refine Zt<|z0s<|z4y<|gSR<|z0n fun x64 h65=>Zq (ixR Z Z h65 tu142 ti3 Z)<|Zq (ldR Z ty3)<|Zb Z<|gSR<|Zm Z<|Zm Z<|z0n fun x66 h67=>Zq (ixO 44 Z Z Z h67 tu142 ti3)<|Zq (ld 44 Z Z (Foc.el h67) ty3 Z)<|Zq (I.sub Z Z)<|z0n fun x68 h69=>Zq (ixO 44 Z Z Z h69 tu142 ti3)<|Es (sto 44 Z Z (Foc.el h69) Z ti3)<|Zn<|gSR<|Zm Z<|Zm Z<|z0n fun x70 h71=>Zq (ixO 44 Z Z Z h71 tu142 ti3)<|Zq (ld 44 Z Z (Foc.el h71) ty3 Z)<|Zq (I.eql Z Z)<|Zj Z (fun h72=>?_) (fun h72=>?_)
       ·
        refine z2e<|Zm Z<|Zm Z<|Ef Z (lit (R:=z0e) ([x64]:List Int) 61 (pP Z Z<|pN) Z tu142 ti3 Z Z) fun v73=>z0n fun x74 h75=>Ef Z (apn 50 Z Z Z (.own 61 Z) h75 tu142 ti3 Z Z Z) fun v76=>Za Z<|z1q<|z35<|z0o<|z2e<|Zq (I.add Z Z)<|Zm Z<|z1q<|z1k (fun aa ww h=>⟨nvl [v76],h.sub [1,44,45,50] (Zs Z Z Z Z<|Zs Z Z Z Z<|sN) (Zi Z<|Zi Z<|Zi Z<|Zi Z<|rN)⟩)
       ·
        refine z2m<|z35<|z0o<|z2e<|Zq (I.add Z Z)<|Zm Z<|z1q<|z1k (fun aa ww h=>⟨nvl [(n62 0)],h.sub [1,44,45,50] (Zs Z Z Z Z<|Zs Z Z Z Z<|sN) (Zi Z<|Zi Z<|Zi Z<|Zi Z<|rN)⟩)
      ·
       refine z1s<|z0x<|z0y<|z35<|z3n (fun aa ww h=>⟨nvl [(n62 0)],h.sub [1,44,45,50] (Zs Z Z Z Z<|sS Z<|sN) (Zi Z<|Zi Z<|Zi Z<|Zi Z<|rN)⟩)
     ·
      refine gEx fun n77=>z2e<|Zm Z<|Zq (I.add Z Z)<|Za Z<|z1t 13 Z fun y78=>z1q<|z1k (fun aa ww h=>⟨nvl [(n77 0)],h.sub [1,44,45,50] (Zs Z Z Z Z<|sS Z<|sN) (Zi Z<|Zi Z<|Zi Z<|Zi Z<|rN)⟩)
    ·
     refine z1s<|z0x<|z0y<|z3n (fun aa ww h=>h.sub [1] (sS Z<|sS Z<|sN) (y1 Z))
   ·
    refine z0s<|gSR<|Zm Z<|Zq (faB 1 Z Z Tryz.underlying25 Z (by exact zai))<|Zq (ld 1 Z Z (fP (z09 _)) zec Z)<|Zq (z3g Z .rd Z tu23)<|Zq (I.lss Z Z)<|Zj Z (fun h79=>?_) (fun h79=>?_)
    ·
     refine gSR<|Zb Z<|z0k<|z0w<|zbq [] [] Z (eE Z<|eN) (rN)
    ·
     refine Zt<|gSR<|Zb Z<|z0k<|zbq [] [] Z (eE Z<|eN) (rN)
def ze4 (a0:z00) (s5:Int):Option (Sum (Sum Int Unit) Int) :=
 if decide (s5<(a0.Ops.length:Int)) then
  idx a0.Ops s5 >>= fun x7 =>
  zzp x7 >>= fun r10 =>
  (if r10.2 != 0 then
   some true
  else
   idx a0.IDs s5 >>= fun x15 =>
   if !decide (r10.1=x15) then
    some true
   else
    zih x7 >>= fun r18 =>
    some (r18 != 0)) >>= fun s13 =>
  if s13 then
   some (.inl (.inl 8))
  else
   some (.inr (w64 (s5+1)))
 else
  some (.inl (.inr ()))
def z11 (a0:z00):Option (Int) :=
 if decide (60<(a0.Ops.length:Int)) then
  some 4
 else
  if (a0.IDs.length:Int) != (a0.Ops.length:Int) then
   some 8
  else
   z5g (iter (ze4 a0) 0) fun s4 =>
   zla a0 >>= fun r21 =>
   some r21
theorem zar (a0:z00):z1u Tryz.prog 74 [.rd z01 a0] [zG1] (z11 a0) (fun r nv=>⟨[.rd z0e r],[(1001,some (.bool true,.glob 1 (z3j 64 z0p) z65))]⟩):=by
 refine z2d 50 Tryz.func74 Z Z Z fun H w=>?_
 refine gSR<|Eb Z (bx 1 Z) fun v1=>Zb Z<|z0s<|gSR<|Zq (faB 1 Z Z Tryz.underlying25 Z (by exact zai))<|Zq (ld 1 Z Z (fP (z09 _)) zec Z)<|Zq (z3g Z .rd Z tu23)<|Zq (I.gtr Z Z)<|Zj Z (fun h2=>?_) (fun h2=>?_)
 ·
  refine gSR<|Zb Z<|z0k<|z0w<|Ze [] [1001] Z
 ·
  refine Zt<|z0s<|gSR<|Zq (faB 1 Z Z Tryz.underlying25 Z (by exact z6e))<|Zq (ld 1 Z Z (fP (z0a _)) z8j Z)<|Zq (z3g Z .rd Z tu22)<|Zq (faB 1 Z Z Tryz.underlying25 Z (by exact zai))<|Zq (ld 1 Z Z (fP (z09 _)) zec Z)<|Zq (z3g Z .rd Z tu23)<|Zq (I.neq Z Z)<|Zj Z (fun h3=>?_) (fun h3=>?_)
  ·
   refine gSR<|Zb Z<|z0k<|z0w<|Ze [] [1001] Z
  ·
   refine Zt<|z8c (fun (s4:Unit) aa ww=>Sta (ctx 50 H [zG1] w) [(1,.val (z06 v1 0))] [(1,some (v1,.box 25 [.rd z01 a0])),zG1] aa ww) ?_ (fun s4=>?_)
   ·
    refine gSR<|Zq (faB 1 Z Z Tryz.underlying25 Z (by exact zai))<|Zq (ld 1 Z Z (fP (z09 _)) zec Z)<|Zq (z3g Z .rd Z tu23)<|Zm Z<|Zn<|z26 (fun (s5:Int) aa ww=>Sta (ctx 50 H [zG1] w) [(1,.val (z06 v1 0)),(19,.rd (z02 z03) a0.Ops),(20,.rd z0e (a0.Ops.length:Int)),(21,.rd z0e s5)] [(1,some (v1,.box 25 [.rd z01 a0])),zG1] aa ww) (fun aa ww h=>Zu h [1,1001]) (fun s5=>?_)
    refine gSR<|Zq (I.lss Z Z)<|Zn<|z0s<|gIf Z Z (fun h6=>?_) (fun h6=>?_)
    ·
     refine Zt<|z0s<|z4y<|gSR<|Zm Z<|z0n fun x7 h8=>Zq (ixR Z Z h8 tu23 z5n Z)<|Zq (ldR Z z9n)<|Eb Z (z56 1100 z5n (ZrE.rd (R:=z0p) (x:=0) (Zr.num Z) (ZrE.nilS (ZrE.rd (R:=z2c) (x:=0) (Zr.num Z) (ZrE.rd (R:=z0f) (x:=(⟨0,[],(⟨0,0,0,[]⟩:z04)⟩:z0h)) zn8 (ZrE.rd (R:=z0g) (x:=(⟨0,0⟩:z0c)) zm6 ZrE.nil Z) Z) Z)) Z)) fun v9=>Za Z<|za6 aZ [.rd z0p 0,.rd (z02 aZ) [],.rd z2c 0,.rd z0f (⟨0,[],(⟨0,0,0,[]⟩:z04)⟩:z0h),.rd z0g (⟨0,0⟩:z0c)] 1100 [.rd z0p 0] [.rd z2c 0,.rd z0f (⟨0,[],(⟨0,0,0,[]⟩:z04)⟩:z0h),.rd z0g (⟨0,0⟩:z0c)] Z Z Z<|zd3 (R:=z03) (⟨0,[],0,(⟨0,[],(⟨0,0,0,[]⟩:z04)⟩:z0h),(⟨0,0⟩:z0c)⟩:z07) 1100 Z (Sp.via (Sp.prod (Sp.prod (Sp.prod (Sp.prod (Sp.prod Sp.unit))))))<|Es (sto 1100 Z Z fH Z z5n)<|Zn<|gSR<|Zq (ld 1100 Z Z fH z9n Z)<|Zc [1001] [] Tryz.func111 Z (zx5 _) fun r10 n11=>Zm Z<|Zq (ext Z Z)<|Zq (ext Z Z)<|Eb Z (z56 1101 z2b (.zr (R:=aZ) (x:=(Vector.replicate 32 0)) zgg)) fun v12=>Es (sto 1101 Z Z fH Z z2b)<|Zb Z<|z8n (fun (s13:Bool) aa ww=>Sta (ctx 50 H [zG1] w) [(1,.val (z06 v1 0)),(19,.rd (z02 z03) a0.Ops),(20,.rd z0e (a0.Ops.length:Int)),(21,.rd z0e s5),(46,.rd z0j s13)] [(1,some (v1,.box 25 [.rd z01 a0])),zG1] aa ww) ?_ (fun s13=>?_)
     ·
      refine z99 [1001] mixed Z Z<|hTk 0 Z Z (mv Z)<|hTk 1 Z Z (I.neq Z Z)<|hTk 2 Z Z (mv Z)<|hIf 33 Z Z (fun h14=>?_) (fun h14=>?_)
      ·
       refine hKn 32 Z Z h14<|hSk 3 Z Z<|hSk 4 Z Z<|hSk 5 Z Z<|hSk 6 Z Z<|hSk 7 Z Z<|hSk 8 Z Z<|hSk 9 Z Z<|hTk 10 Z Z (pkT Z Z)<|hTk 11 Z Z (mv Z)<|hSk 12 Z Z<|hSk 13 Z Z<|hSk 14 Z Z<|hTk 15 Z Z (pkT Z Z)<|z5a (by kernel_rfl)<|z3n (fun aa ww h=>Zu h [1,1001])
      ·
       refine hKn 32 Z Z h14<|Zg 3 Z Z (ld 1101 Z Z fH z43 Z)<|Zg 4 Z Z (faB 1 Z Z Tryz.underlying25 Z (by exact z6e))<|Zg 5 Z Z (ld 1 Z Z (fP (z0a _)) z8j Z)<|Zg 6 Z Z (mv Z)<|z64 fun x15 h16=>Zg 7 Z Z (ixR Z Z h16 tu22 z2b Z)<|Zg 8 Z Z (ldR Z z43)<|Zg 9 Z Z (neA Z Z eq62 Z Z gq62)<|hTk 10 Z Z (pkF Z Z)<|hTk 11 Z Z (mv Z)<|hIf 42 Z Z (fun h17=>?_) (fun h17=>?_)
       ·
        refine hKn 40 Z Z h17<|hKn 41 Z Z h17<|hSk 12 Z Z<|hSk 13 Z Z<|hSk 14 Z Z<|hTk 15 Z Z (pkT Z Z)<|z5a (by kernel_rfl)<|z3n (fun aa ww h=>Zu h [1,1001])
       ·
        refine hKn 40 Z Z h17<|hKn 41 Z Z h17<|Zg 12 Z Z (ld 1100 Z Z fH z9n Z)<|z4e 13 [1001] [] Z (by kernel_rfl) Z Zx Z Tryz.func112 Z Z (zn5 _) (Y1 Z) (y1 Z) Z (fun _ _=>z34) fun r18 n19=>Zg 14 Z Z (I.neq Z Z)<|hTk 15 Z Z (pkF Z Z)<|z5a (by kernel_rfl)<|z3n (fun aa ww h=>Zu h [1,1001])
     ·
      refine gIf Z Z (fun h20=>?_) (fun h20=>?_)
      ·
       refine gSR<|Zb Z<|z0k<|z42<|z0w<|z7g<|z7a<|Ze [] [1001] Z
      ·
       refine z2m<|z35<|z0o<|z2e<|Zq (I.add Z Z)<|Zm Z<|z1q<|z1k (fun aa ww h=>Zu h [1,1001])
    ·
     refine z1s<|z0x<|z0y<|z79 (fun aa ww h=>Zu h [1,1001])
   ·
    refine gSR<|Zq (ld 1 Z Z fH z3v Z)<|Zc [] [] Tryz.func113 Z (ztr _) fun r21 n22=>Zb Z<|z0k<|Ze [] [1001] Z
def z9v (a0:List V3) (a1:V3) (s3:Int):Option (Sum (Sum Int Unit) Int) :=
 if decide (s3<(a0.length:Int)) then
  idx a0 s3 >>= fun x5 =>
  if decide (x5=a1) then
   some (.inl (.inl s3))
  else
   some (.inr (w64 (s3+1)))
 else
  some (.inl (.inr ()))
def z31 (a0:List V3) (a1:V3):Option (Int) :=
 z5g (iter (z9v a0 a1) 0) fun s2 =>
 some (-1)
theorem zcb (a0:List V3) (a1:V3):z1u Tryz.prog 34 [.rd (z02 aZ) a0,.rd aZ a1] [] (z31 a0 a1) (fun r nv=>⟨[.rd z0e r],[]⟩):=by
 refine z2d 19 Tryz.func34 Z Z Z fun H w=>?_
 refine gSR<|Eb Z (bx 1 Z) fun v1=>Zb Z<|z8c (fun (s2:Unit) aa ww=>Sta (ctx 19 H [] w) [] [] aa ww) ?_ (fun s2=>?_)
 ·
  refine gSR<|Zb Z<|z26 (fun (s3:Int) aa ww=>Sta (ctx 19 H [] w) [(0,.rd (z02 aZ) a0),(3,.val (z06 v1 0)),(5,.rd z0e s3)] [(1,some (v1,.box 62 [.rd aZ a1]))] aa ww) (fun aa ww h=>Zu h [1]) (fun s3=>?_)
  refine z0s<|gSR<|Zm Z<|Zm Z<|Zq (z3g Z .rd Z tu22)<|Zq (I.lss Z Z)<|Zj Z (fun h4=>?_) (fun h4=>?_)
  ·
   refine Zt<|z0s<|z4y<|z0s<|zjf mixed (by kernel_rfl)<|Rq Z (mv Z)<|Rq Z (mv Z)<|z9a fun x5 h6=>Rq Z (ixR Z Z h6 tu22 z2b Z)<|Rq Z (ldR Z z43)<|Rq Z (ld 1 Z Z fH z43 Z)<|Rq Z (eqA Z Z eq62 Z Z gq62)<|zug<|z0o<|gIf Z Z (fun h7=>?_) (fun h7=>?_)
   ·
    refine gSR<|Zm Z<|Zb Z<|z0k<|z42<|z0w<|z7g<|z7a<|Ze [] [] Z
   ·
    refine z2m<|z35<|z0o<|z2e<|Zm Z<|Zq (I.add Z Z)<|Za Z<|z1q<|z1k (fun aa ww h=>Zu h [1])
  ·
   refine z1s<|z0x<|z0y<|z79 (fun aa ww h=>Zu h [])
 ·
  refine gSR<|Zb Z<|z0k<|Ze [] [] Z
def z8v (a0:List V3) (a1:List V3) (s2:Int):Option (Sum (Sum Bool Unit) Int) :=
 if decide (s2<(a1.length:Int)) then
  idx a1 s2 >>= fun x4 =>
  z31 a0 x4 >>= fun r6 =>
  if decide (r6<0) then
   some (.inl (.inl false))
  else
   some (.inr (w64 (s2+1)))
 else
  some (.inl (.inr ()))
def z3p (a0:List V3) (a1:List V3):Option (Bool) :=
 z5g (iter (z8v a0 a1) 0) fun s1 =>
 some true
theorem zmq (a0:List V3) (a1:List V3):z1u Tryz.prog 31 [.rd (z02 aZ) a0,.rd (z02 aZ) a1] [] (z3p a0 a1) (fun r nv=>⟨[.rd z0j r],[]⟩):=by
 refine z2d 19 Tryz.func31 Z Z Z fun H w=>?_
 refine gSR<|Zb Z<|z8c (fun (s1:Unit) aa ww=>Sta (ctx 19 H [] w) [] [] aa ww) ?_ (fun s1=>?_)
 ·
  refine gSR<|Zb Z<|z26 (fun (s2:Int) aa ww=>Sta (ctx 19 H [] w) [(0,.rd (z02 aZ) a0),(1,.rd (z02 aZ) a1),(5,.rd z0e s2)] [] aa ww) (fun aa ww h=>Zu h []) (fun s2=>?_)
  refine z0s<|gSR<|Zm Z<|Zm Z<|Zq (z3g Z .rd Z tu22)<|Zq (I.lss Z Z)<|Zj Z (fun h3=>?_) (fun h3=>?_)
  ·
   refine Zt<|z0s<|z4y<|gSR<|Zm Z<|Zm Z<|Zm Z<|z0n fun x4 h5=>Zq (ixR Z Z h5 tu22 z2b Z)<|Zq (ldR Z z43)<|Zc [] [] Tryz.func34 Z (zcb _ _) fun r6 n7=>Zq (I.lss Z Z)<|Zj Z (fun h8=>?_) (fun h8=>?_)
   ·
    refine gSR<|Zb Z<|z0k<|z42<|z0w<|z7g<|z7a<|Ze [] [] Z
   ·
    refine z2m<|z35<|z0o<|z2e<|Zm Z<|Zq (I.add Z Z)<|Za Z<|z1q<|z1k (fun aa ww h=>Zu h [])
  ·
   refine z1s<|z0x<|z0y<|z79 (fun aa ww h=>Zu h [])
 ·
  refine gSR<|Zb Z<|z0k<|Ze [] [] Z
theorem zk3 (a0:List V3) (q0:Value) (l0:List V3) (a1:V3):z1u Tryz.prog 34 [.vw aZ q0 l0 a0,.rd aZ a1] [(1,some (q0,.list aZ 62 l0))] (z31 a0 a1) (fun r nv=>⟨[.rd z0e r],[(1,some (q0,.list aZ 62 l0))]⟩):=by
 refine z2d 19 Tryz.func34 Z Z Z fun H w=>?_
 refine gSR<|Eb Z (bx 2 Z) fun v1=>Zb Z<|z8c (fun (s2:Unit) aa ww=>Sta (ctx 19 H [(1,some (q0,.list aZ 62 l0))] w) [] [(1,some (q0,.list aZ 62 l0))] aa ww) ?_ (fun s2=>?_)
 ·
  refine gSR<|Zb Z<|z26 (fun (s3:Int) aa ww=>Sta (ctx 19 H [(1,some (q0,.list aZ 62 l0))] w) [(0,.vw aZ q0 l0 a0),(3,.val (z06 v1 0)),(5,.rd z0e s3)] [(1,some (q0,.list aZ 62 l0)),(2,some (v1,.box 62 [.rd aZ a1]))] aa ww) (fun aa ww h=>Zu h [1,2]) (fun s3=>?_)
  refine z0s<|gSR<|Zm Z<|Zm Z<|Zq (z3g Z (.vw 1 Z) Z tu22)<|Zq (I.lss Z Z)<|Zj Z (fun h4=>?_) (fun h4=>?_)
  ·
   refine Zt<|z0s<|z4y<|z0s<|zjf mixed (by kernel_rfl)<|Rq Z (mv Z)<|Rq Z (mv Z)<|z9a fun x5 h6=>Rq Z (ixQ 1 Z Z Z h6 tu22 z2b)<|Rq Z (ldQ 1 Z Z z43 Z)<|Rq Z (ld 2 Z Z fH z43 Z)<|Rq Z (eqA Z Z eq62 Z Z gq62)<|zug<|z0o<|gIf Z Z (fun h7=>?_) (fun h7=>?_)
   ·
    refine gSR<|Zm Z<|Zb Z<|z0k<|z42<|z0w<|z7g<|z7a<|Ze [] [1] Z
   ·
    refine z2m<|z35<|z0o<|z2e<|Zm Z<|Zq (I.add Z Z)<|Za Z<|z1q<|z1k (fun aa ww h=>Zu h [1,2])
  ·
   refine z1s<|z0x<|z0y<|z79 (fun aa ww h=>Zu h [1])
 ·
  refine gSR<|Zb Z<|z0k<|Ze [] [1] Z
theorem zjk (a0:List V3) (q0:Value) (l0:List V3) (a1:List V3):z1u Tryz.prog 31 [.vw aZ q0 l0 a0,.rd (z02 aZ) a1] [(1,some (q0,.list aZ 62 l0))] (z3p a0 a1) (fun r nv=>⟨[.rd z0j r],[(1,some (q0,.list aZ 62 l0))]⟩):=by
 refine z2d 19 Tryz.func31 Z Z Z fun H w=>?_
 refine gSR<|Zb Z<|z8c (fun (s1:Unit) aa ww=>Sta (ctx 19 H [(1,some (q0,.list aZ 62 l0))] w) [] [(1,some (q0,.list aZ 62 l0))] aa ww) ?_ (fun s1=>?_)
 ·
  refine gSR<|Zb Z<|z26 (fun (s2:Int) aa ww=>Sta (ctx 19 H [(1,some (q0,.list aZ 62 l0))] w) [(0,.vw aZ q0 l0 a0),(1,.rd (z02 aZ) a1),(5,.rd z0e s2)] [(1,some (q0,.list aZ 62 l0))] aa ww) (fun aa ww h=>Zu h [1]) (fun s2=>?_)
  refine z0s<|gSR<|Zm Z<|Zm Z<|Zq (z3g Z .rd Z tu22)<|Zq (I.lss Z Z)<|Zj Z (fun h3=>?_) (fun h3=>?_)
  ·
   refine Zt<|z0s<|z4y<|gSR<|Zm Z<|Zm Z<|Zm Z<|z0n fun x4 h5=>Zq (ixR Z Z h5 tu22 z2b Z)<|Zq (ldR Z z43)<|Zc [1] [(1,1)] Tryz.func34 Z (zk3 _ _ _ _) fun r6 n7=>Zq (I.lss Z Z)<|Zj Z (fun h8=>?_) (fun h8=>?_)
   ·
    refine gSR<|Zb Z<|z0k<|z42<|z0w<|z7g<|z7a<|Ze [] [1] Z
   ·
    refine z2m<|z35<|z0o<|z2e<|Zm Z<|Zq (I.add Z Z)<|Za Z<|z1q<|z1k (fun aa ww h=>Zu h [1])
  ·
   refine z1s<|z0x<|z0y<|z79 (fun aa ww h=>Zu h [1])
 ·
  refine gSR<|Zb Z<|z0k<|Ze [] [1] Z
def z49 (a0:z00) (s6:(List Int) × (List V3) × (List Bool) × Bool) (s9:Int):Option (Sum (Sum ((List Int)) ((List Int) × (List V3) × (List Bool) × Bool)) Int) :=
 if decide (s9<(a0.Ops.length:Int)) then
  (idx s6.2.2.1 s9 >>= fun x12 =>
  if !x12 then
   idx a0.Ops s9 >>= fun x15 =>
   z3p s6.2.1 x15.Preds >>= fun r17 =>
   some r17
  else
   some false) >>= fun s11 =>
  if s11 then
   app 8 s6.1 [s9] >>= fun x20 =>
   idx a0.IDs s9 >>= fun x22 =>
   app 32 s6.2.1 [x22] >>= fun x24 =>
   idx s6.2.2.1 s9 >>= fun x26 =>
   some (.inl (.inr (x20,x24,s6.2.2.1.set (s9:Int).toNat true,true)))
  else
   some (.inr (w64 (s9+1)))
 else
  some (.inl (.inr (s6.1,s6.2.1,s6.2.2.1,false)))
def z4b (a0:z00) (s6:(List Int) × (List V3) × (List Bool) × Bool):Option (Sum ((List Int)) ((List Int) × (List V3) × (List Bool) × Bool)) :=
 if s6.2.2.2 then
  iter (z49 a0 s6) 0
 else
  some (.inl s6.1)
def z4v (a0:z00):Option ((List Int)) :=
 mkn 1 false (a0.Ops.length:Int) >>= fun x2 =>
 (iter (z4b a0) ([],[],x2,true)) >>= fun s5 =>
 some s5
set_option maxHeartbeats 4000000 in
theorem zkh (a0:z00):z1u Tryz.prog 109 [.rd z01 a0] [] (z4v a0) (fun r nv=>⟨[.val (nv 0)],[(100,some (nv 0,.list z0e 3 r))]⟩):=by
 refine z2d 51 Tryz.func109 Z Z Z fun H w=>?_
 refine gSR<|Eb Z (bx 1 Z) fun v1=>Zb Z<|gSR<|Zb Z<|gSR<|Zb Z<|gSR<|Zq (faB 1 Z Z Tryz.underlying25 Z (by exact zai))<|Zq (ld 1 Z Z (fP (z09 _)) zec Z)<|Zq (z3g Z .rd Z tu23)<|z0n fun x2 h3=>Ef Z (mks (R:=z0j) 2 Z Z h3 tu152 ti4 Zr.bool Z) fun v4=>Zb Z<|z8n (fun (s5:(List Int)) aa ww=>∃ nv:Nat→Value,Sta (ctx 51 H [] w) [(3,.val (nv 0))] [(3,some ((nv 0),.list z0e 3 s5))] aa ww) ?_ (fun s5=>?_)
 ·
  refine gSR<|Zb Z<|zxu z0e 3 6<|zxu aZ 62 7<|z26 (fun (s6:(List Int) × (List V3) × (List Bool) × Bool) aa ww=>∃ nv:Nat→Value,Sta (ctx 51 H [] w) [(1,.val (z06 v1 0)),(3,.val (nv 0)),(4,.val (nv 1)),(5,.val v4),(6,.rd z0j s6.2.2.2)] [(1,some (v1,.box 25 [.rd z01 a0])),(4,some ((nv 0),.list z0e 3 s6.1)),(5,some ((nv 1),.list aZ 62 s6.2.1)),(2,some (v4,.list z0j 4 s6.2.2.1))] aa ww) (fun aa ww h=>⟨nvl [(.slice none 0 0),(.slice none 0 0)],Zu h [1,6,7,2]⟩) (fun s6=>?_)
  refine gEx fun n7=>z0s<|gSR<|Zm Z<|Zj Z (fun h8=>?_) (fun h8=>?_)
  ·
   refine gKn 6 Z h8<|Zt<|z4y<|gSR<|Zb Z<|gSR<|Zb Z<|z26 (fun (s9:Int) aa ww=>Sta (ctx 51 H [] w) [(1,.val (z06 v1 0)),(3,.val (n7 0)),(4,.val (n7 1)),(5,.val v4),(6,.rd z0j false),(7,.rd z0e s9)] [(1,some (v1,.box 25 [.rd z01 a0])),(4,some ((n7 0),.list z0e 3 s6.1)),(5,some ((n7 1),.list aZ 62 s6.2.1)),(2,some (v4,.list z0j 4 s6.2.2.1))] aa ww) (fun aa ww h=>Zu h [1,4,5,2]) (fun s9=>?_)
   refine z0s<|gSR<|Zm Z<|Zq (faB 1 Z Z Tryz.underlying25 Z (by exact zai))<|Zq (ld 1 Z Z (fP (z09 _)) zec Z)<|Zq (z3g Z .rd Z tu23)<|Zq (I.lss Z Z)<|Zj Z (fun h10=>?_) (fun h10=>?_)
   ·
    refine Zt<|z0s<|z4y<|z8n (fun (s11:Bool) aa ww=>Sta (ctx 51 H [] w) [(1,.val (z06 v1 0)),(3,.val (n7 0)),(4,.val (n7 1)),(5,.val v4),(6,.rd z0j false),(7,.rd z0e s9),(34,.rd z0j s11)] [(1,some (v1,.box 25 [.rd z01 a0])),(4,some ((n7 0),.list z0e 3 s6.1)),(5,some ((n7 1),.list aZ 62 s6.2.1)),(2,some (v4,.list z0j 4 s6.2.2.1))] aa ww) ?_ (fun s11=>?_)
    ·
     refine z2e<|Zm Z<|Zm Z<|z0n fun x12 h13=>Zq (ixO 2 Z Z Z h13 tu152 ti4)<|Zq (ld 2 Z Z (Foc.el h13) ty4 Z)<|Zq (zfl Z)<|Zm Z<|z1b 25 Z (fun h14=>?_) (fun h14=>?_)
     ·
      refine lKn 24 Z h14<|z17 Zx Z Z (mv Z)<|z17 Zx Z Z (faB 1 Z Z Tryz.underlying25 Z (by exact zai))<|z17 Zx Z Z (ld 1 Z Z (fP (z09 _)) zec Z)<|z17 Zx Z Z (mv Z)<|z0n fun x15 h16=>z17 Zx Z Z (ixR Z Z h16 tu23 z5n Z)<|z17 Zx Z Z (faR Z (z0z _) Tryz.underlying73 Z Z (by exact z6e))<|z17 Zx Z Z (ldR Z z8j)<|zdb [5] [(1,5)] Zx Z Tryz.func31 Z Z (zjk _ _ _ _) (aW Z<|aQ Z<|aN) (y1 Z) fun r17 n18=>Zq (pkT Z Z)<|z1q<|z3n (fun aa ww h=>Zu h [1,4,5,2])
     ·
      refine lKn 24 Z h14<|Zk Z<|Zk Z<|Zk Z<|Zk Z<|Zk Z<|Zk Z<|Zk Z<|Zk Z<|Zq (pkF Z Z)<|z1q<|z3n (fun aa ww h=>Zu h [1,4,5,2])
    ·
     refine gIf Z Z (fun h19=>?_) (fun h19=>?_)
     ·
      refine z0s<|zsc [(3,.val (n7 0)),(4,.val (n7 1)),(1,.val (z06 v1 0)),(5,.val v4),(7,.rd z0e s9)] [(1,some (v1,.box 25 [.rd z01 a0])),(4,some ((n7 0),.list z0e 3 s6.1)),(5,some ((n7 1),.list aZ 62 s6.2.1)),(2,some (v4,.list z0j 4 s6.2.2.1))] [1,4,5,2] (Zs Z Z Z Z<|sS Z<|sN) (Zi Z<|Zi Z<|Zi Z<|Zi Z<|rN)<|z4l fun x20 h21=>z4l fun x22 h23=>z4l fun x24 h25=>z4l fun x26 h27=>gOr [(3,.val (n7 0),14),(4,.val (n7 1),15)] [⟨8,none,[(4,some ([1], fun nv=>((nv 1),.list z0e 3 [s9])))]⟩,⟨4,some ([], fun nv=>((n7 0),.list z0e 3 s6.1)),[(5,some ([2], fun nv=>((nv 2),.list z0e 3 x20)))]⟩,⟨1,some ([], fun nv=>(v1,.box 25 [.rd z01 a0])),[]⟩,⟨9,none,[(12,none)]⟩,⟨5,some ([], fun nv=>((n7 1),.list aZ 62 s6.2.1)),[(13,some ([4], fun nv=>((nv 4),.list aZ 62 x24)))]⟩,⟨2,some ([], fun nv=>(v4,.list z0j 4 s6.2.2.1)),[(17,some ([], fun nv=>(v4,.list z0j 4 (s6.2.2.1.set (s9:Int).toNat true))))]⟩] [pd 35 (.val v4),pd 36 (.rd z0e s9),⟨some (37,[], fun nv=>.val (n7 0)),[],[],[0]⟩,pd 38 (.rd z0e s9),⟨some (39,[1], fun nv=>.val (nv 1)),[(0,0,true)],[1],[]⟩,⟨some (40,[2], fun nv=>.val (nv 2)),[(1,0,true),(0,1,false)],[2],[]⟩,⟨some (41,[], fun nv=>.val (n7 1)),[],[],[1]⟩,pk 42 (.val (z06 v1 (0+0))) [(2,0,false)],pk 43 (.rd (z02 aZ) a0.IDs) [(2,0,false)],pd 44 (.rd z0e s9),pd 45 (.rp aZ x22),pd 46 (.rd aZ x22),⟨some (47,[], fun nv=>.rd (z02 aZ) [x22]),[(3,0,true)],[3],[]⟩,⟨some (48,[4], fun nv=>.val (nv 4)),[(4,0,true)],[4],[]⟩,⟨some (3,[2], fun nv=>.val (nv 2)),[],[],[]⟩,⟨some (4,[4], fun nv=>.val (nv 4)),[],[],[]⟩,pk 49 (.val (z06 v4 ((s9:Int).toNat * 1))) [(5,0,false)],⟨none,[(5,0,true)],[],[]⟩,pd 6 (.rd z0j true)] mixed (oC (oRn (fun nv E=>mv Z))<|oC (oRn (fun nv E=>mv Z))<|oC (oRn (fun nv E=>mv Z))<|oC (oRn (fun nv E=>mv Z))<|oC (oEf 8 1 (fun nv E=>lit (R:=z0e) ([s9]:List Int) 8 (pP Z Z<|pN) Z tu142 ti3 Z Z))<|oC (oEf 4 2 (fun nv E=>apn 4 Z Z Z (.own 8 Z) h21 tu142 ti3 Z Z Z))<|oC (oRn (fun nv E=>mv Z))<|oC (oRn (fun nv E=>faB 1 Z Z Tryz.underlying25 Z (by exact z6e)))<|oC (oRn (fun nv E=>ld 1 Z Z (fP (z0a _)) z8j Z))<|oC (oRn (fun nv E=>mv Z))<|oC (oRn (fun nv E=>ixR Z Z h23 tu22 z2b Z))<|oC (oRn (fun nv E=>ldR Z z43))<|oC (oFz (A1:=fun nv=>[(9,some ((nv 3),.list aZ 62 [x22]))]) 9 3 (oEf 9 3 (fun nv E=>lit (R:=aZ) ([x22]:List V3) 9 (pP Z Z<|pN) Z tu22 z2b Z Z)))<|oC (oEf 5 4 (fun nv E=>apn 5 Z Z Z .rd h25 tu22 z2b Z Z Z))<|oC (oRn (fun nv E=>asg Z))<|oC (oRn (fun nv E=>asg Z))<|oC (oRn (fun nv E=>ixO 2 Z Z Z h27 tu152 ti4))<|oC (oEs 2 (fun nv E=>sto 2 Z Z (Foc.el h27) Z ti4))<|oC (oRn (fun nv E=>asg Z))<|oN) fun n28=>z0o<|z1s<|z16a Z<|z0x<|z0y<|z35<|z1k (fun aa ww h=>⟨nvl [(n28 2),(n28 4)],Zu h [1,4,5,2]⟩)
     ·
      refine z2m<|z35<|z0o<|z2e<|Zm Z<|Zq (I.add Z Z)<|Za Z<|z1q<|z1k (fun aa ww h=>Zu h [1,4,5,2])
   ·
    refine z1s<|z0x<|z0y<|z35<|z1k (fun aa ww h=>⟨nvl [(n7 0),(n7 1)],Zu h [1,4,5,2]⟩)
  ·
   refine gKn 6 Z h8<|z1s<|z0x<|z0y<|z3n (fun aa ww h=>⟨nvl [(n7 0)],Zu h [4]⟩)
 ·
  refine gEx fun n29=>gSR<|Zm Z<|Zb Z<|z0k<|Ze [(n29 0)] [3] Z
def z6q (a0:z00) (s6:Int):Option (Sum (Sum Int Unit) Int) :=
 if decide (s6<(a0.Ops.length:Int)) then
  idx a0.Ops s6 >>= fun x8 =>
  z3p a0.IDs x8.Preds >>= fun r10 =>
  if !r10 then
   some (.inl (.inl 40))
  else
   some (.inr (w64 (s6+1)))
 else
  some (.inl (.inr ()))
def z7n (a0:z00):Option (Int) :=
 z8q a0.IDs >>= fun r2 =>
 if !r2 then
  some 32
 else
  z5g (iter (z6q a0) 0) fun s5 =>
  z4v a0 >>= fun r13 =>
  if decide ((r13.length:Int)<(a0.Ops.length:Int)) then
   some 36
  else
   some 0
theorem zcg (a0:z00):z1u Tryz.prog 70 [.rd z01 a0] [] (z7n a0) (fun r nv=>⟨[.rd z0e r],[]⟩):=by
 refine z2d 32 Tryz.func70 Z Z Z fun H w=>?_
 refine gSR<|Eb Z (bx 1 Z) fun v1=>Zb Z<|z0s<|gSR<|Zq (faB 1 Z Z Tryz.underlying25 Z (by exact z6e))<|Zq (ld 1 Z Z (fP (z0a _)) z8j Z)<|Zc [] [] Tryz.func108 Z (zel _) fun r2 n3=>Zq (zfl Z)<|Zj Z (fun h4=>?_) (fun h4=>?_)
 ·
  refine gSR<|Zb Z<|z0k<|z0w<|Ze [] [] Z
 ·
  refine Zt<|z8c (fun (s5:Unit) aa ww=>Sta (ctx 32 H [] w) [(1,.val (z06 v1 0))] [(1,some (v1,.box 25 [.rd z01 a0]))] aa ww) ?_ (fun s5=>?_)
  ·
   refine gSR<|Zb Z<|z26 (fun (s6:Int) aa ww=>Sta (ctx 32 H [] w) [(1,.val (z06 v1 0)),(3,.rd z0e s6)] [(1,some (v1,.box 25 [.rd z01 a0]))] aa ww) (fun aa ww h=>Zu h [1]) (fun s6=>?_)
   refine z0s<|gSR<|Zm Z<|Zq (faB 1 Z Z Tryz.underlying25 Z (by exact zai))<|Zq (ld 1 Z Z (fP (z09 _)) zec Z)<|Zq (z3g Z .rd Z tu23)<|Zq (I.lss Z Z)<|Zj Z (fun h7=>?_) (fun h7=>?_)
   ·
    refine Zt<|z0s<|z4y<|z0s<|z99 [] mixed Z Z<|hTk 0 Z Z (faB 1 Z Z Tryz.underlying25 Z (by exact z6e))<|hTk 1 Z Z (ld 1 Z Z (fP (z0a _)) z8j Z)<|hTk 2 Z Z (faB 1 Z Z Tryz.underlying25 Z (by exact zai))<|hTk 3 Z Z (ld 1 Z Z (fP (z09 _)) zec Z)<|hTk 4 Z Z (mv Z)<|z64 fun x8 h9=>hTk 5 Z Z (ixR Z Z h9 tu23 z5n Z)<|hTk 6 Z Z (faR Z (z0z _) Tryz.underlying73 Z Z (by exact z6e))<|hTk 7 Z Z (ldR Z z8j)<|z4e 8 [] [] Z (by kernel_rfl) Z (gd0 Z) Z Tryz.func31 Z Z (zmq _ _) (Y2 Z Z) rN Z (fun _ _=>ze8) fun r10 n11=>hTk 9 Z Z (zfl Z)<|z5a (by kernel_rfl)<|z0o<|gIf Z Z (fun h12=>?_) (fun h12=>?_)
    ·
     refine gSR<|Zb Z<|z0k<|z42<|z0w<|z7g<|z7a<|Ze [] [] Z
    ·
     refine z2m<|z35<|z0o<|z2e<|Zm Z<|Zq (I.add Z Z)<|Za Z<|z1q<|z1k (fun aa ww h=>Zu h [1])
   ·
    refine z1s<|z0x<|z0y<|z79 (fun aa ww h=>Zu h [1])
  ·
   refine z0s<|z0s<|z99 [38] mixed Z Z<|hTk 0 Z Z (ld 1 Z Z fH z3v Z)<|hTk 3 Z Z (faB 1 Z Z Tryz.underlying25 Z (by exact zai))<|hTk 4 Z Z (ld 1 Z Z (fP (z09 _)) zec Z)<|hTk 5 Z Z (z3g Z .rd Z tu23)<|z4e 1 [] [(100,38)] Z (by kernel_rfl) Z (gd0 Z) Z Tryz.func109 Z Z (zkh _) (Y1 Z) rN Z (fun _ _=>z3t) fun r13 n14=>Zf 2 Z Z z34 (z3g Z (.own 38 Z) Z tu142)<|hTk 6 Z Z (I.lss Z Z)<|z5a (by kernel_rfl)<|z0o<|gIf Z Z (fun h15=>?_) (fun h15=>?_)
   ·
    refine gSR<|Zb Z<|z0k<|z0w<|Ze [] [] Z
   ·
    refine Zt<|gSR<|Zb Z<|z0k<|Ze [] [] Z
def z6r (a0:z00) (s5:Int):Option (Sum (Sum Int Unit) Int) :=
 if decide (s5<(a0.Ops.length:Int)) then
  idx a0.Ops s5 >>= fun x7 =>
  z4d x7 >>= fun r9 =>
  if r9 != 0 then
   some (.inl (.inl 8))
  else
   idx a0.Ops s5 >>= fun x12 =>
   idx a0.IDs s5 >>= fun x14 =>
   z3s x12 >>= fun r16 =>
   if !decide (r16=x14) then
    some (.inl (.inl 8))
   else
    some (.inr (w64 (s5+1)))
 else
  some (.inl (.inr ()))
def z0b (a0:z00):Option (Int) :=
 if decide (60<(a0.Ops.length:Int)) then
  some 4
 else
  if (a0.IDs.length:Int) != (a0.Ops.length:Int) then
   some 8
  else
   z5g (iter (z6r a0) 0) fun s4 =>
   z7n a0 >>= fun r19 =>
   some r19
theorem z3o (a0:z00):z1u Tryz.prog 38 [.rd z01 a0] [] (z0b a0) (fun r nv=>⟨[.rd z0e r],[]⟩):=by
 refine z2d 45 Tryz.func38 Z Z Z fun H w=>?_
 refine gSR<|Eb Z (bx 1 Z) fun v1=>Zb Z<|z0s<|gSR<|Zq (faB 1 Z Z Tryz.underlying25 Z (by exact zai))<|Zq (ld 1 Z Z (fP (z09 _)) zec Z)<|Zq (z3g Z .rd Z tu23)<|Zq (I.gtr Z Z)<|Zj Z (fun h2=>?_) (fun h2=>?_)
 ·
  refine gSR<|Zb Z<|z0k<|z0w<|Ze [] [] Z
 ·
  refine Zt<|z0s<|gSR<|Zq (faB 1 Z Z Tryz.underlying25 Z (by exact z6e))<|Zq (ld 1 Z Z (fP (z0a _)) z8j Z)<|Zq (z3g Z .rd Z tu22)<|Zq (faB 1 Z Z Tryz.underlying25 Z (by exact zai))<|Zq (ld 1 Z Z (fP (z09 _)) zec Z)<|Zq (z3g Z .rd Z tu23)<|Zq (I.neq Z Z)<|Zj Z (fun h3=>?_) (fun h3=>?_)
  ·
   refine gSR<|Zb Z<|z0k<|z0w<|Ze [] [] Z
  ·
   refine Zt<|z8c (fun (s4:Unit) aa ww=>Sta (ctx 45 H [] w) [(1,.val (z06 v1 0))] [(1,some (v1,.box 25 [.rd z01 a0]))] aa ww) ?_ (fun s4=>?_)
   ·
    refine gSR<|Zb Z<|z26 (fun (s5:Int) aa ww=>Sta (ctx 45 H [] w) [(1,.val (z06 v1 0)),(3,.rd z0e s5)] [(1,some (v1,.box 25 [.rd z01 a0]))] aa ww) (fun aa ww h=>Zu h [1]) (fun s5=>?_)
    refine z0s<|gSR<|Zm Z<|Zq (faB 1 Z Z Tryz.underlying25 Z (by exact zai))<|Zq (ld 1 Z Z (fP (z09 _)) zec Z)<|Zq (z3g Z .rd Z tu23)<|Zq (I.lss Z Z)<|Zj Z (fun h6=>?_) (fun h6=>?_)
    ·
     refine Zt<|z0s<|z4y<|z0s<|z99 [] mixed Z Z<|hTk 0 Z Z (faB 1 Z Z Tryz.underlying25 Z (by exact zai))<|hTk 1 Z Z (ld 1 Z Z (fP (z09 _)) zec Z)<|hTk 2 Z Z (mv Z)<|z64 fun x7 h8=>hTk 3 Z Z (ixR Z Z h8 tu23 z5n Z)<|hTk 4 Z Z (ldR Z z9n)<|z4e 5 [] [] Z (by kernel_rfl) Z (gd0 Z) Z Tryz.func69 Z Z (zbm _) (Y1 Z) rN Z (fun _ _=>z34) fun r9 n10=>hTk 6 Z Z (I.neq Z Z)<|hTk 7 Z Z (mv Z)<|hIf 29 Z Z (fun h11=>?_) (fun h11=>?_)
     ·
      refine hKn 28 Z Z h11<|hSk 8 Z Z<|hSk 9 Z Z<|hSk 10 Z Z<|hSk 11 Z Z<|hSk 12 Z Z<|hSk 13 Z Z<|hSk 14 Z Z<|hSk 15 Z Z<|hSk 16 Z Z<|hSk 17 Z Z<|hSk 18 Z Z<|hSk 19 Z Z<|hTk 20 Z Z (pkT Z Z)<|z5a (by kernel_rfl)<|z0o<|zir Z<|gSR<|Zb Z<|z0k<|z42<|z0w<|z7g<|z7a<|Ze [] [] Z
     ·
      refine hKn 28 Z Z h11<|Zg 8 Z Z (faB 1 Z Z Tryz.underlying25 Z (by exact zai))<|Zg 9 Z Z (ld 1 Z Z (fP (z09 _)) zec Z)<|Zg 10 Z Z (mv Z)<|z64 fun x12 h13=>Zg 11 Z Z (ixR Z Z h13 tu23 z5n Z)<|Zg 12 Z Z (ldR Z z9n)<|Zg 14 Z Z (faB 1 Z Z Tryz.underlying25 Z (by exact z6e))<|Zg 15 Z Z (ld 1 Z Z (fP (z0a _)) z8j Z)<|Zg 16 Z Z (mv Z)<|z64 fun x14 h15=>Zg 17 Z Z (ixR Z Z h15 tu22 z2b Z)<|Zg 18 Z Z (ldR Z z43)<|zl8 13 [] [] Z (by kernel_rfl) Z Zx Z Tryz.func58 Z Z (z4w _) (Y1 Z) rN Z fun r16 n17=>zzl 19 Z (by kernel_rfl) (by kernel_rfl) (by kernel_rfl) Zx Z Z ze8 (neA Z Z eq62 Z Z gq62)<|hTk 20 Z Z (pkF Z Z)<|z5a (by kernel_rfl)<|z0o<|gIf Z Z (fun h18=>?_) (fun h18=>?_)
      ·
       refine gKn 41 Z h18<|gSR<|Zb Z<|z0k<|z42<|z0w<|z7g<|z7a<|Ze [] [] Z
      ·
       refine gKn 41 Z h18<|z2m<|z35<|z0o<|z2e<|Zm Z<|Zq (I.add Z Z)<|Za Z<|z1q<|z1k (fun aa ww h=>Zu h [1])
    ·
     refine z1s<|z0x<|z0y<|z79 (fun aa ww h=>Zu h [1])
   ·
    refine gSR<|Zq (ld 1 Z Z fH z3v Z)<|Zc [] [] Tryz.func70 Z (zcg _) fun r19 n20=>Zb Z<|z0k<|Ze [] [] Z
end
section
open Go Go.RowKit
set_option maxRecDepth 100000
def z4m (a0:z00) (s4:(List (V3 × Int)) × Int):Option (Sum ((List (V3 × Int))) ((List (V3 × Int)) × Int)) :=
 if decide (s4.2<(a0.IDs.length:Int)) then
  idx a0.IDs s4.2 >>= fun x6 =>
  some (.inr (zvq s4.1 x6 s4.2,w64 (s4.2+1)))
 else
  some (.inl s4.1)
def z4r (a0:z00):Option ((List (V3 × Int))) :=
 (iter (z4m a0) (([]:List (V3 × Int)),0)) >>= fun s3 =>
 some s3
theorem zag (a0:z00):z1u Tryz.prog 123 [.rd z01 a0] [] (z4r a0) (fun r nv=>⟨[.val (nv 0)],[(100,some (nv 0,.map aZ z0e r))]⟩):=by
 refine z2d 23 Tryz.func123 Z Z Z fun H w=>?_
 refine gSR<|Eb Z (bx 1 Z) fun v1=>Zb Z<|gSR<|Zq (faB 1 Z Z Tryz.underlying25 Z (by exact z6e))<|Zq (ld 1 Z Z (fP (z0a _)) z8j Z)<|Zq (z3g Z .rd Z tu22)<|Ef Z (mkm aZ z0e 2 (Or.inr ⟨_,_,Z,rfl⟩) Tryz.underlying156) fun v2=>Zb Z<|z8n (fun (s3:(List (V3 × Int))) aa ww=>Sta (ctx 23 H [] w) [(3,.val v2)] [(2,some (v2,.map aZ z0e s3))] aa ww) ?_ (fun s3=>?_)
 ·
  refine gSR<|Zq (faB 1 Z Z Tryz.underlying25 Z (by exact z6e))<|Zq (ld 1 Z Z (fP (z0a _)) z8j Z)<|Zq (z3g Z .rd Z tu22)<|Zm Z<|Zn<|z26 (fun (s4:(List (V3 × Int)) × Int) aa ww=>Sta (ctx 23 H [] w) [(3,.val v2),(11,.rd (z02 aZ) a0.IDs),(12,.rd z0e (a0.IDs.length:Int)),(13,.rd z0e s4.2)] [(2,some (v2,.map aZ z0e s4.1))] aa ww) (fun aa ww h=>Zu h [2]) (fun s4=>?_)
  refine gSR<|Zq (I.lss Z Z)<|Zn<|z0s<|gIf Z Z (fun h5=>?_) (fun h5=>?_)
  ·
   refine Zt<|z0s<|z4y<|gSR<|Zm Z<|z0n fun x6 h7=>Zq (ixR Z Z h7 tu22 z2b Z)<|Zq (ldR Z z43)<|Eb Z (z56 3 z2b (.zr (R:=aZ) (x:=(Vector.replicate 32 0)) zgg)) fun v8=>Za Z<|Es (sto 3 Z Z fH Z z2b)<|Zn<|z2e<|Zm Z<|Zq (ld 3 Z Z fH z43 Z)<|Zm Z<|Es (mup 2 Z Z Z Z ky62 Tryz.underlying156)<|z1q<|z35<|z0o<|z2e<|Zq (I.add Z Z)<|Zm Z<|z1q<|z1k (fun aa ww h=>Zu h [2])
  ·
   refine z1s<|z0x<|z0y<|z3n (fun aa ww h=>Zu h [2])
 ·
  refine gSR<|Zm Z<|Zb Z<|z0k<|Ze [v2] [2] Z
def z80 (a0:z00) (a1:List Bool) (s3:(List V3) × Int):Option (Sum ((List V3)) ((List V3) × Int)) :=
 if decide (s3.2<(a1.length:Int)) then
  idx a1 s3.2 >>= fun x6 =>
  if x6 then
   idx a0.IDs s3.2 >>= fun x9 =>
   app 32 s3.1 [x9] >>= fun x12 =>
   some (.inr (x12,w64 (s3.2+1)))
  else
   some (.inr (s3.1,w64 (s3.2+1)))
 else
  some (.inl s3.1)
def zcs (a0:z00) (a1:List Bool):Option ((List V3)) :=
 (iter (z80 a0 a1) ([],0)) >>= fun s2 =>
 some s2
theorem zm0 (a0:z00) (a1:List Bool):z1u Tryz.prog 133 [.rd z01 a0,.rd (z02 z0j) a1] [] (zcs a0 a1) (fun r nv=>⟨[.val (nv 0)],[(100,some (nv 0,.list aZ 62 r))]⟩):=by
 refine z2d 26 Tryz.func133 Z Z Z fun H w=>?_
 refine gSR<|Eb Z (bx 1 Z) fun v1=>Zb Z<|gSR<|Zb Z<|z8n (fun (s2:(List V3)) aa ww=>∃ nv:Nat→Value,Sta (ctx 26 H [] w) [(5,.val (nv 0))] [(3,some ((nv 0),.list aZ 62 s2))] aa ww) ?_ (fun s2=>?_)
 ·
  refine gSR<|Zm Z<|Zq (z3g Z .rd Z tu152)<|Zm Z<|Zn<|zxu aZ 62 6<|z26 (fun (s3:(List V3) × Int) aa ww=>∃ nv:Nat→Value,Sta (ctx 26 H [] w) [(1,.rd (z02 z0j) a1),(2,.val (z06 v1 0)),(5,.val (nv 0)),(8,.rd z0e (a1.length:Int)),(9,.rd z0e s3.2)] [(1,some (v1,.box 25 [.rd z01 a0])),(5,some ((nv 0),.list aZ 62 s3.1))] aa ww) (fun aa ww h=>⟨nvl [(.slice none 0 0)],Zu h [1,6]⟩) (fun s3=>?_)
  refine gEx fun n4=>gSR<|Zq (I.lss Z Z)<|Zn<|z0s<|gIf Z Z (fun h5=>?_) (fun h5=>?_)
  ·
   refine Zt<|z0s<|z4y<|gSR<|Zm Z<|Zb Z<|gSR<|Zm Z<|Zm Z<|z0n fun x6 h7=>Zq (ixR Z Z h7 tu152 ti4 Z)<|Zq (ldR Z ty4)<|Zj Z (fun h8=>?_) (fun h8=>?_)
   ·
    refine z2e<|Zm Z<|Zq (faB 1 Z Z Tryz.underlying25 Z (by exact z6e))<|Zq (ld 1 Z Z (fP (z0a _)) z8j Z)<|Zm Z<|z0n fun x9 h10=>Zq (ixR Z Z h10 tu22 z2b Z)<|Zq (ldR Z z43)<|Ef Z (lit (R:=aZ) ([x9]:List V3) 7 (pP Z Z<|pN) Z tu22 z2b Z Z) fun v11=>zh0 7 [22] Z (fS Z<|fN)<|z0n fun x12 h13=>Ef Z (apn 5 Z Z Z .rd h13 tu22 z2b Z Z Z) fun v14=>Za Z<|z1q<|z35<|z0o<|z2e<|Zq (I.add Z Z)<|Zm Z<|z1q<|z1k (fun aa ww h=>⟨nvl [v14],Zu h [1,5]⟩)
   ·
    refine z2m<|z35<|z0o<|z2e<|Zq (I.add Z Z)<|Zm Z<|z1q<|z1k (fun aa ww h=>⟨nvl [(n4 0)],Zu h [1,5]⟩)
  ·
   refine z1s<|z0x<|z0y<|z3n (fun aa ww h=>⟨nvl [(n4 0)],Zu h [5]⟩)
 ·
  refine gEx fun n15=>gSR<|Zm Z<|Zb Z<|z0k<|Ze [(n15 0)] [3] Z
def z94 (x7:List Bool) (s11:(List Bool) × Int):Option (Sum ((List Bool)) ((List Bool) × Int)) :=
 if decide (s11.2<(x7.length:Int)) then
  idx s11.1 s11.2 >>= fun x13 =>
  some (.inr (s11.1.set (s11.2:Int).toNat true,w64 (s11.2+1)))
 else
  some (.inl s11.1)
def z8s (r5:(List (V3 × Int))) (x19:z07) (s22:(List Bool) × Int):Option (Sum ((List Bool)) ((List Bool) × Int)) :=
 if decide (s22.2<(x19.Preds.length:Int)) then
  idx x19.Preds s22.2 >>= fun x24 =>
  idx s22.1 ((zkj r5 x24).getD 0) >>= fun x27 =>
  some (.inr (s22.1.set ((zkj r5 x24).getD 0:Int).toNat false,w64 (s22.2+1)))
 else
  some (.inl s22.1)
def z91 (a0:z00) (r5:(List (V3 × Int))) (s16:(List Bool) × Int):Option (Sum ((List Bool)) ((List Bool) × Int)) :=
 if decide (s16.2<(a0.Ops.length:Int)) then
  (idx a0.Ops s16.2 >>= fun x19 =>
  iter (z8s r5 x19) (s16.1,0)) >>= fun s18 =>
  some (.inr (s18,w64 (s16.2+1)))
 else
  some (.inl s16.1)
def zbt (a0:z00):Option ((List V3) × Int) :=
 z11 a0 >>= fun r2 =>
 if r2 != 0 then
  some ([],r2)
 else
  z4r a0 >>= fun r5 =>
  mkn 1 false (a0.IDs.length:Int) >>= fun x7 =>
  (iter (z94 x7) (x7,0)) >>= fun s10 =>
  (iter (z91 a0 r5) (s10,0)) >>= fun s15 =>
  zcs a0 s15 >>= fun r29 =>
  some (r29,0)
theorem zgs (a0:z00):z1u Tryz.prog 92 [.rd z01 a0] [zG1] (zbt a0) (fun r nv=>⟨[.val (nv 0),.rd z0e r.2],[(1001,some (.bool true,.glob 1 (z3j 64 z0p) z65)),(100,some (nv 0,.list aZ 62 r.1))]⟩):=by
 refine z2d 56 Tryz.func92 Z Z Z fun H w=>?_
 refine gSR<|Eb Z (bx 1 Z) fun v1=>Za Z<|Zb Z<|z0s<|gSR<|Zq (ld 1 Z Z fH z3v Z)<|Zc [1001] [] Tryz.func74 Z (zar _) fun r2 n3=>Zb Z<|gSR<|Zm Z<|Zq (I.neq Z Z)<|Zj Z (fun h4=>?_) (fun h4=>?_)
 ·
  refine gSR<|Zm Z<|Za Z<|Zb Z<|z0k<|z0w<|zuf aZ 62 2<|Ze [(.slice none 0 0)] [1001,2] Z
 ·
  refine Zt<|gSR<|Zq (ld 1 Z Z fH z3v Z)<|Zc [] [(100,3)] Tryz.func123 Z (zag _) fun r5 n6=>Zb Z<|gSR<|Zq (faB 1 Z Z Tryz.underlying25 Z (by exact z6e))<|Zq (ld 1 Z Z (fP (z0a _)) z8j Z)<|Zq (z3g Z .rd Z tu22)<|z0n fun x7 h8=>Ef Z (mks (R:=z0j) 4 Z Z h8 tu152 ti4 Zr.bool Z) fun v9=>Zb Z<|z8n (fun (s10:(List Bool)) aa ww=>Sta (ctx 56 H [zG1] w) [(1,.val (z06 v1 0)),(5,.val (n6 0)),(6,.val v9)] [(1,some (v1,.box 25 [.rd z01 a0])),(3,some ((n6 0),.map aZ z0e r5)),(4,some (v9,.list z0j 4 s10)),zG1] aa ww) ?_ (fun s10=>?_)
  ·
   refine gSR<|Zm Z<|Zq (z3g Z (.own 4 Z) Z tu152)<|Zm Z<|Zn<|z26 (fun (s11:(List Bool) × Int) aa ww=>Sta (ctx 56 H [zG1] w) [(1,.val (z06 v1 0)),(5,.val (n6 0)),(6,.val v9),(24,.rd z0e (x7.length:Int)),(25,.rd z0e s11.2)] [(1,some (v1,.box 25 [.rd z01 a0])),(3,some ((n6 0),.map aZ z0e r5)),(4,some (v9,.list z0j 4 s11.1)),zG1] aa ww) (fun aa ww h=>Zu h [1,3,4,1001]) (fun s11=>?_)
   refine gSR<|Zq (I.lss Z Z)<|Zn<|z0s<|gIf Z Z (fun h12=>?_) (fun h12=>?_)
   ·
    refine Zt<|z0s<|z4y<|gSR<|Zm Z<|Zb Z<|z2e<|Zm Z<|Zm Z<|z0n fun x13 h14=>Zq (ixO 4 Z Z Z h14 tu152 ti4)<|Es (sto 4 Z Z (Foc.el h14) Z ti4)<|z1q<|z35<|z0o<|z2e<|Zq (I.add Z Z)<|Zm Z<|z1q<|z1k (fun aa ww h=>Zu h [1,3,4,1001])
   ·
    refine z1s<|z0x<|z0y<|z3n (fun aa ww h=>Zu h [1,3,4,1001])
  ·
   refine z8n (fun (s15:(List Bool)) aa ww=>Sta (ctx 56 H [zG1] w) [(1,.val (z06 v1 0)),(6,.val v9)] [(1,some (v1,.box 25 [.rd z01 a0])),(4,some (v9,.list z0j 4 s15)),zG1] aa ww) ?_ (fun s15=>?_)
   ·
    refine gSR<|Zq (faB 1 Z Z Tryz.underlying25 Z (by exact zai))<|Zq (ld 1 Z Z (fP (z09 _)) zec Z)<|Zq (z3g Z .rd Z tu23)<|Zm Z<|Zn<|z26 (fun (s16:(List Bool) × Int) aa ww=>Sta (ctx 56 H [zG1] w) [(1,.val (z06 v1 0)),(5,.val (n6 0)),(6,.val v9),(33,.rd (z02 z03) a0.Ops),(34,.rd z0e (a0.Ops.length:Int)),(35,.rd z0e s16.2)] [(1,some (v1,.box 25 [.rd z01 a0])),(3,some ((n6 0),.map aZ z0e r5)),(4,some (v9,.list z0j 4 s16.1)),zG1] aa ww) (fun aa ww h=>Zu h [1,3,4,1001]) (fun s16=>?_)
    refine gSR<|Zq (I.lss Z Z)<|Zn<|z0s<|gIf Z Z (fun h17=>?_) (fun h17=>?_)
    ·
     refine Zt<|z8n (fun (s18:(List Bool)) aa ww=>Sta (ctx 56 H [zG1] w) [(1,.val (z06 v1 0)),(5,.val (n6 0)),(6,.val v9),(33,.rd (z02 z03) a0.Ops),(34,.rd z0e (a0.Ops.length:Int)),(35,.rd z0e s16.2)] [(1,some (v1,.box 25 [.rd z01 a0])),(3,some ((n6 0),.map aZ z0e r5)),(4,some (v9,.list z0j 4 s18)),zG1] aa ww) ?_ (fun s18=>?_)
     ·
      refine z4y<|gSR<|z0n fun x19 h20=>Zq (ixR Z Z h20 tu23 z5n Z)<|Zq (ldR Z z9n)<|Eb Z (z56 1100 z5n (ZrE.rd (R:=z0p) (x:=0) (Zr.num Z) (ZrE.nilS (ZrE.rd (R:=z2c) (x:=0) (Zr.num Z) (ZrE.rd (R:=z0f) (x:=(⟨0,[],(⟨0,0,0,[]⟩:z04)⟩:z0h)) zn8 (ZrE.rd (R:=z0g) (x:=(⟨0,0⟩:z0c)) zm6 ZrE.nil Z) Z) Z)) Z)) fun v21=>za6 aZ [.rd z0p 0,.rd (z02 aZ) [],.rd z2c 0,.rd z0f (⟨0,[],(⟨0,0,0,[]⟩:z04)⟩:z0h),.rd z0g (⟨0,0⟩:z0c)] 1100 [.rd z0p 0] [.rd z2c 0,.rd z0f (⟨0,[],(⟨0,0,0,[]⟩:z04)⟩:z0h),.rd z0g (⟨0,0⟩:z0c)] Z Z Z<|zd3 (R:=z03) (⟨0,[],0,(⟨0,[],(⟨0,0,0,[]⟩:z04)⟩:z0h),(⟨0,0⟩:z0c)⟩:z07) 1100 Z (Sp.via (Sp.prod (Sp.prod (Sp.prod (Sp.prod (Sp.prod Sp.unit))))))<|Es (sto 1100 Z Z fH Z z5n)<|Zn<|gSR<|Zq (faB 1100 Z Z Tryz.underlying73 Z (by exact z6e))<|Zq (ld 1100 Z Z (fP (z0z _)) z8j Z)<|Zq (z3g Z .rd Z tu22)<|Zm Z<|Zn<|z26 (fun (s22:(List Bool) × Int) aa ww=>Sta (ctx 56 H [zG1] w) [(1,.val (z06 v1 0)),(5,.val (n6 0)),(6,.val v9),(33,.rd (z02 z03) a0.Ops),(34,.rd z0e (a0.Ops.length:Int)),(35,.rd z0e s16.2),(40,.rd (z02 aZ) x19.Preds),(41,.rd z0e (x19.Preds.length:Int)),(42,.rd z0e s22.2)] [(1,some (v1,.box 25 [.rd z01 a0])),(3,some ((n6 0),.map aZ z0e r5)),(4,some (v9,.list z0j 4 s22.1)),zG1] aa ww) (fun aa ww h=>Zu h [1,3,4,1001]) (fun s22=>?_)
      refine gSR<|Zq (I.lss Z Z)<|Zn<|z0s<|gIf Z Z (fun h23=>?_) (fun h23=>?_)
      ·
       refine Zt<|z0s<|z4y<|gSR<|z0n fun x24 h25=>Zq (ixR Z Z h25 tu22 z2b Z)<|Zq (ldR Z z43)<|Eb Z (z56 1101 z2b (.zr (R:=aZ) (x:=(Vector.replicate 32 0)) zgg)) fun v26=>Es (sto 1101 Z Z fH Z z2b)<|Zn<|z2e<|Zm Z<|Zm Z<|Zq (ld 1101 Z Z fH z43 Z)<|Zq (mlk Z (.own 3 Z Z) Z ky62 Tryz.underlying156 ti3 (Zr.num Z) Z)<|z0n fun x27 h28=>Zq (ixO 4 Z Z Z h28 tu152 ti4)<|Es (sto 4 Z Z (Foc.el h28) Z ti4)<|z1q<|z35<|z0o<|z2e<|Zq (I.add Z Z)<|Zm Z<|z1q<|z1k (fun aa ww h=>Zu h [1,3,4,1001])
      ·
       refine z1s<|z0x<|z0y<|z35<|z3n (fun aa ww h=>Zu h [1,3,4,1001])
     ·
      refine z2e<|Zq (I.add Z Z)<|Zm Z<|z1q<|z1k (fun aa ww h=>Zu h [1,3,4,1001])
    ·
     refine z1s<|z0x<|z0y<|z3n (fun aa ww h=>Zu h [1,4,1001])
   ·
    refine gSR<|Zq (ld 1 Z Z fH z3v Z)<|Zm Z<|zh0 4 [6,54] Z (fS Z<|fS Z<|fN)<|Zc [] [(100,1102)] Tryz.func133 Z (zm0 _ _) fun r29 n30=>Za Z<|Zb Z<|z0k<|Ze [(n30 0)] [1001,1102] Z
def z8p (a0:z00) (s3:(List V3) × Int):Option (Sum ((List V3)) ((List V3) × Int)) :=
 if decide (s3.2<(a0.Ops.length:Int)) then
  idx a0.Ops s3.2 >>= fun x6 =>
  app 32 s3.1 x6.Preds >>= fun x8 =>
  some (w64 (s3.2+1)) >>= fun y11 =>
  some (.inr (x8,y11))
 else
  some (.inl s3.1)
def z97 (a0:z00) (s14:(List V3) × (List V3) × Int):Option (Sum ((List V3)) ((List V3) × (List V3) × Int)) :=
 if decide (s14.2.2<(a0.IDs.length:Int)) then
  idx a0.IDs s14.2.2 >>= fun x17 =>
  z31 s14.1 x17 >>= fun r19 =>
  if decide (r19<0) then
   idx a0.IDs s14.2.2 >>= fun x22 =>
   app 32 s14.2.1 [x22] >>= fun x25 =>
   some (w64 (s14.2.2+1)) >>= fun y28 =>
   some (.inr (s14.1,x25,y28))
  else
   some (w64 (s14.2.2+1)) >>= fun y29 =>
   some (.inr (s14.1,s14.2.1,y29))
 else
  some (.inl s14.2.1)
def zgb (a0:z00):Option ((List V3)) :=
 (iter (z8p a0) ([],0)) >>= fun s2 =>
 (iter (z97 a0) (s2,[],0)) >>= fun s13 =>
 some s13
def zhw (a0:z00):Option ((List V3) × Int) :=
 z0b a0 >>= fun r2 =>
 if r2 != 0 then
  some ([],r2)
 else
  zgb a0 >>= fun r5 =>
  some (r5,0)
def z8o (a0:z00) (r2:(List Int)) (s5:(List V3) × Int):Option (Sum ((List V3)) ((List V3) × Int)) :=
 if decide (s5.2<(r2.length:Int)) then
  idx r2 s5.2 >>= fun x8 =>
  idx a0.IDs x8 >>= fun x10 =>
  app 32 s5.1 [x10] >>= fun x13 =>
  some (w64 (s5.2+1)) >>= fun y16 =>
  some (.inr (x13,y16))
 else
  some (.inl s5.1)
def zdl (a0:z00):Option ((List V3)) :=
 z4v a0 >>= fun r2 =>
 (iter (z8o a0 r2) ([],0)) >>= fun s4 =>
 some s4
def zc7 (a0:z00):Option ((List V3) × Int) :=
 z0b a0 >>= fun r2 =>
 if r2 != 0 then
  some ([],r2)
 else
  zdl a0 >>= fun r5 =>
  some (r5,0)
def zcn (a0:V3) (c1_0:List Bool) (c2_0:List (V3 × Int)):Option (Bool) :=
 idx c1_0 ((zkj c2_0 a0).getD 0) >>= fun x2 =>
 some (!x2)
theorem zin (a0:V3) (p1_0:Value) (q1_0:Value) (c1_0:List Bool) (p2_0:Value) (q2_0:Value) (c2_0:List (V3 × Int)):z1u Tryz.prog 126 [.rd aZ a0,.val (z06 p1_0 0),.val (z06 p2_0 0)] [(1,some (p1_0,.box 152 [.val q1_0])),(2,some (q1_0,.list z0j 4 c1_0)),(3,some (p2_0,.box 156 [.val q2_0])),(4,some (q2_0,.map aZ z0e c2_0))] (zcn a0 c1_0 c2_0) (fun r nv=>⟨[.rd z0j r],[(1,some (p1_0,.box 152 [.val q1_0])),(2,some (q1_0,.list z0j 4 c1_0)),(3,some (p2_0,.box 156 [.val q2_0])),(4,some (q2_0,.map aZ z0e c2_0))]⟩):=by
 refine z2d 12 Tryz.func126 Z Z Z fun H w=>?_
 refine gSR<|Eb Z (bx 5 Z) fun v1=>Zb Z<|z0s<|zjf mixed (by kernel_rfl)<|Rq Z (ldV 1 Z Z .here zyn Z)<|Rq Z (ldV 3 Z Z .here z185 Z)<|Rq Z (ld 5 Z Z fH z43 Z)<|Rq Z (mlk Z (.own 4 Z Z) Z ky62 Tryz.underlying156 ti3 (Zr.num Z) Z)<|z9a fun x2 h3=>Rq Z (ixO 2 Z Z Z h3 tu152 ti4)<|Rq Z (ld 2 Z Z (Foc.el h3) ty4 Z)<|Rq Z (zfl Z)<|Rq Z (asg Z)<|zug<|z0o<|z0k<|Ze [] [1,2,3,4] Z
def z16 (a0:List V3) (c1_0:List Bool) (c1_1:List (V3 × Int)) (s2:Int):Option (Sum (Sum Int Unit) Int) :=
 if decide (s2<(a0.length:Int)) then
  idx a0 s2 >>= fun x4 =>
  zcn x4 c1_0 c1_1 >>= fun r6 =>
  if r6 then
   some (.inl (.inl s2))
  else
   some (.inr (w64 (s2+1)))
 else
  some (.inl (.inr ()))
def z2g (a0:List V3) (c1_0:List Bool) (c1_1:List (V3 × Int)):Option (Int) :=
 z5g (iter (z16 a0 c1_0 c1_1) 0) fun s1 =>
 some (-1)
theorem z6l (a0:List V3) (p1_0:Value) (q1_0:Value) (c1_0:List Bool) (p1_1:Value) (q1_1:Value) (c1_1:List (V3 × Int)):z1u Tryz.prog 114 [.rd (z02 aZ) a0,.val (.func (.func 126) #[] #[z06 p1_0 0,z06 p1_1 0])] [(1,some (p1_0,.box 152 [.val q1_0])),(2,some (q1_0,.list z0j 4 c1_0)),(3,some (p1_1,.box 156 [.val q1_1])),(4,some (q1_1,.map aZ z0e c1_1))] (z2g a0 c1_0 c1_1) (fun r nv=>⟨[.rd z0e r],[(1,some (p1_0,.box 152 [.val q1_0])),(2,some (q1_0,.list z0j 4 c1_0)),(3,some (p1_1,.box 156 [.val q1_1])),(4,some (q1_1,.map aZ z0e c1_1))]⟩):=by
 refine z2d 19 Tryz.func114 Z Z Z fun H w=>?_
 refine gSR<|Zb Z<|z8c (fun (s1:Unit) aa ww=>Sta (ctx 19 H [(1,some (p1_0,.box 152 [.val q1_0])),(2,some (q1_0,.list z0j 4 c1_0)),(3,some (p1_1,.box 156 [.val q1_1])),(4,some (q1_1,.map aZ z0e c1_1))] w) [] [(2,some (q1_0,.list z0j 4 c1_0)),(1,some (p1_0,.box 152 [.val q1_0])),(4,some (q1_1,.map aZ z0e c1_1)),(3,some (p1_1,.box 156 [.val q1_1]))] aa ww) ?_ (fun s1=>?_)
 ·
  refine gSR<|Zm Z<|Zq (z3g Z .rd Z tu22)<|Zm Z<|Zn<|z26 (fun (s2:Int) aa ww=>Sta (ctx 19 H [(1,some (p1_0,.box 152 [.val q1_0])),(2,some (q1_0,.list z0j 4 c1_0)),(3,some (p1_1,.box 156 [.val q1_1])),(4,some (q1_1,.map aZ z0e c1_1))] w) [(0,.rd (z02 aZ) a0),(1,.val (.func (.func 126) #[] #[z06 p1_0 0,z06 p1_1 0])),(7,.rd z0e (a0.length:Int)),(8,.rd z0e s2)] [(2,some (q1_0,.list z0j 4 c1_0)),(1,some (p1_0,.box 152 [.val q1_0])),(4,some (q1_1,.map aZ z0e c1_1)),(3,some (p1_1,.box 156 [.val q1_1]))] aa ww) (fun aa ww h=>Zu h [2,1,4,3]) (fun s2=>?_)
  refine gSR<|Zq (I.lss Z Z)<|Zn<|z0s<|gIf Z Z (fun h3=>?_) (fun h3=>?_)
  ·
   refine Zt<|z0s<|z4y<|gSR<|Zm Z<|Zb Z<|gSR<|Zm Z<|Zm Z<|Zm Z<|z0n fun x4 h5=>Zq (ixR Z Z h5 tu22 z2b Z)<|Zq (ldR Z z43)<|zhd [1,2,3,4] [(1,1),(2,2),(3,3),(4,4)] (gd0 Z) Z Z Tryz.func126 Z Z (zin _ _ _ _ _ _ _) (Y1 Z) (cQ 1 Z<|cQ 3 Z<|cN) (Zi Z<|Zi Z<|Zi Z<|Zi Z<|rN) fun r6 n7=>Zj Z (fun h8=>?_) (fun h8=>?_)
   ·
    refine gSR<|Zm Z<|Zb Z<|z0k<|z42<|z0w<|z7g<|z7a<|Ze [] [1,2,3,4] Z
   ·
    refine z2m<|z35<|z0o<|z2e<|Zq (I.add Z Z)<|Zm Z<|z1q<|z1k (fun aa ww h=>Zu h [2,1,4,3])
  ·
   refine z1s<|z0x<|z0y<|z79 (fun aa ww h=>Zu h [2,1,4,3])
 ·
  refine gSR<|Zb Z<|z0k<|Ze [] [1,2,3,4] Z
def z1i (a0:List V3) (c1_0:List Bool) (c1_1:List (V3 × Int)):Option (Bool) :=
 z2g a0 c1_0 c1_1 >>= fun r1 =>
 some (decide (0≤r1)) >>= fun y3 =>
 some y3
theorem z5s (a0:List V3) (p1_0:Value) (q1_0:Value) (c1_0:List Bool) (p1_1:Value) (q1_1:Value) (c1_1:List (V3 × Int)):z1u Tryz.prog 125 [.rd (z02 aZ) a0,.val (.func (.func 126) #[] #[z06 p1_0 0,z06 p1_1 0])] [(1,some (p1_0,.box 152 [.val q1_0])),(2,some (q1_0,.list z0j 4 c1_0)),(3,some (p1_1,.box 156 [.val q1_1])),(4,some (q1_1,.map aZ z0e c1_1))] (z1i a0 c1_0 c1_1) (fun r nv=>⟨[.rd z0j r],[(1,some (p1_0,.box 152 [.val q1_0])),(2,some (q1_0,.list z0j 4 c1_0)),(3,some (p1_1,.box 156 [.val q1_1])),(4,some (q1_1,.map aZ z0e c1_1))]⟩):=by
 refine z2d 9 Tryz.func125 Z Z Z fun H w=>?_
 refine gSR<|Zb Z<|gSR<|Zm Z<|Zm Z<|Zc [1,2,3,4] [(1,1),(2,2),(3,3),(4,4)] Tryz.func114 Z (z6l _ _ _ _ _ _ _) fun r1 n2=>Zq (I.geq Z Z)<|Za Z<|z1t 4 Z fun y3=>Zn<|z0k<|Ze [] [1,2,3,4] Z
def zc0 (a0:Int) (c1_0:List Bool) (c2_0:z00) (c3_0:List (V3 × Int)):Option (Bool) :=
 idx c1_0 a0 >>= fun x1 =>
 if !x1 then
  idx c2_0.Ops a0 >>= fun x4 =>
  z1i x4.Preds c1_0 c3_0 >>= fun r6 =>
  some (!r6)
 else
  some false
theorem zkd (a0:Int) (p1_0:Value) (q1_0:Value) (c1_0:List Bool) (p2_0:Value) (c2_0:z00) (p3_0:Value) (q3_0:Value) (c3_0:List (V3 × Int)):z1u Tryz.prog 124 [.rd z0e a0,.val (z06 p1_0 0),.val (z06 p2_0 0),.val (z06 p3_0 0)] [(1,some (p1_0,.box 152 [.val q1_0])),(2,some (q1_0,.list z0j 4 c1_0)),(3,some (p2_0,.box 25 [.rd z01 c2_0])),(4,some (p3_0,.box 156 [.val q3_0])),(5,some (q3_0,.map aZ z0e c3_0))] (zc0 a0 c1_0 c2_0 c3_0) (fun r nv=>⟨[.rd z0j r],[(1,some (p1_0,.box 152 [.val q1_0])),(2,some (q1_0,.list z0j 4 c1_0)),(3,some (p2_0,.box 25 [.rd z01 c2_0])),(4,some (p3_0,.box 156 [.val q3_0])),(5,some (q3_0,.map aZ z0e c3_0))]⟩):=by
 refine z2d 22 Tryz.func124 Z Z Z fun H w=>?_
 refine gSR<|Zb Z<|gSR<|Zq (ldV 1 Z Z .here zyn Z)<|Zm Z<|z0n fun x1 h2=>Zq (ixO 2 Z Z Z h2 tu152 ti4)<|Zq (ld 2 Z Z (Foc.el h2) ty4 Z)<|Zq (zfl Z)<|Zm Z<|z1b 11 Z (fun h3=>?_) (fun h3=>?_)
 ·
  refine lKn 10 Z h3<|z17 Zx Z Z (faB 3 Z Z Tryz.underlying25 Z (by exact zai))<|z17 Zx Z Z (ld 3 Z Z (fP (z09 _)) zec Z)<|z17 Zx Z Z (mv Z)<|z0n fun x4 h5=>z17 Zx Z Z (ixR Z Z h5 tu23 z5n Z)<|z17 Zx Z Z (faR Z (z0z _) Tryz.underlying73 Z Z (by exact z6e))<|z17 Zx Z Z (ldR Z z8j)<|z17 Zx Z Z (mkf mp0 (mp2 Z Z))<|zdb [1,2,4,5] [(1,1),(2,2),(3,4),(4,5)] Zx Z Tryz.func125 Z Z (z5s _ _ _ _ _ _ _) (Y2 Z Z) (Zi Z<|Zi Z<|Zi Z<|Zi Z<|rN) fun r6 n7=>z17 Zx Z Z (zfl Z)<|Zq (pkT Z Z)<|Zb Z<|z0k<|Ze [] [1,2,3,4,5] Z
 ·
  refine lKn 10 Z h3<|Zk Z<|Zk Z<|Zk Z<|Zk Z<|Zk Z<|Zk Z<|Zk Z<|Zk Z<|Zk Z<|Zq (pkF Z Z)<|Zb Z<|z0k<|Ze [] [1,2,3,4,5] Z
def z92 (a0:z00) (r5:(List (V3 × Int))) (s13:(List Bool) × (List V3) × Int) (s17:Int):Option (Sum Int Int) :=
 zc0 s17 s13.1 a0 r5 >>= fun r18 =>
 if !r18 then
  some (w64 (s17+1)) >>= fun y21 =>
  some (.inr y21)
 else
  some (.inl s17)
def zb7 (a0:z00) (r5:(List (V3 × Int))) (s13:(List Bool) × (List V3) × Int):Option (Sum ((List V3)) ((List Bool) × (List V3) × Int)) :=
 if decide (s13.2.2<(a0.IDs.length:Int)) then
  (iter (z92 a0 r5 s13) 0) >>= fun s16 =>
  idx s13.1 s16 >>= fun x22 =>
  idx a0.IDs s16 >>= fun x24 =>
  app 32 s13.2.1 [x24] >>= fun x27 =>
  some (.inr (s13.1.set (s16:Int).toNat true,x27,w64 (s13.2.2+1)))
 else
  some (.inl s13.2.1)
def za2 (a0:z00):Option ((List V3) × Int) :=
 z11 a0 >>= fun r2 =>
 if r2 != 0 then
  some ([],r2)
 else
  z4r a0 >>= fun r5 =>
  mkn 1 false (a0.IDs.length:Int) >>= fun x8 =>
  (iter (zb7 a0 r5) (x8,[],0)) >>= fun s12 =>
  some (s12,0)
theorem zma (a0:z00):z1u Tryz.prog 85 [.rd z01 a0] [zG1] (za2 a0) (fun r nv=>⟨[.val (nv 0),.rd z0e r.2],[(1001,some (.bool true,.glob 1 (z3j 64 z0p) z65)),(100,some (nv 0,.list aZ 62 r.1))]⟩):=by
 refine z2d 46 Tryz.func85 Z Z Z fun H w=>?_
 refine gSR<|Eb Z (bx 1 Z) fun v1=>Za Z<|Zb Z<|z0s<|gSR<|Zq (ld 1 Z Z fH z3v Z)<|Zc [1001] [] Tryz.func74 Z (zar _) fun r2 n3=>Zb Z<|gSR<|Zm Z<|Zq (I.neq Z Z)<|Zj Z (fun h4=>?_) (fun h4=>?_)
 ·
  refine gSR<|Zm Z<|Za Z<|Zb Z<|z0k<|z0w<|zuf aZ 62 2<|Ze [(.slice none 0 0)] [1001,2] Z
 ·
  refine Zt<|gSR<|Zq (ld 1 Z Z fH z3v Z)<|Zc [] [(100,3)] Tryz.func123 Z (zag _) fun r5 n6=>Eb Z (z56 4 zyp (.val Z)) fun v7=>Es (zpj 4 Z Z (.here z05) Z z0q z05 zyp)<|Zn<|gSR<|Zq (faB 1 Z Z Tryz.underlying25 Z (by exact z6e))<|Zq (ld 1 Z Z (fP (z0a _)) z8j Z)<|Zq (z3g Z .rd Z tu22)<|z0n fun x8 h9=>Ef Z (mks (R:=z0j) 5 Z Z h9 tu152 ti4 Zr.bool Z) fun v10=>Eb Z (z56 6 z14i (.val Z)) fun v11=>Es (zpj 6 Z Z (.here z05) Z z0q z05 z14i)<|Zn<|gSR<|Zq (mkf mp0 (mp3 Z Z Z))<|Zb Z<|gSR<|Zb Z<|z8n (fun (s12:(List V3)) aa ww=>∃ nv:Nat→Value,Sta (ctx 46 H [zG1] w) [(8,.val (nv 0))] [(1101,some ((nv 0),.list aZ 62 s12)),zG1] aa ww) ?_ (fun s12=>?_)
  ·
   refine gSR<|Zq (faB 1 Z Z Tryz.underlying25 Z (by exact z6e))<|Zq (ld 1 Z Z (fP (z0a _)) z8j Z)<|Zq (z3g Z .rd Z tu22)<|Zm Z<|Zn<|zxu aZ 62 1104<|z26 (fun (s13:(List Bool) × (List V3) × Int) aa ww=>∃ nv:Nat→Value,Sta (ctx 46 H [zG1] w) [(1,.val (z06 v1 0)),(6,.val (z06 v11 0)),(7,.val (.func (.func 124) #[] #[z06 v11 0,z06 v1 0,z06 v7 0])),(8,.val (nv 0)),(24,.rd z0e (a0.IDs.length:Int)),(25,.rd z0e s13.2.2)] [(1,some (v1,.box 25 [.rd z01 a0])),(5,some (v10,.list z0j 4 s13.1)),(6,some (v11,.box 152 [.val v10])),(3,some ((n6 0),.map aZ z0e r5)),(4,some (v7,.box 156 [.val (n6 0)])),(1103,some ((nv 0),.list aZ 62 s13.2.1)),zG1] aa ww) (fun aa ww h=>⟨nvl [(.slice none 0 0)],Zu h [1,5,6,3,4,1104,1001]⟩) (fun s13=>?_)
   refine gEx fun n14=>gSR<|Zq (I.lss Z Z)<|Zn<|z0s<|gIf Z Z (fun h15=>?_) (fun h15=>?_)
   ·
    refine Zt<|z0s<|z4y<|gSR<|Zb Z<|z8n (fun (s16:Int) aa ww=>Sta (ctx 46 H [zG1] w) [(1,.val (z06 v1 0)),(6,.val (z06 v11 0)),(7,.val (.func (.func 124) #[] #[z06 v11 0,z06 v1 0,z06 v7 0])),(8,.val (n14 0)),(9,.rd z0e s16),(24,.rd z0e (a0.IDs.length:Int)),(25,.rd z0e s13.2.2)] [(1,some (v1,.box 25 [.rd z01 a0])),(5,some (v10,.list z0j 4 s13.1)),(6,some (v11,.box 152 [.val v10])),(3,some ((n6 0),.map aZ z0e r5)),(4,some (v7,.box 156 [.val (n6 0)])),(1103,some ((n14 0),.list aZ 62 s13.2.1)),zG1] aa ww) ?_ (fun s16=>?_)
    ·
     refine z26 (fun (s17:Int) aa ww=>Sta (ctx 46 H [zG1] w) [(1,.val (z06 v1 0)),(6,.val (z06 v11 0)),(7,.val (.func (.func 124) #[] #[z06 v11 0,z06 v1 0,z06 v7 0])),(8,.val (n14 0)),(9,.rd z0e s17),(24,.rd z0e (a0.IDs.length:Int)),(25,.rd z0e s13.2.2)] [(1,some (v1,.box 25 [.rd z01 a0])),(5,some (v10,.list z0j 4 s13.1)),(6,some (v11,.box 152 [.val v10])),(3,some ((n6 0),.map aZ z0e r5)),(4,some (v7,.box 156 [.val (n6 0)])),(1103,some ((n14 0),.list aZ 62 s13.2.1)),zG1] aa ww) (fun aa ww h=>Zu h [1,5,6,3,4,1103,1001]) (fun s17=>?_)
     refine z0s<|gSR<|Zm Z<|Zm Z<|zhd [6,5,1,4,3] [(1,6),(2,5),(3,1),(4,4),(5,3)] (gd0 Z) Z Z Tryz.func124 Z Z (zkd _ _ _ _ _ _ _ _ _) (Y1 Z) (cQ 6 Z<|cQ 1 Z<|cQ 4 Z<|cN) (Zi Z<|Zi Z<|Zi Z<|Zi Z<|Zi Z<|rN) fun r18 n19=>Zq (zfl Z)<|Zj Z (fun h20=>?_) (fun h20=>?_)
     ·
      refine Zt<|z4y<|z2e<|Zm Z<|Zq (I.add Z Z)<|Za Z<|z1t 9 Z fun y21=>z1q<|z35<|z1k (fun aa ww h=>Zu h [1,5,6,3,4,1103,1001])
     ·
      refine z1s<|z0x<|z0y<|z3n (fun aa ww h=>Zu h [1,5,6,3,4,1103,1001])
    ·
     refine gSR<|Zq (ldV 6 Z Z .here zyn Z)<|Zm Z<|z0n fun x22 h23=>Zq (ixO 5 Z Z Z h23 tu152 ti4)<|Es (sto 5 Z Z (Foc.el h23) Z ti4)<|Zn<|z2e<|Zm Z<|Zq (faB 1 Z Z Tryz.underlying25 Z (by exact z6e))<|Zq (ld 1 Z Z (fP (z0a _)) z8j Z)<|Zm Z<|z0n fun x24 h25=>Zq (ixR Z Z h25 tu22 z2b Z)<|Zq (ldR Z z43)<|Ef Z (lit (R:=aZ) ([x24]:List V3) 1105 (pP Z Z<|pN) Z tu22 z2b Z Z) fun v26=>zh0 1105 [42] Z (fS Z<|fN)<|z0n fun x27 h28=>Ef Z (apn 1103 Z Z Z .rd h28 tu22 z2b Z Z Z) fun v29=>Za Z<|z1q<|z35<|z0o<|z2e<|Zq (I.add Z Z)<|Zm Z<|z1q<|z1k (fun aa ww h=>⟨nvl [v29],Zu h [1,5,6,3,4,1103,1001]⟩)
   ·
    refine z1s<|z0x<|z0y<|z3n (fun aa ww h=>⟨nvl [(n14 0)],Zu h [1103,1001]⟩)
  ·
   refine gEx fun n30=>gSR<|Zm Z<|Za Z<|Zb Z<|z0k<|Ze [(n30 0)] [1001,1101] Z
def zek (a0:z00) (a1:List V3):Option (Int) :=
 z0b a0 >>= fun r2 =>
 if r2 != 0 then
  z0b a0 >>= fun r5 =>
  some r5
 else
  z3p a0.IDs a1 >>= fun r7 =>
  if !r7 then
   some 6
  else
   some 0
def zc2 (a0:z00) (a1:V3):Option ((List V3)) :=
 z31 a0.IDs a1 >>= fun r3 =>
 idx a0.Ops r3 >>= fun x5 =>
 some x5.Preds
def z4u (a0:List V3) (s2:(List V3) × Int) (s6:Int):Option (Sum Int Int) :=
 if decide (s6<(s2.1.length:Int)) then
  idx s2.1 s6 >>= fun x8 =>
  idx a0 s2.2 >>= fun x10 =>
  z8b x8 x10 >>= fun r12 =>
  if decide (r12<0) then
   some (.inr (w64 (s6+1)))
  else
   some (.inl s6)
 else
  some (.inl s6)
def z63 (a0:List V3) (s2:(List V3) × Int):Option (Sum ((List V3)) ((List V3) × Int)) :=
 if decide (s2.2<(a0.length:Int)) then
  (iter (z4u a0 s2) 0) >>= fun s5 =>
  (if s5==(s2.1.length:Int) then
   some true
  else
   idx s2.1 s5 >>= fun x17 =>
   idx a0 s2.2 >>= fun x19 =>
   some (!decide (x17=x19))) >>= fun s15 =>
  if s15 then
   cut s2.1 0 s5 >>= fun x22 =>
   idx a0 s2.2 >>= fun x24 =>
   cut s2.1 s5 (s2.1.length:Int) >>= fun x26 =>
   app 32 ([]:List V3) x22 >>= fun x29 =>
   app 32 x29 [x24] >>= fun x33 =>
   app 32 x33 x26 >>= fun x36 =>
   some (w64 (s2.2+1)) >>= fun y39 =>
   some (.inr (x36,y39))
  else
   some (w64 (s2.2+1)) >>= fun y63 =>
   some (.inr (s2.1,y63))
 else
  some (.inl s2.1)
def zdj (a0:List V3):Option ((List V3)) :=
 (iter (z63 a0) ([],0)) >>= fun s1 =>
 some s1
def z5w (a0:z00) (s10:(List V3) × (List V3)):Option (Sum ((List V3)) ((List V3) × (List V3))) :=
 if decide (0<(s10.2.length:Int)) then
  idx s10.2 0 >>= fun x13 =>
  cut s10.2 1 (s10.2.length:Int) >>= fun x16 =>
  z31 s10.1 x13 >>= fun r19 =>
  if decide (r19<0) then
   app 32 s10.1 [x13] >>= fun x23 =>
   zc2 a0 x13 >>= fun r26 =>
   app 32 x16 r26 >>= fun x28 =>
   some (.inr (x23,x28))
  else
   some (.inr (s10.1,x16))
 else
  some (.inl s10.1)
def zdm (a0:z00) (a1:V3):Option ((List V3)) :=
 zc2 a0 a1 >>= fun r4 =>
 app 32 ([]:List V3) r4 >>= fun x6 =>
 (iter (z5w a0) ([],x6)) >>= fun s9 =>
 zdj s9 >>= fun r32 =>
 some r32
def zbo (a0:z00) (a1:V3):Option ((List V3) × Int) :=
 zek a0 [a1] >>= fun r4 =>
 if r4 != 0 then
  some ([],r4)
 else
  zdm a0 a1 >>= fun r7 =>
  some (r7,0)
def z9k (c1_0:List (V3 × Int)) (c3_0:z00) (rec:V3→(List (V3 × Int))→(List Bool)→z00→Option ((List Bool))) (x8:z07) (s10:(List Bool) × Int):Option (Sum ((List Bool)) ((List Bool) × Int)) :=
 if decide (s10.2<(x8.Preds.length:Int)) then
  idx x8.Preds s10.2 >>= fun x12 =>
  rec x12 c1_0 s10.1 c3_0 >>= fun r15 =>
  some (.inr (r15,w64 (s10.2+1)))
 else
  some (.inl s10.1)
def z7y (rec:V3→(List (V3 × Int))→(List Bool)→z00→Option ((List Bool))) (a0:V3) (c1_0:List (V3 × Int)) (c2_0:List Bool) (c3_0:z00):Option ((List Bool)) :=
 some ((zkj c1_0 a0).getD 0) >>= fun y2 =>
 idx c2_0 y2 >>= fun x3 =>
 if x3 then
  some c2_0
 else
  idx c2_0 y2 >>= fun x6 =>
  idx c3_0.Ops y2 >>= fun x8 =>
  iter (z9k c1_0 c3_0 rec x8) (c2_0.set (y2:Int).toNat true,0)
def z3b:Nat→V3→(List (V3 × Int))→(List Bool)→z00→Option ((List Bool))
 | 0,_,_,_,_=>none
 | N+1,a0,c1_0,c2_0,c3_0=>z7y (z3b N) a0 c1_0 c2_0 c3_0
theorem zki (rec:V3→(List (V3 × Int))→(List Bool)→z00→Option ((List Bool))) (ih:∀ (a0:V3) (p1_0:Value) (q1_0:Value) (c1_0:List (V3 × Int)) (p2_0:Value) (q2_0:Value) (c2_0:List Bool) (p3_0:Value) (c3_0:z00) (p4_0:Value),z1u Tryz.prog 166 [.rd aZ a0,.val (z06 p1_0 0),.val (z06 p2_0 0),.val (z06 p3_0 0),.val (z06 p4_0 0)] [(1,some (p1_0,.box 156 [.val q1_0])),(2,some (q1_0,.map aZ z0e c1_0)),(3,some (p2_0,.box 152 [.val q2_0])),(4,some (q2_0,.list z0j 4 c2_0)),(5,some (p3_0,.box 25 [.rd z01 c3_0])),(6,some (p4_0,.box 186 [.val (.func (.func 166) #[] #[z06 p1_0 0,z06 p2_0 0,z06 p3_0 0,z06 p4_0 0])]))] (rec a0 c1_0 c2_0 c3_0) (fun r nv=>⟨[],[(1,some (p1_0,.box 156 [.val q1_0])),(2,some (q1_0,.map aZ z0e c1_0)),(3,some (p2_0,.box 152 [.val q2_0])),(4,some (q2_0,.list z0j 4 r)),(5,some (p3_0,.box 25 [.rd z01 c3_0])),(6,some (p4_0,.box 186 [.val (.func (.func 166) #[] #[z06 p1_0 0,z06 p2_0 0,z06 p3_0 0,z06 p4_0 0])]))]⟩)) (a0:V3) (p1_0:Value) (q1_0:Value) (c1_0:List (V3 × Int)) (p2_0:Value) (q2_0:Value) (c2_0:List Bool) (p3_0:Value) (c3_0:z00) (p4_0:Value):z1u Tryz.prog 166 [.rd aZ a0,.val (z06 p1_0 0),.val (z06 p2_0 0),.val (z06 p3_0 0),.val (z06 p4_0 0)] [(1,some (p1_0,.box 156 [.val q1_0])),(2,some (q1_0,.map aZ z0e c1_0)),(3,some (p2_0,.box 152 [.val q2_0])),(4,some (q2_0,.list z0j 4 c2_0)),(5,some (p3_0,.box 25 [.rd z01 c3_0])),(6,some (p4_0,.box 186 [.val (.func (.func 166) #[] #[z06 p1_0 0,z06 p2_0 0,z06 p3_0 0,z06 p4_0 0])]))] (z7y rec a0 c1_0 c2_0 c3_0) (fun r nv=>⟨[],[(1,some (p1_0,.box 156 [.val q1_0])),(2,some (q1_0,.map aZ z0e c1_0)),(3,some (p2_0,.box 152 [.val q2_0])),(4,some (q2_0,.list z0j 4 r)),(5,some (p3_0,.box 25 [.rd z01 c3_0])),(6,some (p4_0,.box 186 [.val (.func (.func 166) #[] #[z06 p1_0 0,z06 p2_0 0,z06 p3_0 0,z06 p4_0 0])]))]⟩):=by
 refine z2d 34 Tryz.func166 Z Z Z fun H w=>?_
 refine gSR<|Eb Z (bx 7 Z) fun v1=>Zn<|gSR<|Zq (ldV 1 Z Z .here z185 Z)<|Zq (ld 7 Z Z fH z43 Z)<|Zq (mlk Z (.own 2 Z Z) Z ky62 Tryz.underlying156 ti3 (Zr.num Z) Z)<|Za Z<|z1t 6 Z fun y2=>Zn<|z0s<|gSR<|Zq (ldV 3 Z Z .here zyn Z)<|Zm Z<|z0n fun x3 h4=>Zq (ixO 4 Z Z Z h4 tu152 ti4)<|Zq (ld 4 Z Z (Foc.el h4) ty4 Z)<|Zj Z (fun h5=>?_) (fun h5=>?_)
 ·
  refine z0k<|z0w<|Ze [] [1,2,3,4,5,6] Z
 ·
  refine Zt<|gSR<|Zq (ldV 3 Z Z .here zyn Z)<|Zm Z<|z0n fun x6 h7=>Zq (ixO 4 Z Z Z h7 tu152 ti4)<|Es (sto 4 Z Z (Foc.el h7) Z ti4)<|Zn<|gSR<|Zq (faB 5 Z Z Tryz.underlying25 Z (by exact zai))<|Zq (ld 5 Z Z (fP (z09 _)) zec Z)<|Zm Z<|z0n fun x8 h9=>Zq (ixR Z Z h9 tu23 z5n Z)<|Zq (faR Z (z0z _) Tryz.underlying73 Z Z (by exact z6e))<|Zq (ldR Z z8j)<|Zq (z3g Z .rd Z tu22)<|Zm Z<|Zn<|z26 (fun (s10:(List Bool) × Int) aa ww=>Sta (ctx 34 H [(1,some (p1_0,.box 156 [.val q1_0])),(2,some (q1_0,.map aZ z0e c1_0)),(3,some (p2_0,.box 152 [.val q2_0])),(4,some (q2_0,.list z0j 4 c2_0)),(5,some (p3_0,.box 25 [.rd z01 c3_0])),(6,some (p4_0,.box 186 [.val (.func (.func 166) #[] #[z06 p1_0 0,z06 p2_0 0,z06 p3_0 0,z06 p4_0 0])]))] w) [(4,.val (z06 p4_0 0)),(24,.rd (z02 aZ) x8.Preds),(25,.rd z0e (x8.Preds.length:Int)),(26,.rd z0e s10.2)] [(6,some (p4_0,.box 186 [.val (.func (.func 166) #[] #[z06 p1_0 0,z06 p2_0 0,z06 p3_0 0,z06 p4_0 0])])),(2,some (q1_0,.map aZ z0e c1_0)),(1,some (p1_0,.box 156 [.val q1_0])),(4,some (q2_0,.list z0j 4 s10.1)),(3,some (p2_0,.box 152 [.val q2_0])),(5,some (p3_0,.box 25 [.rd z01 c3_0]))] aa ww) (fun aa ww h=>Zu h [6,2,1,4,3,5]) (fun s10=>?_)
  refine gSR<|Zq (I.lss Z Z)<|Zn<|z0s<|gIf Z Z (fun h11=>?_) (fun h11=>?_)
  ·
   refine Zt<|z0s<|z4y<|gSR<|z0n fun x12 h13=>Zq (ixR Z Z h13 tu22 z2b Z)<|Zq (ldR Z z43)<|Eb Z (z56 8 z2b (.zr (R:=aZ) (x:=(Vector.replicate 32 0)) zgg)) fun v14=>Es (sto 8 Z Z fH Z z2b)<|Zn<|z2e<|Zq (ldV 6 Z Z .here z19f Z)<|Zq (ld 8 Z Z fH z43 Z)<|zhd [1,2,3,4,5,6] [(1,1),(2,2),(3,3),(4,4),(5,5),(6,6)] (gd0 Z) Z Z Tryz.func166 Z Z (ih _ _ _ _ _ _ _ _ _ _) (Y1 Z) (cQ 1 Z<|cQ 3 Z<|cQ 5 Z<|cQ 6 Z<|cN) (Zi Z<|Zi Z<|Zi Z<|Zi Z<|Zi Z<|Zi Z<|rN) fun r15 n16=>z1q<|z35<|z0o<|z2e<|Zq (I.add Z Z)<|Zm Z<|z1q<|z1k (fun aa ww h=>Zu h [6,2,1,4,3,5])
  ·
   refine z1s<|z0x<|z0y<|Ze [] [1,2,3,4,5,6] Z
theorem zem:∀ (N:Nat) (a0:V3) (p1_0:Value) (q1_0:Value) (c1_0:List (V3 × Int)) (p2_0:Value) (q2_0:Value) (c2_0:List Bool) (p3_0:Value) (c3_0:z00) (p4_0:Value),z1u Tryz.prog 166 [.rd aZ a0,.val (z06 p1_0 0),.val (z06 p2_0 0),.val (z06 p3_0 0),.val (z06 p4_0 0)] [(1,some (p1_0,.box 156 [.val q1_0])),(2,some (q1_0,.map aZ z0e c1_0)),(3,some (p2_0,.box 152 [.val q2_0])),(4,some (q2_0,.list z0j 4 c2_0)),(5,some (p3_0,.box 25 [.rd z01 c3_0])),(6,some (p4_0,.box 186 [.val (.func (.func 166) #[] #[z06 p1_0 0,z06 p2_0 0,z06 p3_0 0,z06 p4_0 0])]))] (z3b N a0 c1_0 c2_0 c3_0) (fun r nv=>⟨[],[(1,some (p1_0,.box 156 [.val q1_0])),(2,some (q1_0,.map aZ z0e c1_0)),(3,some (p2_0,.box 152 [.val q2_0])),(4,some (q2_0,.list z0j 4 r)),(5,some (p3_0,.box 25 [.rd z01 c3_0])),(6,some (p4_0,.box 186 [.val (.func (.func 166) #[] #[z06 p1_0 0,z06 p2_0 0,z06 p3_0 0,z06 p4_0 0])]))]⟩)
 | 0,a0,p1_0,q1_0,c1_0,p2_0,q2_0,c2_0,p3_0,c3_0,p4_0=>fun r hr=>absurd hr (by simp [z3b])
 | N+1,a0,p1_0,q1_0,c1_0,p2_0,q2_0,c2_0,p3_0,c3_0,p4_0=>zki (z3b N) (zem N) a0 p1_0 q1_0 c1_0 p2_0 q2_0 c2_0 p3_0 c3_0 p4_0
theorem zkf (a0:V3) (p1_0:Value) (q1_0:Value) (c1_0:List (V3 × Int)) (p2_0:Value) (q2_0:Value) (c2_0:List Bool) (p3_0:Value) (c3_0:z00) (p4_0:Value):z1u Tryz.prog 166 [.rd aZ a0,.val (z06 p1_0 0),.val (z06 p2_0 0),.val (z06 p3_0 0),.val (z06 p4_0 0)] [(1,some (p1_0,.box 156 [.val q1_0])),(2,some (q1_0,.map aZ z0e c1_0)),(3,some (p2_0,.box 152 [.val q2_0])),(4,some (q2_0,.list z0j 4 c2_0)),(5,some (p3_0,.box 25 [.rd z01 c3_0])),(6,some (p4_0,.box 186 [.val (.func (.func 166) #[] #[z06 p1_0 0,z06 p2_0 0,z06 p3_0 0,z06 p4_0 0])]))] (z3b 1000 a0 c1_0 c2_0 c3_0) (fun r nv=>⟨[],[(1,some (p1_0,.box 156 [.val q1_0])),(2,some (q1_0,.map aZ z0e c1_0)),(3,some (p2_0,.box 152 [.val q2_0])),(4,some (q2_0,.list z0j 4 r)),(5,some (p3_0,.box 25 [.rd z01 c3_0])),(6,some (p4_0,.box 186 [.val (.func (.func 166) #[] #[z06 p1_0 0,z06 p2_0 0,z06 p3_0 0,z06 p4_0 0])]))]⟩):=zem 1000 a0 p1_0 q1_0 c1_0 p2_0 q2_0 c2_0 p3_0 c3_0 p4_0
def zb8 (a0:z00) (a1:List V3) (r2:(List (V3 × Int))) (s11:(List Bool) × Int):Option (Sum ((List Bool)) ((List Bool) × Int)) :=
 if decide (s11.2<(a1.length:Int)) then
  idx a1 s11.2 >>= fun x13 =>
  (z3b 1000) x13 r2 s11.1 a0 >>= fun r16 =>
  some (.inr (r16,w64 (s11.2+1)))
 else
  some (.inl s11.1)
def zdu (a0:z00) (a1:List V3):Option ((List Bool)) :=
 z4r a0 >>= fun r2 =>
 mkn 1 false (a0.IDs.length:Int) >>= fun x5 =>
 (iter (zb8 a0 a1 r2) (x5,0)) >>= fun s10 =>
 some s10
theorem zmy (a0:z00) (a1:List V3):z1u Tryz.prog 120 [.rd z01 a0,.rd (z02 aZ) a1] [] (zdu a0 a1) (fun r nv=>⟨[.val (nv 0)],[(100,some (nv 0,.list z0j 4 r))]⟩):=by
 refine z2d 28 Tryz.func120 Z Z Z fun H w=>?_
 refine gSR<|Eb Z (bx 1 Z) fun v1=>Zb Z<|gSR<|Zq (ld 1 Z Z fH z3v Z)<|Zc [] [(100,2)] Tryz.func123 Z (zag _) fun r2 n3=>Eb Z (z56 3 zyp (.val Z)) fun v4=>Es (zpj 3 Z Z (.here z05) Z z0q z05 zyp)<|Zn<|gSR<|Zq (faB 1 Z Z Tryz.underlying25 Z (by exact z6e))<|Zq (ld 1 Z Z (fP (z0a _)) z8j Z)<|Zq (z3g Z .rd Z tu22)<|z0n fun x5 h6=>Ef Z (mks (R:=z0j) 4 Z Z h6 tu152 ti4 Zr.bool Z) fun v7=>Eb Z (z56 5 z14i (.val Z)) fun v8=>Es (zpj 5 Z Z (.here z05) Z z0q z05 z14i)<|Zn<|gSR<|Eb Z (z56 6 z190 (.val Z)) fun v9=>Zn<|gSR<|Zq (mkf mp0 (mp4 Z Z Z Z))<|Es (zpj 6 Z Z (.here z05) Z z0q z05 z190)<|Zn<|z8n (fun (s10:(List Bool)) aa ww=>Sta (ctx 28 H [] w) [(6,.val (z06 v8 0))] [(4,some (v7,.list z0j 4 s10)),(5,some (v8,.box 152 [.val v7]))] aa ww) ?_ (fun s10=>?_)
 ·
  refine gSR<|Zm Z<|Zq (z3g Z .rd Z tu22)<|Zm Z<|Zn<|z26 (fun (s11:(List Bool) × Int) aa ww=>Sta (ctx 28 H [] w) [(6,.val (z06 v8 0)),(7,.val (z06 v9 0)),(17,.rd (z02 aZ) a1),(18,.rd z0e (a1.length:Int)),(19,.rd z0e s11.2)] [(4,some (v7,.list z0j 4 s11.1)),(5,some (v8,.box 152 [.val v7])),(6,some (v9,.box 186 [.val (.func (.func 166) #[] #[z06 v4 0,z06 v8 0,z06 v1 0,z06 v9 0])])),(2,some ((n3 0),.map aZ z0e r2)),(3,some (v4,.box 156 [.val (n3 0)])),(1,some (v1,.box 25 [.rd z01 a0]))] aa ww) (fun aa ww h=>Zu h [4,5,6,2,3,1]) (fun s11=>?_)
  refine gSR<|Zq (I.lss Z Z)<|Zn<|z0s<|gIf Z Z (fun h12=>?_) (fun h12=>?_)
  ·
   refine Zt<|z0s<|z4y<|gSR<|z0n fun x13 h14=>Zq (ixR Z Z h14 tu22 z2b Z)<|Zq (ldR Z z43)<|Eb Z (z56 7 z2b (.zr (R:=aZ) (x:=(Vector.replicate 32 0)) zgg)) fun v15=>Es (sto 7 Z Z fH Z z2b)<|Zn<|z2e<|Zq (ldV 6 Z Z .here z19f Z)<|Zq (ld 7 Z Z fH z43 Z)<|zhd [3,2,5,4,1,6] [(1,3),(2,2),(3,5),(4,4),(5,1),(6,6)] (gd0 Z) Z Z Tryz.func166 Z Z (zkf _ _ _ _ _ _ _ _ _ _) (Y1 Z) (cQ 3 Z<|cQ 5 Z<|cQ 1 Z<|cQ 6 Z<|cN) (Zi Z<|Zi Z<|Zi Z<|Zi Z<|Zi Z<|Zi Z<|rN) fun r16 n17=>z1q<|z35<|z0o<|z2e<|Zq (I.add Z Z)<|Zm Z<|z1q<|z1k (fun aa ww h=>Zu h [4,5,6,2,3,1])
  ·
   refine z1s<|z0x<|z0y<|z3n (fun aa ww h=>Zu h [4,5])
 ·
  refine gSR<|Zq (ldV 5 Z Z .here zyn Z)<|Zb Z<|z0k<|Ze [v7] [4] Z
def zay (a0:z07):Option (z07) :=
 app 32 ([]:List V3) a0.Preds >>= fun x4 =>
 some (⟨a0.Author,x4,a0.Stamp,a0.Act,a0.Sig⟩:z07)
theorem zfy (a0:z07):z1u Tryz.prog 42 [.rd z03 a0] [] (zay a0) (fun r nv=>⟨[.rd z03 r],[]⟩):=by
 refine z2d 9 Tryz.func42 Z Z Z fun H w=>?_
 refine gSR<|Eb Z (bx 1 Z) fun v1=>Eb Z (z56 2 z5n (ZrE.rd (R:=z0p) (x:=0) (Zr.num Z) (ZrE.nilS (ZrE.rd (R:=z2c) (x:=0) (Zr.num Z) (ZrE.rd (R:=z0f) (x:=(⟨0,[],(⟨0,0,0,[]⟩:z04)⟩:z0h)) zn8 (ZrE.rd (R:=z0g) (x:=(⟨0,0⟩:z0c)) zm6 ZrE.nil Z) Z) Z)) Z)) fun v2=>Zn<|gSR<|Ef Z (lit (R:=aZ) (([]:List V3):List V3) 3 (pN) Z tu22 z2b Z Z) fun v3=>Zq (faB 1 Z Z Tryz.underlying73 Z (by exact z6e))<|Zq (ld 1 Z Z (fP (z0z _)) z8j Z)<|z0n fun x4 h5=>Ef Z (apn 3 Z Z Z .rd h5 tu22 z2b Z Z Z) fun v6=>Zq (faB 1 Z Z Tryz.underlying73 Z (by exact z6e))<|lSpl (R:=z03) 1 Z (Sp.via (Sp.prod (Sp.prod (Sp.prod (Sp.prod (Sp.prod Sp.unit))))))<|Es (zpj 1 Z Z (zao.cast (zao.next z19 (zao.here z19)) Z) Z z0q z05 z6e)<|Zn<|gSR<|zyt [.rd z0p a0.Author,.rd (z02 aZ) x4,.rd z2c a0.Stamp,.rd z0f a0.Act,.rd z0g a0.Sig] 1 3 [.rd z0p a0.Author] [.rd z2c a0.Stamp,.rd z0f a0.Act,.rd z0g a0.Sig] Z Z Z Z Z<|zd3 (R:=z03) (⟨a0.Author,x4,a0.Stamp,a0.Act,a0.Sig⟩:z07) 1 Z (Sp.via (Sp.prod (Sp.prod (Sp.prod (Sp.prod (Sp.prod Sp.unit))))))<|Zq (ld 1 Z Z fH z9n Z)<|za6 aZ [.rd z0p 0,.rd (z02 aZ) [],.rd z2c 0,.rd z0f (⟨0,[],(⟨0,0,0,[]⟩:z04)⟩:z0h),.rd z0g (⟨0,0⟩:z0c)] 2 [.rd z0p 0] [.rd z2c 0,.rd z0f (⟨0,[],(⟨0,0,0,[]⟩:z04)⟩:z0h),.rd z0g (⟨0,0⟩:z0c)] Z Z Z<|zd3 (R:=z03) (⟨0,[],0,(⟨0,[],(⟨0,0,0,[]⟩:z04)⟩:z0h),(⟨0,0⟩:z0c)⟩:z07) 2 Z (Sp.via (Sp.prod (Sp.prod (Sp.prod (Sp.prod (Sp.prod Sp.unit))))))<|Es (sto 2 Z Z fH Z z5n)<|Zn<|z0k<|zbq [] [] Z (eC 2 Z Z z9n<|eN) (rN)
def zah (a0:z00) (s9:(List z07) × Int):Option (Sum ((List z07)) ((List z07) × Int)) :=
 if decide (s9.2<(a0.Ops.length:Int)) then
  idx a0.Ops s9.2 >>= fun x12 =>
  zay x12 >>= fun r14 =>
  app 112 s9.1 [r14] >>= fun x17 =>
  some (w64 (s9.2+1)) >>= fun y20 =>
  some (.inr (x17,y20))
 else
  some (.inl s9.1)
def zaq (a0:z00):Option (z00) :=
 app 32 ([]:List V3) a0.IDs >>= fun x4 =>
 (iter (zah a0) ([],0)) >>= fun s8 =>
 some (⟨x4,s8⟩:z00)
set_option maxHeartbeats 4000000 in
theorem zfw (a0:z00):z1u Tryz.prog 11 [.rd z01 a0] [] (zaq a0) (fun r nv=>⟨[.rd z01 r],[]⟩):=by
 refine z2d 29 Tryz.func11 Z Z Z fun H w=>?_
 refine gSR<|Eb Z (bx 1 Z) fun v1=>Eb Z (z56 2 z4h (ZrE.nilS (ZrE.nilS ZrE.nil))) fun v2=>Zn<|gSR<|Ef Z (lit (R:=aZ) (([]:List V3):List V3) 3 (pN) Z tu22 z2b Z Z) fun v3=>Zq (faB 1 Z Z Tryz.underlying25 Z (by exact z6e))<|Zq (ld 1 Z Z (fP (z0a _)) z8j Z)<|z0n fun x4 h5=>Ef Z (apn 3 Z Z Z .rd h5 tu22 z2b Z Z Z) fun v6=>Zq (zm9 [(0,1),(1,1)] Tryz.underlying25 z4h (ZrE.nilS (ZrE.nilS ZrE.nil)) Z (zgf.cons Z Z z05 (zao.cast (zao.here z05) Z)<|zgf.done Z))<|Eb Z (z56 4 z4h (ZrE.nilS (ZrE.nilS ZrE.nil))) fun v7=>Es (zm7 4 Z Z (z08.cast (z08.cons z05 (z08.cons z05 z08.nil)) Z) Z (z20.cons z0q (z20.cons z0q z20.nil)) (z08.cast (z08.cons z05 (z08.cons z05 z08.nil)) Z) z4h)<|Zn<|z8n (fun (s8:(List z07)) aa ww=>∃ nv:Nat→Value,Sta (ctx 29 H [] w) [(2,.val (z06 v2 0)),(3,.val (z06 v7 0))] [(2,some (v2,.box 25 [.val (.slice none 0 0),.val (.slice none 0 0)])),(3,some (v6,.list aZ 62 x4)),(5,some ((nv 0),.list z03 73 s8)),(4,some (v7,.box 25 [.val v6,.val (nv 0)]))] aa ww) ?_ (fun s8=>?_)
 ·
  refine gSR<|Zb Z<|zxu z03 73 7<|z26 (fun (s9:(List z07) × Int) aa ww=>∃ nv:Nat→Value,Sta (ctx 29 H [] w) [(1,.val (z06 v1 0)),(2,.val (z06 v2 0)),(3,.val (z06 v7 0)),(4,.rd z0e s9.2)] [(1,some (v1,.box 25 [.rd z01 a0])),(2,some (v2,.box 25 [.val (.slice none 0 0),.val (.slice none 0 0)])),(3,some (v6,.list aZ 62 x4)),(6,some ((nv 0),.list z03 73 s9.1)),(4,some (v7,.box 25 [.val v6,.val (nv 0)]))] aa ww) (fun aa ww h=>⟨nvl [(.slice none 0 0)],Zu h [1,2,3,7,4]⟩) (fun s9=>?_)
  refine gEx fun n10=>z0s<|gSR<|Zm Z<|Zq (faB 1 Z Z Tryz.underlying25 Z (by exact zai))<|Zq (ld 1 Z Z (fP (z09 _)) zec Z)<|Zq (z3g Z .rd Z tu23)<|Zq (I.lss Z Z)<|Zj Z (fun h11=>?_) (fun h11=>?_)
  ·
   refine Zt<|z0s<|z4y<|zsc [(1,.val (z06 v1 0)),(2,.val (z06 v2 0)),(3,.val (z06 v7 0)),(4,.rd z0e s9.2)] [(1,some (v1,.box 25 [.rd z01 a0])),(2,some (v2,.box 25 [.val (.slice none 0 0),.val (.slice none 0 0)])),(3,some (v6,.list aZ 62 x4)),(6,some ((n10 0),.list z03 73 s9.1)),(4,some (v7,.box 25 [.val v6,.val (n10 0)]))] [1,2,3,6,4] (Zs Z Z Z Z<|sN) (Zi Z<|Zi Z<|Zi Z<|Zi Z<|Zi Z<|rN)<|z4l fun x12 h13=>z4l fun r14 h16=>z4l fun x17 h18=>gOr [] [⟨4,some ([], fun nv=>(v7,.box 25 [.val v6,.val (n10 0)])),[(11,some ([2], fun nv=>(v7,.box 25 [.val v6,.val (nv 2)])))]⟩,⟨1,some ([], fun nv=>(v1,.box 25 [.rd z01 a0])),[]⟩,⟨8,none,[(8,none)]⟩,⟨6,some ([], fun nv=>((n10 0),.list z03 73 s9.1)),[(9,some ([2], fun nv=>((nv 2),.list z03 73 x17)))]⟩] [pk 17 (.val (z06 v7 (0+1))) [(0,0,false)],pk 18 (.val (n10 0)) [(0,0,false)],pk 19 (.val (z06 v1 (0+1))) [(1,0,false)],pk 20 (.rd (z02 z03) a0.Ops) [(1,0,false)],pd 21 (.rd z0e s9.2),pd 22 (.rp z03 x12),pd 23 (.rd z03 x12),pd 24 (.rd z03 r14),⟨some (25,[], fun nv=>.rd (z02 z03) [r14]),[(2,0,true)],[1],[]⟩,⟨some (26,[2], fun nv=>.val (nv 2)),[(3,0,true)],[2],[]⟩,pk 27 (.val (z06 v7 (0+1))) [(0,0,false)],⟨none,[(3,1,false),(0,0,true)],[],[]⟩] mixed (oC (oRn (fun nv E=>faB 4 Z Z Tryz.underlying25 Z (by exact zai)))<|oC (oRn (fun nv E=>ldV 4 Z Z (At.cast (At.next z05 At.here) Z) sc23 Z))<|oC (oRn (fun nv E=>faB 1 Z Z Tryz.underlying25 Z (by exact zai)))<|oC (oRn (fun nv E=>ld 1 Z Z (fP (z09 _)) zec Z))<|oC (oRn (fun nv E=>mv Z))<|oC (oRn (fun nv E=>ixR Z Z h13 tu23 z5n Z))<|oC (oRn (fun nv E=>ldR Z z9n))<|oC (oCl [] [] [] h16 Tryz.func42 Z (fun nv=>(zfy _)) (fun nv=>(Y1 Z)) (fun nv E=>rN))<|oC (oFz (A1:=fun nv=>[(8,some ((nv 1),.list z03 73 [r14]))]) 8 1 (oEf 8 1 (fun nv E=>lit (R:=z03) ([r14]:List z07) 8 (pP Z Z<|pN) Z tu23 z5n Z Z)))<|oC (oEf 6 2 (fun nv E=>apn 6 Z Z Z .rd h18 tu23 z5n Z Z Z))<|oC (oRn (fun nv E=>faB 4 Z Z Tryz.underlying25 Z (by exact zai)))<|oC (oEs 4 (fun nv E=>zpj 4 Z Z (zao.cast (zao.next z05 (zao.here z05)) Z) Z z0q z05 zai))<|oN) fun n19=>z35<|z0o<|z2e<|Zm Z<|Zq (I.add Z Z)<|Za Z<|z1t 4 Z fun y20=>z1q<|z1k (fun aa ww h=>⟨nvl [(n19 2)],Zu h [1,2,3,6,4]⟩)
  ·
   refine z1s<|z0x<|z0y<|z3n (fun aa ww h=>⟨nvl [(n10 0)],Zu h [2,3,6,4]⟩)
 ·
  refine gEx fun n21=>gSR<|zyt [.rd (z02 aZ) x4,.val (n21 0)] 4 3 [] [.val (n21 0)] Z Z Z Z Z<|zyt [.rd (z02 aZ) x4,.rd (z02 z03) s8] 4 5 [.rd (z02 aZ) x4] [] Z Z Z Z Z<|zd3 (R:=z01) (⟨x4,s8⟩:z00) 4 Z (Sp.via (Sp.prod (Sp.prod Sp.unit)))<|Zq (ld 4 Z Z fH z3v Z)<|za6 aZ [.rd (z02 aZ) [],.val (.slice none 0 0)] 2 [] [.val (.slice none 0 0)] Z Z Z<|za6 z03 [.rd (z02 aZ) [],.rd (z02 z03) []] 2 [.rd (z02 aZ) []] [] Z Z Z<|zd3 (R:=z01) (⟨[],[]⟩:z00) 2 Z (Sp.via (Sp.prod (Sp.prod Sp.unit)))<|Es (sto 2 Z Z fH Z z4h)<|Zn<|z0k<|zbq [] [] Z (eC 2 Z Z z3v<|eN) (rN)
def z2l (a0:List V3) (a1:List V3) (s3:Int):Option (Sum (Sum Bool Unit) Int) :=
 if decide (s3<(a0.length:Int)) then
  idx a0 s3 >>= fun x5 =>
  idx a1 s3 >>= fun x7 =>
  if !decide (x5=x7) then
   some (.inl (.inl false))
  else
   some (.inr (w64 (s3+1)))
 else
  some (.inl (.inr ()))
def z4p (a0:List V3) (a1:List V3):Option (Bool) :=
 if (a0.length:Int) != (a1.length:Int) then
  some false
 else
  z5g (iter (z2l a0 a1) 0) fun s2 =>
  some true
theorem ze7 (a0:List V3) (a1:List V3):z1u Tryz.prog 53 [.rd (z02 aZ) a0,.rd (z02 aZ) a1] [] (z4p a0 a1) (fun r nv=>⟨[.rd z0j r],[]⟩):=by
 refine z2d 26 Tryz.func53 Z Z Z fun H w=>?_
 refine gSR<|Zb Z<|z0s<|gSR<|Zm Z<|Zq (z3g Z .rd Z tu22)<|Zm Z<|Zq (z3g Z .rd Z tu22)<|Zq (I.neq Z Z)<|Zj Z (fun h1=>?_) (fun h1=>?_)
 ·
  refine gSR<|Zb Z<|z0k<|z0w<|Ze [] [] Z
 ·
  refine Zt<|z8c (fun (s2:Unit) aa ww=>Sta (ctx 26 H [] w) [] [] aa ww) ?_ (fun s2=>?_)
  ·
   refine gSR<|Zb Z<|z26 (fun (s3:Int) aa ww=>Sta (ctx 26 H [] w) [(0,.rd (z02 aZ) a0),(1,.rd (z02 aZ) a1),(5,.rd z0e s3)] [] aa ww) (fun aa ww h=>Zu h []) (fun s3=>?_)
   refine z0s<|gSR<|Zm Z<|Zm Z<|Zq (z3g Z .rd Z tu22)<|Zq (I.lss Z Z)<|Zj Z (fun h4=>?_) (fun h4=>?_)
   ·
    refine Zt<|z0s<|z4y<|z0s<|zjf mixed (by kernel_rfl)<|Rq Z (mv Z)<|Rq Z (mv Z)<|z9a fun x5 h6=>Rq Z (ixR Z Z h6 tu22 z2b Z)<|Rq Z (ldR Z z43)<|Rq Z (mv Z)<|Rq Z (mv Z)<|z9a fun x7 h8=>Rq Z (ixR Z Z h8 tu22 z2b Z)<|Rq Z (ldR Z z43)<|Rq Z (neA Z Z eq62 Z Z gq62)<|zug<|z0o<|gIf Z Z (fun h9=>?_) (fun h9=>?_)
    ·
     refine gSR<|Zb Z<|z0k<|z42<|z0w<|z7g<|z7a<|Ze [] [] Z
    ·
     refine z2m<|z35<|z0o<|z2e<|Zm Z<|Zq (I.add Z Z)<|Za Z<|z1q<|z1k (fun aa ww h=>Zu h [])
   ·
    refine z1s<|z0x<|z0y<|z79 (fun aa ww h=>Zu h [])
  ·
   refine gSR<|Zb Z<|z0k<|Ze [] [] Z
def z6o (a0:z07) (a1:z07):Option (Bool) :=
 if a0.Author==a1.Author then
  z4p a0.Preds a1.Preds >>= fun r4 =>
  if r4 then
   if a0.Stamp==a1.Stamp then
    if decide (a0.Act=a1.Act) then
     some (decide (a0.Sig=a1.Sig)) >>= fun y9 =>
     some y9
    else
     some false
   else
    some false
  else
   some false
 else
  some false
theorem zg6 (a0:z07) (a1:z07):z1u Tryz.prog 54 [.rd z03 a0,.rd z03 a1] [] (z6o a0 a1) (fun r nv=>⟨[.rd z0j r],[]⟩):=by
 refine z2d 38 Tryz.func54 Z Z Z fun H w=>?_
 refine gSR<|Eb Z (bx 1 Z) fun v1=>Eb Z (bx 2 Z) fun v2=>Zb Z<|gSR<|Zq (faB 1 Z Z Tryz.underlying73 Z (by exact z6p))<|Zq (ld 1 Z Z (fP (z36 _)) zaj Z)<|Zq (faB 2 Z Z Tryz.underlying73 Z (by exact z6p))<|Zq (ld 2 Z Z (fP (z36 _)) zaj Z)<|Zq (W.eql Z Z)<|Zm Z<|z1b 10 Z (fun h3=>?_) (fun h3=>?_)
 ·
  refine lKn 9 Z h3<|z17 Zx Z Z (faB 1 Z Z Tryz.underlying73 Z (by exact z6e))<|z17 Zx Z Z (ld 1 Z Z (fP (z0z _)) z8j Z)<|z17 Zx Z Z (faB 2 Z Z Tryz.underlying73 Z (by exact z6e))<|z17 Zx Z Z (ld 2 Z Z (fP (z0z _)) z8j Z)<|zdb [] [] Zx Z Tryz.func53 Z Z (ze7 _ _) (Y2 Z Z) rN fun r4 n5=>Zq (pkT Z Z)<|Zm Z<|z1b 17 Z (fun h6=>?_) (fun h6=>?_)
  ·
   refine lKn 15 Z h6<|lKn 16 Z h6<|z17 Zx Z Z (faB 1 Z Z Tryz.underlying73 Z (by exact zsa))<|z17 Zx Z Z (ld 1 Z Z (fP (z4o _)) zry Z)<|z17 Zx Z Z (faB 2 Z Z Tryz.underlying73 Z (by exact zsa))<|z17 Zx Z Z (ld 2 Z Z (fP (z4o _)) zry Z)<|z17 Zx Z Z (U.eql Z Z)<|Zq (pkT Z Z)<|Zm Z<|z1b 24 Z (fun h7=>?_) (fun h7=>?_)
   ·
    refine lKn 22 Z h7<|lKn 23 Z h7<|z17 Zx Z Z (faB 1 Z Z Tryz.underlying73 Z (by exact zpv))<|z17 Zx Z Z (ld 1 Z Z (fP (z29 _)) ty69 Z)<|z17 Zx Z Z (faB 2 Z Z Tryz.underlying73 Z (by exact zpv))<|z17 Zx Z Z (ld 2 Z Z (fP (z29 _)) ty69 Z)<|z17 Zx Z Z (eqA Z Z eq69 Z Z gq69)<|Zq (pkT Z Z)<|Zm Z<|z1b 31 Z (fun h8=>?_) (fun h8=>?_)
    ·
     refine lKn 29 Z h8<|lKn 30 Z h8<|z17 Zx Z Z (faB 1 Z Z Tryz.underlying73 Z (by exact zng))<|z17 Zx Z Z (ld 1 Z Z (fP (z2j _)) ty71 Z)<|z17 Zx Z Z (faB 2 Z Z Tryz.underlying73 Z (by exact zng))<|z17 Zx Z Z (ld 2 Z Z (fP (z2j _)) ty71 Z)<|z17 Zx Z Z (eqA Z Z eq71 Z Z gq71)<|Zq (pkT Z Z)<|Za Z<|z1t 4 Z fun y9=>Zn<|z0k<|Ze [] [] Z
    ·
     refine lKn 29 Z h8<|lKn 30 Z h8<|Zk Z<|Zk Z<|Zk Z<|Zk Z<|Zk Z<|Zq (pkF Z Z)<|Zb Z<|z0k<|Ze [] [] Z
   ·
    refine lKn 22 Z h7<|lKn 23 Z h7<|Zk Z<|Zk Z<|Zk Z<|Zk Z<|Zk Z<|Zq (pkF Z Z)<|Zm Z<|Zk Z<|Zk Z<|Zk Z<|Zk Z<|Zk Z<|Zq (pkF Z Z)<|Zb Z<|z0k<|Ze [] [] Z
  ·
   refine lKn 15 Z h6<|lKn 16 Z h6<|Zk Z<|Zk Z<|Zk Z<|Zk Z<|Zk Z<|Zq (pkF Z Z)<|Zm Z<|Zk Z<|Zk Z<|Zk Z<|Zk Z<|Zk Z<|Zq (pkF Z Z)<|Zm Z<|Zk Z<|Zk Z<|Zk Z<|Zk Z<|Zk Z<|Zq (pkF Z Z)<|Zb Z<|z0k<|Ze [] [] Z
 ·
  refine lKn 9 Z h3<|Zk Z<|Zk Z<|Zk Z<|Zk Z<|Zk Z<|Zq (pkF Z Z)<|Zm Z<|Zk Z<|Zk Z<|Zk Z<|Zk Z<|Zk Z<|Zq (pkF Z Z)<|Zm Z<|Zk Z<|Zk Z<|Zk Z<|Zk Z<|Zk Z<|Zq (pkF Z Z)<|Zm Z<|Zk Z<|Zk Z<|Zk Z<|Zk Z<|Zk Z<|Zq (pkF Z Z)<|Zb Z<|z0k<|Ze [] [] Z
def zab (a0:z00) (a1:z00) (s8:Int):Option (Sum (Sum Bool Unit) Int) :=
 if decide (s8<(a0.Ops.length:Int)) then
  idx a0.Ops s8 >>= fun x10 =>
  idx a1.Ops s8 >>= fun x12 =>
  z6o x10 x12 >>= fun r14 =>
  if !r14 then
   some (.inl (.inl false))
  else
   some (.inr (w64 (s8+1)))
 else
  some (.inl (.inr ()))
def z6s (a0:z00) (a1:z00):Option (Bool) :=
 z4p a0.IDs a1.IDs >>= fun r3 =>
 if !r3 then
  some false
 else
  if (a0.Ops.length:Int) != (a1.Ops.length:Int) then
   some false
  else
   z5g (iter (zab a0 a1) 0) fun s7 =>
   some true
theorem za8 (a0:z00) (a1:z00):z1u Tryz.prog 22 [.rd z01 a0,.rd z01 a1] [] (z6s a0 a1) (fun r nv=>⟨[.rd z0j r],[]⟩):=by
 refine z2d 40 Tryz.func22 Z Z Z fun H w=>?_
 refine gSR<|Eb Z (bx 1 Z) fun v1=>Eb Z (bx 2 Z) fun v2=>Zb Z<|z0s<|gSR<|Zq (faB 1 Z Z Tryz.underlying25 Z (by exact z6e))<|Zq (ld 1 Z Z (fP (z0a _)) z8j Z)<|Zq (faB 2 Z Z Tryz.underlying25 Z (by exact z6e))<|Zq (ld 2 Z Z (fP (z0a _)) z8j Z)<|Zc [] [] Tryz.func53 Z (ze7 _ _) fun r3 n4=>Zq (zfl Z)<|Zm Z<|z1b 12 Z (fun h5=>?_) (fun h5=>?_)
 ·
  refine lKn 11 Z h5<|Zk Z<|Zk Z<|Zk Z<|Zk Z<|Zk Z<|Zk Z<|Zk Z<|Zq (pkT Z Z)<|Zn<|zir Z<|gSR<|Zb Z<|z0k<|z0w<|Ze [] [] Z
 ·
  refine lKn 11 Z h5<|z17 Zx Z Z (faB 1 Z Z Tryz.underlying25 Z (by exact zai))<|z17 Zx Z Z (ld 1 Z Z (fP (z09 _)) zec Z)<|z17 Zx Z Z (z3g Z .rd Z tu23)<|z17 Zx Z Z (faB 2 Z Z Tryz.underlying25 Z (by exact zai))<|z17 Zx Z Z (ld 2 Z Z (fP (z09 _)) zec Z)<|z17 Zx Z Z (z3g Z .rd Z tu23)<|z17 Zx Z Z (I.neq Z Z)<|Zq (pkF Z Z)<|Zj Z (fun h6=>?_) (fun h6=>?_)
  ·
   refine gKn 19 Z h6<|gSR<|Zb Z<|z0k<|z0w<|Ze [] [] Z
  ·
   refine gKn 19 Z h6<|Zt<|z8c (fun (s7:Unit) aa ww=>Sta (ctx 40 H [] w) [] [] aa ww) ?_ (fun s7=>?_)
   ·
    refine gSR<|Zb Z<|z26 (fun (s8:Int) aa ww=>Sta (ctx 40 H [] w) [(2,.val (z06 v1 0)),(3,.val (z06 v2 0)),(5,.rd z0e s8)] [(1,some (v1,.box 25 [.rd z01 a0])),(2,some (v2,.box 25 [.rd z01 a1]))] aa ww) (fun aa ww h=>Zu h [1,2]) (fun s8=>?_)
    refine z0s<|gSR<|Zm Z<|Zq (faB 1 Z Z Tryz.underlying25 Z (by exact zai))<|Zq (ld 1 Z Z (fP (z09 _)) zec Z)<|Zq (z3g Z .rd Z tu23)<|Zq (I.lss Z Z)<|Zj Z (fun h9=>?_) (fun h9=>?_)
    ·
     refine Zt<|z0s<|z4y<|z0s<|z99 [] mixed Z Z<|hTk 0 Z Z (faB 1 Z Z Tryz.underlying25 Z (by exact zai))<|hTk 1 Z Z (ld 1 Z Z (fP (z09 _)) zec Z)<|hTk 2 Z Z (mv Z)<|z64 fun x10 h11=>hTk 3 Z Z (ixR Z Z h11 tu23 z5n Z)<|hTk 4 Z Z (ldR Z z9n)<|hTk 5 Z Z (faB 2 Z Z Tryz.underlying25 Z (by exact zai))<|hTk 6 Z Z (ld 2 Z Z (fP (z09 _)) zec Z)<|hTk 7 Z Z (mv Z)<|z64 fun x12 h13=>hTk 8 Z Z (ixR Z Z h13 tu23 z5n Z)<|hTk 9 Z Z (ldR Z z9n)<|z4e 10 [] [] Z (by kernel_rfl) Z (gd0 Z) Z Tryz.func54 Z Z (zg6 _ _) (Y2 Z Z) rN Z (fun _ _=>ze8) fun r14 n15=>hTk 11 Z Z (zfl Z)<|z5a (by kernel_rfl)<|z0o<|gIf Z Z (fun h16=>?_) (fun h16=>?_)
     ·
      refine gSR<|Zb Z<|z0k<|z42<|z0w<|z7g<|z7a<|Ze [] [] Z
     ·
      refine z2m<|z35<|z0o<|z2e<|Zm Z<|Zq (I.add Z Z)<|Za Z<|z1q<|z1k (fun aa ww h=>Zu h [1,2])
    ·
     refine z1s<|z0x<|z0y<|z79 (fun aa ww h=>Zu h [])
   ·
    refine gSR<|Zb Z<|z0k<|Ze [] [] Z
def z7p (a0:z07):Option (Bool) :=
 if decide (20<(a0.Preds.length:Int)) then
  some true
 else
  if decide (100<(a0.Act.Key.length:Int)) then
   some true
  else
   some (decide (100<(a0.Act.Value.Text.length:Int))) >>= fun y4 =>
   some y4
theorem zjz (a0:z07):z1u Tryz.prog 55 [.rd z03 a0] [] (z7p a0) (fun r nv=>⟨[.rd z0j r],[]⟩):=by
 refine z2d 22 Tryz.func55 Z Z Z fun H w=>?_
 refine gSR<|Eb Z (bx 1 Z) fun v1=>Zb Z<|gSR<|Zq (faB 1 Z Z Tryz.underlying73 Z (by exact z6e))<|Zq (ld 1 Z Z (fP (z0z _)) z8j Z)<|Zq (z3g Z .rd Z tu22)<|Zq (I.gtr Z Z)<|Zm Z<|z1b 7 Z (fun h2=>?_) (fun h2=>?_)
 ·
  refine lKn 6 Z h2<|Zk Z<|Zk Z<|Zk Z<|Zk Z<|Zk Z<|Zq (pkT Z Z)<|Zm Z<|Zk Z<|Zk Z<|Zk Z<|Zk Z<|Zk Z<|Zk Z<|Zq (pkT Z Z)<|Zb Z<|z0k<|Ze [] [] Z
 ·
  refine lKn 6 Z h2<|z17 Zx Z Z (faB 1 Z Z Tryz.underlying73 Z (by exact zpv))<|z17 Zx Z Z (faB 1 Z Z Tryz.underlying69 Z (by exact ti9))<|z17 Zx Z Z (ld 1 Z Z ((fP (z29 _)).part (z6h _)) ty9 Z)<|z17 Zx Z Z (lenT Z Z tu9)<|z17 Zx Z Z (I.gtr Z Z)<|Zq (pkF Z Z)<|Zm Z<|z1b 14 Z (fun h3=>?_) (fun h3=>?_)
  ·
   refine lKn 12 Z h3<|lKn 13 Z h3<|Zk Z<|Zk Z<|Zk Z<|Zk Z<|Zk Z<|Zk Z<|Zq (pkT Z Z)<|Zb Z<|z0k<|Ze [] [] Z
  ·
   refine lKn 12 Z h3<|lKn 13 Z h3<|z17 Zx Z Z (faB 1 Z Z Tryz.underlying73 Z (by exact zpv))<|z17 Zx Z Z (faB 1 Z Z Tryz.underlying69 Z (by exact zmd))<|z17 Zx Z Z (faB 1 Z Z Tryz.underlying67 Z (by exact ti9))<|z17 Zx Z Z (ld 1 Z Z (((fP (z29 _)).part (z5q _)).part (z3u _)) ty9 Z)<|z17 Zx Z Z (lenT Z Z tu9)<|z17 Zx Z Z (I.gtr Z Z)<|Zq (pkF Z Z)<|Za Z<|z1t 2 Z fun y4=>Zn<|z0k<|Ze [] [] Z
def z52 (a0:z00) (s3:Int):Option (Sum (Sum Bool Unit) Int) :=
 if decide (s3<(a0.Ops.length:Int)) then
  if decide (s3≤70) then
   idx a0.Ops s3 >>= fun x6 =>
   z7p x6 >>= fun r8 =>
   if r8 then
    some (.inl (.inl true))
   else
    some (.inr (w64 (s3+1)))
  else
   some (.inl (.inr ()))
 else
  some (.inl (.inr ()))
def z37 (a0:z00):Option (Bool) :=
 z5g (iter (z52 a0) 0) fun s2 =>
 if decide (16<(a0.Ops.length:Int)) then
  if decide ((a0.Ops.length:Int)≤60) then
   some true
  else
   if decide (70<(a0.Ops.length:Int)) then
    some true
   else
    some (decide (70<(a0.IDs.length:Int))) >>= fun y14 =>
    some y14
 else
  if decide (70<(a0.Ops.length:Int)) then
   some true
  else
   some (decide (70<(a0.IDs.length:Int))) >>= fun y16 =>
   some y16
end
section
open Go Go.RowKit
set_option maxRecDepth 100000
theorem zf1 (a0:z00):z1u Tryz.prog 23 [.rd z01 a0] [] (z37 a0) (fun r nv=>⟨[.rd z0j r],[]⟩):=by
 refine z2d 43 Tryz.func23 Z Z Z fun H w=>?_
 refine gSR<|Eb Z (bx 1 Z) fun v1=>Zb Z<|z8c (fun (s2:Unit) aa ww=>Sta (ctx 43 H [] w) [(1,.val (z06 v1 0))] [(1,some (v1,.box 25 [.rd z01 a0]))] aa ww) ?_ (fun s2=>?_)
 ·
  refine gSR<|Zb Z<|z26 (fun (s3:Int) aa ww=>Sta (ctx 43 H [] w) [(1,.val (z06 v1 0)),(3,.rd z0e s3)] [(1,some (v1,.box 25 [.rd z01 a0]))] aa ww) (fun aa ww h=>Zu h [1]) (fun s3=>?_)
  refine z0s<|gSR<|Zm Z<|Zq (faB 1 Z Z Tryz.underlying25 Z (by exact zai))<|Zq (ld 1 Z Z (fP (z09 _)) zec Z)<|Zq (z3g Z .rd Z tu23)<|Zq (I.lss Z Z)<|Zm Z<|z1b 9 Z (fun h4=>?_) (fun h4=>?_)
  ·
   refine lKn 8 Z h4<|z17 Zx Z Z (mv Z)<|z17 Zx Z Z (I.leq Z Z)<|Zq (pkT Z Z)<|Zj Z (fun h5=>?_) (fun h5=>?_)
   ·
    refine gKn 11 Z h5<|Zt<|z0s<|z4y<|gSR<|Zq (faB 1 Z Z Tryz.underlying25 Z (by exact zai))<|Zq (ld 1 Z Z (fP (z09 _)) zec Z)<|Zm Z<|z0n fun x6 h7=>Zq (ixR Z Z h7 tu23 z5n Z)<|Zq (ldR Z z9n)<|Zc [] [] Tryz.func55 Z (zjz _) fun r8 n9=>Zj Z (fun h10=>?_) (fun h10=>?_)
    ·
     refine gSR<|Zb Z<|z0k<|z42<|z0w<|z7g<|z7a<|Ze [] [] Z
    ·
     refine z2m<|z35<|z0o<|z2e<|Zm Z<|Zq (I.add Z Z)<|Za Z<|z1q<|z1k (fun aa ww h=>Zu h [1])
   ·
    refine gKn 11 Z h5<|z1s<|z0x<|z0y<|z79 (fun aa ww h=>Zu h [1])
  ·
   refine lKn 8 Z h4<|Zk Z<|Zk Z<|Zq (pkF Z Z)<|Zn<|zgp Z<|z1s<|z0x<|z0y<|z79 (fun aa ww h=>Zu h [1])
 ·
  refine gSR<|Zq (faB 1 Z Z Tryz.underlying25 Z (by exact zai))<|Zq (ld 1 Z Z (fP (z09 _)) zec Z)<|Zq (z3g Z .rd Z tu23)<|Zq (I.gtr Z Z)<|Zm Z<|z1b 25 Z (fun h11=>?_) (fun h11=>?_)
  ·
   refine lKn 24 Z h11<|z17 Zx Z Z (faB 1 Z Z Tryz.underlying25 Z (by exact zai))<|z17 Zx Z Z (ld 1 Z Z (fP (z09 _)) zec Z)<|z17 Zx Z Z (z3g Z .rd Z tu23)<|z17 Zx Z Z (I.leq Z Z)<|Zq (pkT Z Z)<|Zm Z<|z1b 31 Z (fun h12=>?_) (fun h12=>?_)
   ·
    refine lKn 29 Z h12<|lKn 30 Z h12<|Zk Z<|Zk Z<|Zk Z<|Zk Z<|Zq (pkT Z Z)<|Zm Z<|Zk Z<|Zk Z<|Zk Z<|Zk Z<|Zq (pkT Z Z)<|Zb Z<|z0k<|Ze [] [] Z
   ·
    refine lKn 29 Z h12<|lKn 30 Z h12<|z17 Zx Z Z (faB 1 Z Z Tryz.underlying25 Z (by exact zai))<|z17 Zx Z Z (ld 1 Z Z (fP (z09 _)) zec Z)<|z17 Zx Z Z (z3g Z .rd Z tu23)<|z17 Zx Z Z (I.gtr Z Z)<|Zq (pkF Z Z)<|Zm Z<|z1b 37 Z (fun h13=>?_) (fun h13=>?_)
    ·
     refine lKn 35 Z h13<|lKn 36 Z h13<|Zk Z<|Zk Z<|Zk Z<|Zk Z<|Zq (pkT Z Z)<|Zb Z<|z0k<|Ze [] [] Z
    ·
     refine lKn 35 Z h13<|lKn 36 Z h13<|z17 Zx Z Z (faB 1 Z Z Tryz.underlying25 Z (by exact z6e))<|z17 Zx Z Z (ld 1 Z Z (fP (z0a _)) z8j Z)<|z17 Zx Z Z (z3g Z .rd Z tu22)<|z17 Zx Z Z (I.gtr Z Z)<|Zq (pkF Z Z)<|Za Z<|z1t 2 Z fun y14=>Zn<|z0k<|Ze [] [] Z
  ·
   refine lKn 24 Z h11<|Zk Z<|Zk Z<|Zk Z<|Zk Z<|Zq (pkF Z Z)<|Zm Z<|z17 Zx Z Z (faB 1 Z Z Tryz.underlying25 Z (by exact zai))<|z17 Zx Z Z (ld 1 Z Z (fP (z09 _)) zec Z)<|z17 Zx Z Z (z3g Z .rd Z tu23)<|z17 Zx Z Z (I.gtr Z Z)<|Zq (pkF Z Z)<|Zm Z<|z1b 37 Z (fun h15=>?_) (fun h15=>?_)
   ·
    refine lKn 35 Z h15<|lKn 36 Z h15<|Zk Z<|Zk Z<|Zk Z<|Zk Z<|Zq (pkT Z Z)<|Zb Z<|z0k<|Ze [] [] Z
   ·
    refine lKn 35 Z h15<|lKn 36 Z h15<|z17 Zx Z Z (faB 1 Z Z Tryz.underlying25 Z (by exact z6e))<|z17 Zx Z Z (ld 1 Z Z (fP (z0a _)) z8j Z)<|z17 Zx Z Z (z3g Z .rd Z tu22)<|z17 Zx Z Z (I.gtr Z Z)<|Zq (pkF Z Z)<|Za Z<|z1t 2 Z fun y16=>Zn<|z0k<|Ze [] [] Z
def zer (a0:z07):Option (z07) :=
 z0u a0.Preds >>= fun r3 =>
 some (⟨a0.Author,r3,a0.Stamp,a0.Act,a0.Sig⟩:z07)
theorem zey (a0:z07):z1u Tryz.prog 67 [.rd z03 a0] [] (zer a0) (fun r nv=>⟨[.rd z03 r],[]⟩):=by
 refine z2d 8 Tryz.func67 Z Z Z fun H w=>?_
 refine gSR<|Eb Z (bx 1 Z) fun v1=>Eb Z (z56 2 z5n (ZrE.rd (R:=z0p) (x:=0) (Zr.num Z) (ZrE.nilS (ZrE.rd (R:=z2c) (x:=0) (Zr.num Z) (ZrE.rd (R:=z0f) (x:=(⟨0,[],(⟨0,0,0,[]⟩:z04)⟩:z0h)) zn8 (ZrE.rd (R:=z0g) (x:=(⟨0,0⟩:z0c)) zm6 ZrE.nil Z) Z) Z)) Z)) fun v2=>Zn<|gSR<|Zq (faB 1 Z Z Tryz.underlying73 Z (by exact z6e))<|Zq (ld 1 Z Z (fP (z0z _)) z8j Z)<|Zc [] [(100,3)] Tryz.func46 Z (z1n _) fun r3 n4=>Zq (faB 1 Z Z Tryz.underlying73 Z (by exact z6e))<|lSpl (R:=z03) 1 Z (Sp.via (Sp.prod (Sp.prod (Sp.prod (Sp.prod (Sp.prod Sp.unit))))))<|Es (zpj 1 Z Z (zao.cast (zao.next z19 (zao.here z19)) Z) Z z0q z05 z6e)<|Zn<|gSR<|zyt [.rd z0p a0.Author,.rd (z02 aZ) r3,.rd z2c a0.Stamp,.rd z0f a0.Act,.rd z0g a0.Sig] 1 3 [.rd z0p a0.Author] [.rd z2c a0.Stamp,.rd z0f a0.Act,.rd z0g a0.Sig] Z Z Z Z Z<|zd3 (R:=z03) (⟨a0.Author,r3,a0.Stamp,a0.Act,a0.Sig⟩:z07) 1 Z (Sp.via (Sp.prod (Sp.prod (Sp.prod (Sp.prod (Sp.prod Sp.unit))))))<|Zq (ld 1 Z Z fH z9n Z)<|za6 aZ [.rd z0p 0,.rd (z02 aZ) [],.rd z2c 0,.rd z0f (⟨0,[],(⟨0,0,0,[]⟩:z04)⟩:z0h),.rd z0g (⟨0,0⟩:z0c)] 2 [.rd z0p 0] [.rd z2c 0,.rd z0f (⟨0,[],(⟨0,0,0,[]⟩:z04)⟩:z0h),.rd z0g (⟨0,0⟩:z0c)] Z Z Z<|zd3 (R:=z03) (⟨0,[],0,(⟨0,[],(⟨0,0,0,[]⟩:z04)⟩:z0h),(⟨0,0⟩:z0c)⟩:z07) 2 Z (Sp.via (Sp.prod (Sp.prod (Sp.prod (Sp.prod (Sp.prod Sp.unit))))))<|Es (sto 2 Z Z fH Z z5n)<|Zn<|z0k<|zbq [] [] Z (eC 2 Z Z z9n<|eN) (rN)
def zk8 (a0:z00) (a1:V3):Option (z07 × Int) :=
 z11 a0 >>= fun r4 =>
 if r4 != 0 then
  some ((⟨0,[],0,(⟨0,[],(⟨0,0,0,[]⟩:z04)⟩:z0h),(⟨0,0⟩:z0c)⟩:z07),r4)
 else
  zdy a0 a1 >>= fun r7 =>
  if !r7.2 then
   some ((⟨0,[],0,(⟨0,[],(⟨0,0,0,[]⟩:z04)⟩:z0h),(⟨0,0⟩:z0c)⟩:z07),6)
  else
   idx a0.Ops r7.1 >>= fun x10 =>
   zer x10 >>= fun r12 =>
   some (r12,0)
theorem zqh (a0:z00) (a1:V3):z1u Tryz.prog 88 [.rd z01 a0,.rd aZ a1] [zG1] (zk8 a0 a1) (fun r nv=>⟨[.rd z03 r.1,.rd z0e r.2],[(1001,some (.bool true,.glob 1 (z3j 64 z0p) z65))]⟩):=by
 refine z2d 30 Tryz.func88 Z Z Z fun H w=>?_
 refine gSR<|Eb Z (bx 1 Z) fun v1=>Eb Z (bx 2 Z) fun v2=>Eb Z (z56 3 z5n (ZrE.rd (R:=z0p) (x:=0) (Zr.num Z) (ZrE.nilS (ZrE.rd (R:=z2c) (x:=0) (Zr.num Z) (ZrE.rd (R:=z0f) (x:=(⟨0,[],(⟨0,0,0,[]⟩:z04)⟩:z0h)) zn8 (ZrE.rd (R:=z0g) (x:=(⟨0,0⟩:z0c)) zm6 ZrE.nil Z) Z) Z)) Z)) fun v3=>Zb Z<|z0s<|gSR<|Zq (ld 1 Z Z fH z3v Z)<|Zc [1001] [] Tryz.func74 Z (zar _) fun r4 n5=>Zb Z<|gSR<|Zm Z<|Zq (I.neq Z Z)<|Zj Z (fun h6=>?_) (fun h6=>?_)
 ·
  refine gSR<|Zq (zm9 [(0,1),(1,1),(2,1),(3,6),(9,2)] Tryz.underlying73 z5n (ZrE.rd (R:=z0p) (x:=0) (Zr.num Z) (ZrE.nilS (ZrE.rd (R:=z2c) (x:=0) (Zr.num Z) (ZrE.rd (R:=z0f) (x:=(⟨0,[],(⟨0,0,0,[]⟩:z04)⟩:z0h)) zn8 (ZrE.rd (R:=z0g) (x:=(⟨0,0⟩:z0c)) zm6 ZrE.nil Z) Z) Z)) Z) Z (zgf.done Z))<|Zm Z<|Es (zm7 3 Z Z (z08.cast (z08.cons z19 (z08.cons z05 (z08.cons z19 (z08.cons z19 (z08.cons z19 z08.nil))))) Z) Z (z20.cons z95 (z20.cons z0q (z20.cons z95 (z20.cons z95 (z20.cons z95 z20.nil))))) (z08.cast (z08.cons z19 (z08.cons z05 (z08.cons z19 (z08.cons z19 (z08.cons z19 z08.nil))))) Z) z5n)<|Zb Z<|z0k<|z0w<|zga aZ [.rd z0p 0,.rd (z02 aZ) [],.rd z2c 0,.rd z0f (⟨0,[],(⟨0,0,0,[]⟩:z04)⟩:z0h),.rd z0g (⟨0,0⟩:z0c)] 3 [.rd z0p 0] [.rd z2c 0,.rd z0f (⟨0,[],(⟨0,0,0,[]⟩:z04)⟩:z0h),.rd z0g (⟨0,0⟩:z0c)] Z Z Z<|zny (R:=z03) (⟨0,[],0,(⟨0,[],(⟨0,0,0,[]⟩:z04)⟩:z0h),(⟨0,0⟩:z0c)⟩:z07) 3 Z (Sp.via (Sp.prod (Sp.prod (Sp.prod (Sp.prod (Sp.prod Sp.unit))))))<|zbq [] [1001] Z (eC 3 Z Z z9n<|eE Z<|eN) (y1 Z)
 ·
  refine Zt<|gSR<|Zq (ld 1 Z Z fH z3v Z)<|Zq (ld 2 Z Z fH z43 Z)<|Zc [] [] Tryz.func65 Z (zfk _ _) fun r7 n8=>Zm Z<|Zq (ext Z Z)<|Zq (ext Z Z)<|Za Z<|Zb Z<|z0s<|gSR<|Zm Z<|Zq (zfl Z)<|Zj Z (fun h9=>?_) (fun h9=>?_)
  ·
   refine gSR<|Zq (zm9 [(0,1),(1,1),(2,1),(3,6),(9,2)] Tryz.underlying73 z5n (ZrE.rd (R:=z0p) (x:=0) (Zr.num Z) (ZrE.nilS (ZrE.rd (R:=z2c) (x:=0) (Zr.num Z) (ZrE.rd (R:=z0f) (x:=(⟨0,[],(⟨0,0,0,[]⟩:z04)⟩:z0h)) zn8 (ZrE.rd (R:=z0g) (x:=(⟨0,0⟩:z0c)) zm6 ZrE.nil Z) Z) Z)) Z) Z (zgf.done Z))<|Es (zm7 3 Z Z (z08.cast (z08.cons z19 (z08.cons z05 (z08.cons z19 (z08.cons z19 (z08.cons z19 z08.nil))))) Z) Z (z20.cons z95 (z20.cons z0q (z20.cons z95 (z20.cons z95 (z20.cons z95 z20.nil))))) (z08.cast (z08.cons z19 (z08.cons z05 (z08.cons z19 (z08.cons z19 (z08.cons z19 z08.nil))))) Z) z5n)<|Zb Z<|z0k<|z0w<|zga aZ [.rd z0p 0,.rd (z02 aZ) [],.rd z2c 0,.rd z0f (⟨0,[],(⟨0,0,0,[]⟩:z04)⟩:z0h),.rd z0g (⟨0,0⟩:z0c)] 3 [.rd z0p 0] [.rd z2c 0,.rd z0f (⟨0,[],(⟨0,0,0,[]⟩:z04)⟩:z0h),.rd z0g (⟨0,0⟩:z0c)] Z Z Z<|zny (R:=z03) (⟨0,[],0,(⟨0,[],(⟨0,0,0,[]⟩:z04)⟩:z0h),(⟨0,0⟩:z0c)⟩:z07) 3 Z (Sp.via (Sp.prod (Sp.prod (Sp.prod (Sp.prod (Sp.prod Sp.unit))))))<|zbq [] [1001] Z (eC 3 Z Z z9n<|eE Z<|eN) (y1 Z)
  ·
   refine Zt<|gSR<|Zq (faB 1 Z Z Tryz.underlying25 Z (by exact zai))<|Zq (ld 1 Z Z (fP (z09 _)) zec Z)<|Zm Z<|z0n fun x10 h11=>Zq (ixR Z Z h11 tu23 z5n Z)<|Zq (ldR Z z9n)<|Zc [] [] Tryz.func67 Z (zey _) fun r12 n13=>za6 aZ [.rd z0p 0,.rd (z02 aZ) [],.rd z2c 0,.rd z0f (⟨0,[],(⟨0,0,0,[]⟩:z04)⟩:z0h),.rd z0g (⟨0,0⟩:z0c)] 3 [.rd z0p 0] [.rd z2c 0,.rd z0f (⟨0,[],(⟨0,0,0,[]⟩:z04)⟩:z0h),.rd z0g (⟨0,0⟩:z0c)] Z Z Z<|zd3 (R:=z03) (⟨0,[],0,(⟨0,[],(⟨0,0,0,[]⟩:z04)⟩:z0h),(⟨0,0⟩:z0c)⟩:z07) 3 Z (Sp.via (Sp.prod (Sp.prod (Sp.prod (Sp.prod (Sp.prod Sp.unit))))))<|Es (sto 3 Z Z fH Z z5n)<|Zb Z<|z0k<|zbq [] [1001] Z (eC 3 Z Z z9n<|eE Z<|eN) (y1 Z)
end
section
open Go Go.Shelf
def z10s:Go.Shelf.Ren:=⟨fun | 6=>78 | 15=>117 | 14=>116 | 28=>163 | 29=>146 | 20=>155 | 21=>156 | 22=>157 | 23=>158 | 24=>159 | 25=>160 | 26=>161 | 27=>162 | 46=>196 | 47=>197 | 48=>198 | 49=>199 | 50=>200 | 57=>221 | n=>n, fun | 22=>22 | 24=>62 | 25=>115 | 3=>3 | 39=>150 | 0=>0 | 53=>65 | 55=>41 | 4=>4 | 46=>181 | 45=>180 | 50=>103 | 5=>5 | 9=>9 | 66=>209 | 70=>213 | 76=>235 | 77=>236 | n=>n, fun | n=>n⟩
theorem z13e:Go.Proofs.SlLaysF0.n6 Tryz.prog z10s:={
 mixed:=by kernel_rfl
 f6:=⟨Tryz.f78.name, by decide,Tryz.func78.trans (congrArg some (by kernel_rfl))⟩
 f14:=⟨Tryz.f116.name, by decide,Tryz.func116.trans (congrArg some (by kernel_rfl))⟩
 f15:=Tryz.func117.trans (congrArg some (by kernel_rfl))
 f20:=⟨Tryz.f155.name, by decide,Tryz.func155.trans (congrArg some (by kernel_rfl))⟩
 f21:=⟨Tryz.f156.name, by decide,Tryz.func156.trans (congrArg some (by kernel_rfl))⟩
 f22:=⟨Tryz.f157.name, by decide,Tryz.func157.trans (congrArg some (by kernel_rfl))⟩
 f23:=⟨Tryz.f158.name, by decide,Tryz.func158.trans (congrArg some (by kernel_rfl))⟩
 f24:=⟨Tryz.f159.name, by decide,Tryz.func159.trans (congrArg some (by kernel_rfl))⟩
 f25:=⟨Tryz.f160.name, by decide,Tryz.func160.trans (congrArg some (by kernel_rfl))⟩
 f26:=⟨Tryz.f161.name, by decide,Tryz.func161.trans (congrArg some (by kernel_rfl))⟩
 f27:=⟨Tryz.f162.name, by decide,Tryz.func162.trans (congrArg some (by kernel_rfl))⟩
 f28:=Tryz.func163.trans (congrArg some (by kernel_rfl))
 f29:=Tryz.func146.trans (congrArg some (by kernel_rfl))
 f46:=⟨Tryz.f196.name, by decide,Tryz.func196.trans (congrArg some (by kernel_rfl))⟩
 f47:=Tryz.func197.trans (congrArg some (by kernel_rfl))
 f48:=Tryz.func198.trans (congrArg some (by kernel_rfl))
 f49:=⟨Tryz.f199.name, by decide,Tryz.func199.trans (congrArg some (by kernel_rfl))⟩
 f50:=⟨Tryz.f200.name, by decide,Tryz.func200.trans (congrArg some (by kernel_rfl))⟩
 f57:=⟨Tryz.f221.name, by decide,Tryz.func221.trans (congrArg some (by kernel_rfl))⟩
 t0:=Tryz.underlying0
 a0:=Tryz.isAgg0
 z0:=Tryz.sizeOf0
 v0:=Tryz.zeroValue0
 t3:=Tryz.underlying3
 a3:=Tryz.isAgg3
 z3:=Tryz.sizeOf3
 v3:=Tryz.zeroValue3
 t4:=Tryz.underlying4
 a4:=Tryz.isAgg4
 z4:=Tryz.sizeOf4
 v4:=Tryz.zeroValue4
 t5:=Tryz.underlying5
 a5:=Tryz.isAgg5
 z5:=Tryz.sizeOf5
 v5:=Tryz.zeroValue5
 t9:=Tryz.underlying9
 a9:=Tryz.isAgg9
 z9:=Tryz.sizeOf9
 v9:=Tryz.zeroValue9
 t22:=Tryz.underlying22
 a22:=Tryz.isAgg22
 z22:=Tryz.sizeOf22
 v22:=Tryz.zeroValue22
 t25:=Tryz.underlying115
 a25:=Tryz.isAgg115
 z25:=Tryz.sizeOf115
 v25:=Tryz.zeroValue115
 t39:=Tryz.underlying150
 a39:=Tryz.isAgg150
 z39:=Tryz.sizeOf150
 v39:=Tryz.zeroValue150
 t45:=Tryz.underlying180
 a45:=Tryz.isAgg180
 z45:=Tryz.sizeOf180
 v45:=Tryz.zeroValue180
 t46:=Tryz.underlying181
 a46:=Tryz.isAgg181
 z46:=Tryz.sizeOf181
 v46:=Tryz.zeroValue181
 t50:=Tryz.underlying103
 a50:=Tryz.isAgg103
 z50:=Tryz.sizeOf103
 v50:=Tryz.zeroValue103
 t53:=Tryz.underlying65
 a53:=Tryz.isAgg65
 z53:=Tryz.sizeOf65
 v53:=Tryz.zeroValue65
 t55:=Tryz.underlying41
 a55:=Tryz.isAgg41
 z55:=Tryz.sizeOf41
 v55:=Tryz.zeroValue41
 t66:=Tryz.underlying209
 a66:=Tryz.isAgg209
 z66:=Tryz.sizeOf209
 v66:=Tryz.zeroValue209
 t70:=Tryz.underlying213
 a70:=Tryz.isAgg213
 z70:=Tryz.sizeOf213
 v70:=Tryz.zeroValue213
 t76:=Tryz.underlying235
 a76:=Tryz.isAgg235
 z76:=Tryz.sizeOf235
 v76:=Tryz.zeroValue235
 t77:=Tryz.underlying236
 a77:=Tryz.isAgg236
 z77:=Tryz.sizeOf236
 v77:=Tryz.zeroValue236 }
end
section
open Go Go.Shelf Go.RowKit Go.Lib Go.Sort
def z9u (x:V3):List Value:=x.toList.map fun c=>Value.int .u8 (c.toNat:Int)
theorem zgu (x:V3):(z9u x).length=32:=by simp [z9u]
theorem z14a (x y:V3) (b c:Nat) (W:World) (hx:∀ j u,(z9u x)[j]? = some u→W.cell? ⟨b,0+j,none⟩=some u) (hy:∀ j u,(z9u y)[j]? = some u→W.cell? ⟨c,0+j,none⟩=some u) :
  (callFunc 164 #[.slice (some ⟨b,0,none⟩) 32 32,.slice (some ⟨c,0,none⟩) 32 32]).run Tryz.prog W=.ok (.value (.int .i64 (Lib.compareBytes x.toList y.toList))) W:=by
 have lx:x.toList.length=32:=by simp
 have ly:y.toList.length=32:=by simp
 have e:=znc (P:=Tryz.prog) (w:=W) (p:=some ⟨b,0,none⟩) (q:=some ⟨c,0,none⟩) (c:=32) (d:=32) (x:=x.toList) (y:=y.toList) (xs:=z9u x) (ys:=z9u y)
  ⟨by rw [zgu,lx],.inr ⟨b,0,none,32, by rfl, by omega, by decide,.inr rfl,hx⟩⟩ rfl ⟨by rw [zgu,ly],.inr ⟨c,0,none,32, by rfl, by omega, by decide,.inr rfl,hy⟩⟩ rfl
 rw [lx,ly] at e
 rw [run_callFunc_extern Tryz.func164 rfl rfl (by kernel_rfl) (by kernel_rfl),e]
 rfl
set_option maxHeartbeats 1000000 in
set_option maxRecDepth 100000 in
theorem zli (x y:V3) (b c:Nat) (W:World) (hx:∀ j u,(z9u x)[j]? = some u→W.cell? ⟨b,0+j,none⟩=some u) (hy:∀ j u,(z9u y)[j]? = some u→W.cell? ⟨c,0+j,none⟩=some u) :
  Calls Tryz.prog 118 #[.slice (some ⟨b,0,none⟩) 32 32,.slice (some ⟨c,0,none⟩) 32 32] W fun e w'=>e=.returned (.int .i64 (Lib.compareBytes x.toList y.toList))∧w'=W:=by
 have e:=z14a x y b c W hx hy
 go_enter Tryz.func118,Tryz.ntmps118
 go_wp2
 go_ret
 exact ⟨rfl,rfl⟩
theorem zut {w:World} {b j:Nat} {c:Array Value} {T:TypeId} {fr:Nat × Nat} {u:Value} (h:w.heap[b]? = some (.cells c T fr)) (hj:c[j]? = some u):w.cell? ⟨b,0+j,none⟩=some u:=by
 unfold World.cell?
 rw [h]
 simpa using hj
theorem z12e (W:World) (xs ys:List Value) (n j:Nat) (u:Value) (h:xs[j]? = some u):(((W.alloc (.cells xs.toArray 62)).alloc (.cells ys.toArray 62)).drewN n).cell? ⟨W.heap.size,0+j,none⟩=some u :=
 zut (c:=xs.toArray) (T:=62) (fr:=(0,0)) (by
  show ((W.heap.push _).push _)[W.heap.size]? = _
  rw [Array.getElem?_push_lt (by simp)]; simp) (by simpa using h)
theorem z119 (W:World) (xs ys:List Value) (n j:Nat) (u:Value) (h:ys[j]? = some u):(((W.alloc (.cells xs.toArray 62)).alloc (.cells ys.toArray 62)).drewN n).cell? ⟨W.heap.size+1,0+j,none⟩=some u :=
 zut (c:=ys.toArray) (T:=62) (fr:=(0,0)) (by
  show ((W.heap.push _).push _)[W.heap.size+1]? = _
  have:W.heap.size+1=(W.heap.push (Obj.cells xs.toArray 62)).size:=by simp
  rw [this,Array.getElem?_push_size]) (by simpa using h)
set_option maxHeartbeats 1000000 in
set_option maxRecDepth 100000 in
theorem zxw (x y:V3) (W:World):Calls Tryz.prog 105 #[.agg (z9u x).toArray,.agg (z9u y).toArray] W fun e w'=>e=.returned (.int .i64 (Lib.compareBytes x.toList y.toList))∧∃ q os',w'=grow (W.drewN q) os':=by
 have c0:=z12e W (z9u x) (z9u y)
 have c1:=z119 W (z9u x) (z9u y)
 go_enter Tryz.func105,Tryz.ntmps105
 go_wp2
 go_quiet (first | (go_at_call 118; refine Calls.quiet_of_same (zli x y _ _ _ (c0 _) (c1 _))))
 go_wp2
 go_ret
 exact ⟨rfl,nq,#[.cells (z9u x).toArray 62,.cells (z9u y).toArray 62],rfl⟩
set_option maxHeartbeats 1000000 in
set_option maxRecDepth 100000 in
theorem zvd (x y:V3) (W:World):Calls Tryz.prog 79 #[.agg (z9u x).toArray,.agg (z9u y).toArray] W fun e w'=>e=.returned (.int .i64 (Lib.compareBytes x.toList y.toList))∧∃ q os',w'=grow (W.drewN q) os':=by
 have c0:=z12e W (z9u x) (z9u y)
 have c1:=z119 W (z9u x) (z9u y)
 go_enter Tryz.func79,Tryz.ntmps79
 go_wp2
 go_quiet (first | (go_at_call 118; refine Calls.quiet_of_same (zli x y _ _ _ (c0 _) (c1 _))))
 go_wp2
 go_ret
 exact ⟨rfl,nq,#[.cells (z9u x).toArray 62,.cells (z9u y).toArray 62],rfl⟩
end
section
open Go Go.RowKit Go.Sort
theorem z15d {α:Type} [Inhabited α] (enc:α→List Value) (k:Nat) (hk:∀ x,(enc x).length=k):∀ (l:List α) (t:Nat),t<l.length * k→(l.flatMap enc)[t]! = (enc l[t / k]!)[t % k]!
  | [],t,h=>by simp at h
  | x::l,t,h=>by
    have hx:=hk x
    have k0 : 0 < k := by rcases Nat.eq_zero_or_pos k with e | e; · subst e; simp at h
                          · exact e
    rw [List.flatMap_cons]
    by_cases ht:t<k
    · rw [List.getElem!_eq_getElem?_getD,List.getElem?_append_left (by omega),Nat.div_eq_of_lt ht,Nat.mod_eq_of_lt ht]
      simp
    · have hl : t - k < l.length * k := by
        simp only [List.length_cons,Nat.add_mul,Nat.one_mul] at h; omega
      have ih:=z15d enc k hk l (t - k) hl
      have e1:t / k=(t - k) / k+1:=by
        have h2:=Nat.add_div_right (t - k) k0
        rw [Nat.sub_add_cancel (by omega)] at h2; exact h2
      have e2:t % k=(t - k) % k:=by rw [Nat.mod_eq_sub_mod (by omega)]
      rw [List.getElem!_eq_getElem?_getD,List.getElem?_append_right (by omega),hx,e1,e2,← List.getElem!_eq_getElem?_getD,ih]
      simp
theorem ztg {α:Type} (enc:α→List Value) (k:Nat) (hk:∀ x,(enc x).length=k):∀ l:List α,(l.flatMap enc).length=l.length * k
  | []=>by simp
  | x::l=>by rw [List.flatMap_cons,List.length_append,hk,ztg enc k hk l,List.length_cons,Nat.add_mul,Nat.one_mul,Nat.add_comm]
theorem z118 {α:Type} [Inhabited α] (enc:α→List Value) (k:Nat) (hk:∀ x,(enc x).length=k) (l:List α):flatK enc k l.toArray=(l.flatMap enc).toArray:=by
  refine ext_get! (by rw [size_flatK]; simp only [List.size_toArray,ztg enc k hk]) fun t ht=>?_
  rw [size_flatK,List.size_toArray] at ht
  rw [get_flatK _ _ _ _ (by simpa using ht)]
  have:=z15d enc k hk l t ht
  simp at this ⊢
  rw [this]
theorem zsw {α:Type} [Inhabited α] (enc:α→List Value) (k:Nat) (hk:∀ x,(enc x).length=k) {w:World} {b:Nat} {C:Array Value} {T:TypeId} (l:List α) (hb:w.heap[b]? = some (.cells C T (0,0))) (hc:C.toList.take (l.length * k)=l.flatMap enc):HoldsK enc k w b 0 l.toArray:=by
  intro j hj
  rw [z118 enc k hk] at hj ⊢
  have hj':j<(l.flatMap enc).length:=by simpa using hj
  constructor
  · refine zut hb ?_
    have e:(C.toList.take (l.length * k))[j]? = (l.flatMap enc)[j]? := by rw [hc]
    rw [List.getElem?_take_of_lt (by rw [ztg enc k hk] at hj'; exact hj'),List.getElem?_eq_getElem hj'] at e
    rw [← Array.getElem?_toList,e]
    have:((l.flatMap enc).toArray)[j]! = (l.flatMap enc)[j]:=by rw [getElem!_pos _ j (by simpa using hj')]; simp
    rw [this]; rfl
  · simp [World.frozen?,hb]
theorem zxz {α:Type} [Inhabited α] (enc:α→List Value) (k:Nat) (w:World) (b n:Nat) (d:Array α) (os:Array Obj) {i:Nat} (hi:i<w.heap.size) (hne:i≠b):(sortWorldK enc k w b 0 n d os).heap[i]? = w.heap[i]? := by
  show (w.heap.modify b _++os)[i]? = _
  rw [Array.getElem?_append_left (by simpa using hi),Array.getElem?_modify,if_neg (fun e=>hne e.symm)]
theorem z167 {α:Type} [Inhabited α] (enc:α→List Value) (k:Nat) (w:World) {b:Nat} (n:Nat) (d:Array α) (os:Array Obj) {C:Array Value} {T:TypeId} {fr:Nat × Nat} (hb:w.heap[b]? = some (.cells C T fr)):(sortWorldK enc k w b 0 n d os).heap[b]? = some (.cells (putCells id 0 (flatK enc k d) C) T fr):=by
  have hlt:b<w.heap.size:=(Array.getElem?_eq_some_iff.1 hb).1
  show (w.heap.modify b _++os)[b]? = _
  rw [Array.getElem?_append_left (by simpa using hlt),Array.getElem?_modify,if_pos rfl,hb]
  rfl
theorem z12v {α:Type} [Inhabited α] (enc:α→List Value) (k:Nat) (hk:∀ x,(enc x).length=k) (l:List α) (C:Array Value) (hC:l.length * k≤C.size):(putCells id 0 (flatK enc k l.toArray) C).toList.take (l.length * k)=l.flatMap enc:=by
  rw [z118 enc k hk]
  apply List.ext_getElem?
  intro t
  by_cases ht:t<l.length * k
  · rw [List.getElem?_take_of_lt ht,Array.getElem?_toList]
    have hl:t<(l.flatMap enc).length:=by rw [ztg enc k hk]; exact ht
    simp only [putCells,Array.getElem?_mapIdx,Nat.sub_zero,Nat.zero_add,List.size_toArray,Nat.zero_le,true_and]
    rw [Array.getElem?_eq_getElem (by omega),Option.map_some,if_pos hl,List.getElem?_eq_getElem hl]
    have:((l.flatMap enc).toArray)[t]! = (l.flatMap enc)[t]:=by rw [getElem!_pos _ t (by simpa using hl)]; simp
    rw [this]; rfl
  · rw [List.getElem?_eq_none (by simp; omega),List.getElem?_eq_none (by rw [ztg enc k hk]; omega)]
theorem zss {S:Blk} {w:World}:∀ {l:List V3} {cs:List Value},z7q (z3j 32 u8R) S w cs l→cs=l.flatMap z9u
  | [],cs,h=>h
  | x::l,cs,h=>by
    obtain ⟨c,d,rfl,h1,h2⟩:=h
    rw [List.flatMap_cons,zss h2,zrw h1]; rfl
theorem zsn {S:Blk} {w:World}:∀ (l:List V3),z7q (z3j 32 u8R) S w (l.flatMap z9u) l
  | []=>rfl
  | x::l=>⟨z9u x,l.flatMap z9u,List.flatMap_cons,zp2 x.toList,zsn l⟩
theorem zw6 {P : Program} {f g T : Nat} (srt : List V3 → List V3) (hlen : ∀ l, (srt l).length = l.length)
    (hnone:∀ (cap:Nat) (w:World),Calls P f #[.slice none 0 cap,.func (.func g) #[] #[]] w fun e w'=>e=.returned (.tuple #[])∧w'=w)
    (hsome:∀ (blk cap:Nat) (d:Array V3) (w:World),HoldsK z9u 32 w blk 0 d→blk<w.heap.size→d.size<4611686018427387904 →
      Calls P f #[.slice (some ⟨blk,0,none⟩) d.size cap,.func (.func g) #[] #[]] w fun e w'=>e=.returned (.tuple #[])∧∃ n os,w'=sortWorldK z9u 32 w blk 0 n (srt d.toList).toArray os)
    (p0:Value) (c0:List V3):z1u P f [.val p0,.val (.func (.func g) #[] #[])] [(1,some (p0,.list (z3j 32 u8R) T c0))] (chk (c0.length≤1000000) >>= fun _=>some (srt c0))
      (fun r nv=>⟨[],[(1,some (p0,.list (z3j 32 u8R) T r))]⟩):=by
  intro r hr H vs w hvs hres
  have hb:c0.length≤1000000∧r=srt c0:=by
    unfold chk at hr
    split at hr
    · rename_i h; simp at hr; exact ⟨h,hr.symm⟩
    · simp at hr
  obtain ⟨hlen0,rfl⟩:=hb
  match vs,hvs with
  | [v0,v1],hvs =>
  obtain ⟨h0,h1,_⟩:=hvs
  have e0:v0=p0:=h0.1
  have e1:v1=.func (.func g) #[] #[]:=h1.1
  subst e0; subst e1
  have hc:=hres.conts 1 v0 _ rfl
  have only:∀ r v c (q:z5l),lr [(1,some (v0,q))] r=some (v,c)→r=1∧v=v0∧c=q:=fun r v c q h=>by
    rw [z1l] at h
    split at h
    · rename_i e; cases h; exact ⟨e.symm,rfl,rfl⟩
    · simp [lr,lk] at h
  rcases hc with ⟨rfl,rfl⟩ | ⟨b,o,k1,k2,b',cap,C,k3,rfl,k4,k5,k6,k7⟩
  · refine (hnone 0 w).mono fun e w' ⟨he,hw⟩=>?_
    subst hw
    refine ⟨fun _=>undef,[],he,trivial, fun r v c h=>?_, fun r v c r' v' c' h h' hne=>?_, fun r v c h b hb=>?_,znq.rfl'⟩
    · obtain ⟨rfl,rfl,rfl⟩:=only _ _ _ _ h
      have:srt []=[]:=List.eq_nil_of_length_eq_zero (by rw [hlen]; rfl)
      exact .inl ⟨rfl,this⟩
    · exact absurd ((only _ _ _ _ h).1.trans (only _ _ _ _ h').1.symm) hne
    · obtain ⟨rfl,rfl,rfl⟩:=only _ _ _ _ h; cases hb
  · subst k3
    simp only [z6i,Option.some.injEq] at k1
    subst k1
    have hlt:b'<w.heap.size:=(Array.getElem?_eq_some_iff.1 k2).1
    have hrow:=zss k7
    have hsz:(z3j 32 u8R).sz=32:=rfl
    rw [hsz] at k6 hrow
    have hC:c0.length * 32≤C.size:=by rw [k6]; exact Nat.mul_le_mul_right _ k4
    refine (hsome b' cap c0.toArray w (zsw z9u 32 zgu c0 k2 hrow) hlt (by simp; omega)).mono fun e w' ⟨he,n,os,hw⟩=>?_
    subst hw
    refine ⟨fun _=>undef,[],he,trivial, fun r v c h=>?_, fun r v c r' v' c' h h' hne=>?_, fun r v c h b hb=>?_,rfl,rfl,rfl,?_, fun i hi=>?_⟩
    · obtain ⟨rfl,rfl,rfl⟩:=only _ _ _ _ h
      refine .inr ⟨b',_,rfl,z167 z9u 32 w n _ os k2,b',cap,_, by rw [hlen],rfl, by rw [hlen]; exact k4,k5,?_,?_⟩
      · rw [hsz,← k6]; simp [putCells]
      · rw [hsz,z12v z9u 32 zgu (srt c0) C (by rw [hlen]; exact hC)]
        exact zsn _
    · exact absurd ((only _ _ _ _ h).1.trans (only _ _ _ _ h').1.symm) hne
    · obtain ⟨rfl,rfl,rfl⟩:=only _ _ _ _ h
      exact .inr ⟨1,_,_,rfl,hb⟩
    · show w.heap.size≤(w.heap.modify b' _++os).size
      simp
    · exact zxz z9u 32 w b' n _ os hi.1 fun e=>hi.2 ⟨1,_,_,rfl, by rw [e]; rfl⟩
end
section
open Go
section
variable {σ β α ρ τ:Type}
theorem bs (x:α) (f:α→Option β):(some x >>= f)=f x:=rfl
theorem bS (x:α) (f:α→Option β):(some x >>= f)=f x:=Eq.trans (rfl:(some x >>= f)=f x) rfl
theorem zzo (r:ρ) (k:τ→Option ρ):z5g (some (.inl r)) k=some r:=rfl
theorem zue (t:τ) (k:τ→Option ρ):z5g (some (.inr t)) k=k t:=rfl
theorem z1p {F:σ→Option (Sum β σ)} {s:σ} {b:β} (h:F s=some (.inl b)):iter F s=some b:=by rw [iter,h]; rfl
theorem z21 {F:σ→Option (Sum β σ)} {s s':σ} (h:F s=some (.inr s')):iter F s=iter F s':=by rw [iter,h]; rfl
theorem za9 {F:σ→Option (Sum β σ)} (I:σ→Prop) (μ:σ→Nat) (Q:β→Prop) (h:∀ s,I s→(∃ b,F s=some (.inl b)∧Q b)∨∃ s',F s=some (.inr s')∧I s'∧μ s'<μ s) (s:σ) (hs:I s):∃ b,iter F s=some b∧Q b:=by
 have key:∀ n s,μ s=n→I s→∃ b,iter F s=some b∧Q b:=by
  intro n
  induction n using Nat.strongRecOn with
  | _ n ih =>
   intro s hn hs
   rcases h s hs with ⟨b,h1,h2⟩ | ⟨s',h1,h2,h3⟩
   ·
    exact ⟨b,z1p h1,h2⟩
   ·
    rw [z21 h1]; exact ih (μ s') (hn ▸ h3) s' rfl h2
 exact key _ s rfl hs
theorem z7d {F:σ→Option (Sum β σ)} (n:Nat) (I:Nat→σ→Prop) (Q:β→Prop) (h1:∀ i s,i<n→I i s→∃ s',F s=some (.inr s')∧I (i+1) s') (h2:∀ s,I n s→∃ b,F s=some (.inl b)∧Q b) (s:σ) (i:Nat) (hi:i≤n) (hs:I i s):∃ b,iter F s=some b∧Q b:=by
 have key:∀ k i s,n - i=k→i≤n→I i s→∃ b,iter F s=some b∧Q b:=by
  intro k
  induction k with
  | zero =>
   intro i s hk hi hs
   have:i=n:=by omega
   subst this
   obtain ⟨b,h3,h4⟩:=h2 s hs
   exact ⟨b,z1p h3,h4⟩
  | succ k ih =>
   intro i s hk hi hs
   obtain ⟨s',h3,h4⟩:=h1 i s (by omega) hs
   rw [z21 h3]; exact ih (i+1) s' (by omega) (by omega) h4
 exact key _ i s rfl hi hs
theorem z23 {F:σ→Option (Sum β σ)} (n:Nat) (g:Nat→σ) {b:β} (h1:∀ i,i<n→F (g i)=some (.inr (g (i+1)))) (h2:F (g n)=some (.inl b)):iter F (g 0)=some b:=by
 obtain ⟨b',h3,rfl⟩:=z7d n (fun i s=>s=g i) (fun x=>x=b) (fun i s hi hs=>⟨_, by rw [hs]; exact h1 i hi,rfl⟩) (fun s hs=>⟨_, by rw [hs]; exact h2,rfl⟩) (g 0) 0 (Nat.zero_le _) rfl
 exact h3
theorem z0d {l:List α} {i:Nat} (h:i<l.length):idx l (i:Int)=some l[i]:=by simp [idx,h]
theorem z166 {l:List α} {i:Int} (h0:0≤i) (h:i.toNat<l.length):idx l i=some l[i.toNat]:=by simp [idx,h0,h]
theorem zaa {n:Nat} {v:Vector α n} {i:Nat} (h:i<n):z98 v (i:Int)=some v[i]:=by unfold z98; rw [z0d (by simpa using h)]; simp
theorem ziw {n:Nat} {v:Vector α n} {i:Int} {x:α} {j:Nat} (hj:j<n):(zkq v i x)[j]=if i.toNat=j then x else v[j]:=by
 unfold zkq; rw [Vector.getElem_setIfInBounds hj]
theorem z3r {p:Prop} [Decidable p] (h:p):chk p=some ():=by simp [chk,h]
theorem z1g {by_:Nat} {b c:List α} (h:(b.length+c.length) * by_≤140737488355328):app by_ b c=some (b++c):=by simp [app,h]
theorem zjx {by_:Nat} {x:α} {n:Nat} (h:by_ * n≤281474976710656) (h2:n≤9223372036854775807):mkn by_ x (n:Int)=some (List.replicate n x):=by
 unfold mkn; rw [if_pos ⟨by omega, by simpa using h, by omega⟩]; simp
theorem zdc {b:List α} {i j:Nat} (h:i≤j) (hj:j≤b.length):cut b (i:Int) (j:Int)=some ((b.drop i).take (j - i)):=by
 unfold cut; rw [if_pos ⟨by omega, by omega, by omega⟩]; simp
end
theorem z1a {x:Int} (h1:-9223372036854775808≤x) (h2:x≤9223372036854775807):w64 x=x:=zie h1 h2
theorem z0i {n:Nat} (h:n<9223372036854775807):w64 ((n:Int)+1)=((n+1:Nat):Int):=by rw [z1a (by omega) (by omega)]; omega
theorem zfe (a:UInt64) (n:Nat):(z9b a n).toNat=a.toNat / 2 ^ (min n 64):=by
 unfold z9b
 have h1:=UInt64.toNat_lt a
 have h2:a.toNat / 2 ^ (min n 64)≤a.toNat:=Nat.div_le_self _ _
 simp; omega
theorem zof (a:UInt64) (n:Nat):(zru a n).toNat=a.toNat * 2 ^ (min n 64) % 18446744073709551616:=by
 unfold zru; simp
theorem z1ac (a:UInt64) (k:Nat) (hk:k<64):((z9b a k &&& 1)==1)=a.toNat.testBit k:=by
 rw [Bool.eq_iff_iff,beq_iff_eq,← UInt64.toNat_inj,UInt64.toNat_and,zfe,Nat.min_eq_left (by omega)]
 have:(1:UInt64).toNat=1:=rfl
 rw [this,Nat.and_one_is_mod,Nat.testBit_eq_decide_div_mod_eq]
 simp
end
section
open Go
def z8k (n:Nat):Nat:=if n=0 then 0 else n.log2+1
theorem zg2 (n k:Nat) (h:2 ^ k≤n):z8k n=k+z8k (n / 2 ^ k):=by
 have hp:0<2 ^ k:=Nat.pow_pos (by decide)
 have h1:n / 2 ^ k≠0:=by
  have:1≤n / 2 ^ k:=(Nat.le_div_iff_mul_le hp).2 (by rw [Nat.one_mul]; exact h)
  omega
 have h2:n≠0:=by omega
 unfold z8k
 rw [if_neg h1,if_neg h2]
 have h3:n.log2=k+(n / 2 ^ k).log2:=by
  rw [Nat.log2_eq_iff h2]
  have h4:=(Nat.log2_eq_iff h1).1 rfl
  refine ⟨?_,?_⟩
  ·
   rw [Nat.pow_add,Nat.mul_comm]; exact (Nat.le_div_iff_mul_le hp).1 h4.1
  ·
   rw [Nat.add_assoc,Nat.pow_add,Nat.mul_comm]; exact (Nat.div_lt_iff_lt_mul hp).1 h4.2
 omega
theorem zkw (n k:Nat) (h:n<2 ^ k):z8k n≤k:=by
 unfold z8k; split
 ·
  omega
 ·
  rename_i h0; have:=(Nat.log2_lt h0).2 h; omega
def zzr:ByteArray:=⟨#[0,1,2,2,3,3,3,3,4,4,4,4,4,4,4,4,5,5,5,5,5,5,5,5,5,5,5,5,5,5,5,5,6,6,6,6,6,6,6,6,6,6,6,6,6,6,6,6,6,6,6,6,6,6,6,6,6,6,6,6,6,6,6,6,7,7,7,7,7,7,7,7,7,7,7,7,7,7,7,7,7,7,7,7,7,7,7,7,7,7,7,7,7,7,7,7,7,7,7,7,7,7,7,7,7,7,7,7,7,7,7,7,7,7,7,7,7,7,7,7,7,7,7,7,7,7,7,7,8,8,8,8,8,8,8,8,8,8,8,8,8,8,8,8,8,8,8,8,8,8,8,8,8,8,8,8,8,8,8,8,8,8,8,8,8,8,8,8,8,8,8,8,8,8,8,8,8,8,8,8,8,8,8,8,8,8,8,8,8,8,8,8,8,8,8,8,8,8,8,8,8,8,8,8,8,8,8,8,8,8,8,8,8,8,8,8,8,8,8,8,8,8,8,8,8,8,8,8,8,8,8,8,8,8,8,8,8,8,8,8,8,8,8,8,8,8,8,8,8,8,8,8,8,8,8,8]⟩
set_option maxRecDepth 100000 in
theorem z12z:∀ x:Fin 256,zzr.data[x.val]? = some (UInt8.ofNat (z8k x.val)):=by decide +kernel
def z3l (n:Nat):List UInt8:=if h:n=0 then [] else UInt8.ofNat n::z3l (n / 256)
termination_by n
theorem zez:z3l 0=[]:=by rw [z3l]; simp
theorem zit (n:Nat) (h:n≠0):z3l n=UInt8.ofNat n::z3l (n / 256):=by rw [z3l]; simp [h]
def z1r (n:Nat):List UInt8:=if n≤247 then [UInt8.ofNat n] else UInt8.ofNat (247+(z3l n).length)::(z3l n).reverse
theorem zqt (n:Nat):(z3l n).length=(z8k n+7) / 8:=by
 induction n using Nat.strongRecOn with
 | _ n ih =>
  by_cases h:n=0
  ·
   subst h; rw [zez]; simp [z8k]
  ·
   rw [zit n h,List.length_cons,ih (n / 256) (by omega)]
   by_cases h2:n<256
   ·
    have:n / 256=0:=by omega
    rw [this]
    have h3:z8k n≤8:=zkw n 8 h2
    have h4:1≤z8k n:=by unfold z8k; rw [if_neg h]; omega
    simp [z8k] at h3 h4 ⊢
    rw [if_neg h] at h3 h4 ⊢; omega
   ·
    have:=zg2 n 8 (by omega)
    rw [show (2:Nat) ^ 8=256 from rfl] at this
    omega
theorem zy7 (n:Nat):∀ (i:Nat),i<(z3l n).length→(z3l n)[i]? = some (UInt8.ofNat (n / 256 ^ i)):=by
 induction n using Nat.strongRecOn with
 | _ n ih =>
  intro i hi
  by_cases h:n=0
  ·
   subst h; rw [zez] at hi; simp at hi
  ·
   rw [zit n h] at hi ⊢
   cases i with
   | zero=>simp
   | succ i =>
    simp only [List.length_cons] at hi
    rw [List.getElem?_cons_succ,ih (n / 256) (by omega) i (by omega),Nat.div_div_eq_div_mul]
    congr 3
    rw [Nat.pow_succ,Nat.mul_comm]
theorem zoe (n:Nat) (h:n<18446744073709551616):(z3l n).length≤8:=by
 rw [zqt]; have:=zkw n 64 (by simpa using h); omega
theorem z15 (n:Nat) (h:n<18446744073709551616):1≤(z1r n).length∧(z1r n).length≤9:=by
 unfold z1r; have:=zoe n h; split <;> simp <;> omega
def zed (n i:Nat):List UInt8:=UInt8.ofNat (247+(z3l n).length)::(List.replicate ((z3l n).length - i) 0++((z3l n).take i).reverse)
theorem zw0 (n i:Nat) (h:i≤(z3l n).length):(zed n i).length=(z3l n).length+1:=by simp [zed]; omega
theorem ztc (n:Nat):(List.replicate ((z3l n).length+1) (0:UInt8)).set 0 (UInt8.ofNat (247+(z3l n).length))=zed n 0:=by
 simp [zed,List.replicate_succ]
theorem zu5 (n i:Nat) (h:i<(z3l n).length):(zed n i).set ((z3l n).length - i) (UInt8.ofNat (n / 2 ^ (8 * i)))=zed n (i+1):=by
 have hg:=zy7 n i h
 have he:n / 2 ^ (8 * i)=n / 256 ^ i:=by rw [Nat.pow_mul]
 rw [he]
 unfold zed
 obtain ⟨m,hm⟩:∃ m,(z3l n).length - i=m+1:=⟨(z3l n).length - i - 1, by omega⟩
 have hm2:(z3l n).length - (i+1)=m:=by omega
 rw [hm,hm2,List.set_cons_succ,List.take_succ_eq_append_getElem h,List.reverse_append,List.reverse_singleton,List.replicate_succ']
 rw [List.getElem?_eq_getElem h,Option.some.injEq] at hg
 rw [hg,List.append_assoc,List.set_append_right _ _ (by simp)]
 simp
theorem zth (n:Nat) (h:247<n):zed n (z3l n).length=z1r n:=by
 unfold zed z1r; rw [if_neg (by omega)]; simp
theorem zso (n m:Nat) (ds:List UInt8) (hm:m≠0) (h:z3l n=ds++z3l m):z3l n=(ds++[UInt8.ofNat (m % 256)])++z3l (m / 256):=by
 rw [h,zit m hm,List.append_assoc]
 have:UInt8.ofNat (m % 256)=UInt8.ofNat m:=by
  apply UInt8.toNat_inj.1; simp
 rw [this]; rfl
theorem zq5 {α} {l a b:List α} (h:l=a++b):a.length≤l.length:=by rw [h]; simp
def zig (n:Int):Nat:=if 0≤n then (2 * n).toNat else (-2 * n - 1).toNat
theorem z19l {n:Int} (h1:-9223372036854775808≤n) (h2:n≤9223372036854775807):zig n<18446744073709551616:=by unfold zig; split <;> omega
end
section
open Go Go.RowKit
def zi9 (x:z04):Prop:=(fun _=>True) x.Kind∧inI x.Num∧(fun _=>True) x.Bits∧(fun s:List UInt8=>s.length≤9223372036854775807) x.Text∧True
def zmo (x:z0h):Prop:=(fun _=>True) x.Kind∧(fun s:List UInt8=>s.length≤9223372036854775807) x.Key∧zi9 x.Value∧True
def zmn (x:z0c):Prop:=(fun _=>True) x.E∧(fun _=>True) x.S∧True
def zbu (x:z07):Prop:=(fun _=>True) x.Author∧(fun l:List V3=>(∀ x∈l,(fun v:V3=>∀ x∈v.toList,(fun _=>True) x) x)∧l.length≤9223372036854775807) x.Preds∧(fun _=>True) x.Stamp∧zmo x.Act∧zmn x.Sig∧True
def z0v (x:z00):Prop:=(fun l:List V3=>(∀ x∈l,(fun v:V3=>∀ x∈v.toList,(fun _=>True) x) x)∧l.length≤9223372036854775807) x.IDs∧(fun l:List z07=>(∀ x∈l,zbu x)∧l.length≤9223372036854775807) x.Ops∧True
end
end Go.Proofs.YtefkialcgmohkaaGreatDoor
