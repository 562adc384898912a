import Derived.Test.YthimiiphpckifaaGreatDoorUb
set_option linter.unusedSimpArgs false
set_option linter.unusedVariables false
namespace Go.Proofs.YthimiiphpckifaaGreatDoor
section
open Go Go.RowKit
set_option maxRecDepth 100000
theorem zcg (a1:Int):z1u Tryz.prog 113 [.val (.slice none 0 0),.rd z0a a1] [] (z3b a1) (fun r nv=>⟨[.val (nv 0)],[(100,some (nv 0,.list u8R 5 r))]⟩):=by
 refine z2d 27 Tryz.func113 Z Z Z fun H w=>?_
 refine gSR<|Zb Z<|z0j<|gSR<|Zm Z<|Zq (I.lss Z Z)<|Zj Z (fun h1=>?_) (fun h1=>?_)
 ·
  refine z12r
 ·
  refine Zt<|z0j<|gSR<|Zm Z<|Zm Z<|Zq (capN Z Z tu109)<|Zm Z<|zz2 u8R 11 Z<|Zq (z33 Z .rd Z tu109)<|Zq (I.sub Z Z)<|Zq (I.sub Z Z)<|Za Z<|z1z 1 Z fun y2=>Zn<|gSR<|Zm Z<|Zq (I.gtr Z Z)<|Zj Z (fun h3=>?_) (fun h3=>?_)
  ·
   refine z2b<|Zm Z<|Zm Z<|Zq (capN Z Z tu109)<|Zq (cutN Z Z tu109 ti5)<|Zm Z<|z0x fun x4 h5=>Ef Z (apZ 1 Z Z h5 tu109 tu3 ti5 (Zr.num Z) Z) fun v6=>Zm Z<|zz2 u8R 23 Z<|Zq (z33 Z .rd Z tu109)<|z0x fun x7 h8=>Ef Z (cutO 1 Z Z Z h8 tu109 ti5) fun v9=>Zb Z<|gSR<|Zm Z<|Zb Z<|z0e<|Ze [v9] [1] Z
  ·
   refine Zt<|gSR<|Zm Z<|Zb Z<|z0e<|zhn u8R 5 2<|Ze [(.slice none 0 0)] [2] Z
def z0r (a0:List (List UInt8)) (s2:Int × Int):Option (Sum Int (Int × Int)) :=
 if decide (s2.2<(a0.length:Int)) then
  idx a0 s2.2 >>= fun x4 =>
  some (w64 (s2.1+(x4.length:Int))) >>= fun y6 =>
  if decide (y6<0) then
   none
  else
   some (.inr (y6,w64 (s2.2+1)))
 else
  some (.inl s2.1)
def z0q (a0:List (List UInt8)) (s11:(List UInt8) × Int):Option (Sum ((List UInt8)) ((List UInt8) × Int)) :=
 if decide (s11.2<(a0.length:Int)) then
  idx a0 s11.2 >>= fun x14 =>
  app 1 s11.1 x14 >>= fun x16 =>
  some (.inr (x16,w64 (s11.2+1)))
 else
  some (.inl s11.1)
def z1t (a0:List (List UInt8)):Option ((List UInt8)) :=
 (iter (z0r a0) (0,0)) >>= fun s1 =>
 z3b s1 >>= fun r8 =>
 (iter (z0q a0) (r8,0)) >>= fun s10 =>
 some s10
theorem z5d (a0:List (List UInt8)):z1u Tryz.prog 84 [.rd (z02 (z02 u8R)) a0] [] (z1t a0) (fun r nv=>⟨[.val (nv 0)],[(100,some (nv 0,.list u8R 5 r))]⟩):=by
 refine z2d 36 Tryz.func84 Z Z Z fun H w=>?_
 refine gSR<|Zb Z<|gSR<|Zb Z<|z8g (fun (s1:Int) aa ww=>Sta (ctx 36 H [] w) [(0,.rd (z02 (z02 u8R)) a0),(3,.rd z0a s1)] [] aa ww) ?_ (fun s1=>?_)
 ·
  refine gSR<|Zm Z<|Zq (z33 Z .rd Z tu154)<|Zm Z<|Zn<|z1o (fun (s2:Int × Int) aa ww=>Sta (ctx 36 H [] w) [(0,.rd (z02 (z02 u8R)) a0),(3,.rd z0a s2.1),(9,.rd (z02 (z02 u8R)) a0),(10,.rd z0a (a0.length:Int)),(11,.rd z0a s2.2)] [] aa ww) (fun aa ww h=>Zu h []) (fun s2=>?_)
  refine gSR<|Zq (I.lss Z Z)<|Zn<|z0j<|gIf Z Z (fun h3=>?_) (fun h3=>?_)
  ·
   refine Zt<|z0j<|z49<|gSR<|z0x fun x4 h5=>Zq (ixR Z Z h5 tu154 zgz Z)<|Zq (ldR Z zte)<|Zb Z<|gSR<|Zm Z<|Zm Z<|Zq (z33 Z .rd Z tu109)<|Zq (I.add Z Z)<|Za Z<|z1z 3 Z fun y6=>Zn<|gSR<|Zm Z<|Zq (I.lss Z Z)<|Zj Z (fun h7=>?_) (fun h7=>?_)
   ·
    refine z12r
   ·
    refine z24<|z2w<|z0h<|z2b<|Zq (I.add Z Z)<|Zm Z<|z1x<|z1b (fun aa ww h=>Zu h [])
  ·
   refine z1m<|z0t<|z0u<|z4o (fun aa ww h=>Zu h [])
 ·
  refine gSR<|Zm Z<|Zc [] [(100,1)] Tryz.func113 Z (zcg _) fun r8 n9=>Zb Z<|z8g (fun (s10:(List UInt8)) aa ww=>∃ nv:Nat→Value,Sta (ctx 36 H [] w) [(6,.val (nv 0))] [(1,some ((nv 0),.list u8R 5 s10))] aa ww) ?_ (fun s10=>?_)
  ·
   refine gSR<|Zm Z<|Zq (z33 Z .rd Z tu154)<|Zm Z<|Zn<|z1o (fun (s11:(List UInt8) × Int) aa ww=>∃ nv:Nat→Value,Sta (ctx 36 H [] w) [(6,.val (nv 0)),(25,.rd (z02 (z02 u8R)) a0),(26,.rd z0a (a0.length:Int)),(27,.rd z0a s11.2)] [(1,some ((nv 0),.list u8R 5 s11.1))] aa ww) (fun aa ww h=>⟨nvl [(n9 0)],Zu h [1]⟩) (fun s11=>?_)
   refine gEx fun n12=>gSR<|Zq (I.lss Z Z)<|Zn<|z0j<|gIf Z Z (fun h13=>?_) (fun h13=>?_)
   ·
    refine Zt<|z0j<|z49<|gSR<|z0x fun x14 h15=>Zq (ixR Z Z h15 tu154 zgz Z)<|Zq (ldR Z zte)<|Zb Z<|z2b<|Zm Z<|Zm Z<|z0x fun x16 h17=>Ef Z (apn 1 Z Z Z .rd h17 tu109 ti5 Z Z Z) fun v18=>Za Z<|z1x<|z2w<|z0h<|z2b<|Zq (I.add Z Z)<|Zm Z<|z1x<|z1b (fun aa ww h=>⟨nvl [v18],Zu h [1]⟩)
   ·
    refine z1m<|z0t<|z0u<|z4o (fun aa ww h=>⟨nvl [(n12 0)],Zu h [1]⟩)
  ·
   refine gEx fun n19=>gSR<|Zm Z<|Zb Z<|z0e<|Ze [(n19 0)] [1] Z
def zaw (a0:List UInt8):Option ((List UInt8) × Int) :=
 if decide (10000<(a0.length:Int)) then
  some ([],4)
 else
  z5w (UInt64.ofInt (a0.length:Int)) >>= fun r2 =>
  app 1 r2 a0 >>= fun x4 =>
  some (x4,0)
theorem zgk (a0:List UInt8):z1u Tryz.prog 86 [.rd (z02 u8R) a0] [] (zaw a0) (fun r nv=>⟨[.val (nv 0),.rd z0a r.2],[(100,some (nv 0,.list u8R 5 r.1))]⟩):=by
 refine z2d 13 Tryz.func86 Z Z Z fun H w=>?_
 refine gSR<|Za Z<|Zb Z<|z0j<|gSR<|Zm Z<|Zq (z33 Z .rd Z tu109)<|Zq (I.gtr Z Z)<|Zj Z (fun h1=>?_) (fun h1=>?_)
 ·
  refine gSR<|Za Z<|Zb Z<|z0e<|z0k<|zhn u8R 5 1<|Ze [(.slice none 0 0)] [1] Z
 ·
  refine Zt<|gSR<|Zm Z<|Zq (z33 Z .rd Z tu109)<|Zq (I.toU Z tu3 tu56)<|Zc [] [(100,2)] Tryz.func85 Z (z5x _) fun r2 n3=>Zm Z<|z0x fun x4 h5=>Ef Z (apn 2 Z Z Z .rd h5 tu109 ti5 Z Z Z) fun v6=>Za Z<|Zb Z<|z0e<|Ze [v6] [2] Z
def zcq (a0:Int):Option ((List UInt8)) :=
 z5w ((zm2 (UInt64.ofInt a0) 1) ^^^ (UInt64.ofInt (shrI a0 63))) >>= fun r1 =>
 some r1
theorem zkn (a0:Int):z1u Tryz.prog 116 [.rd z0a a0] [] (zcq a0) (fun r nv=>⟨[.val (nv 0)],[(100,some (nv 0,.list u8R 5 r))]⟩):=by
 refine z2d 11 Tryz.func116 Z Z Z fun H w=>?_
 refine gSR<|Zb Z<|gSR<|Zm Z<|Zq (I.toU Z Tryz.underlying2 tu56)<|Zq (U.shl Z Z (Int.natCast_nonneg _))<|Zm Z<|Zq (I.shr Z Z (Int.natCast_nonneg _))<|Zq (I.toU Z Tryz.underlying2 tu56)<|Zq (U.xor Z Z)<|Zc [] [(100,1)] Tryz.func85 Z (z5x _) fun r1 n2=>Zb Z<|z0e<|Ze [(n2 0)] [1] Z
def z7p (a0:z08) (s14:(List UInt8) × Int):Option (Sum ((List UInt8)) ((List UInt8) × Int)) :=
 if decide (0≤s14.2) then
  chk (0≤s14.2) >>= fun u17 =>
  app 1 s14.1 [(z6e a0.Bits ((s14.2:Int).toNat)).toUInt8] >>= fun x20 =>
  some (w64 (s14.2 - 8)) >>= fun y23 =>
  some (.inr (x20,y23))
 else
  some (.inl s14.1)
def zbt (a0:z08):Option ((List UInt8) × Int) :=
 zb6 a0 >>= fun r2 =>
 if r2 != 0 then
  some ([],r2)
 else
  (if a0.Kind==1 then
   zcq a0.Num >>= fun r8 =>
   app 1 [a0.Kind] r8 >>= fun x10 =>
   some x10
  else
   if a0.Kind==2 then
    iter (z7p a0) ([a0.Kind],56)
   else
    if a0.Kind==3 then
     chk (a0.Text.length≤281474976710656) >>= fun u25 =>
     zaw a0.Text >>= fun r27 =>
     app 1 [a0.Kind] r27.1 >>= fun x29 =>
     some x29
    else
     some [a0.Kind]) >>= fun s6 =>
  some (s6,0)
theorem zjp (a0:z08):z1u Tryz.prog 87 [.rd z1k a0] [] (zbt a0) (fun r nv=>⟨[.val (nv 0),.rd z0a r.2],[(100,some (nv 0,.list u8R 5 r.1))]⟩):=by
 refine z2d 53 Tryz.func87 Z Z Z fun H w=>?_
 refine gSR<|Eb Z (bx 1 Z) fun v1=>Za Z<|Zb Z<|z0j<|gSR<|Zq (ld 1 Z Z fH zps Z)<|Zc [] [] Tryz.func115 Z (zfe _) fun r2 n3=>Zb Z<|gSR<|Zm Z<|Zq (I.neq Z Z)<|Zj Z (fun h4=>?_) (fun h4=>?_)
 ·
  refine gSR<|Zm Z<|Za Z<|Zb Z<|z0e<|z0k<|zhn u8R 5 2<|Ze [(.slice none 0 0)] [2] Z
 ·
  refine Zt<|gSR<|Zq (faB 1 Z Z Tryz.underlying80 Z (by exact ti5))<|Zq (ld 1 Z Z (fP (z2h _)) ty5 Z)<|Ef Z (lit (R:=u8R) ([a0.Kind]:List UInt8) 3 (pP Z Z<|pN) Z tu109 ti5 Z Z) fun v5=>Zb Z<|z8g (fun (s6:(List UInt8)) aa ww=>∃ nv:Nat→Value,Sta (ctx 53 H [] w) [(5,.val (nv 0))] [(3,some ((nv 0),.list u8R 5 s6))] aa ww) ?_ (fun s6=>?_)
  ·
   refine gSR<|Zq (faB 1 Z Z Tryz.underlying80 Z (by exact ti5))<|Zq (ld 1 Z Z (fP (z2h _)) ty5 Z)<|Zn<|z49<|gSR<|Zq (B.eql Z Z)<|Zb Z<|gIf Z Z (fun h7=>?_) (fun h7=>?_)
   ·
    refine gKn 20 Z h7<|z2b<|Zm Z<|Zq (faB 1 Z Z Tryz.underlying80 Z (by exact ti2))<|Zq (ld 1 Z Z (fP (z5g _)) ty2 Z)<|Zc [] [(100,4)] Tryz.func116 Z (zkn _) fun r8 n9=>z0x fun x10 h11=>Ef Z (apn 3 Z Z Z (.own 4 Z) h11 tu109 ti5 Z Z Z) fun v12=>Za Z<|z1x<|z2w<|z4o (fun aa ww h=>⟨nvl [v12],Zu h [3]⟩)
   ·
    refine gKn 20 Z h7<|gSR<|Zq (B.eql Z Z)<|Zb Z<|gIf Z Z (fun h13=>?_) (fun h13=>?_)
    ·
     refine gKn 27 Z h13<|gSR<|Zb Z<|z1o (fun (s14:(List UInt8) × Int) aa ww=>∃ nv:Nat→Value,Sta (ctx 53 H [] w) [(1,.val (z05 v1 0)),(5,.val (nv 0)),(6,.rd z0a s14.2)] [(1,some (v1,.box 80 [.rd z1k a0])),(3,some ((nv 0),.list u8R 5 s14.1))] aa ww) (fun aa ww h=>⟨nvl [v5],Zu h [1,3]⟩) (fun s14=>?_)
     refine gEx fun n15=>z0j<|gSR<|Zm Z<|Zq (I.geq Z Z)<|Zj Z (fun h16=>?_) (fun h16=>?_)
     ·
      refine Zt<|z0j<|z49<|z2b<|Zm Z<|Zq (faB 1 Z Z Tryz.underlying80 Z (by exact zne))<|Zq (ld 1 Z Z (fP (z3a _)) zmj Z)<|Zm Z<|z0x fun u17 h18=>Zq (U.shr Z Z (z61 h18))<|Zq (U.toB Z tu56 tu5)<|Ef Z (lit (R:=u8R) ([(z6e a0.Bits ((s14.2:Int).toNat)).toUInt8]:List UInt8) 5 (pP Z Z<|pN) Z tu109 ti5 Z Z) fun v19=>z0x fun x20 h21=>Ef Z (apn 3 Z Z Z (.own 5 Z) h21 tu109 ti5 Z Z Z) fun v22=>Za Z<|z1x<|z2w<|z0h<|z2b<|Zm Z<|Zq (I.sub Z Z)<|Za Z<|z1z 6 Z fun y23=>z1x<|z1b (fun aa ww h=>⟨nvl [v22],Zu h [1,3]⟩)
     ·
      refine z1m<|z0t<|z0u<|z2w<|z4o (fun aa ww h=>⟨nvl [(n15 0)],Zu h [3]⟩)
    ·
     refine gKn 27 Z h13<|gSR<|Zq (B.eql Z Z)<|Zb Z<|gIf Z Z (fun h24=>?_) (fun h24=>?_)
     ·
      refine gKn 41 Z h24<|gSR<|Zq (faB 1 Z Z Tryz.underlying80 Z (by exact ti9))<|Zq (ld 1 Z Z (fP (z2u _)) ty9 Z)<|z0x fun u25 h26=>zwp Z Z h26 tu9 tu109 tu5<|Zc [] [(100,6)] Tryz.func86 Z (zgk _) fun r27 n28=>Zm Z<|Zq (ext Z Z)<|Zq (ext Z Z)<|Za Z<|Zb Z<|z2b<|Zm Z<|Zm Z<|z0x fun x29 h30=>Ef Z (apn 3 Z Z Z (.own 6 Z) h30 tu109 ti5 Z Z Z) fun v31=>Za Z<|z1x<|z2w<|z4o (fun aa ww h=>⟨nvl [v31],Zu h [3]⟩)
     ·
      refine gKn 41 Z h24<|z24<|z2w<|z4o (fun aa ww h=>⟨nvl [v5],Zu h [3]⟩)
  ·
   refine gEx fun n32=>gSR<|Zm Z<|Za Z<|Zb Z<|z0e<|Ze [(n32 0)] [3] Z
def zc7 (a0:z06):Option ((List UInt8) × Int) :=
 zcn ({ a0 with Sig:=(⟨0,0⟩:z0w) }) >>= fun r2 =>
 if r2 != 0 then
  some ([],r2)
 else
  zio (({ a0 with Sig:=(⟨0,0⟩:z0w) }).Preds) >>= fun r5 =>
  z5w ((({ a0 with Sig:=(⟨0,0⟩:z0w) }).Author).toUInt64) >>= fun r7 =>
  z5w (({ a0 with Sig:=(⟨0,0⟩:z0w) }).Stamp) >>= fun r10 =>
  z1t [[111],r7,r5.1,r10,[(({ a0 with Sig:=(⟨0,0⟩:z0w) }).Act).Kind]] >>= fun r13 =>
  if ((({ a0 with Sig:=(⟨0,0⟩:z0w) }).Act).Kind)==1 then
   some (r13,0)
  else
   chk (((({ a0 with Sig:=(⟨0,0⟩:z0w) }).Act).Key).length≤281474976710656) >>= fun u18 =>
   zaw ((({ a0 with Sig:=(⟨0,0⟩:z0w) }).Act).Key) >>= fun r20 =>
   app 1 r13 r20.1 >>= fun x22 =>
   if ((({ a0 with Sig:=(⟨0,0⟩:z0w) }).Act).Kind)==4 then
    zbt ((({ a0 with Sig:=(⟨0,0⟩:z0w) }).Act).Value) >>= fun r26 =>
    app 1 x22 r26.1 >>= fun x28 =>
    some (x28,0)
   else
    some (x22,0)
set_option maxHeartbeats 4000000 in
theorem zhb (a0:z06):z1u Tryz.prog 62 [.rd z03 a0] [] (zc7 a0) (fun r nv=>⟨[.val (nv 0),.rd z0a r.2],[(100,some (nv 0,.list u8R 5 r.1))]⟩):=by
 refine z2d 71 Tryz.func62 Z Z Z fun H w=>?_
 refine gSR<|Eb Z (bx 1 Z) fun v1=>Za Z<|Zb Z<|gSR<|Zq (bld (x':=(⟨0,0⟩:z0w)) [(0,1),(1,1)] Tryz.underlying84 zla Z zxk Z (Bld.done Z))<|Zq (faB 1 Z Z Tryz.underlying86 Z (by exact zla))<|Es (sto 1 Z Z (fP (z1r _)) Z zla)<|Zn<|z0j<|gSR<|Zq (ld 1 Z Z fH zc0 Z)<|Zc [] [] Tryz.func82 Z (zfg _) fun r2 n3=>Zb Z<|gSR<|Zm Z<|Zq (I.neq Z Z)<|Zj Z (fun h4=>?_) (fun h4=>?_)
 ·
  refine gSR<|Zm Z<|Za Z<|Zb Z<|z0e<|z0k<|zhn u8R 5 2<|Ze [(.slice none 0 0)] [2] Z
 ·
  refine Zt<|gSR<|Zq (faB 1 Z Z Tryz.underlying86 Z (by exact z85))<|Zq (ld 1 Z Z (fP (z0v _)) z8z Z)<|Zc [] [(100,3)] Tryz.func83 Z (zp5 _) fun r5 n6=>Zm Z<|Zq (ext Z Z)<|Zq (ext Z Z)<|Za Z<|Zb Z<|z0j<|gFrz 3 [23,5] Z (fS Z<|fS Z<|fN)<|zqz [(1,.val (z05 v1 0)),(5,.rd (z02 u8R) r5.1)] [(1,some (v1,.box 86 [.rd z03 ({ a0 with Sig:=(⟨0,0⟩:z0w) })]))] [1] (sS Z<|sS Z<|sN) (y1 Z)<|z4t fun r7 h9=>z4t fun r10 h12=>z4t fun r13 h15=>gOr [] [⟨4,none,[(0,none)]⟩,⟨1,some ([], fun nv=>(v1,.box 86 [.rd z03 ({ a0 with Sig:=(⟨0,0⟩:z0w) })])),[]⟩,⟨5,none,[(4,none)]⟩,⟨6,none,[(8,none)]⟩,⟨7,none,[(12,none)]⟩,⟨8,none,[(13,none)]⟩,⟨9,none,[(14,some ([6], fun nv=>((nv 6),.list u8R 5 r13)))]⟩] [⟨some (25,[], fun nv=>.rd (z02 u8R) [111]),[(0,0,true)],[1],[]⟩,pk 26 (.val (z05 v1 (0+0))) [(1,0,false)],pk 27 (.rd z0n (({ a0 with Sig:=(⟨0,0⟩:z0w) }).Author)) [(1,0,false)],pd 28 (.rd z2z ((({ a0 with Sig:=(⟨0,0⟩:z0w) }).Author).toUInt64)),⟨some (29,[], fun nv=>.rd (z02 u8R) r7),[(2,0,true)],[2],[]⟩,pd 30 (.rd (z02 u8R) r5.1),pk 31 (.val (z05 v1 (0+2))) [(1,0,false)],pk 32 (.rd z2z (({ a0 with Sig:=(⟨0,0⟩:z0w) }).Stamp)) [(1,0,false)],⟨some (33,[], fun nv=>.rd (z02 u8R) r10),[(3,0,true)],[3],[]⟩,pk 34 (.val (z05 v1 (0+3))) [(1,0,false)],pk 35 (.val (z05 v1 (0+3+0))) [(1,0,false)],pk 36 (.rd u8R ((({ a0 with Sig:=(⟨0,0⟩:z0w) }).Act).Kind)) [(1,0,false)],⟨some (37,[], fun nv=>.rd (z02 u8R) [(({ a0 with Sig:=(⟨0,0⟩:z0w) }).Act).Kind]),[(4,0,true)],[4],[]⟩,⟨some (38,[], fun nv=>.rd (z02 (z02 u8R)) [[111],r7,r5.1,r10,[(({ a0 with Sig:=(⟨0,0⟩:z0w) }).Act).Kind]]),[(5,0,true)],[5],[]⟩,⟨some (39,[6], fun nv=>.val (nv 6)),[(6,0,true)],[6],[]⟩,⟨some (7,[6], fun nv=>.val (nv 6)),[],[],[]⟩] z2o (oC (oFz (A1:=fun nv=>[(4,some ((nv 1),.list u8R 5 [111]))]) 4 1 (oEf 4 1 (fun nv E=>lit (R:=u8R) ([111]:List UInt8) 4 (pP Z Z<|pN) Z tu109 ti5 Z Z)))<|oC (oRn (fun nv E=>faB 1 Z Z Tryz.underlying86 Z (by exact z4x)))<|oC (oRn (fun nv E=>ld 1 Z Z (fP (z20 _)) z78 Z))<|oC (oRn (fun nv E=>W.toU Z tu78 tu56))<|oC (oFz (A1:=fun nv=>[(5,some ((nv 2),.list u8R 5 r7))]) 5 2 (oCl [2] [] [(100,5)] h9 Tryz.func85 Z (fun nv=>(z5x _)) (fun nv=>(Y1 Z)) (fun nv E=>rN)))<|oC (oRn (fun nv E=>mv Z))<|oC (oRn (fun nv E=>faB 1 Z Z Tryz.underlying86 Z (by exact zne)))<|oC (oRn (fun nv E=>ld 1 Z Z (fP (z31 _)) zmj Z))<|oC (oFz (A1:=fun nv=>[(6,some ((nv 3),.list u8R 5 r10))]) 6 3 (oCl [3] [] [(100,6)] h12 Tryz.func85 Z (fun nv=>(z5x _)) (fun nv=>(Y1 Z)) (fun nv E=>rN)))<|oC (oRn (fun nv E=>faB 1 Z Z Tryz.underlying86 Z (by exact zkb)))<|oC (oRn (fun nv E=>faB 1 Z Z Tryz.underlying82 Z (by exact ti5)))<|oC (oRn (fun nv E=>ld 1 Z Z ((fP (z1d _)).part (z3l _)) ty5 Z))<|oC (oFz (A1:=fun nv=>[(7,some ((nv 4),.list u8R 5 [(({ a0 with Sig:=(⟨0,0⟩:z0w) }).Act).Kind]))]) 7 4 (oEf 7 4 (fun nv E=>lit (R:=u8R) ([(({ a0 with Sig:=(⟨0,0⟩:z0w) }).Act).Kind]:List UInt8) 7 (pP Z Z<|pN) Z tu109 ti5 Z Z)))<|oC (oFz (A1:=fun nv=>[(8,some ((nv 5),.list (z02 u8R) 109 [[111],r7,r5.1,r10,[(({ a0 with Sig:=(⟨0,0⟩:z0w) }).Act).Kind]]))]) 8 5 (oEf 8 5 (fun nv E=>lit (R:=(z02 u8R)) ([[111],r7,r5.1,r10,[(({ a0 with Sig:=(⟨0,0⟩:z0w) }).Act).Kind]]:List (List UInt8)) 8 (pP Z Z<|pP Z Z<|pP Z Z<|pP Z Z<|pP Z Z<|pN) Z tu154 zgz Z Z)))<|oC (oCl [6] [] [(100,9)] h15 Tryz.func84 Z (fun nv=>(z5d _)) (fun nv=>(Y1 Z)) (fun nv E=>rN))<|oC (oRn (fun nv E=>asg Z))<|oN) fun n16=>z0h<|z0j<|gSR<|Zq (faB 1 Z Z Tryz.underlying86 Z (by exact zkb))<|Zq (faB 1 Z Z Tryz.underlying82 Z (by exact ti5))<|Zq (ld 1 Z Z ((fP (z1d _)).part (z3l _)) ty5 Z)<|Zq (B.eql Z Z)<|Zj Z (fun h17=>?_) (fun h17=>?_)
  ·
   refine gSR<|Zm Z<|Za Z<|Zb Z<|z0e<|z0k<|Ze [(n16 6)] [9] Z
  ·
   refine Zt<|gSR<|Zq (faB 1 Z Z Tryz.underlying86 Z (by exact zkb))<|Zq (faB 1 Z Z Tryz.underlying82 Z (by exact ti9))<|Zq (ld 1 Z Z ((fP (z1d _)).part (z4s _)) ty9 Z)<|z0x fun u18 h19=>zwp Z Z h19 tu9 tu109 tu5<|Zc [] [(100,10)] Tryz.func86 Z (zgk _) fun r20 n21=>Zm Z<|Zq (ext Z Z)<|Zq (ext Z Z)<|Za Z<|Zb Z<|gSR<|Zm Z<|Zm Z<|z0x fun x22 h23=>Ef Z (apn 9 Z Z Z (.own 10 Z) h23 tu109 ti5 Z Z Z) fun v24=>Zb Z<|z0j<|gSR<|Zq (faB 1 Z Z Tryz.underlying86 Z (by exact zkb))<|Zq (faB 1 Z Z Tryz.underlying82 Z (by exact ti5))<|Zq (ld 1 Z Z ((fP (z1d _)).part (z3l _)) ty5 Z)<|Zq (B.eql Z Z)<|Zj Z (fun h25=>?_) (fun h25=>?_)
   ·
    refine gSR<|Zq (faB 1 Z Z Tryz.underlying86 Z (by exact zkb))<|Zq (faB 1 Z Z Tryz.underlying82 Z (by exact zhm))<|Zq (ld 1 Z Z ((fP (z1d _)).part (z4h _)) zps Z)<|Zc [] [(100,11)] Tryz.func87 Z (zjp _) fun r26 n27=>Zm Z<|Zq (ext Z Z)<|Zq (ext Z Z)<|Za Z<|Zb Z<|z2b<|Zm Z<|Zm Z<|z0x fun x28 h29=>Ef Z (apn 9 Z Z Z (.own 11 Z) h29 tu109 ti5 Z Z Z) fun v30=>Zb Z<|gSR<|Zm Z<|Za Z<|Zb Z<|z0e<|Ze [v30] [9] Z
   ·
    refine Zt<|gSR<|Zm Z<|Za Z<|Zb Z<|z0e<|Ze [v24] [9] Z
def zc9 (a0:z06):Option ((List UInt8) × Int) :=
 zcn a0 >>= fun r2 =>
 if r2 != 0 then
  some ([],r2)
 else
  zc7 a0 >>= fun r5 =>
  z5w a0.Sig.E.toUInt64 >>= fun r7 =>
  z5w a0.Sig.S.toUInt64 >>= fun r9 =>
  z1t [r5.1,r7,r9] >>= fun r12 =>
  some (r12,0)
theorem zo8 (a0:z06):z1u Tryz.prog 93 [.rd z03 a0] [] (zc9 a0) (fun r nv=>⟨[.val (nv 0),.rd z0a r.2],[(100,some (nv 0,.list u8R 5 r.1))]⟩):=by
 refine z2d 30 Tryz.func93 Z Z Z fun H w=>?_
 refine gSR<|Eb Z (bx 1 Z) fun v1=>Za Z<|Zb Z<|z0j<|gSR<|Zq (ld 1 Z Z fH zc0 Z)<|Zc [] [] Tryz.func82 Z (zfg _) fun r2 n3=>Zb Z<|gSR<|Zm Z<|Zq (I.neq Z Z)<|Zj Z (fun h4=>?_) (fun h4=>?_)
 ·
  refine gSR<|Zm Z<|Za Z<|Zb Z<|z0e<|z0k<|zhn u8R 5 2<|Ze [(.slice none 0 0)] [2] Z
 ·
  refine Zt<|gSR<|Zq (ld 1 Z Z fH zc0 Z)<|Zc [] [(100,3)] Tryz.func62 Z (zhb _) fun r5 n6=>Zm Z<|Zq (ext Z Z)<|Zq (ext Z Z)<|Za Z<|Zb Z<|z0j<|z5a [19,34,37,40] z2o Z Z<|hTk 0 Z Z (mv Z)<|hTk 1 Z Z (faB 1 Z Z Tryz.underlying86 Z (by exact zla))<|hTk 2 Z Z (faB 1 Z Z Tryz.underlying84 Z (by exact z4x))<|hTk 3 Z Z (ld 1 Z Z ((fP (z1r _)).part (z4r _)) z78 Z)<|hTk 4 Z Z (W.toU Z tu78 tu56)<|hTk 6 Z Z (faB 1 Z Z Tryz.underlying86 Z (by exact zla))<|hTk 7 Z Z (faB 1 Z Z Tryz.underlying84 Z (by exact z4x))<|hTk 8 Z Z (ld 1 Z Z ((fP (z1r _)).part (z6j _)) z78 Z)<|hTk 9 Z Z (W.toU Z tu78 tu56)<|z2s 5 [] [(100,19)] Z (by kernel_rfl) Z (gd0 Z) Z Tryz.func85 Z Z (z5x _) (Y1 Z) rN Z (fun _ _=>z2p) fun r7 n8=>z2s 10 [] [(100,34)] Z (by kernel_rfl) Z (gd0 Z) Z Tryz.func85 Z Z (z5x _) (Y1 Z) rN Z (fun _ _=>z2p) fun r9 n10=>hFrz 3 [15,5,17] Z (fS Z<|fS Z<|fS Z<|fN)<|hFrz 19 [22] Z (fS Z<|fN)<|hFrz 34 [27] Z (fS Z<|fN)<|Zo 11 Z Z Z (lit (R:=(z02 u8R)) ([r5.1,r7,r9]:List (List UInt8)) 37 (pP Z Z<|pP Z Z<|pP Z Z<|pN) Z tu154 zgz Z Z) fun v11=>hFrz 37 [28] Z (fS Z<|fN)<|z2s 12 [] [(100,40)] Z (by kernel_rfl) Z (gd0 Z) Z Tryz.func84 Z Z (z5d _) (Y1 Z) rN Z (fun _ _=>z2p) fun r12 n13=>Zf 13 Z Z z2p (asg Z)<|hTk 14 Z Z (asg Z)<|z3c (by kernel_rfl)<|z0h<|z0e<|Ze [(n13 0)] [40] Z
def zbc (a0:List UInt8):Option (Bool) :=
 some (decide (10000<(a0.length:Int))) >>= fun y1 =>
 some y1
theorem zgu (a0:List UInt8):z1u Tryz.prog 153 [.rd (z02 u8R) a0] [] (zbc a0) (fun r nv=>⟨[.rd z0m r],[]⟩):=by
 refine z2d 6 Tryz.func153 Z Z Z fun H w=>?_
 refine gSR<|Zb Z<|gSR<|Zm Z<|Zq (z33 Z .rd Z tu109)<|Zq (I.gtr Z Z)<|Za Z<|z1z 2 Z fun y1=>Zn<|z0e<|Ze [] [] Z
def zbu  : Option (z1y) :=
 some (⟨(#v[1779033703,3144134277,1013904242,2773480762,1359893119,2600822924,528734635,1541459225]:Vector UInt32 8),[],0⟩:z1y)
theorem zk1  : z1u Tryz.prog 154 [] [] (zbu) (fun r nv=>⟨[.rd z2a r],[]⟩):=by
 refine z2d 3 Tryz.func154 Z Z Z fun H w=>?_
 refine gSR<|Eb Z (z8e 1 zke (ZrE.rd (R:=(z34 8 z0n)) (x:=(Vector.replicate 8 0)) znz (ZrE.nilS (ZrE.rd (R:=z0a) (x:=0) (Zr.num Z) ZrE.nil Z)) Z)) fun v1=>Zn<|gSR<|Zq (litA (R:=z0n) [1779033703,3144134277,1013904242,2773480762,1359893119,2600822924,528734635,1541459225] (#v[1779033703,3144134277,1013904242,2773480762,1359893119,2600822924,528734635,1541459225]:Vector UInt32 8) (pP Z Z<|pP Z Z<|pP Z Z<|pP Z Z<|pP Z Z<|pP Z Z<|pP Z Z<|pP Z Z<|pN) Z tu176 zev Z z4x)<|Zq (zt2 [(0,8),(8,1),(9,1)] Tryz.underlying193 zke (ZrE.rd (R:=(z34 8 z0n)) (x:=(Vector.replicate 8 0)) znz (ZrE.nilS (ZrE.rd (R:=z0a) (x:=0) (Zr.num Z) ZrE.nil Z)) Z) Z (zfj.cons Z Z z6p (z7c.cast (z7c.here z6p) Z)<|zfj.done Z))<|Es (zta 1 Z Z (z0o.cast (z0o.cons z6p (z0o.cons z07 (z0o.cons z6p z0o.nil))) Z) Z (z6f.cons zu9 (z6f.cons z25 (z6f.cons zu9 z6f.nil))) (z0o.cast (z0o.cons z6p (z0o.cons z07 (z0o.cons z6p z0o.nil))) Z) zke)<|Zn<|z0e<|ePnl u8R [.rd (z34 8 z0n) (#v[1779033703,3144134277,1013904242,2773480762,1359893119,2600822924,528734635,1541459225]:Vector UInt32 8),.rd (z02 u8R) [],.rd z0a 0] 1 [.rd (z34 8 z0n) (#v[1779033703,3144134277,1013904242,2773480762,1359893119,2600822924,528734635,1541459225]:Vector UInt32 8)] [.rd z0a 0] Z Z Z<|eJoi (R:=z2a) (⟨(#v[1779033703,3144134277,1013904242,2773480762,1359893119,2600822924,528734635,1541459225]:Vector UInt32 8),[],0⟩:z1y) 1 Z (Sp.via (Sp.prod (Sp.prod (Sp.prod Sp.unit))))<|zd6 [] [] Z (eC 1 Z Z zmq<|eN) (rN)
def z1f (a0:UInt32) (a1:Int):Option (UInt32) :=
 some ((UInt64.ofInt a1) &&& 31) >>= fun y1 =>
 some ((zma a0 y1.toNat) ||| (z44 a0 ((32 - y1).toNat))) >>= fun y2 =>
 some y2
theorem z1v (a0:UInt32) (a1:Int):z1u Tryz.prog 199 [.rd z0n a0,.rd z0a a1] [] (z1f a0 a1) (fun r nv=>⟨[.rd z0n r],[]⟩):=by
 refine z2d 17 Tryz.func199 Z Z Z fun H w=>?_
 refine gSR<|Zb Z<|gSR<|Zm Z<|Zq (I.toU Z tu3 Tryz.underlying76)<|Zq (U.and Z Z)<|Za Z<|z1z 5 Z fun y1=>Zn<|gSR<|Zm Z<|Zm Z<|Zq (W.shl Z Z (Int.natCast_nonneg _))<|Zm Z<|Zm Z<|Zq (U.sub Z Z)<|Zq (W.shr Z Z (Int.natCast_nonneg _))<|Zq (W.or Z Z)<|Za Z<|z1z 4 Z fun y2=>Zn<|z0e<|Ze [] [] Z
def z5i (x3:List UInt8) (s5:(Vector UInt32 64) × Int):Option (Sum ((Vector UInt32 64)) ((Vector UInt32 64) × Int)) :=
 if decide (s5.2<(x3.length:Int)) then
  idx x3 s5.2 >>= fun x7 =>
  z6g s5.1 (w64 (Int.tdiv s5.2 4)) >>= fun x9 =>
  z6g s5.1 (w64 (Int.tdiv s5.2 4)) >>= fun x11 =>
  some (.inr (zg7 s5.1 (w64 (Int.tdiv s5.2 4)) ((zma x9 8) ||| x7.toUInt32),w64 (s5.2+1)))
 else
  some (.inl s5.1)
def z4b (s14:(Vector UInt32 64) × Int):Option (Sum ((Vector UInt32 64)) ((Vector UInt32 64) × Int)) :=
 if decide (s14.2<64) then
  z6g s14.1 (w64 (s14.2 - 15)) >>= fun x16 =>
  z6g s14.1 (w64 (s14.2 - 2)) >>= fun x18 =>
  z1f x16 (-7) >>= fun r20 =>
  z1f x16 (-18) >>= fun r22 =>
  some ((r20 ^^^ r22) ^^^ (z44 x16 3)) >>= fun y24 =>
  z1f x18 (-17) >>= fun r25 =>
  z1f x18 (-19) >>= fun r27 =>
  some ((r25 ^^^ r27) ^^^ (z44 x18 10)) >>= fun y29 =>
  z6g s14.1 (w64 (s14.2 - 16)) >>= fun x30 =>
  z6g s14.1 (w64 (s14.2 - 7)) >>= fun x32 =>
  z6g s14.1 s14.2 >>= fun x34 =>
  some (w64 (s14.2+1)) >>= fun y37 =>
  some (.inr (zg7 s14.1 s14.2 (((x30+x32)+y24)+y29),y37))
 else
  some (.inl s14.1)
def zb9 (a0:List UInt8):Option ((Vector UInt32 64)) :=
 (cut a0 0 64 >>= fun x3 =>
 iter (z5i x3) ((Vector.replicate 64 0),0)) >>= fun s2 =>
 (iter (z4b) (s2,16)) >>= fun s13 =>
 some s13
set_option maxHeartbeats 4000000 in
theorem zh6 (a0:List UInt8):z1u Tryz.prog 195 [.rd (z02 u8R) a0] [] (zb9 a0) (fun r nv=>⟨[.rd (z34 64 z0n) r],[]⟩):=by
 refine z2d 74 Tryz.func195 Z Z Z fun H w=>?_
 refine gSR<|Eb Z (z8e 1 zvq (.zr (R:=(z34 64 z0n)) (x:=(Vector.replicate 64 0)) z11e)) fun v1=>Zn<|z8g (fun (s2:(Vector UInt32 64)) aa ww=>Sta (ctx 74 H [] w) [(2,.val (z05 v1 0))] [(1,some (v1,.box 229 [.rd (z34 64 z0n) s2]))] aa ww) ?_ (fun s2=>?_)
 ·
  refine gSR<|Zm Z<|z0x fun x3 h4=>Zq (zzt Z .no (.to Z) h4 tu109 ti5)<|Zq (z33 Z .rd Z tu109)<|Zm Z<|Zn<|z1o (fun (s5:(Vector UInt32 64) × Int) aa ww=>Sta (ctx 74 H [] w) [(2,.val (z05 v1 0)),(11,.rd (z02 u8R) x3),(12,.rd z0a (x3.length:Int)),(13,.rd z0a s5.2)] [(1,some (v1,.box 229 [.rd (z34 64 z0n) s5.1]))] aa ww) (fun aa ww h=>Zu h [1]) (fun s5=>?_)
  refine gSR<|Zq (I.lss Z Z)<|Zn<|z0j<|gIf Z Z (fun h6=>?_) (fun h6=>?_)
  ·
   refine Zt<|z0j<|z49<|gSR<|Zm Z<|z0x fun x7 h8=>Zq (ixR Z Z h8 tu109 ti5 Z)<|Zq (ldR Z ty5)<|Za Z<|Zb Z<|z2b<|Zm Z<|Zq (I.quo Z Z (by decide))<|Zm Z<|Zq (I.quo Z Z (by decide))<|z0x fun x9 h10=>Zq (ixB 1 Z Z Z h10 Tryz.underlying229 z4x)<|Zq (ld 1 Z Z (fP (.el h10)) z78 Z)<|Zq (W.shl Z Z (Int.natCast_nonneg _))<|Zm Z<|Zq (B.toW Z tu5 tu78)<|Zq (W.or Z Z)<|z0x fun x11 h12=>Zq (ixB 1 Z Z Z h12 Tryz.underlying229 z4x)<|Es (sto 1 Z Z (fP (.el h12)) Z z4x)<|z1x<|z2w<|z0h<|z2b<|Zq (I.add Z Z)<|Zm Z<|z1x<|z1b (fun aa ww h=>Zu h [1])
  ·
   refine z1m<|z0t<|z0u<|z4o (fun aa ww h=>Zu h [1])
 ·
  refine z8g (fun (s13:(Vector UInt32 64)) aa ww=>Sta (ctx 74 H [] w) [(2,.val (z05 v1 0))] [(1,some (v1,.box 229 [.rd (z34 64 z0n) s13]))] aa ww) ?_ (fun s13=>?_)
  ·
   refine gSR<|Zb Z<|z1o (fun (s14:(Vector UInt32 64) × Int) aa ww=>Sta (ctx 74 H [] w) [(2,.val (z05 v1 0)),(5,.rd z0a s14.2)] [(1,some (v1,.box 229 [.rd (z34 64 z0n) s14.1]))] aa ww) (fun aa ww h=>Zu h [1]) (fun s14=>?_)
   refine z0j<|gSR<|Zm Z<|Zq (I.lss Z Z)<|Zj Z (fun h15=>?_) (fun h15=>?_)
   ·
    refine Zt<|z0j<|z49<|z0j<|zhs z2o (by kernel_rfl)<|Rq Z (mv Z)<|Rq Z (I.sub Z Z)<|z7a fun x16 h17=>Rq Z (ixB 1 Z Z Z h17 Tryz.underlying229 z4x)<|Rq Z (ld 1 Z Z (fP (.el h17)) z78 Z)<|Rq Z (mv Z)<|Rq Z (I.sub Z Z)<|z7a fun x18 h19=>Rq Z (ixB 1 Z Z Z h19 Tryz.underlying229 z4x)<|Rq Z (ld 1 Z Z (fP (.el h19)) z78 Z)<|Rq Z (asg Z)<|Rq Z (asg Z)<|zs4<|z0h<|gSR<|Zm Z<|Zc [] [] Tryz.func199 Z (z1v _ _) fun r20 n21=>Zm Z<|Zc [] [] Tryz.func199 Z (z1v _ _) fun r22 n23=>Zq (W.xor Z Z)<|Zm Z<|Zq (W.shr Z Z (Int.natCast_nonneg _))<|Zq (W.xor Z Z)<|Za Z<|z1z 8 Z fun y24=>Zn<|gSR<|Zm Z<|Zc [] [] Tryz.func199 Z (z1v _ _) fun r25 n26=>Zm Z<|Zc [] [] Tryz.func199 Z (z1v _ _) fun r27 n28=>Zq (W.xor Z Z)<|Zm Z<|Zq (W.shr Z Z (Int.natCast_nonneg _))<|Zq (W.xor Z Z)<|Za Z<|z1z 9 Z fun y29=>Zn<|zqz [(2,.val (z05 v1 0)),(5,.rd z0a s14.2),(8,.rd z0n y24),(9,.rd z0n y29)] [(1,some (v1,.box 229 [.rd (z34 64 z0n) s14.1]))] [1] (Zs Z Z Z Z<|sN) (y1 Z)<|z4t fun x30 h31=>z4t fun x32 h33=>z4t fun x34 h35=>gOr [] [⟨1,some ([], fun nv=>(v1,.box 229 [.rd (z34 64 z0n) s14.1])),[(15,some ([], fun nv=>(v1,.box 229 [.rd (z34 64 z0n) (zg7 s14.1 s14.2 (((x30+x32)+y24)+y29))])))]⟩] [pd 58 (.rd z0a s14.2),pd 59 (.rd z0a s14.2),pd 60 (.rd z0a (w64 (s14.2 - 16))),pk 61 (.val (z05 v1 (0+(w64 (s14.2 - 16):Int).toNat * 1))) [(0,0,false)],pk 62 (.rd z0n x30) [(0,0,false)],pd 63 (.rd z0a s14.2),pd 64 (.rd z0a (w64 (s14.2 - 7))),pk 65 (.val (z05 v1 (0+(w64 (s14.2 - 7):Int).toNat * 1))) [(0,0,false)],pk 66 (.rd z0n x32) [(0,0,false)],pd 67 (.rd z0n (x30+x32)),pd 68 (.rd z0n y24),pd 69 (.rd z0n ((x30+x32)+y24)),pd 70 (.rd z0n y29),pd 71 (.rd z0n (((x30+x32)+y24)+y29)),pk 72 (.val (z05 v1 (0+(s14.2:Int).toNat * 1))) [(0,0,false)],⟨none,[(0,0,true)],[],[]⟩] z2o (oC (oRn (fun nv E=>mv Z))<|oC (oRn (fun nv E=>mv Z))<|oC (oRn (fun nv E=>I.sub Z Z))<|oC (oRn (fun nv E=>ixB 1 Z Z Z h31 Tryz.underlying229 z4x))<|oC (oRn (fun nv E=>ld 1 Z Z (fP (.el h31)) z78 Z))<|oC (oRn (fun nv E=>mv Z))<|oC (oRn (fun nv E=>I.sub Z Z))<|oC (oRn (fun nv E=>ixB 1 Z Z Z h33 Tryz.underlying229 z4x))<|oC (oRn (fun nv E=>ld 1 Z Z (fP (.el h33)) z78 Z))<|oC (oRn (fun nv E=>W.add Z Z))<|oC (oRn (fun nv E=>mv Z))<|oC (oRn (fun nv E=>W.add Z Z))<|oC (oRn (fun nv E=>mv Z))<|oC (oRn (fun nv E=>W.add Z Z))<|oC (oRn (fun nv E=>ixB 1 Z Z Z h35 Tryz.underlying229 z4x))<|oC (oEs 1 (fun nv E=>sto 1 Z Z (fP (.el h35)) Z z4x))<|oN) fun n36=>z2w<|z0h<|z2b<|Zm Z<|Zq (I.add Z Z)<|Za Z<|z1z 5 Z fun y37=>z1x<|z1b (fun aa ww h=>Zu h [1])
   ·
    refine z1m<|z0t<|z0u<|z4o (fun aa ww h=>Zu h [1])
  ·
   refine gSR<|Zq (ld 1 Z Z fH z126 Z)<|Es (sto 1 Z Z fH Z zvq)<|Zn<|z0e<|zd6 [] [] Z (eC 1 Z Z z126<|eN) (rN)
def zch (a0:UInt32) (a1:Int) (a2:Int) (a3:Int):Option (UInt32) :=
 z1f a0 (w64 (0 - a1)) >>= fun r1 =>
 z1f a0 (w64 (0 - a2)) >>= fun r3 =>
 z1f a0 (w64 (0 - a3)) >>= fun r5 =>
 some ((r1 ^^^ r3) ^^^ r5) >>= fun y7 =>
 some y7
theorem zgt (a0:UInt32) (a1:Int) (a2:Int) (a3:Int):z1u Tryz.prog 196 [.rd z0n a0,.rd z0a a1,.rd z0a a2,.rd z0a a3] [] (zch a0 a1 a2 a3) (fun r nv=>⟨[.rd z0n r],[]⟩):=by
 refine z2d 23 Tryz.func196 Z Z Z fun H w=>?_
 refine gSR<|Zb Z<|gSR<|Zm Z<|Zm Z<|Zq (I.neg Z)<|Zc [] [] Tryz.func199 Z (z1v _ _) fun r1 n2=>Zm Z<|Zm Z<|Zq (I.neg Z)<|Zc [] [] Tryz.func199 Z (z1v _ _) fun r3 n4=>Zq (W.xor Z Z)<|Zm Z<|Zm Z<|Zq (I.neg Z)<|Zc [] [] Tryz.func199 Z (z1v _ _) fun r5 n6=>Zq (W.xor Z Z)<|Za Z<|z1z 8 Z fun y7=>Zn<|z0e<|Ze [] [] Z
def z75 (a0:List UInt8):Option ((List UInt8)) :=
 app 1 ([]:List UInt8) a0 >>= fun x3 =>
 some x3
theorem z8i (a0:List UInt8):z1u Tryz.prog 182 [.rd (z02 u8R) a0] [] (z75 a0) (fun r nv=>⟨[.val (nv 0)],[(100,some (nv 0,.list u8R 5 r))]⟩):=by
 refine z2d 8 Tryz.func182 Z Z Z fun H w=>?_
 refine gSR<|Zb Z<|z0j<|gSR<|Zm Z<|z10f Z Z .rd Z tu109 (fun h1=>?_) ?_
 ·
  subst h1
  refine Zn<|zce Z<|gSR<|Zb Z<|z0e<|z0k<|zhn u8R 5 1<|Ze [(.slice none 0 0)] [1] Z
 ·
  refine Zn<|zao Z<|Zt<|gSR<|Ef Z (lit (R:=u8R) (([]:List UInt8):List UInt8) 2 (pN) Z tu109 ti5 Z Z) fun v2=>Zm Z<|z0x fun x3 h4=>Ef Z (apn 2 Z Z Z .rd h4 tu109 ti5 Z Z Z) fun v5=>Zb Z<|z0e<|Ze [v5] [2] Z
def z53 (r1:(Vector UInt32 64)) (s21:UInt32 × UInt32 × UInt32 × UInt32 × UInt32 × UInt32 × UInt32 × UInt32 × Int):Option (Sum (UInt32 × UInt32 × UInt32 × UInt32 × UInt32 × UInt32 × UInt32 × UInt32) (UInt32 × UInt32 × UInt32 × UInt32 × UInt32 × UInt32 × UInt32 × UInt32 × Int)) :=
 if decide (s21.2.2.2.2.2.2.2.2<64) then
  z6g z6m s21.2.2.2.2.2.2.2.2 >>= fun x23 =>
  z6g r1 s21.2.2.2.2.2.2.2.2 >>= fun x25 =>
  zch s21.2.2.2.2.1 6 11 25 >>= fun r27 =>
  some ((((s21.2.2.2.2.2.2.2.1+r27)+((s21.2.2.2.2.1 &&& s21.2.2.2.2.2.1) ^^^ ((~~~s21.2.2.2.2.1) &&& s21.2.2.2.2.2.2.1)))+x23)+x25) >>= fun y29 =>
  zch s21.1 2 13 22 >>= fun r30 =>
  some (r30+(((s21.1 &&& s21.2.1) ^^^ (s21.1 &&& s21.2.2.1)) ^^^ (s21.2.1 &&& s21.2.2.1))) >>= fun y32 =>
  some (s21.2.2.2.1+y29) >>= fun y33 =>
  some (.inr (y29+y32,s21.1,s21.2.1,s21.2.2.1,y33,s21.2.2.2.2.1,s21.2.2.2.2.2.1,s21.2.2.2.2.2.2.1,w64 (s21.2.2.2.2.2.2.2.2+1)))
 else
  some (.inl (s21.1,s21.2.1,s21.2.2.1,s21.2.2.2.1,s21.2.2.2.2.1,s21.2.2.2.2.2.1,s21.2.2.2.2.2.2.1,s21.2.2.2.2.2.2.2.1))
def zbd (s20:UInt32 × UInt32 × UInt32 × UInt32 × UInt32 × UInt32 × UInt32 × UInt32) (s34:(Vector UInt32 8) × Int):Option (Sum ((Vector UInt32 8)) ((Vector UInt32 8) × Int)) :=
 if decide (s34.2<8) then
  z6g (#v[s20.1,s20.2.1,s20.2.2.1,s20.2.2.2.1,s20.2.2.2.2.1,s20.2.2.2.2.2.1,s20.2.2.2.2.2.2.1,s20.2.2.2.2.2.2.2]:Vector UInt32 8) s34.2 >>= fun x36 =>
  z6g s34.1 s34.2 >>= fun x38 =>
  z6g s34.1 s34.2 >>= fun x40 =>
  some (.inr (zg7 s34.1 s34.2 (x38+x36),w64 (s34.2+1)))
 else
  some (.inl s34.1)
def zby (c0:Vector UInt32 8) (a1:List UInt8):Option ((Vector UInt32 8)) :=
 zb9 a1 >>= fun r1 =>
 z6g c0 0 >>= fun x4 =>
 z6g c0 1 >>= fun x6 =>
 z6g c0 2 >>= fun x8 =>
 z6g c0 3 >>= fun x10 =>
 z6g c0 4 >>= fun x12 =>
 z6g c0 5 >>= fun x14 =>
 z6g c0 6 >>= fun x16 =>
 z6g c0 7 >>= fun x18 =>
 (iter (z53 r1) (x4,x6,x8,x10,x12,x14,x16,x18,0)) >>= fun s20 =>
 iter (zbd s20) (c0,0)
theorem zjf (ph0:Value) (kh0:Nat) (uh0:(Vector UInt32 8)→z3y) (hh0:∀ y,Foc (uh0 y) kh0 (z34 8 z0n) y uh0) (c0:Vector UInt32 8) (a1:List UInt8):z1u Tryz.prog 181 [.val (z05 ph0 kh0),.rd (z02 u8R) a1] [(1,some (ph0,uh0 c0)),zG1] (zby c0 a1) (fun r nv=>⟨[],[(1,some (ph0,uh0 r)),(1001,some (.bool true,.glob 1 (z34 64 z0n) z6m))]⟩):=by
 refine z2d 126 Tryz.func181 Z Z Z fun H w=>?_
 refine gSR<|Zm Z<|Zc [] [] Tryz.func195 Z (zh6 _) fun r1 n2=>Eb Z (z8e 2 zvq (.zr (R:=(z34 64 z0n)) (x:=(Vector.replicate 64 0)) z11e)) fun v3=>Es (sto 2 Z Z fH Z zvq)<|Zn<|z0j<|zhs z2o (by kernel_rfl)<|Rq Z (mv Z)<|Rq Z (zw5 1 Z Z (hh0 _))<|z7a fun x4 h5=>Rq Z (ixH 1 Z Z (hh0 _) Z h5 tu176 z4x)<|Rq Z (ld 1 Z Z ((hh0 _).part (.el h5)) z78 Z)<|Rq Z (mv Z)<|Rq Z (zw5 1 Z Z (hh0 _))<|z7a fun x6 h7=>Rq Z (ixH 1 Z Z (hh0 _) Z h7 tu176 z4x)<|Rq Z (ld 1 Z Z ((hh0 _).part (.el h7)) z78 Z)<|Rq Z (mv Z)<|Rq Z (zw5 1 Z Z (hh0 _))<|z7a fun x8 h9=>Rq Z (ixH 1 Z Z (hh0 _) Z h9 tu176 z4x)<|Rq Z (ld 1 Z Z ((hh0 _).part (.el h9)) z78 Z)<|Rq Z (mv Z)<|Rq Z (zw5 1 Z Z (hh0 _))<|z7a fun x10 h11=>Rq Z (ixH 1 Z Z (hh0 _) Z h11 tu176 z4x)<|Rq Z (ld 1 Z Z ((hh0 _).part (.el h11)) z78 Z)<|Rq Z (mv Z)<|Rq Z (zw5 1 Z Z (hh0 _))<|z7a fun x12 h13=>Rq Z (ixH 1 Z Z (hh0 _) Z h13 tu176 z4x)<|Rq Z (ld 1 Z Z ((hh0 _).part (.el h13)) z78 Z)<|Rq Z (mv Z)<|Rq Z (zw5 1 Z Z (hh0 _))<|z7a fun x14 h15=>Rq Z (ixH 1 Z Z (hh0 _) Z h15 tu176 z4x)<|Rq Z (ld 1 Z Z ((hh0 _).part (.el h15)) z78 Z)<|Rq Z (mv Z)<|Rq Z (zw5 1 Z Z (hh0 _))<|z7a fun x16 h17=>Rq Z (ixH 1 Z Z (hh0 _) Z h17 tu176 z4x)<|Rq Z (ld 1 Z Z ((hh0 _).part (.el h17)) z78 Z)<|Rq Z (mv Z)<|Rq Z (zw5 1 Z Z (hh0 _))<|z7a fun x18 h19=>Rq Z (ixH 1 Z Z (hh0 _) Z h19 tu176 z4x)<|Rq Z (ld 1 Z Z ((hh0 _).part (.el h19)) z78 Z)<|Rq Z (asg Z)<|Rq Z (asg Z)<|Rq Z (asg Z)<|Rq Z (asg Z)<|Rq Z (asg Z)<|Rq Z (asg Z)<|Rq Z (asg Z)<|Rq Z (asg Z)<|zs4<|z0h<|z8g (fun (s20:UInt32 × UInt32 × UInt32 × UInt32 × UInt32 × UInt32 × UInt32 × UInt32) aa ww=>Sta (ctx 126 H [(1,some (ph0,uh0 c0)),zG1] w) [(0,.val (z05 ph0 kh0)),(5,.rd z0n s20.1),(6,.rd z0n s20.2.1),(7,.rd z0n s20.2.2.1),(8,.rd z0n s20.2.2.2.1),(9,.rd z0n s20.2.2.2.2.1),(10,.rd z0n s20.2.2.2.2.2.1),(11,.rd z0n s20.2.2.2.2.2.2.1),(12,.rd z0n s20.2.2.2.2.2.2.2)] [(1,some (ph0,uh0 c0)),zG1] aa ww) ?_ (fun s20=>?_)
 ·
  refine gSR<|Zm Z<|Zn<|z1o (fun (s21:UInt32 × UInt32 × UInt32 × UInt32 × UInt32 × UInt32 × UInt32 × UInt32 × Int) aa ww=>Sta (ctx 126 H [(1,some (ph0,uh0 c0)),zG1] w) [(0,.val (z05 ph0 kh0)),(4,.val (z05 v3 0)),(5,.rd z0n s21.1),(6,.rd z0n s21.2.1),(7,.rd z0n s21.2.2.1),(8,.rd z0n s21.2.2.2.1),(9,.rd z0n s21.2.2.2.2.1),(10,.rd z0n s21.2.2.2.2.2.1),(11,.rd z0n s21.2.2.2.2.2.2.1),(12,.rd z0n s21.2.2.2.2.2.2.2.1),(52,.rd z0a s21.2.2.2.2.2.2.2.2)] [(1,some (ph0,uh0 c0)),(2,some (v3,.box 229 [.rd (z34 64 z0n) r1])),zG1] aa ww) (fun aa ww h=>Zu h [1,2,1001]) (fun s21=>?_)
  refine gSR<|Zq (I.lss Z Z)<|Zn<|z0j<|gIf Z Z (fun h22=>?_) (fun h22=>?_)
  ·
   refine Zt<|z0j<|z49<|gSR<|Zm Z<|Zb Z<|z0j<|z5a [] z2o Z Z<|hTk 0 Z Z (mv Z)<|hTk 1 Z Z (mv Z)<|hTk 4 Z Z (mv Z)<|hTk 5 Z Z (mv Z)<|hTk 6 Z Z (W.and Z Z)<|hTk 7 Z Z (mv Z)<|hTk 8 Z Z (W.cpl Z)<|hTk 9 Z Z (mv Z)<|hTk 10 Z Z (W.and Z Z)<|hTk 11 Z Z (W.xor Z Z)<|hTk 13 Z Z (mv Z)<|z35 fun x23 h24=>hTk 14 Z Z (ixG 1001 Z Z h24 Tryz.underlying229 z4x)<|hTk 15 Z Z (ldR Z z78)<|hTk 17 Z Z (mv Z)<|z35 fun x25 h26=>hTk 18 Z Z (ixB 2 Z Z Z h26 Tryz.underlying229 z4x)<|hTk 19 Z Z (ld 2 Z Z (fP (.el h26)) z78 Z)<|z2s 2 [] [] Z (by kernel_rfl) Z (gd0 Z) Z Tryz.func196 Z Z (zgt _ _ _ _) (aQ Z<|aQ Z<|aQ Z<|aQ Z<|aN) rN Z (fun _ _=>z30) fun r27 n28=>hTk 3 Z Z (W.add Z Z)<|hTk 12 Z Z (W.add Z Z)<|hTk 16 Z Z (W.add Z Z)<|hTk 20 Z Z (W.add Z Z)<|hTk 21 Z Z (asg Z)<|zxc 14 Z Z fun y29=>z3c (by kernel_rfl)<|z0h<|gSR<|Zm Z<|Zc [] [] Tryz.func196 Z (zgt _ _ _ _) fun r30 n31=>Zm Z<|Zm Z<|Zq (W.and Z Z)<|Zm Z<|Zm Z<|Zq (W.and Z Z)<|Zq (W.xor Z Z)<|Zm Z<|Zm Z<|Zq (W.and Z Z)<|Zq (W.xor Z Z)<|Zq (W.add Z Z)<|Za Z<|z1z 15 Z fun y32=>Zn<|z2b<|Zm Z<|Zm Z<|Zq (W.add Z Z)<|Zm Z<|Zm Z<|Zm Z<|Zm Z<|Zm Z<|Zq (W.add Z Z)<|Zm Z<|Zm Z<|Zm Z<|Za Z<|Za Z<|Za Z<|Za Z<|Za Z<|z1z 9 Z fun y33=>Za Z<|Za Z<|Za Z<|z1x<|z2w<|z0h<|z2b<|Zq (I.add Z Z)<|Zm Z<|z1x<|z1b (fun aa ww h=>Zu h [1,2,1001])
  ·
   refine z1m<|z0t<|z0u<|z4o (fun aa ww h=>Zu h [1,1001])
 ·
  refine gSR<|Zm Z<|Zm Z<|Zm Z<|Zm Z<|Zm Z<|Zm Z<|Zm Z<|Zm Z<|Zq (litA (R:=z0n) [s20.1,s20.2.1,s20.2.2.1,s20.2.2.2.1,s20.2.2.2.2.1,s20.2.2.2.2.2.1,s20.2.2.2.2.2.2.1,s20.2.2.2.2.2.2.2] (#v[s20.1,s20.2.1,s20.2.2.1,s20.2.2.2.1,s20.2.2.2.2.1,s20.2.2.2.2.2.1,s20.2.2.2.2.2.2.1,s20.2.2.2.2.2.2.2]:Vector UInt32 8) (pP Z Z<|pP Z Z<|pP Z Z<|pP Z Z<|pP Z Z<|pP Z Z<|pP Z Z<|pP Z Z<|pN) Z tu176 zev Z z4x)<|Zm Z<|Zn<|z1o (fun (s34:(Vector UInt32 8) × Int) aa ww=>Sta (ctx 126 H [(1,some (ph0,uh0 c0)),zG1] w) [(0,.val (z05 ph0 kh0)),(111,.rd (z34 8 z0n) (#v[s20.1,s20.2.1,s20.2.2.1,s20.2.2.2.1,s20.2.2.2.2.1,s20.2.2.2.2.2.1,s20.2.2.2.2.2.2.1,s20.2.2.2.2.2.2.2]:Vector UInt32 8)),(112,.rd z0a s34.2)] [(1,some (ph0,uh0 s34.1)),zG1] aa ww) (fun aa ww h=>Zu h [1,1001]) (fun s34=>?_)
  refine gSR<|Zq (I.lss Z Z)<|Zn<|z0j<|gIf Z Z (fun h35=>?_) (fun h35=>?_)
  ·
   refine Zt<|z0j<|z49<|gSR<|Zm Z<|z0x fun x36 h37=>Zq (idxV Z Z h37 tu176 z4x z78)<|Za Z<|Zb Z<|z5a [1] z2o Z Z<|hTk 0 Z Z (mv Z)<|hTk 1 Z Z (mv Z)<|hTk 2 Z Z (zw5 1 Z Z (hh0 _))<|z35 fun x38 h39=>hTk 3 Z Z (ixH 1 Z Z (hh0 _) Z h39 tu176 z4x)<|hTk 5 Z Z (mv Z)<|hTk 7 Z Z (zw5 1 Z Z (hh0 _))<|hRun 4 Z (by kernel_rfl) (gd0 Z) Z Z z30 (ld 1 Z Z ((hh0 _).part (.el h39)) z78 Z)<|hTk 6 Z Z (W.add Z Z)<|z35 fun x40 h41=>hTk 8 Z Z (ixH 1 Z Z (hh0 _) Z h41 tu176 z4x)<|Zp 9 Z Z Z Z Z (sto 1 Z Z ((hh0 _).part (.el h41)) Z z4x)<|z3c (by kernel_rfl)<|z2w<|z0h<|z2b<|Zq (I.add Z Z)<|Zm Z<|z1x<|z1b (fun aa ww h=>Zu h [1,1001])
  ·
   refine z1m<|z0t<|z0u<|Ze [] [1,1001] Z
def z8l (s7:z1y × (List UInt8)):Option (Sum (z1y × (List UInt8)) (z1y × (List UInt8))) :=
 if decide (64≤(s7.2.length:Int)) then
  zby s7.1.Words s7.2 >>= fun r10 =>
  cut s7.2 64 (s7.2.length:Int) >>= fun x12 =>
  some (.inr ({ s7.1 with Words:=r10 },x12))
 else
  some (.inl (s7.1,s7.2))
def z9v (a0:z1y) (a1:List UInt8):Option (z1y) :=
 z1t [a0.Rest,a1] >>= fun r4 =>
 (iter (z8l) (a0,r4)) >>= fun s6 =>
 z75 s6.2 >>= fun r14 =>
 some (⟨({ s6.1 with N:=w64 (s6.1.N+(a1.length:Int)) }).Words,r14,({ s6.1 with N:=w64 (s6.1.N+(a1.length:Int)) }).N⟩:z1y)
theorem zfc (a0:z1y) (a1:List UInt8):z1u Tryz.prog 155 [.rd z2a a0,.rd (z02 u8R) a1] [zG1] (z9v a0 a1) (fun r nv=>⟨[.rd z2a r],[(1001,some (.bool true,.glob 1 (z34 64 z0n) z6m))]⟩):=by
 refine z2d 29 Tryz.func155 Z Z Z fun H w=>?_
 refine gSR<|Eb Z (bx 1 Z) fun v1=>Eb Z (z8e 2 zke (ZrE.rd (R:=(z34 8 z0n)) (x:=(Vector.replicate 8 0)) znz (ZrE.nilS (ZrE.rd (R:=z0a) (x:=0) (Zr.num Z) ZrE.nil Z)) Z)) fun v2=>Zn<|gSR<|Zq (faB 1 Z Z Tryz.underlying193 Z (by exact zgz))<|Zq (ld 1 Z Z (fP (zij _)) zte Z)<|Zm Z<|Ef Z (lit (R:=(z02 u8R)) ([a0.Rest,a1]:List (List UInt8)) 3 (pP Z Z<|pP Z Z<|pN) Z tu154 zgz Z Z) fun v3=>zen 3 [9] Z (fS Z<|fN)<|Zc [] [(100,4)] Tryz.func84 Z (z5d _) fun r4 n5=>Zb Z<|z8g (fun (s6:z1y × (List UInt8)) aa ww=>Sta (ctx 29 H [zG1] w) [(1,.rd (z02 u8R) a1),(2,.val (z05 v1 0)),(4,.val (z05 v2 0)),(5,.rd (z02 u8R) s6.2)] [(1,some (v1,.box 193 [.rd z2a s6.1])),(2,some (v2,.box 193 [.rd (z34 8 z0n) (Vector.replicate 8 0),.val (.slice none 0 0),.rd z0a 0])),zG1] aa ww) ?_ (fun s6=>?_)
 ·
  refine gFrz 4 [10,5] Z (fS Z<|fS Z<|fN)<|z1o (fun (s7:z1y × (List UInt8)) aa ww=>Sta (ctx 29 H [zG1] w) [(1,.rd (z02 u8R) a1),(2,.val (z05 v1 0)),(4,.val (z05 v2 0)),(5,.rd (z02 u8R) s7.2)] [(1,some (v1,.box 193 [.rd z2a s7.1])),(2,some (v2,.box 193 [.rd (z34 8 z0n) (Vector.replicate 8 0),.val (.slice none 0 0),.rd z0a 0])),zG1] aa ww) (fun aa ww h=>Zu h [1,2,1001]) (fun s7=>?_)
  refine z0j<|gSR<|Zm Z<|Zq (z33 Z .rd Z tu109)<|Zq (I.geq Z Z)<|Zj Z (fun h8=>?_) (fun h8=>?_)
  ·
   refine Zt<|z49<|gSR<|Zq (faB 1 Z Z Tryz.underlying193 Z (by exact zev))<|Zm Z<|call [1,1001] [(1,1)] Z Tryz.func181 Z Z (zjf _ _ (fun y9=>.box 193 [.rd z2a ({ s7.1 with Words:=y9 })]) (fun _=>(fP (zc5 _))) _ _) (Y2 Z Z) (Zi Z<|Zi Z<|rN) fun r10 n11=>Zn<|z2b<|Zm Z<|z0x fun x12 h13=>Zq (zzt Z (.to Z) .no h13 tu109 ti5)<|Za Z<|z1x<|z2w<|z1b (fun aa ww h=>Zu h [1,2,1001])
  ·
   refine z1m<|z0t<|z0u<|z4o (fun aa ww h=>Zu h [1,2,1001])
 ·
  refine z0j<|z5a [1,1020] z2o Z Z<|hTk 0 Z Z (faB 1 Z Z Tryz.underlying193 Z (by exact ti3))<|hTk 2 Z Z (mv Z)<|hTk 3 Z Z (z33 Z .rd Z tu109)<|hTk 5 Z Z (mv Z)<|hAlt [1,6] (by kernel_rfl) Z ⟨?_,?_,trivial⟩
  ·
   refine oRun 1 Z (gd0 Z) Z Z z30 (ld 1 Z Z (fP (z80 _)) ty3 Z)<|hTk 4 Z Z (I.add Z Z)<|z2s 6 [] [(100,1020)] Z (by kernel_rfl) Z (gd0 Z) Z Tryz.func182 Z Z (z8i _) (Y1 Z) rN Z (fun _ _=>z2p) fun r14 n15=>hTk 7 Z Z (faB 1 Z Z Tryz.underlying193 Z (by exact ti3))<|Zp 8 Z Z Z Z Z (sto 1 Z Z (fP (z80 _)) Z ti3)<|Zf 9 Z Z z2p (faB 1 Z Z Tryz.underlying193 Z (by exact zgz))<|hSpl (R:=z2a) 1 Z (Sp.via (Sp.prod (Sp.prod (Sp.prod Sp.unit))))<|Zp 10 Z Z Z Z Z (zvf 1 Z Z (z7c.cast (z7c.next z6p (z7c.here z6p)) Z) Z z25 z07 zgz)<|z3c (by kernel_rfl)<|z0h<|gSR<|zse [.rd (z34 8 z0n) (({ s6.1 with N:=w64 (s6.1.N+(a1.length:Int)) }).Words),.rd (z02 u8R) r14,.rd z0a (({ s6.1 with N:=w64 (s6.1.N+(a1.length:Int)) }).N)] 1 1020 [.rd (z34 8 z0n) (({ s6.1 with N:=w64 (s6.1.N+(a1.length:Int)) }).Words)] [.rd z0a (({ s6.1 with N:=w64 (s6.1.N+(a1.length:Int)) }).N)] Z Z Z Z Z<|zel (R:=z2a) (⟨({ s6.1 with N:=w64 (s6.1.N+(a1.length:Int)) }).Words,r14,({ s6.1 with N:=w64 (s6.1.N+(a1.length:Int)) }).N⟩:z1y) 1 Z (Sp.via (Sp.prod (Sp.prod (Sp.prod Sp.unit))))<|Zq (ld 1 Z Z fH zmq Z)<|zcl u8R [.rd (z34 8 z0n) (Vector.replicate 8 0),.rd (z02 u8R) [],.rd z0a 0] 2 [.rd (z34 8 z0n) (Vector.replicate 8 0)] [.rd z0a 0] Z Z Z<|zel (R:=z2a) (⟨(Vector.replicate 8 0),[],0⟩:z1y) 2 Z (Sp.via (Sp.prod (Sp.prod (Sp.prod Sp.unit))))<|Es (sto 2 Z Z fH Z zke)<|Zn<|z0e<|zd6 [] [1001] Z (eC 2 Z Z zmq<|eN) (y1 Z)
  ·
   refine zty 6 [] [(100,1020)] Z Z (gd0 Z) Z Tryz.func182 Z Z (z8i _) (Y1 Z) rN Z (fun _ _=>z2p) fun r16 n17=>hRun 1 Z (by kernel_rfl) (gd0 Z) Z Z z30 (ld 1 Z Z (fP (z80 _)) ty3 Z)<|hTk 4 Z Z (I.add Z Z)<|hTk 7 Z Z (faB 1 Z Z Tryz.underlying193 Z (by exact ti3))<|Zp 8 Z Z Z Z Z (sto 1 Z Z (fP (z80 _)) Z ti3)<|Zf 9 Z Z z2p (faB 1 Z Z Tryz.underlying193 Z (by exact zgz))<|hSpl (R:=z2a) 1 Z (Sp.via (Sp.prod (Sp.prod (Sp.prod Sp.unit))))<|Zp 10 Z Z Z Z Z (zvf 1 Z Z (z7c.cast (z7c.next z6p (z7c.here z6p)) Z) Z z25 z07 zgz)<|z3c (by kernel_rfl)<|z0h<|gSR<|zse [.rd (z34 8 z0n) (({ s6.1 with N:=w64 (s6.1.N+(a1.length:Int)) }).Words),.rd (z02 u8R) r16,.rd z0a (({ s6.1 with N:=w64 (s6.1.N+(a1.length:Int)) }).N)] 1 1020 [.rd (z34 8 z0n) (({ s6.1 with N:=w64 (s6.1.N+(a1.length:Int)) }).Words)] [.rd z0a (({ s6.1 with N:=w64 (s6.1.N+(a1.length:Int)) }).N)] Z Z Z Z Z<|zel (R:=z2a) (⟨({ s6.1 with N:=w64 (s6.1.N+(a1.length:Int)) }).Words,r16,({ s6.1 with N:=w64 (s6.1.N+(a1.length:Int)) }).N⟩:z1y) 1 Z (Sp.via (Sp.prod (Sp.prod (Sp.prod Sp.unit))))<|Zq (ld 1 Z Z fH zmq Z)<|zcl u8R [.rd (z34 8 z0n) (Vector.replicate 8 0),.rd (z02 u8R) [],.rd z0a 0] 2 [.rd (z34 8 z0n) (Vector.replicate 8 0)] [.rd z0a 0] Z Z Z<|zel (R:=z2a) (⟨(Vector.replicate 8 0),[],0⟩:z1y) 2 Z (Sp.via (Sp.prod (Sp.prod (Sp.prod Sp.unit))))<|Es (sto 2 Z Z fH Z zke)<|Zn<|z0e<|zd6 [] [1001] Z (eC 2 Z Z zmq<|eN) (y1 Z)
def z98 (y3:UInt64) (s9:(List UInt8) × Int):Option (Sum ((List UInt8)) ((List UInt8) × Int)) :=
 if decide (0≤s9.2) then
  chk (0≤s9.2) >>= fun u12 =>
  app 1 s9.1 [(z6e y3 ((s9.2:Int).toNat)).toUInt8] >>= fun x15 =>
  some (w64 (s9.2 - 8)) >>= fun y18 =>
  some (.inr (x15,y18))
 else
  some (.inl s9.1)
def z7q (r21:z1y) (s23:V3 × Int):Option (Sum (V3) (V3 × Int)) :=
 if decide (s23.2<8) then
  z6g r21.Words s23.2 >>= fun x25 =>
  z6g s23.1 (w64 (4 * s23.2)) >>= fun x27 =>
  z6g (zg7 s23.1 (w64 (4 * s23.2)) ((z44 x25 24).toUInt8)) (w64 ((w64 (4 * s23.2))+1)) >>= fun x29 =>
  z6g (zg7 (zg7 s23.1 (w64 (4 * s23.2)) ((z44 x25 24).toUInt8)) (w64 ((w64 (4 * s23.2))+1)) ((z44 x25 16).toUInt8)) (w64 ((w64 (4 * s23.2))+2)) >>= fun x31 =>
  z6g (zg7 (zg7 (zg7 s23.1 (w64 (4 * s23.2)) ((z44 x25 24).toUInt8)) (w64 ((w64 (4 * s23.2))+1)) ((z44 x25 16).toUInt8)) (w64 ((w64 (4 * s23.2))+2)) ((z44 x25 8).toUInt8)) (w64 ((w64 (4 * s23.2))+3)) >>= fun x33 =>
  some (.inr (zg7 (zg7 (zg7 (zg7 s23.1 (w64 (4 * s23.2)) ((z44 x25 24).toUInt8)) (w64 ((w64 (4 * s23.2))+1)) ((z44 x25 16).toUInt8)) (w64 ((w64 (4 * s23.2))+2)) ((z44 x25 8).toUInt8)) (w64 ((w64 (4 * s23.2))+3)) x25.toUInt8,w64 (s23.2+1)))
 else
  some (.inl s23.1)
def zem (a0:z1y):Option (V3) :=
 some ((UInt64.ofInt a0.N) * 8) >>= fun y3 =>
 appz 1 [128] 0 (Int.tmod (w64 (119 - (Int.tmod a0.N 64))) 64) >>= fun x5 =>
 (iter (z98 y3) (x5,56)) >>= fun s8 =>
 (z9v a0 s8 >>= fun r21 =>
 iter (z7q r21) ((Vector.replicate 32 0),0)) >>= fun s20 =>
 some s20
theorem zm9 (a0:z1y):z1u Tryz.prog 156 [.rd z2a a0] [zG1] (zem a0) (fun r nv=>⟨[.rd aZ r],[(1001,some (.bool true,.glob 1 (z34 64 z0n) z6m))]⟩):=by
 refine z2d 66 Tryz.func156 Z Z Z fun H w=>?_
 refine gSR<|Eb Z (bx 1 Z) fun v1=>Eb Z (z8e 2 z4q (.zr (R:=aZ) (x:=(Vector.replicate 32 0)) zl4)) fun v2=>Zn<|gSR<|Zq (faB 1 Z Z Tryz.underlying193 Z (by exact ti3))<|Zq (ld 1 Z Z (fP (z80 _)) ty3 Z)<|Zq (I.toU Z tu3 tu56)<|Zq (U.mul Z Z)<|Za Z<|z1z 3 Z fun y3=>Zn<|gSR<|Ef Z (lit (R:=u8R) ([128]:List UInt8) 3 (pP Z Z<|pN) Z tu109 ti5 Z Z) fun v4=>Zq (faB 1 Z Z Tryz.underlying193 Z (by exact ti3))<|Zq (ld 1 Z Z (fP (z80 _)) ty3 Z)<|Zq (I.rem Z Z (by decide))<|Zq (I.sub Z Z)<|Zq (I.rem Z Z (by decide))<|z0x fun x5 h6=>Ef Z (apZO 3 Z Z Z h6 tu109 tu3 ti5 (Zr.num Z) Z) fun v7=>Zb Z<|z8g (fun (s8:(List UInt8)) aa ww=>∃ nv:Nat→Value,Sta (ctx 66 H [zG1] w) [(1,.val (z05 v1 0)),(2,.val (z05 v2 0)),(4,.val (nv 0))] [(1,some (v1,.box 193 [.rd z2a a0])),(2,some (v2,.box 94 [.rd aZ (Vector.replicate 32 0)])),(3,some ((nv 0),.list u8R 5 s8)),zG1] aa ww) ?_ (fun s8=>?_)
 ·
  refine gSR<|Zb Z<|z1o (fun (s9:(List UInt8) × Int) aa ww=>∃ nv:Nat→Value,Sta (ctx 66 H [zG1] w) [(1,.val (z05 v1 0)),(2,.val (z05 v2 0)),(3,.rd z2z y3),(4,.val (nv 0)),(5,.rd z0a s9.2)] [(1,some (v1,.box 193 [.rd z2a a0])),(2,some (v2,.box 94 [.rd aZ (Vector.replicate 32 0)])),(3,some ((nv 0),.list u8R 5 s9.1)),zG1] aa ww) (fun aa ww h=>⟨nvl [v7],Zu h [1,2,3,1001]⟩) (fun s9=>?_)
  refine gEx fun n10=>z0j<|gSR<|Zm Z<|Zq (I.geq Z Z)<|Zj Z (fun h11=>?_) (fun h11=>?_)
  ·
   refine Zt<|z0j<|z49<|z2b<|Zm Z<|Zm Z<|Zm Z<|z0x fun u12 h13=>Zq (U.shr Z Z (z61 h13))<|Zq (U.toB Z tu56 tu5)<|Ef Z (lit (R:=u8R) ([(z6e y3 ((s9.2:Int).toNat)).toUInt8]:List UInt8) 1100 (pP Z Z<|pN) Z tu109 ti5 Z Z) fun v14=>z0x fun x15 h16=>Ef Z (apn 3 Z Z Z (.own 1100 Z) h16 tu109 ti5 Z Z Z) fun v17=>Za Z<|z1x<|z2w<|z0h<|z2b<|Zm Z<|Zq (I.sub Z Z)<|Za Z<|z1z 5 Z fun y18=>z1x<|z1b (fun aa ww h=>⟨nvl [v17],Zu h [1,2,3,1001]⟩)
  ·
   refine z1m<|z0t<|z0u<|z4o (fun aa ww h=>⟨nvl [(n10 0)],Zu h [1,2,3,1001]⟩)
 ·
  refine gEx fun n19=>z8g (fun (s20:V3) aa ww=>Sta (ctx 66 H [zG1] w) [(2,.val (z05 v2 0))] [(2,some (v2,.box 94 [.rd aZ s20])),zG1] aa ww) ?_ (fun s20=>?_)
  ·
   refine gSR<|Zq (ld 1 Z Z fH zmq Z)<|Zm Z<|zen 3 [4,31] Z (fS Z<|fS Z<|fN)<|Zc [1001] [] Tryz.func155 Z (zfc _ _) fun r21 n22=>Zq (fldV Z (zc5 _) Z Tryz.underlying193 Z zno)<|Zm Z<|Zn<|z1o (fun (s23:V3 × Int) aa ww=>Sta (ctx 66 H [zG1] w) [(2,.val (z05 v2 0)),(33,.rd (z34 8 z0n) r21.Words),(34,.rd z0a s23.2)] [(2,some (v2,.box 94 [.rd aZ s23.1])),zG1] aa ww) (fun aa ww h=>Zu h [2,1001]) (fun s23=>?_)
   refine gSR<|Zq (I.lss Z Z)<|Zn<|z0j<|gIf Z Z (fun h24=>?_) (fun h24=>?_)
   ·
    refine Zt<|z0j<|z49<|gSR<|Zm Z<|z0x fun x25 h26=>Zq (idxV Z Z h26 tu176 z4x z78)<|Za Z<|Zb Z<|z2b<|Zm Z<|Zq (I.mul Z Z)<|Zm Z<|Zq (I.mul Z Z)<|Zq (I.add Z Z)<|Zm Z<|Zq (I.mul Z Z)<|Zq (I.add Z Z)<|Zm Z<|Zq (I.mul Z Z)<|Zq (I.add Z Z)<|Zm Z<|Zq (W.shr Z Z (Int.natCast_nonneg _))<|Zq (W.toB Z tu78 tu5)<|Zm Z<|Zq (W.shr Z Z (Int.natCast_nonneg _))<|Zq (W.toB Z tu78 tu5)<|Zm Z<|Zq (W.shr Z Z (Int.natCast_nonneg _))<|Zq (W.toB Z tu78 tu5)<|Zm Z<|Zq (W.toB Z tu78 tu5)<|z0x fun x27 h28=>Zq (ixB 2 Z Z Z h28 tu94 ti5)<|Es (sto 2 Z Z (fP (.el h28)) Z ti5)<|z0x fun x29 h30=>Zq (ixB 2 Z Z Z h30 tu94 ti5)<|Es (sto 2 Z Z (fP (.el h30)) Z ti5)<|z0x fun x31 h32=>Zq (ixB 2 Z Z Z h32 tu94 ti5)<|Es (sto 2 Z Z (fP (.el h32)) Z ti5)<|z0x fun x33 h34=>Zq (ixB 2 Z Z Z h34 tu94 ti5)<|Es (sto 2 Z Z (fP (.el h34)) Z ti5)<|z1x<|z2w<|z0h<|z2b<|Zq (I.add Z Z)<|Zm Z<|z1x<|z1b (fun aa ww h=>Zu h [2,1001])
   ·
    refine z1m<|z0t<|z0u<|z4o (fun aa ww h=>Zu h [2,1001])
  ·
   refine gSR<|Zq (ld 2 Z Z fH z8d Z)<|Es (sto 2 Z Z fH Z z4q)<|Zn<|z0e<|zd6 [] [1001] Z (eC 2 Z Z z8d<|eN) (y1 Z)
def z10 (a0:List (List UInt8)) (s2:Int):Option (Sum (Sum Int Unit) Int) :=
 if decide (s2<(a0.length:Int)) then
  idx a0 s2 >>= fun x4 =>
  zbc x4 >>= fun r6 =>
  if r6 then
   some (.inl (.inl s2))
  else
   some (.inr (w64 (s2+1)))
 else
  some (.inl (.inr ()))
def z2e (a0:List (List UInt8)):Option (Int) :=
 z3p (iter (z10 a0) 0) fun s1 =>
 some (-1)
theorem z69 (a0:List (List UInt8)):z1u Tryz.prog 180 [.rd (z02 (z02 u8R)) a0,.val (.func (.func 153) #[] #[])] [] (z2e a0) (fun r nv=>⟨[.rd z0a r],[]⟩):=by
 refine z2d 19 Tryz.func180 Z Z Z fun H w=>?_
 refine gSR<|Zb Z<|z4e (fun (s1:Unit) aa ww=>Sta (ctx 19 H [] w) [] [] aa ww) ?_ (fun s1=>?_)
 ·
  refine gSR<|Zm Z<|Zq (z33 Z .rd Z tu154)<|Zm Z<|Zn<|z1o (fun (s2:Int) aa ww=>Sta (ctx 19 H [] w) [(0,.rd (z02 (z02 u8R)) a0),(1,.val (.func (.func 153) #[] #[])),(7,.rd z0a (a0.length:Int)),(8,.rd z0a s2)] [] aa ww) (fun aa ww h=>Zu h []) (fun s2=>?_)
  refine gSR<|Zq (I.lss Z Z)<|Zn<|z0j<|gIf Z Z (fun h3=>?_) (fun h3=>?_)
  ·
   refine Zt<|z0j<|z49<|gSR<|Zm Z<|Zb Z<|gSR<|Zm Z<|Zm Z<|Zm Z<|z0x fun x4 h5=>Zq (ixR Z Z h5 tu154 zgz Z)<|Zq (ldR Z zte)<|zss [] [] (gd0 Z) Z Z Tryz.func153 Z Z (zgu _) (Y1 Z) (cN) rN fun r6 n7=>Zj Z (fun h8=>?_) (fun h8=>?_)
   ·
    refine gSR<|Zm Z<|Zb Z<|z0e<|z2r<|z0k<|z3z<|z3e<|Ze [] [] Z
   ·
    refine z24<|z2w<|z0h<|z2b<|Zq (I.add Z Z)<|Zm Z<|z1x<|z1b (fun aa ww h=>Zu h [])
  ·
   refine z1m<|z0t<|z0u<|z3o (fun aa ww h=>Zu h [])
 ·
  refine gSR<|Zb Z<|z0e<|Ze [] [] Z
def z1e (a0:List (List UInt8)):Option (Bool) :=
 z2e a0 >>= fun r1 =>
 some (decide (0≤r1)) >>= fun y3 =>
 some y3
theorem z5m (a0:List (List UInt8)):z1u Tryz.prog 152 [.rd (z02 (z02 u8R)) a0,.val (.func (.func 153) #[] #[])] [] (z1e a0) (fun r nv=>⟨[.rd z0m r],[]⟩):=by
 refine z2d 9 Tryz.func152 Z Z Z fun H w=>?_
 refine gSR<|Zb Z<|gSR<|Zm Z<|Zm Z<|Zc [] [] Tryz.func180 Z (z69 _) fun r1 n2=>Zq (I.geq Z Z)<|Za Z<|z1z 4 Z fun y3=>Zn<|z0e<|Ze [] [] Z
def z70 (a0:List (List UInt8)) (s11:z1y × Int):Option (Sum z1y (z1y × Int)) :=
 if decide (s11.2<(a0.length:Int)) then
  idx a0 s11.2 >>= fun x13 =>
  z9v s11.1 x13 >>= fun r15 =>
  some (.inr (r15,w64 (s11.2+1)))
 else
  some (.inl s11.1)
def z9m (a0:List (List UInt8)):Option (V3 × Int) :=
 (if decide (20<(a0.length:Int)) then
  some true
 else
  z1e a0 >>= fun r4 =>
  some r4) >>= fun s2 =>
 if s2 then
  some ((Vector.replicate 32 0),4)
 else
  zbu >>= fun r7 =>
  (iter (z70 a0) (r7,0)) >>= fun s10 =>
  zem s10 >>= fun r17 =>
  some (r17,0)
theorem zdc (a0:List (List UInt8)):z1u Tryz.prog 121 [.rd (z02 (z02 u8R)) a0] [zG1] (z9m a0) (fun r nv=>⟨[.rd aZ r.1,.rd z0a r.2],[(1001,some (.bool true,.glob 1 (z34 64 z0n) z6m))]⟩):=by
 refine z2d 28 Tryz.func121 Z Z Z fun H w=>?_
 refine gSR<|Eb Z (z8e 1 z4q (.zr (R:=aZ) (x:=(Vector.replicate 32 0)) zl4)) fun v1=>Zb Z<|z0j<|z8g (fun (s2:Bool) aa ww=>Sta (ctx 28 H [zG1] w) [(0,.rd (z02 (z02 u8R)) a0),(2,.val (z05 v1 0)),(13,.rd z0m s2)] [(1,some (v1,.box 94 [.rd aZ (Vector.replicate 32 0)])),zG1] aa ww) ?_ (fun s2=>?_)
 ·
  refine z2b<|Zm Z<|Zq (z33 Z .rd Z tu154)<|Zq (I.gtr Z Z)<|Zm Z<|z17 10 Z (fun h3=>?_) (fun h3=>?_)
  ·
   refine lKn 9 Z h3<|Zk Z<|Zk Z<|Zq (pkT Z Z)<|z1x<|z4o (fun aa ww h=>Zu h [1,1001])
  ·
   refine lKn 9 Z h3<|z0y Zx Z Z (mv Z)<|zdo [] [] Zx Z Tryz.func152 Z Z (z5m _) (Y2 Z Z) rN fun r4 n5=>Zq (pkF Z Z)<|z1x<|z4o (fun aa ww h=>Zu h [1,1001])
 ·
  refine gIf Z Z (fun h6=>?_) (fun h6=>?_)
  ·
   refine gSR<|Zq (bldG (x':=((Vector.replicate 32 0):V3)) tu94 z4q zl4 ti5 (Bld.done Z))<|Es (sto 1 Z Z fH Z z4q)<|Zb Z<|z0e<|z0k<|zd6 [] [1001] Z (eC 1 Z Z z8d<|eE Z<|eN) (y1 Z)
  ·
   refine Zt<|gSR<|Zc [] [] Tryz.func154 Z (zk1) fun r7 n8=>Eb Z (z8e 1100 zke (ZrE.rd (R:=(z34 8 z0n)) (x:=(Vector.replicate 8 0)) znz (ZrE.nilS (ZrE.rd (R:=z0a) (x:=0) (Zr.num Z) ZrE.nil Z)) Z)) fun v9=>zcl u8R [.rd (z34 8 z0n) (Vector.replicate 8 0),.rd (z02 u8R) [],.rd z0a 0] 1100 [.rd (z34 8 z0n) (Vector.replicate 8 0)] [.rd z0a 0] Z Z Z<|zel (R:=z2a) (⟨(Vector.replicate 8 0),[],0⟩:z1y) 1100 Z (Sp.via (Sp.prod (Sp.prod (Sp.prod Sp.unit))))<|Es (sto 1100 Z Z fH Z zke)<|Zn<|z8g (fun (s10:z1y) aa ww=>Sta (ctx 28 H [zG1] w) [(2,.val (z05 v1 0)),(4,.val (z05 v9 0))] [(1,some (v1,.box 94 [.rd aZ (Vector.replicate 32 0)])),(1100,some (v9,.box 193 [.rd z2a s10])),zG1] aa ww) ?_ (fun s10=>?_)
   ·
    refine gSR<|Zm Z<|Zq (z33 Z .rd Z tu154)<|Zm Z<|Zn<|z1o (fun (s11:z1y × Int) aa ww=>Sta (ctx 28 H [zG1] w) [(2,.val (z05 v1 0)),(4,.val (z05 v9 0)),(16,.rd (z02 (z02 u8R)) a0),(17,.rd z0a (a0.length:Int)),(18,.rd z0a s11.2)] [(1,some (v1,.box 94 [.rd aZ (Vector.replicate 32 0)])),(1100,some (v9,.box 193 [.rd z2a s11.1])),zG1] aa ww) (fun aa ww h=>Zu h [1,1100,1001]) (fun s11=>?_)
    refine gSR<|Zq (I.lss Z Z)<|Zn<|z0j<|gIf Z Z (fun h12=>?_) (fun h12=>?_)
    ·
     refine Zt<|z0j<|z49<|gSR<|z0x fun x13 h14=>Zq (ixR Z Z h14 tu154 zgz Z)<|Zq (ldR Z zte)<|Zb Z<|z2b<|Zq (ld 1100 Z Z fH zmq Z)<|Zm Z<|Zc [1001] [] Tryz.func155 Z (zfc _ _) fun r15 n16=>Es (sto 1100 Z Z fH Z zke)<|z1x<|z2w<|z0h<|z2b<|Zq (I.add Z Z)<|Zm Z<|z1x<|z1b (fun aa ww h=>Zu h [1,1100,1001])
    ·
     refine z1m<|z0t<|z0u<|z4o (fun aa ww h=>Zu h [1,1100,1001])
   ·
    refine gSR<|Zq (ld 1100 Z Z fH zmq Z)<|Zc [1001] [] Tryz.func156 Z (zm9 _) fun r17 n18=>Es (sto 1 Z Z fH Z z4q)<|Zb Z<|z0e<|zd6 [] [1001] Z (eC 1 Z Z z8d<|eE Z<|eN) (y1 Z)
def zep (a0:List UInt8):Option (V3 × Int) :=
 z9m [a0] >>= fun r3 =>
 some (r3.1,r3.2)
theorem zlu (a0:List UInt8):z1u Tryz.prog 94 [.rd (z02 u8R) a0] [zG1] (zep a0) (fun r nv=>⟨[.rd aZ r.1,.rd z0a r.2],[(1001,some (.bool true,.glob 1 (z34 64 z0n) z6m))]⟩):=by
 refine z2d 9 Tryz.func94 Z Z Z fun H w=>?_
 refine gSR<|Eb Z (z8e 1 z4q (.zr (R:=aZ) (x:=(Vector.replicate 32 0)) zl4)) fun v1=>Zb Z<|gSR<|Zm Z<|Ef Z (lit (R:=(z02 u8R)) ([a0]:List (List UInt8)) 2 (pP Z Z<|pN) Z tu154 zgz Z Z) fun v2=>zen 2 [5] Z (fS Z<|fN)<|Zc [1001] [] Tryz.func121 Z (zdc _) fun r3 n4=>Zq (ext Z Z)<|Zq (ext Z Z)<|Es (sto 1 Z Z fH Z z4q)<|Zb Z<|z0e<|zd6 [] [1001] Z (eC 1 Z Z z8d<|eE Z<|eN) (y1 Z)
def zwt (a0:z06):Option (V3 × Int) :=
 zc9 a0 >>= fun r3 =>
 if r3.2 != 0 then
  some ((Vector.replicate 32 0),r3.2)
 else
  zep r3.1 >>= fun r6 =>
  some (r6.1,r6.2)
theorem zxo (a0:z06):z1u Tryz.prog 65 [.rd z03 a0] [zG1] (zwt a0) (fun r nv=>⟨[.rd aZ r.1,.rd z0a r.2],[(1001,some (.bool true,.glob 1 (z34 64 z0n) z6m))]⟩):=by
 refine z2d 19 Tryz.func65 Z Z Z fun H w=>?_
 refine gSR<|Eb Z (bx 1 Z) fun v1=>Eb Z (z8e 2 z4q (.zr (R:=aZ) (x:=(Vector.replicate 32 0)) zl4)) fun v2=>Zb Z<|gSR<|Zq (ld 1 Z Z fH zc0 Z)<|Zc [] [(100,3)] Tryz.func93 Z (zo8 _) fun r3 n4=>Zm Z<|Zq (ext Z Z)<|Zq (ext Z Z)<|Za Z<|Zb Z<|z0j<|gSR<|Zm Z<|Zq (I.neq Z Z)<|Zj Z (fun h5=>?_) (fun h5=>?_)
 ·
  refine gSR<|Zq (bldG (x':=((Vector.replicate 32 0):V3)) tu94 z4q zl4 ti5 (Bld.done Z))<|Zm Z<|Es (sto 2 Z Z fH Z z4q)<|Zb Z<|z0e<|z0k<|zd6 [] [1001] Z (eC 2 Z Z z8d<|eE Z<|eN) (y1 Z)
 ·
  refine Zt<|gSR<|Zm Z<|zen 3 [9,4,15] Z (fS Z<|fS Z<|fS Z<|fN)<|Zc [1001] [] Tryz.func94 Z (zlu _) fun r6 n7=>Zq (ext Z Z)<|Zq (ext Z Z)<|Es (sto 2 Z Z fH Z z4q)<|Zb Z<|z0e<|zd6 [] [1001] Z (eC 2 Z Z z8d<|eE Z<|eN) (y1 Z)
def z46 (a0:List UInt32) (s2:Int):Option (Sum (Sum Bool Unit) Int) :=
 if decide (s2<(a0.length:Int)) then
  idx a0 s2 >>= fun x4 =>
  zek x4 >>= fun r6 =>
  if !r6 then
   some (.inl (.inl false))
  else
   some (.inr (w64 (s2+1)))
 else
  some (.inl (.inr ()))
def zbk (a0:List UInt32):Option (Bool) :=
 z3p (iter (z46 a0) 0) fun s1 =>
 some true
theorem zi9 (a0:List UInt32):z1u Tryz.prog 151 [.rd (z02 z0n) a0] [] (zbk a0) (fun r nv=>⟨[.rd z0m r],[]⟩):=by
 refine z2d 15 Tryz.func151 Z Z Z fun H w=>?_
 refine gSR<|Zb Z<|z4e (fun (s1:Unit) aa ww=>Sta (ctx 15 H [] w) [] [] aa ww) ?_ (fun s1=>?_)
 ·
  refine gSR<|Zm Z<|Zq (z33 Z .rd Z tu188)<|Zm Z<|Zn<|z1o (fun (s2:Int) aa ww=>Sta (ctx 15 H [] w) [(5,.rd (z02 z0n) a0),(6,.rd z0a (a0.length:Int)),(7,.rd z0a s2)] [] aa ww) (fun aa ww h=>Zu h []) (fun s2=>?_)
  refine gSR<|Zq (I.lss Z Z)<|Zn<|z0j<|gIf Z Z (fun h3=>?_) (fun h3=>?_)
  ·
   refine Zt<|z0j<|z49<|gSR<|z0x fun x4 h5=>Zq (ixR Z Z h5 tu188 z4x Z)<|Zq (ldR Z z78)<|Zb Z<|gSR<|Zm Z<|Zc [] [] Tryz.func110 Z (zg1 _) fun r6 n7=>Zq (zdf Z)<|Zj Z (fun h8=>?_) (fun h8=>?_)
   ·
    refine gSR<|Zb Z<|z0e<|z2r<|z0k<|z3z<|z3e<|Ze [] [] Z
   ·
    refine z24<|z2w<|z0h<|z2b<|Zq (I.add Z Z)<|Zm Z<|z1x<|z1b (fun aa ww h=>Zu h [])
  ·
   refine z1m<|z0t<|z0u<|z3o (fun aa ww h=>Zu h [])
 ·
  refine gSR<|Zb Z<|z0e<|Ze [] [] Z
def zjr (a0:UInt32) (a1:UInt64):Option (UInt32 × Int) :=
 zbk [a0] >>= fun r2 =>
 if !r2 then
  some (0,2)
 else
  zck a0 a1 >>= fun r5 =>
  some (r5,0)
end
section
open Go Go.RowKit
set_option maxRecDepth 100000
theorem znj (a0:UInt32) (a1:UInt64):z1u Tryz.prog 119 [.rd z0n a0,.rd z2z a1] [] (zjr a0 a1) (fun r nv=>⟨[.rd z0n r.1,.rd z0a r.2],[]⟩):=by
 refine z2d 13 Tryz.func119 Z Z Z fun H w=>?_
 refine gSR<|Za Z<|Zb Z<|z0j<|gSR<|Zm Z<|Ef Z (lit (R:=z0n) ([a0]:List UInt32) 1 (pP Z Z<|pN) Z tu188 z4x Z Z) fun v1=>zen 1 [7] Z (fS Z<|fN)<|Zc [] [] Tryz.func151 Z (zi9 _) fun r2 n3=>Zq (zdf Z)<|Zj Z (fun h4=>?_) (fun h4=>?_)
 ·
  refine gSR<|Za Z<|Zb Z<|z0e<|z0k<|Ze [] [] Z
 ·
  refine Zt<|gSR<|Zm Z<|Zm Z<|Zc [] [] Tryz.func107 Z (zea _ _) fun r5 n6=>Za Z<|Zb Z<|z0e<|Ze [] [] Z
def zht (a0:UInt64):Option (UInt32) :=
 zck 4 a0 >>= fun r1 =>
 some r1
theorem zm5 (a0:UInt64):z1u Tryz.prog 81 [.rd z2z a0] [] (zht a0) (fun r nv=>⟨[.rd z0n r],[]⟩):=by
 refine z2d 5 Tryz.func81 Z Z Z fun H w=>?_
 refine gSR<|Zb Z<|gSR<|Zm Z<|Zc [] [] Tryz.func107 Z (zea _ _) fun r1 n2=>Zb Z<|z0e<|Ze [] [] Z
def zk4 (a0:UInt32) (a1:UInt32):Option (UInt32 × Int) :=
 zbk [a0,a1] >>= fun r2 =>
 if !r2 then
  some (0,2)
 else
  zca 1000000007 [a0,a1] >>= fun r6 =>
  some (r6,0)
theorem zob (a0:UInt32) (a1:UInt32):z1u Tryz.prog 120 [.rd z0n a0,.rd z0n a1] [] (zk4 a0 a1) (fun r nv=>⟨[.rd z0n r.1,.rd z0a r.2],[]⟩):=by
 refine z2d 15 Tryz.func120 Z Z Z fun H w=>?_
 refine gSR<|Za Z<|Zb Z<|z0j<|gSR<|Zm Z<|Zm Z<|Ef Z (lit (R:=z0n) ([a0,a1]:List UInt32) 1 (pP Z Z<|pP Z Z<|pN) Z tu188 z4x Z Z) fun v1=>zen 1 [8] Z (fS Z<|fN)<|Zc [] [] Tryz.func151 Z (zi9 _) fun r2 n3=>Zq (zdf Z)<|Zj Z (fun h4=>?_) (fun h4=>?_)
 ·
  refine gSR<|Za Z<|Zb Z<|z0e<|z0k<|Ze [] [] Z
 ·
  refine Zt<|gSR<|Zm Z<|Zm Z<|Ef Z (lit (R:=z0n) ([a0,a1]:List UInt32) 2 (pP Z Z<|pP Z Z<|pN) Z tu188 z4x Z Z) fun v5=>zen 2 [13] Z (fS Z<|fN)<|Zc [] [] Tryz.func118 Z (ze8 _ _) fun r6 n7=>Za Z<|Zb Z<|z0e<|Ze [] [] Z
def z6i (a2:List UInt32) (s4:(List UInt8) × Int):Option (Sum ((List UInt8)) ((List UInt8) × Int)) :=
 if decide (s4.2<(a2.length:Int)) then
  idx a2 s4.2 >>= fun x7 =>
  app 1 s4.1 [(z44 x7 24).toUInt8,(z44 x7 16).toUInt8,(z44 x7 8).toUInt8,x7.toUInt8] >>= fun x10 =>
  some (.inr (x10,w64 (s4.2+1)))
 else
  some (.inl s4.1)
def zac (r15:V3 × Int) (s19:UInt64 × Int):Option (Sum UInt64 (UInt64 × Int)) :=
 if decide (s19.2<(((r15.1.toList.drop 0).take 8).length:Int)) then
  idx ((r15.1.toList.drop 0).take 8) s19.2 >>= fun x21 =>
  some ((zm2 s19.1 8) ||| x21.toUInt64) >>= fun y23 =>
  some (.inr (y23,w64 (s19.2+1)))
 else
  some (.inl s19.1)
def zgs (a0:UInt8) (a1:List UInt8) (a2:List UInt32):Option (UInt64 × Int) :=
 if decide (9991<(a1.length:Int)) then
  some (0,4)
 else
  (iter (z6i a2) ([a0],0)) >>= fun s3 =>
  z9m [s3,a1] >>= fun r15 =>
  (iter (zac r15) (0,0)) >>= fun s18 =>
  some (s18,r15.2)
theorem zo6 (a0:UInt8) (a1:List UInt8) (a2:List UInt32):z1u Tryz.prog 117 [.rd u8R a0,.rd (z02 u8R) a1,.rd (z02 z0n) a2] [zG1] (zgs a0 a1 a2) (fun r nv=>⟨[.rd z2z r.1,.rd z0a r.2],[(1001,some (.bool true,.glob 1 (z34 64 z0n) z6m))]⟩):=by
 refine z2d 63 Tryz.func117 Z Z Z fun H w=>?_
 refine gSR<|Za Z<|Zb Z<|z0j<|gSR<|Zm Z<|Zq (z33 Z .rd Z tu109)<|Zq (I.gtr Z Z)<|Zj Z (fun h1=>?_) (fun h1=>?_)
 ·
  refine gSR<|Za Z<|Zb Z<|z0e<|z0k<|Ze [] [1001] Z
 ·
  refine Zt<|gSR<|Zm Z<|Ef Z (lit (R:=u8R) ([a0]:List UInt8) 1 (pP Z Z<|pN) Z tu109 ti5 Z Z) fun v2=>Zb Z<|z8g (fun (s3:(List UInt8)) aa ww=>∃ nv:Nat→Value,Sta (ctx 63 H [zG1] w) [(1,.rd (z02 u8R) a1),(8,.val (nv 0))] [(1,some ((nv 0),.list u8R 5 s3)),zG1] aa ww) ?_ (fun s3=>?_)
  ·
   refine gSR<|Zm Z<|Zq (z33 Z .rd Z tu188)<|Zm Z<|Zn<|z1o (fun (s4:(List UInt8) × Int) aa ww=>∃ nv:Nat→Value,Sta (ctx 63 H [zG1] w) [(1,.rd (z02 u8R) a1),(8,.val (nv 0)),(21,.rd (z02 z0n) a2),(22,.rd z0a (a2.length:Int)),(23,.rd z0a s4.2)] [(1,some ((nv 0),.list u8R 5 s4.1)),zG1] aa ww) (fun aa ww h=>⟨nvl [v2],Zu h [1,1001]⟩) (fun s4=>?_)
   refine gEx fun n5=>gSR<|Zq (I.lss Z Z)<|Zn<|z0j<|gIf Z Z (fun h6=>?_) (fun h6=>?_)
   ·
    refine Zt<|z0j<|z49<|gSR<|z0x fun x7 h8=>Zq (ixR Z Z h8 tu188 z4x Z)<|Zq (ldR Z z78)<|Zb Z<|z2b<|Zm Z<|Zm Z<|Zq (W.shr Z Z (Int.natCast_nonneg _))<|Zq (W.toB Z tu78 tu5)<|Zm Z<|Zq (W.shr Z Z (Int.natCast_nonneg _))<|Zq (W.toB Z tu78 tu5)<|Zm Z<|Zq (W.shr Z Z (Int.natCast_nonneg _))<|Zq (W.toB Z tu78 tu5)<|Zm Z<|Zq (W.toB Z tu78 tu5)<|Ef Z (lit (R:=u8R) ([(z44 x7 24).toUInt8,(z44 x7 16).toUInt8,(z44 x7 8).toUInt8,x7.toUInt8]:List UInt8) 1100 (pP Z Z<|pP Z Z<|pP Z Z<|pP Z Z<|pN) Z tu109 ti5 Z Z) fun v9=>z0x fun x10 h11=>Ef Z (apn 1 Z Z Z (.own 1100 Z) h11 tu109 ti5 Z Z Z) fun v12=>Za Z<|z1x<|z2w<|z0h<|z2b<|Zq (I.add Z Z)<|Zm Z<|z1x<|z1b (fun aa ww h=>⟨nvl [v12],Zu h [1,1001]⟩)
   ·
    refine z1m<|z0t<|z0u<|z4o (fun aa ww h=>⟨nvl [(n5 0)],Zu h [1,1001]⟩)
  ·
   refine gEx fun n13=>gSR<|Zm Z<|Zm Z<|zen 1 [8,43] Z (fS Z<|fS Z<|fN)<|Ef Z (lit (R:=(z02 u8R)) ([s3,a1]:List (List UInt8)) 1101 (pP Z Z<|pP Z Z<|pN) Z tu154 zgz Z Z) fun v14=>zen 1101 [45] Z (fS Z<|fN)<|Zc [1001] [] Tryz.func121 Z (zdc _) fun r15 n16=>Zm Z<|Zq (ext Z Z)<|Zq (ext Z Z)<|Eb Z (z8e 1102 z4q (.zr (R:=aZ) (x:=(Vector.replicate 32 0)) zl4)) fun v17=>Es (sto 1102 Z Z fH Z z4q)<|Zb Z<|gSR<|Zb Z<|z8g (fun (s18:UInt64) aa ww=>Sta (ctx 63 H [zG1] w) [(12,.rd z0a r15.2),(13,.rd z2z s18)] [zG1] aa ww) ?_ (fun s18=>?_)
   ·
    refine gSR<|z121 1102 11 Z Z<|Zq (z13d (i:=0) (j:=8) Z .no (.to Z) tu94 ti5 (by decide) Z Z Z)<|Zq (z33 Z .rd Z tu109)<|Zm Z<|Zn<|z1o (fun (s19:UInt64 × Int) aa ww=>Sta (ctx 63 H [zG1] w) [(12,.rd z0a r15.2),(13,.rd z2z s19.1),(49,.rd (z02 u8R) ((r15.1.toList.drop 0).take 8)),(50,.rd z0a (((r15.1.toList.drop 0).take 8).length:Int)),(51,.rd z0a s19.2)] [zG1] aa ww) (fun aa ww h=>Zu h [1001]) (fun s19=>?_)
    refine gSR<|Zq (I.lss Z Z)<|Zn<|z0j<|gIf Z Z (fun h20=>?_) (fun h20=>?_)
    ·
     refine Zt<|z0j<|z49<|gSR<|z0x fun x21 h22=>Zq (ixR Z Z h22 tu109 ti5 Z)<|Zq (ldR Z ty5)<|Zb Z<|z2b<|Zm Z<|Zq (U.shl Z Z (Int.natCast_nonneg _))<|Zm Z<|Zq (B.toU Z tu5 tu56)<|Zq (U.or Z Z)<|Za Z<|z1z 13 Z fun y23=>z1x<|z2w<|z0h<|z2b<|Zq (I.add Z Z)<|Zm Z<|z1x<|z1b (fun aa ww h=>Zu h [1001])
    ·
     refine z1m<|z0t<|z0u<|z4o (fun aa ww h=>Zu h [1001])
   ·
    refine gSR<|Zm Z<|Zm Z<|Za Z<|Zb Z<|z0e<|Ze [] [1001] Z
def za4 (a0:UInt32) (a1:UInt32) (a2:List UInt8):Option (UInt32 × Int) :=
 zgs 99 a2 [a0,a1] >>= fun r2 =>
 if r2.2 != 0 then
  some (0,r2.2)
 else
  some ((r2.1 % 500000003).toUInt32) >>= fun y5 =>
  some (y5,0)
theorem zhu (a0:UInt32) (a1:UInt32) (a2:List UInt8):z1u Tryz.prog 89 [.rd z0n a0,.rd z0n a1,.rd (z02 u8R) a2] [zG1] (za4 a0 a1 a2) (fun r nv=>⟨[.rd z0n r.1,.rd z0a r.2],[(1001,some (.bool true,.glob 1 (z34 64 z0n) z6m))]⟩):=by
 refine z2d 24 Tryz.func89 Z Z Z fun H w=>?_
 refine gSR<|Za Z<|Zb Z<|gSR<|Zm Z<|Zm Z<|Zm Z<|Ef Z (lit (R:=z0n) ([a0,a1]:List UInt32) 1 (pP Z Z<|pP Z Z<|pN) Z tu188 z4x Z Z) fun v1=>zen 1 [14] Z (fS Z<|fN)<|Zc [1001] [] Tryz.func117 Z (zo6 _ _ _) fun r2 n3=>Zm Z<|Zq (ext Z Z)<|Zq (ext Z Z)<|Za Z<|Zb Z<|z0j<|gSR<|Zm Z<|Zq (I.neq Z Z)<|Zj Z (fun h4=>?_) (fun h4=>?_)
 ·
  refine gSR<|Zm Z<|Za Z<|Zb Z<|z0e<|z0k<|Ze [] [1001] Z
 ·
  refine Zt<|gSR<|Zm Z<|Zq (U.rem Z Z (by decide))<|Zq (U.toW Z tu56 tu78)<|Za Z<|z1z 6 Z fun y5=>Zb Z<|z0e<|Ze [] [1001] Z
def zcp (a0:UInt32) (a1:List UInt8) (a2:z0w):Option (Int) :=
 zek a0 >>= fun r2 =>
 if !r2 then
  some 2
 else
  if decide (9991<(a1.length:Int)) then
   some 4
  else
   if decide (500000003≤(max a2.E a2.S)) then
    some 22
   else
    zjr a0 (500000003 - a2.E.toUInt64) >>= fun r7 =>
    zht a2.S.toUInt64 >>= fun r9 =>
    zk4 r9 r7.1 >>= fun r11 =>
    za4 r11.1 a0 a1 >>= fun r13 =>
    if r13.2 != 0 then
     some 22
    else
     if r13.1 != a2.E then
      some 22
     else
      some 0
theorem zkd (a0:UInt32) (a1:List UInt8) (a2:z0w):z1u Tryz.prog 92 [.rd z0n a0,.rd (z02 u8R) a1,.rd z1j a2] [zG1] (zcp a0 a1 a2) (fun r nv=>⟨[.rd z0a r],[(1001,some (.bool true,.glob 1 (z34 64 z0n) z6m))]⟩):=by
 refine z2d 58 Tryz.func92 Z Z Z fun H w=>?_
 refine gSR<|Eb Z (bx 1 Z) fun v1=>Zb Z<|z0j<|gSR<|Zm Z<|Zc [] [] Tryz.func110 Z (zg1 _) fun r2 n3=>Zq (zdf Z)<|Zj Z (fun h4=>?_) (fun h4=>?_)
 ·
  refine gSR<|Zb Z<|z0e<|z0k<|Ze [] [1001] Z
 ·
  refine Zt<|z0j<|gSR<|Zm Z<|Zq (z33 Z .rd Z tu109)<|Zq (I.gtr Z Z)<|Zj Z (fun h5=>?_) (fun h5=>?_)
  ·
   refine gSR<|Zb Z<|z0e<|z0k<|Ze [] [1001] Z
  ·
   refine Zt<|z0j<|gSR<|Zq (faB 1 Z Z Tryz.underlying84 Z (by exact z4x))<|Zq (ld 1 Z Z (fP (z4r _)) z78 Z)<|Zq (faB 1 Z Z Tryz.underlying84 Z (by exact z4x))<|Zq (ld 1 Z Z (fP (z6j _)) z78 Z)<|Zq (W.max Z Z)<|Zq (W.geq Z Z)<|Zj Z (fun h6=>?_) (fun h6=>?_)
   ·
    refine gSR<|Zb Z<|z0e<|z0k<|Ze [] [1001] Z
   ·
    refine Zt<|gSR<|Zm Z<|Zq (faB 1 Z Z Tryz.underlying84 Z (by exact z4x))<|Zq (ld 1 Z Z (fP (z4r _)) z78 Z)<|Zq (W.toU Z tu78 tu56)<|Zq (U.sub Z Z)<|Zc [] [] Tryz.func119 Z (znj _ _) fun r7 n8=>Zm Z<|Zq (ext Z Z)<|Zq (ext Z Z)<|Za Z<|Zb Z<|gSR<|Zq (faB 1 Z Z Tryz.underlying84 Z (by exact z4x))<|Zq (ld 1 Z Z (fP (z6j _)) z78 Z)<|Zq (W.toU Z tu78 tu56)<|Zc [] [] Tryz.func81 Z (zm5 _) fun r9 n10=>Zm Z<|Zc [] [] Tryz.func120 Z (zob _ _) fun r11 n12=>Zm Z<|Zq (ext Z Z)<|Zq (ext Z Z)<|Za Z<|Zb Z<|z0j<|gSR<|Zm Z<|Zm Z<|Zm Z<|Zc [1001] [] Tryz.func89 Z (zhu _ _ _) fun r13 n14=>Zm Z<|Zq (ext Z Z)<|Zq (ext Z Z)<|Za Z<|Zb Z<|gSR<|Zm Z<|Zq (I.neq Z Z)<|Zm Z<|z17 52 Z (fun h15=>?_) (fun h15=>?_)
    ·
     refine lKn 51 Z h15<|Zk Z<|Zk Z<|Zk Z<|Zk Z<|Zq (pkT Z Z)<|Zn<|zce Z<|gSR<|Zb Z<|z0e<|z0k<|Ze [] [1001] Z
    ·
     refine lKn 51 Z h15<|z0y Zx Z Z (mv Z)<|z0y Zx Z Z (faB 1 Z Z Tryz.underlying84 Z (by exact z4x))<|z0y Zx Z Z (ld 1 Z Z (fP (z4r _)) z78 Z)<|z0y Zx Z Z (W.neq Z Z)<|Zq (pkF Z Z)<|Zj Z (fun h16=>?_) (fun h16=>?_)
     ·
      refine gKn 56 Z h16<|gSR<|Zb Z<|z0e<|z0k<|Ze [] [1001] Z
     ·
      refine gKn 56 Z h16<|Zt<|gSR<|Zb Z<|z0e<|Ze [] [1001] Z
def zgw (a0:z06):Option (Int) :=
 zcn a0 >>= fun r2 =>
 if r2 != 0 then
  some r2
 else
  zc7 a0 >>= fun r5 =>
  zcp a0.Author r5.1 a0.Sig >>= fun r7 =>
  some r7
theorem zmw (a0:z06):z1u Tryz.prog 64 [.rd z03 a0] [zG1] (zgw a0) (fun r nv=>⟨[.rd z0a r],[(1001,some (.bool true,.glob 1 (z34 64 z0n) z6m))]⟩):=by
 refine z2d 22 Tryz.func64 Z Z Z fun H w=>?_
 refine gSR<|Eb Z (bx 1 Z) fun v1=>Zb Z<|z0j<|gSR<|Zq (ld 1 Z Z fH zc0 Z)<|Zc [] [] Tryz.func82 Z (zfg _) fun r2 n3=>Zb Z<|gSR<|Zm Z<|Zq (I.neq Z Z)<|Zj Z (fun h4=>?_) (fun h4=>?_)
 ·
  refine gSR<|Zm Z<|Zb Z<|z0e<|z0k<|Ze [] [1001] Z
 ·
  refine Zt<|gSR<|Zq (ld 1 Z Z fH zc0 Z)<|Zc [] [(100,2)] Tryz.func62 Z (zhb _) fun r5 n6=>Zm Z<|Zq (ext Z Z)<|Zq (ext Z Z)<|Za Z<|Zb Z<|gSR<|Zq (faB 1 Z Z Tryz.underlying86 Z (by exact z4x))<|Zq (ld 1 Z Z (fP (z20 _)) z78 Z)<|Zm Z<|Zq (faB 1 Z Z Tryz.underlying86 Z (by exact zla))<|Zq (ld 1 Z Z (fP (z1r _)) zz1 Z)<|zen 2 [14,4,18] Z (fS Z<|fS Z<|fS Z<|fN)<|Zc [1001] [] Tryz.func92 Z (zkd _ _ _) fun r7 n8=>Zb Z<|z0e<|Ze [] [1001] Z
def z4k (s4:UInt64 × (List UInt8)):Option (Sum ((List UInt8)) (UInt64 × (List UInt8))) :=
 if decide (0<s4.1) then
  app 1 s4.2 [(s4.1 % 256).toUInt8] >>= fun x8 =>
  some (.inr (s4.1 / 256,x8))
 else
  some (.inl s4.2)
def z4m (s3:(List UInt8)) (s15:(List UInt8) × Int):Option (Sum ((List UInt8)) ((List UInt8) × Int)) :=
 if decide (0≤s15.2) then
  idx s3 s15.2 >>= fun x18 =>
  app 1 s15.1 [x18] >>= fun x21 =>
  some (w64 (s15.2 - 1)) >>= fun y24 =>
  some (.inr (x21,y24))
 else
  some (.inl s15.1)
def z22 (a0:UInt64):Option ((List UInt8)) :=
 if decide (a0≤247) then
  some [a0.toUInt8]
 else
  (iter (z4k) (a0,[])) >>= fun s3 =>
  (some (w64 ((s3.length:Int) - 1)) >>= fun y14 =>
  iter (z4m s3) ([UInt8.ofInt (w64 (247+(s3.length:Int)))],y14)) >>= fun s13 =>
  some s13
theorem z2j (a0:UInt64):z1u Tryz.prog 143 [.rd z2z a0] [] (z22 a0) (fun r nv=>⟨[.val (nv 0)],[(100,some (nv 0,.list u8R 5 r))]⟩):=by
 refine z2d 41 Tryz.func143 Z Z Z fun H w=>?_
 refine gSR<|Zb Z<|z0j<|gSR<|Zm Z<|Zq (U.leq Z Z)<|Zj Z (fun h1=>?_) (fun h1=>?_)
 ·
  refine gSR<|Zm Z<|Zq (U.toB Z tu56 tu5)<|Ef Z (lit (R:=u8R) ([a0.toUInt8]:List UInt8) 1 (pP Z Z<|pN) Z tu109 ti5 Z Z) fun v2=>Zb Z<|z0e<|z0k<|Ze [v2] [1] Z
 ·
  refine Zt<|gSR<|Zb Z<|z8g (fun (s3:(List UInt8)) aa ww=>∃ nv:Nat→Value,Sta (ctx 41 H [] w) [(3,.val (nv 0))] [(3,some ((nv 0),.list u8R 5 s3))] aa ww) ?_ (fun s3=>?_)
  ·
   refine zug u8R 5 6<|z1o (fun (s4:UInt64 × (List UInt8)) aa ww=>∃ nv:Nat→Value,Sta (ctx 41 H [] w) [(0,.rd z2z s4.1),(3,.val (nv 0))] [(5,some ((nv 0),.list u8R 5 s4.2))] aa ww) (fun aa ww h=>⟨nvl [(.slice none 0 0)],Zu h [6]⟩) (fun s4=>?_)
   refine gEx fun n5=>z0j<|gSR<|Zm Z<|Zq (U.gtr Z Z)<|Zj Z (fun h6=>?_) (fun h6=>?_)
   ·
    refine Zt<|z49<|gSR<|Zm Z<|Zm Z<|Zq (U.rem Z Z (by decide))<|Zq (U.toB Z tu56 tu5)<|Ef Z (lit (R:=u8R) ([(s4.1 % 256).toUInt8]:List UInt8) 7 (pP Z Z<|pN) Z tu109 ti5 Z Z) fun v7=>z0x fun x8 h9=>Ef Z (apn 5 Z Z Z (.own 7 Z) h9 tu109 ti5 Z Z Z) fun v10=>Zb Z<|z2b<|Zm Z<|Zq (U.quo Z Z (by decide))<|Za Z<|z1x<|z2w<|z1b (fun aa ww h=>⟨nvl [v10],Zu h [5]⟩)
   ·
    refine z1m<|z0t<|z0u<|z4o (fun aa ww h=>⟨nvl [(n5 0)],Zu h [5]⟩)
  ·
   refine gEx fun n11=>gSR<|Zm Z<|Zq (z33 Z (.own 3 Z) Z tu109)<|Zq (I.add Z Z)<|Zq (I.toB Z tu3 tu5)<|Ef Z (lit (R:=u8R) ([UInt8.ofInt (w64 (247+(s3.length:Int)))]:List UInt8) 8 (pP Z Z<|pN) Z tu109 ti5 Z Z) fun v12=>Zb Z<|z8g (fun (s13:(List UInt8)) aa ww=>∃ nv:Nat→Value,Sta (ctx 41 H [] w) [(4,.val (nv 0))] [(8,some ((nv 0),.list u8R 5 s13))] aa ww) ?_ (fun s13=>?_)
   ·
    refine gSR<|Zm Z<|Zq (z33 Z (.own 3 Z) Z tu109)<|Zq (I.sub Z Z)<|Za Z<|z1z 5 Z fun y14=>Zn<|z1o (fun (s15:(List UInt8) × Int) aa ww=>∃ nv:Nat→Value,Sta (ctx 41 H [] w) [(3,.val (n11 0)),(4,.val (nv 0)),(5,.rd z0a s15.2)] [(3,some ((n11 0),.list u8R 5 s3)),(8,some ((nv 0),.list u8R 5 s15.1))] aa ww) (fun aa ww h=>⟨nvl [v12],Zu h [3,8]⟩) (fun s15=>?_)
    refine gEx fun n16=>z0j<|gSR<|Zm Z<|Zq (I.geq Z Z)<|Zj Z (fun h17=>?_) (fun h17=>?_)
    ·
     refine Zt<|z0j<|z49<|z2b<|Zm Z<|Zm Z<|Zm Z<|z0x fun x18 h19=>Zq (ixO 3 Z Z Z h19 tu109 ti5)<|Zq (ld 3 Z Z (Foc.el h19) ty5 Z)<|Ef Z (lit (R:=u8R) ([x18]:List UInt8) 9 (pP Z Z<|pN) Z tu109 ti5 Z Z) fun v20=>z0x fun x21 h22=>Ef Z (apn 8 Z Z Z (.own 9 Z) h22 tu109 ti5 Z Z Z) fun v23=>Za Z<|z1x<|z2w<|z0h<|z2b<|Zm Z<|Zq (I.sub Z Z)<|Za Z<|z1z 5 Z fun y24=>z1x<|z1b (fun aa ww h=>⟨nvl [v23],Zu h [3,8]⟩)
    ·
     refine z1m<|z0t<|z0u<|z4o (fun aa ww h=>⟨nvl [(n16 0)],Zu h [8]⟩)
   ·
    refine gEx fun n25=>gSR<|Zm Z<|Zb Z<|z0e<|Ze [(n25 0)] [8] Z
def z5l (a0:List V3) (s4:(List UInt8) × Int):Option (Sum ((List UInt8)) ((List UInt8) × Int)) :=
 if decide (s4.2<(a0.length:Int)) then
  idx a0 s4.2 >>= fun x7 =>
  app 1 s4.1 x7.toList >>= fun x9 =>
  some (w64 (s4.2+1)) >>= fun y12 =>
  some (.inr (x9,y12))
 else
  some (.inl s4.1)
def z9h (a0:List V3):Option ((List UInt8)) :=
 z22 (UInt64.ofInt (a0.length:Int)) >>= fun r1 =>
 (iter (z5l a0) (r1,0)) >>= fun s3 =>
 some s3
theorem zh7 (a0:List V3):z1u Tryz.prog 171 [.rd (z02 aZ) a0] [] (z9h a0) (fun r nv=>⟨[.val (nv 0)],[(100,some (nv 0,.list u8R 5 r))]⟩):=by
 refine z2d 22 Tryz.func171 Z Z Z fun H w=>?_
 refine gSR<|Zb Z<|gSR<|Zm Z<|Zq (z33 Z .rd Z tu46)<|Zq (I.toU Z tu3 tu56)<|Zc [] [(100,1)] Tryz.func143 Z (z2j _) fun r1 n2=>Zb Z<|z8g (fun (s3:(List UInt8)) aa ww=>∃ nv:Nat→Value,Sta (ctx 22 H [] w) [(3,.val (nv 0))] [(1,some ((nv 0),.list u8R 5 s3))] aa ww) ?_ (fun s3=>?_)
 ·
  refine gSR<|Zb Z<|z1o (fun (s4:(List UInt8) × Int) aa ww=>∃ nv:Nat→Value,Sta (ctx 22 H [] w) [(0,.rd (z02 aZ) a0),(3,.val (nv 0)),(4,.rd z0a s4.2)] [(1,some ((nv 0),.list u8R 5 s4.1))] aa ww) (fun aa ww h=>⟨nvl [(n2 0)],Zu h [1]⟩) (fun s4=>?_)
  refine gEx fun n5=>z0j<|gSR<|Zm Z<|Zm Z<|Zq (z33 Z .rd Z tu46)<|Zq (I.lss Z Z)<|Zj Z (fun h6=>?_) (fun h6=>?_)
  ·
   refine Zt<|z0j<|z49<|z2b<|Zm Z<|Zm Z<|Zm Z<|z0x fun x7 h8=>Zq (ixR Z Z h8 tu46 z4q Z)<|Zq (cutV Z tu94 ti5 Z Z Z)<|z0x fun x9 h10=>Ef Z (apn 1 Z Z Z .rd h10 tu109 ti5 Z Z Z) fun v11=>Za Z<|z1x<|z2w<|z0h<|z2b<|Zm Z<|Zq (I.add Z Z)<|Za Z<|z1z 4 Z fun y12=>z1x<|z1b (fun aa ww h=>⟨nvl [v11],Zu h [1]⟩)
  ·
   refine z1m<|z0t<|z0u<|z4o (fun aa ww h=>⟨nvl [(n5 0)],Zu h [1]⟩)
 ·
  refine gEx fun n13=>gSR<|Zm Z<|Zb Z<|z0e<|Ze [(n13 0)] [1] Z
def z6a (a0:List UInt8):Option ((List UInt8)) :=
 z22 (UInt64.ofInt (a0.length:Int)) >>= fun r1 =>
 app 1 r1 a0 >>= fun x3 =>
 some x3
theorem zbn (a0:List UInt8):z1u Tryz.prog 172 [.rd (z02 u8R) a0] [] (z6a a0) (fun r nv=>⟨[.val (nv 0)],[(100,some (nv 0,.list u8R 5 r))]⟩):=by
 refine z2d 9 Tryz.func172 Z Z Z fun H w=>?_
 refine gSR<|Zb Z<|gSR<|Zm Z<|Zq (z33 Z .rd Z tu109)<|Zq (I.toU Z tu3 tu56)<|Zc [] [(100,1)] Tryz.func143 Z (z2j _) fun r1 n2=>Zm Z<|z0x fun x3 h4=>Ef Z (apn 1 Z Z Z .rd h4 tu109 ti5 Z Z Z) fun v5=>Zb Z<|z0e<|Ze [v5] [1] Z
def z7t (a0:Int):Option ((List UInt8)) :=
 if decide (0≤a0) then
  z22 (2 * (UInt64.ofInt a0)) >>= fun r2 =>
  some r2
 else
  z22 ((2 * (UInt64.ofInt (w64 (0 - (w64 (a0+1))))))+1) >>= fun r4 =>
  some r4
theorem zes (a0:Int):z1u Tryz.prog 190 [.rd z0a a0] [] (z7t a0) (fun r nv=>⟨[.val (nv 0)],[(100,some (nv 0,.list u8R 5 r))]⟩):=by
 refine z2d 16 Tryz.func190 Z Z Z fun H w=>?_
 refine gSR<|Zb Z<|z0j<|gSR<|Zm Z<|Zq (I.geq Z Z)<|Zj Z (fun h1=>?_) (fun h1=>?_)
 ·
  refine gSR<|Zm Z<|Zq (I.toU Z Tryz.underlying2 tu56)<|Zq (U.mul Z Z)<|Zc [] [(100,1)] Tryz.func143 Z (z2j _) fun r2 n3=>Zb Z<|z0e<|z0k<|Ze [(n3 0)] [1] Z
 ·
  refine Zt<|gSR<|Zm Z<|Zq (I.add Z Z)<|Zq (I.neg Z)<|Zq (I.toU Z Tryz.underlying2 tu56)<|Zq (U.mul Z Z)<|Zq (U.add Z Z)<|Zc [] [(100,2)] Tryz.func143 Z (z2j _) fun r4 n5=>Zb Z<|z0e<|Ze [(n5 0)] [2] Z
def z56 (a0:z08) (s11:(List UInt8) × Int):Option (Sum ((List UInt8)) ((List UInt8) × Int)) :=
 if decide (0≤s11.2) then
  chk (0≤w64 (8 * s11.2)) >>= fun u14 =>
  app 1 s11.1 [(z6e a0.Bits ((w64 (8 * s11.2):Int).toNat)).toUInt8] >>= fun x17 =>
  some (w64 (s11.2 - 1)) >>= fun y20 =>
  some (.inr (x17,y20))
 else
  some (.inl s11.1)
def z8q (a0:z08):Option ((List UInt8)) :=
 if a0.Kind==1 then
  z7t a0.Num >>= fun r4 =>
  app 1 [a0.Kind] r4 >>= fun x6 =>
  some x6
 else
  if a0.Kind==2 then
   (iter (z56 a0) ([a0.Kind],7)) >>= fun s10 =>
   some s10
  else
   chk (a0.Text.length≤281474976710656) >>= fun u22 =>
   z6a a0.Text >>= fun r24 =>
   app 1 [a0.Kind] r24 >>= fun x26 =>
   some x26
theorem zfo (a0:z08):z1u Tryz.prog 173 [.rd z1k a0] [] (z8q a0) (fun r nv=>⟨[.val (nv 0)],[(100,some (nv 0,.list u8R 5 r))]⟩):=by
 refine z2d 39 Tryz.func173 Z Z Z fun H w=>?_
 refine gSR<|Eb Z (bx 1 Z) fun v1=>Zb Z<|gSR<|Zq (faB 1 Z Z Tryz.underlying80 Z (by exact ti5))<|Zq (ld 1 Z Z (fP (z2h _)) ty5 Z)<|Ef Z (lit (R:=u8R) ([a0.Kind]:List UInt8) 2 (pP Z Z<|pN) Z tu109 ti5 Z Z) fun v2=>Zb Z<|z0j<|gSR<|Zq (faB 1 Z Z Tryz.underlying80 Z (by exact ti5))<|Zq (ld 1 Z Z (fP (z2h _)) ty5 Z)<|Zn<|z49<|gSR<|Zq (B.eql Z Z)<|Zb Z<|gIf Z Z (fun h3=>?_) (fun h3=>?_)
 ·
  refine gKn 11 Z h3<|gSR<|Zm Z<|Zq (faB 1 Z Z Tryz.underlying80 Z (by exact ti2))<|Zq (ld 1 Z Z (fP (z5g _)) ty2 Z)<|Zc [] [(100,3)] Tryz.func190 Z (zes _) fun r4 n5=>z0x fun x6 h7=>Ef Z (apn 2 Z Z Z (.own 3 Z) h7 tu109 ti5 Z Z Z) fun v8=>Zb Z<|z0e<|z2r<|z0k<|Ze [v8] [2] Z
 ·
  refine gKn 11 Z h3<|gSR<|Zq (B.eql Z Z)<|Zb Z<|gIf Z Z (fun h9=>?_) (fun h9=>?_)
  ·
   refine gKn 18 Z h9<|z8g (fun (s10:(List UInt8)) aa ww=>∃ nv:Nat→Value,Sta (ctx 39 H [] w) [(3,.val (nv 0))] [(2,some ((nv 0),.list u8R 5 s10))] aa ww) ?_ (fun s10=>?_)
   ·
    refine gSR<|Zb Z<|z1o (fun (s11:(List UInt8) × Int) aa ww=>∃ nv:Nat→Value,Sta (ctx 39 H [] w) [(1,.val (z05 v1 0)),(3,.val (nv 0)),(4,.rd z0a s11.2)] [(1,some (v1,.box 80 [.rd z1k a0])),(2,some ((nv 0),.list u8R 5 s11.1))] aa ww) (fun aa ww h=>⟨nvl [v2],Zu h [1,2]⟩) (fun s11=>?_)
    refine gEx fun n12=>z0j<|gSR<|Zm Z<|Zq (I.geq Z Z)<|Zj Z (fun h13=>?_) (fun h13=>?_)
    ·
     refine Zt<|z0j<|z49<|z2b<|Zm Z<|Zq (faB 1 Z Z Tryz.underlying80 Z (by exact zne))<|Zq (ld 1 Z Z (fP (z3a _)) zmj Z)<|Zm Z<|Zq (I.mul Z Z)<|z0x fun u14 h15=>Zq (U.shr Z Z (z61 h15))<|Zq (U.toB Z tu56 tu5)<|Ef Z (lit (R:=u8R) ([(z6e a0.Bits ((w64 (8 * s11.2):Int).toNat)).toUInt8]:List UInt8) 4 (pP Z Z<|pN) Z tu109 ti5 Z Z) fun v16=>z0x fun x17 h18=>Ef Z (apn 2 Z Z Z (.own 4 Z) h18 tu109 ti5 Z Z Z) fun v19=>Za Z<|z1x<|z2w<|z0h<|z2b<|Zm Z<|Zq (I.sub Z Z)<|Za Z<|z1z 4 Z fun y20=>z1x<|z1b (fun aa ww h=>⟨nvl [v19],Zu h [1,2]⟩)
    ·
     refine z1m<|z0t<|z0u<|z4o (fun aa ww h=>⟨nvl [(n12 0)],Zu h [2]⟩)
   ·
    refine gEx fun n21=>gSR<|Zm Z<|Zb Z<|z0e<|z2r<|z0k<|Ze [(n21 0)] [2] Z
  ·
   refine gKn 18 Z h9<|z24<|z2w<|z0h<|gSR<|Zm Z<|Zq (faB 1 Z Z Tryz.underlying80 Z (by exact ti9))<|Zq (ld 1 Z Z (fP (z2u _)) ty9 Z)<|z0x fun u22 h23=>zwp Z Z h23 tu9 tu109 tu5<|Zc [] [(100,5)] Tryz.func172 Z (zbn _) fun r24 n25=>z0x fun x26 h27=>Ef Z (apn 2 Z Z Z (.own 5 Z) h27 tu109 ti5 Z Z Z) fun v28=>Zb Z<|z0e<|Ze [v28] [2] Z
def z7n (a0:z06):Option ((List UInt8)) :=
 z22 a0.Author.toUInt64 >>= fun r3 =>
 app 1 [111] r3 >>= fun x5 =>
 z9h a0.Preds >>= fun r8 =>
 app 1 x5 r8 >>= fun x10 =>
 z22 a0.Stamp >>= fun r13 =>
 app 1 x10 r13 >>= fun x15 =>
 app 1 x15 [a0.Act.Kind] >>= fun x19 =>
 (if a0.Act.Kind != 1 then
  chk (a0.Act.Key.length≤281474976710656) >>= fun u24 =>
  z6a a0.Act.Key >>= fun r26 =>
  app 1 x19 r26 >>= fun x28 =>
  some x28
 else
  some x19) >>= fun s22 =>
 if a0.Act.Kind==4 then
  z8q a0.Act.Value >>= fun r33 =>
  app 1 s22 r33 >>= fun x35 =>
  some x35
 else
  some s22
theorem zbw (a0:z06):z1u Tryz.prog 138 [.rd z03 a0] [] (z7n a0) (fun r nv=>⟨[.val (nv 0)],[(100,some (nv 0,.list u8R 5 r))]⟩):=by
 refine z2d 47 Tryz.func138 Z Z Z fun H w=>?_
 refine gSR<|Eb Z (bx 1 Z) fun v1=>Zb Z<|gSR<|Ef Z (lit (R:=u8R) ([111]:List UInt8) 2 (pP Z Z<|pN) Z tu109 ti5 Z Z) fun v2=>Zq (faB 1 Z Z Tryz.underlying86 Z (by exact z4x))<|Zq (ld 1 Z Z (fP (z20 _)) z78 Z)<|Zq (W.toU Z tu78 tu56)<|Zc [] [(100,3)] Tryz.func143 Z (z2j _) fun r3 n4=>z0x fun x5 h6=>Ef Z (apn 2 Z Z Z (.own 3 Z) h6 tu109 ti5 Z Z Z) fun v7=>Zb Z<|z0j<|z5a [2,13,25] z2o Z Z<|hTk 0 Z Z (mv Z)<|hTk 1 Z Z (faB 1 Z Z Tryz.underlying86 Z (by exact z85))<|hTk 2 Z Z (ld 1 Z Z (fP (z0v _)) z8z Z)<|hTk 5 Z Z (faB 1 Z Z Tryz.underlying86 Z (by exact zne))<|hTk 6 Z Z (ld 1 Z Z (fP (z31 _)) zmj Z)<|z2s 3 [] [(100,13)] Z (by kernel_rfl) Z (gd0 Z) Z Tryz.func171 Z Z (zh7 _) (Y1 Z) rN Z (fun _ _=>z2p) fun r8 n9=>z35 fun x10 h11=>Zo 4 Z Z Z (apn 2 Z Z Z (.own 13 Z) h11 tu109 ti5 Z Z Z) fun v12=>z2s 7 [] [(100,25)] Z (by kernel_rfl) Z (gd0 Z) Z Tryz.func143 Z Z (z2j _) (Y1 Z) rN Z (fun _ _=>z2p) fun r13 n14=>z35 fun x15 h16=>Zo 8 Z Z Z (apn 2 Z Z Z (.own 25 Z) h16 tu109 ti5 Z Z Z) fun v17=>Zf 9 Z Z z2p (asg Z)<|z3c (by kernel_rfl)<|z0h<|gSR<|Zm Z<|Zq (faB 1 Z Z Tryz.underlying86 Z (by exact zkb))<|Zq (faB 1 Z Z Tryz.underlying82 Z (by exact ti5))<|Zq (ld 1 Z Z ((fP (z1d _)).part (z3l _)) ty5 Z)<|Ef Z (lit (R:=u8R) ([a0.Act.Kind]:List UInt8) 37 (pP Z Z<|pN) Z tu109 ti5 Z Z) fun v18=>z0x fun x19 h20=>Ef Z (apn 2 Z Z Z (.own 37 Z) h20 tu109 ti5 Z Z Z) fun v21=>Zb Z<|z8g (fun (s22:(List UInt8)) aa ww=>∃ nv:Nat→Value,Sta (ctx 47 H [] w) [(1,.val (z05 v1 0)),(3,.val (nv 0))] [(1,some (v1,.box 86 [.rd z03 a0])),(2,some ((nv 0),.list u8R 5 s22))] aa ww) ?_ (fun s22=>?_)
 ·
  refine gSR<|Zq (faB 1 Z Z Tryz.underlying86 Z (by exact zkb))<|Zq (faB 1 Z Z Tryz.underlying82 Z (by exact ti5))<|Zq (ld 1 Z Z ((fP (z1d _)).part (z3l _)) ty5 Z)<|Zq (B.neq Z Z)<|Zj Z (fun h23=>?_) (fun h23=>?_)
  ·
   refine z2b<|Zm Z<|Zq (faB 1 Z Z Tryz.underlying86 Z (by exact zkb))<|Zq (faB 1 Z Z Tryz.underlying82 Z (by exact ti9))<|Zq (ld 1 Z Z ((fP (z1d _)).part (z4s _)) ty9 Z)<|z0x fun u24 h25=>zwp Z Z h25 tu9 tu109 tu5<|Zc [] [(100,38)] Tryz.func172 Z (zbn _) fun r26 n27=>z0x fun x28 h29=>Ef Z (apn 2 Z Z Z (.own 38 Z) h29 tu109 ti5 Z Z Z) fun v30=>Za Z<|z1x<|z4o (fun aa ww h=>⟨nvl [v30],Zu h [1,2]⟩)
  ·
   refine z24<|z4o (fun aa ww h=>⟨nvl [v21],Zu h [1,2]⟩)
 ·
  refine gEx fun n31=>z0j<|gSR<|Zq (faB 1 Z Z Tryz.underlying86 Z (by exact zkb))<|Zq (faB 1 Z Z Tryz.underlying82 Z (by exact ti5))<|Zq (ld 1 Z Z ((fP (z1d _)).part (z3l _)) ty5 Z)<|Zq (B.eql Z Z)<|Zj Z (fun h32=>?_) (fun h32=>?_)
  ·
   refine z2b<|Zm Z<|Zq (faB 1 Z Z Tryz.underlying86 Z (by exact zkb))<|Zq (faB 1 Z Z Tryz.underlying82 Z (by exact zhm))<|Zq (ld 1 Z Z ((fP (z1d _)).part (z4h _)) zps Z)<|Zc [] [(100,39)] Tryz.func173 Z (zfo _) fun r33 n34=>z0x fun x35 h36=>Ef Z (apn 2 Z Z Z (.own 39 Z) h36 tu109 ti5 Z Z Z) fun v37=>Zb Z<|gSR<|Zm Z<|Zb Z<|z0e<|Ze [v37] [2] Z
  ·
   refine Zt<|gSR<|Zm Z<|Zb Z<|z0e<|Ze [(n31 0)] [2] Z
def z8t (a0:z06):Option ((List UInt8)) :=
 z7n a0 >>= fun r2 =>
 z22 a0.Sig.E.toUInt64 >>= fun r4 =>
 app 1 r2 r4 >>= fun x6 =>
 z22 a0.Sig.S.toUInt64 >>= fun r9 =>
 app 1 x6 r9 >>= fun x11 =>
 some x11
theorem zg0 (a0:z06):z1u Tryz.prog 102 [.rd z03 a0] [] (z8t a0) (fun r nv=>⟨[.val (nv 0)],[(100,some (nv 0,.list u8R 5 r))]⟩):=by
 refine z2d 17 Tryz.func102 Z Z Z fun H w=>?_
 refine gSR<|Eb Z (bx 1 Z) fun v1=>Zb Z<|z0j<|z5a [5,20,38] z2o Z Z<|hTk 0 Z Z (ld 1 Z Z fH zc0 Z)<|hTk 2 Z Z (faB 1 Z Z Tryz.underlying86 Z (by exact zla))<|hTk 3 Z Z (faB 1 Z Z Tryz.underlying84 Z (by exact z4x))<|hTk 4 Z Z (ld 1 Z Z ((fP (z1r _)).part (z4r _)) z78 Z)<|hTk 5 Z Z (W.toU Z tu78 tu56)<|hTk 8 Z Z (faB 1 Z Z Tryz.underlying86 Z (by exact zla))<|hTk 9 Z Z (faB 1 Z Z Tryz.underlying84 Z (by exact z4x))<|hTk 10 Z Z (ld 1 Z Z ((fP (z1r _)).part (z6j _)) z78 Z)<|hTk 11 Z Z (W.toU Z tu78 tu56)<|z2s 1 [] [(100,5)] Z (by kernel_rfl) Z (gd0 Z) Z Tryz.func138 Z Z (zbw _) (Y1 Z) rN Z (fun _ _=>z2p) fun r2 n3=>z2s 6 [] [(100,20)] Z (by kernel_rfl) Z (gd0 Z) Z Tryz.func143 Z Z (z2j _) (Y1 Z) rN Z (fun _ _=>z2p) fun r4 n5=>z35 fun x6 h7=>Zo 7 Z Z Z (apn 5 Z Z Z (.own 20 Z) h7 tu109 ti5 Z Z Z) fun v8=>z2s 12 [] [(100,38)] Z (by kernel_rfl) Z (gd0 Z) Z Tryz.func143 Z Z (z2j _) (Y1 Z) rN Z (fun _ _=>z2p) fun r9 n10=>z35 fun x11 h12=>Zo 13 Z Z Z (apn 5 Z Z Z (.own 38 Z) h12 tu109 ti5 Z Z Z) fun v13=>Zf 14 Z Z z2p (asg Z)<|z3c (by kernel_rfl)<|z0h<|z0e<|Ze [v13] [5] Z
def zal  : Option ((Vector UInt32 8)) :=
 some (#v[1779033703,3144134277,1013904242,2773480762,1359893119,2600822924,528734635,1541459225]:Vector UInt32 8)
theorem zfr  : z1u Tryz.prog 141 [] [] (zal) (fun r nv=>⟨[.rd (z34 8 z0n) r],[]⟩):=by
 refine z2d 2 Tryz.func141 Z Z Z fun H w=>?_
 refine gSR<|Eb Z (z8e 1 zev (.zr (R:=(z34 8 z0n)) (x:=(Vector.replicate 8 0)) znz)) fun v1=>Zn<|gSR<|Zq (litA (R:=z0n) [1779033703,3144134277,1013904242,2773480762,1359893119,2600822924,528734635,1541459225] (#v[1779033703,3144134277,1013904242,2773480762,1359893119,2600822924,528734635,1541459225]:Vector UInt32 8) (pP Z Z<|pP Z Z<|pP Z Z<|pP Z Z<|pP Z Z<|pP Z Z<|pP Z Z<|pP Z Z<|pN) Z tu176 zev Z z4x)<|Es (sto 1 Z Z fH Z zev)<|Zn<|z0e<|zd6 [] [] Z (eC 1 Z Z zno<|eN) (rN)
def z5q (a0:Int) (s3:(List UInt8)):Option (Sum ((List UInt8)) ((List UInt8))) :=
 if (Int.tmod (w64 ((w64 (a0+(s3.length:Int)))+8)) 64) != 0 then
  app 1 s3 [0] >>= fun x7 =>
  some (.inr x7)
 else
  some (.inl s3)
def z5n (a0:Int) (s12:(List UInt8) × Int):Option (Sum ((List UInt8)) ((List UInt8) × Int)) :=
 if decide (0≤s12.2) then
  chk (0≤w64 (8 * s12.2)) >>= fun u15 =>
  app 1 s12.1 [(z6e (8 * (UInt64.ofInt a0)) ((w64 (8 * s12.2):Int).toNat)).toUInt8] >>= fun x18 =>
  some (w64 (s12.2 - 1)) >>= fun y21 =>
  some (.inr (x18,y21))
 else
  some (.inl s12.1)
def z9k (a0:Int):Option ((List UInt8)) :=
 (iter (z5q a0) [128]) >>= fun s2 =>
 (iter (z5n a0) (s2,7)) >>= fun s11 =>
 some s11
theorem zgi (a0:Int):z1u Tryz.prog 142 [.rd z0a a0] [] (z9k a0) (fun r nv=>⟨[.val (nv 0)],[(100,some (nv 0,.list u8R 5 r))]⟩):=by
 refine z2d 31 Tryz.func142 Z Z Z fun H w=>?_
 refine gSR<|Zb Z<|gSR<|Ef Z (lit (R:=u8R) ([128]:List UInt8) 1 (pP Z Z<|pN) Z tu109 ti5 Z Z) fun v1=>Zb Z<|z8g (fun (s2:(List UInt8)) aa ww=>∃ nv:Nat→Value,Sta (ctx 31 H [] w) [(0,.rd z0a a0),(3,.val (nv 0))] [(1,some ((nv 0),.list u8R 5 s2))] aa ww) ?_ (fun s2=>?_)
 ·
  refine z1o (fun (s3:(List UInt8)) aa ww=>∃ nv:Nat→Value,Sta (ctx 31 H [] w) [(0,.rd z0a a0),(3,.val (nv 0))] [(1,some ((nv 0),.list u8R 5 s3))] aa ww) (fun aa ww h=>⟨nvl [v1],Zu h [1]⟩) (fun s3=>?_)
  refine gEx fun n4=>z0j<|gSR<|Zm Z<|Zm Z<|Zq (z33 Z (.own 1 Z) Z tu109)<|Zq (I.add Z Z)<|Zq (I.add Z Z)<|Zq (I.rem Z Z (by decide))<|Zq (I.neq Z Z)<|Zj Z (fun h5=>?_) (fun h5=>?_)
  ·
   refine Zt<|z49<|z2b<|Zm Z<|Ef Z (lit (R:=u8R) ([0]:List UInt8) 2 (pP Z Z<|pN) Z tu109 ti5 Z Z) fun v6=>z0x fun x7 h8=>Ef Z (apn 1 Z Z Z (.own 2 Z) h8 tu109 ti5 Z Z Z) fun v9=>Za Z<|z1x<|z2w<|z1b (fun aa ww h=>⟨nvl [v9],Zu h [1]⟩)
  ·
   refine z1m<|z0t<|z0u<|z4o (fun aa ww h=>⟨nvl [(n4 0)],Zu h [1]⟩)
 ·
  refine gEx fun n10=>z8g (fun (s11:(List UInt8)) aa ww=>∃ nv:Nat→Value,Sta (ctx 31 H [] w) [(3,.val (nv 0))] [(1,some ((nv 0),.list u8R 5 s11))] aa ww) ?_ (fun s11=>?_)
  ·
   refine gSR<|Zb Z<|z1o (fun (s12:(List UInt8) × Int) aa ww=>∃ nv:Nat→Value,Sta (ctx 31 H [] w) [(0,.rd z0a a0),(3,.val (nv 0)),(4,.rd z0a s12.2)] [(1,some ((nv 0),.list u8R 5 s12.1))] aa ww) (fun aa ww h=>⟨nvl [(n10 0)],Zu h [1]⟩) (fun s12=>?_)
   refine gEx fun n13=>z0j<|gSR<|Zm Z<|Zq (I.geq Z Z)<|Zj Z (fun h14=>?_) (fun h14=>?_)
   ·
    refine Zt<|z0j<|z49<|z2b<|Zm Z<|Zm Z<|Zq (I.toU Z tu3 tu56)<|Zq (U.mul Z Z)<|Zm Z<|Zq (I.mul Z Z)<|z0x fun u15 h16=>Zq (U.shr Z Z (z61 h16))<|Zq (U.toB Z tu56 tu5)<|Ef Z (lit (R:=u8R) ([(z6e (8 * (UInt64.ofInt a0)) ((w64 (8 * s12.2):Int).toNat)).toUInt8]:List UInt8) 3 (pP Z Z<|pN) Z tu109 ti5 Z Z) fun v17=>z0x fun x18 h19=>Ef Z (apn 1 Z Z Z (.own 3 Z) h19 tu109 ti5 Z Z Z) fun v20=>Za Z<|z1x<|z2w<|z0h<|z2b<|Zm Z<|Zq (I.sub Z Z)<|Za Z<|z1z 4 Z fun y21=>z1x<|z1b (fun aa ww h=>⟨nvl [v20],Zu h [1]⟩)
   ·
    refine z1m<|z0t<|z0u<|z4o (fun aa ww h=>⟨nvl [(n13 0)],Zu h [1]⟩)
  ·
   refine gEx fun n22=>gSR<|Zm Z<|Zb Z<|z0e<|Ze [(n22 0)] [1] Z
def z21 (a0:UInt32) (a1:Int):Option (UInt32) :=
 chk (0≤a1) >>= fun u1 =>
 chk (0≤w64 (32 - a1)) >>= fun u3 =>
 some ((z44 a0 ((a1:Int).toNat)) ||| (zma a0 ((w64 (32 - a1):Int).toNat))) >>= fun y5 =>
 some y5
theorem z27 (a0:UInt32) (a1:Int):z1u Tryz.prog 191 [.rd z0n a0,.rd z0a a1] [] (z21 a0 a1) (fun r nv=>⟨[.rd z0n r],[]⟩):=by
 refine z2d 13 Tryz.func191 Z Z Z fun H w=>?_
 refine gSR<|Zb Z<|z0j<|zhs z2o (by kernel_rfl)<|Rq Z (mv Z)<|Rq Z (mv Z)<|z7a fun u1 h2=>Rq Z (W.shr Z Z (z61 h2))<|Rq Z (mv Z)<|Rq Z (mv Z)<|Rq Z (I.sub Z Z)<|z7a fun u3 h4=>Rq Z (W.shl Z Z (z61 h4))<|Rq Z (W.or Z Z)<|Rq Z (asg Z)<|z133 4 Z fun y5=>zs4<|z0h<|z0e<|Ze [] [] Z
def z8a  : Option ((List UInt32)) :=
 some [1116352408,1899447441,3049323471,3921009573,961987163,1508970993,2453635748,2870763221,3624381080,310598401,607225278,1426881987,1925078388,2162078206,2614888103,3248222580,3835390401,4022224774,264347078,604807628,770255983,1249150122,1555081692,1996064986,2554220882,2821834349,2952996808,3210313671,3336571891,3584528711,113926993,338241895,666307205,773529912,1294757372,1396182291,1695183700,1986661051,2177026350,2456956037,2730485921,2820302411,3259730800,3345764771,3516065817,3600352804,4094571909,275423344,430227734,506948616,659060556,883997877,958139571,1322822218,1537002063,1747873779,1955562222,2024104815,2227730452,2361852424,2428436474,2756734187,3204031479,3329325298]
theorem zd7  : z1u Tryz.prog 192 [] [] (z8a) (fun r nv=>⟨[.val (nv 0)],[(100,some (nv 0,.list z0n 78 r))]⟩):=by
 refine z2d 2 Tryz.func192 Z Z Z fun H w=>?_
 refine gSR<|Zb Z<|gSR<|Ef Z (lit (R:=z0n) ([1116352408,1899447441,3049323471,3921009573,961987163,1508970993,2453635748,2870763221,3624381080,310598401,607225278,1426881987,1925078388,2162078206,2614888103,3248222580,3835390401,4022224774,264347078,604807628,770255983,1249150122,1555081692,1996064986,2554220882,2821834349,2952996808,3210313671,3336571891,3584528711,113926993,338241895,666307205,773529912,1294757372,1396182291,1695183700,1986661051,2177026350,2456956037,2730485921,2820302411,3259730800,3345764771,3516065817,3600352804,4094571909,275423344,430227734,506948616,659060556,883997877,958139571,1322822218,1537002063,1747873779,1955562222,2024104815,2227730452,2361852424,2428436474,2756734187,3204031479,3329325298]:List UInt32) 1 (pP Z Z<|pP Z Z<|pP Z Z<|pP Z Z<|pP Z Z<|pP Z Z<|pP Z Z<|pP Z Z<|pP Z Z<|pP Z Z<|pP Z Z<|pP Z Z<|pP Z Z<|pP Z Z<|pP Z Z<|pP Z Z<|pP Z Z<|pP Z Z<|pP Z Z<|pP Z Z<|pP Z Z<|pP Z Z<|pP Z Z<|pP Z Z<|pP Z Z<|pP Z Z<|pP Z Z<|pP Z Z<|pP Z Z<|pP Z Z<|pP Z Z<|pP Z Z<|pP Z Z<|pP Z Z<|pP Z Z<|pP Z Z<|pP Z Z<|pP Z Z<|pP Z Z<|pP Z Z<|pP Z Z<|pP Z Z<|pP Z Z<|pP Z Z<|pP Z Z<|pP Z Z<|pP Z Z<|pP Z Z<|pP Z Z<|pP Z Z<|pP Z Z<|pP Z Z<|pP Z Z<|pP Z Z<|pP Z Z<|pP Z Z<|pP Z Z<|pP Z Z<|pP Z Z<|pP Z Z<|pP Z Z<|pP Z Z<|pP Z Z<|pP Z Z<|pN) Z tu188 z4x Z Z) fun v1=>Zb Z<|z0e<|Ze [v1] [1] Z
def z4l (a1:List UInt8) (s4:(List UInt32) × Int):Option (Sum ((List UInt32)) ((List UInt32) × Int)) :=
 if decide (s4.2<16) then
  idx a1 (w64 (4 * s4.2)) >>= fun x7 =>
  idx a1 (w64 ((w64 (4 * s4.2))+1)) >>= fun x9 =>
  idx a1 (w64 ((w64 (4 * s4.2))+2)) >>= fun x11 =>
  idx a1 (w64 ((w64 (4 * s4.2))+3)) >>= fun x13 =>
  app 4 s4.1 [(((((x7.toUInt32 * 256)+x9.toUInt32) * 256)+x11.toUInt32) * 256)+x13.toUInt32] >>= fun x16 =>
  some (w64 (s4.2+1)) >>= fun y19 =>
  some (.inr (x16,y19))
 else
  some (.inl s4.1)
def z4i (s22:(List UInt32) × Int):Option (Sum ((List UInt32)) ((List UInt32) × Int)) :=
 if decide (s22.2<64) then
  idx s22.1 (w64 (s22.2 - 15)) >>= fun x25 =>
  idx s22.1 (w64 (s22.2 - 2)) >>= fun x27 =>
  idx s22.1 (w64 (s22.2 - 16)) >>= fun x29 =>
  idx s22.1 (w64 (s22.2 - 7)) >>= fun x31 =>
  z21 x25 7 >>= fun r33 =>
  z21 x25 18 >>= fun r36 =>
  z21 x27 17 >>= fun r39 =>
  z21 x27 19 >>= fun r42 =>
  app 4 s22.1 [((x29+x31)+((r33 ^^^ r36) ^^^ (z44 x25 3)))+((r39 ^^^ r42) ^^^ (z44 x27 10))] >>= fun x45 =>
  some (w64 (s22.2+1)) >>= fun y48 =>
  some (.inr (x45,y48))
 else
  some (.inl s22.1)
def z2x (s21:(List UInt32)) (r50:(List UInt32)) (s54:(Vector UInt32 8) × Int):Option (Sum ((Vector UInt32 8)) ((Vector UInt32 8) × Int)) :=
 if decide (s54.2<64) then
  z6g s54.1 0 >>= fun x56 =>
  z6g s54.1 1 >>= fun x58 =>
  z6g s54.1 2 >>= fun x60 =>
  z6g s54.1 4 >>= fun x62 =>
  z6g s54.1 5 >>= fun x64 =>
  z6g s54.1 6 >>= fun x66 =>
  z6g s54.1 7 >>= fun x68 =>
  idx r50 s54.2 >>= fun x70 =>
  idx s21 s54.2 >>= fun x72 =>
  z21 x62 6 >>= fun r74 =>
  z21 x62 11 >>= fun r76 =>
  z21 x62 25 >>= fun r78 =>
  some ((((x68+((r74 ^^^ r76) ^^^ r78))+((x62 &&& x64) ^^^ ((~~~x62) &&& x66)))+x70)+x72) >>= fun y80 =>
  z21 x56 2 >>= fun r81 =>
  z21 x56 13 >>= fun r83 =>
  z21 x56 22 >>= fun r85 =>
  some (((r81 ^^^ r83) ^^^ r85)+(((x56 &&& x58) ^^^ (x56 &&& x60)) ^^^ (x58 &&& x60))) >>= fun y87 =>
  z6g s54.1 3 >>= fun x88 =>
  some (w64 (s54.2+1)) >>= fun y90 =>
  some (.inr ((#v[y80+y87,x56,x58,x60,x88+y80,x62,x64,x66]:Vector UInt32 8),y90))
 else
  some (.inl s54.1)
def z2k (s53:(Vector UInt32 8)) (s92:(Vector UInt32 8) × Int):Option (Sum ((Vector UInt32 8)) ((Vector UInt32 8) × Int)) :=
 if decide (s92.2<8) then
  z6g s92.1 s92.2 >>= fun x94 =>
  z6g s53 s92.2 >>= fun x96 =>
  z6g s92.1 s92.2 >>= fun x98 =>
  some (w64 (s92.2+1)) >>= fun y100 =>
  some (.inr (zg7 s92.1 s92.2 (x94+x96),y100))
 else
  some (.inl s92.1)
def z82 (a0:Vector UInt32 8) (a1:List UInt8):Option ((Vector UInt32 8)) :=
 (iter (z4l a1) ([],0)) >>= fun s3 =>
 (iter (z4i) (s3,16)) >>= fun s21 =>
 z8a >>= fun r50 =>
 (iter (z2x s21 r50) (a0,0)) >>= fun s53 =>
 (iter (z2k s53) (a0,0)) >>= fun s91 =>
 some s91
set_option maxHeartbeats 4000000 in
theorem zew (a0:Vector UInt32 8) (a1:List UInt8):z1u Tryz.prog 174 [.rd (z34 8 z0n) a0,.rd (z02 u8R) a1] [] (z82 a0 a1) (fun r nv=>⟨[.rd (z34 8 z0n) r],[]⟩):=by
 refine z2d 203 Tryz.func174 Z Z Z fun H w=>?_
 refine gSR<|Eb Z (bx 1 Z) fun v1=>Eb Z (z8e 2 zev (.zr (R:=(z34 8 z0n)) (x:=(Vector.replicate 8 0)) znz)) fun v2=>Zn<|gSR<|Zb Z<|z8g (fun (s3:(List UInt32)) aa ww=>∃ nv:Nat→Value,Sta (ctx 203 H [] w) [(2,.val (z05 v1 0)),(4,.val (z05 v2 0)),(5,.val (nv 0))] [(1,some (v1,.box 176 [.rd (z34 8 z0n) a0])),(2,some (v2,.box 176 [.rd (z34 8 z0n) (Vector.replicate 8 0)])),(108,some ((nv 0),.list z0n 78 s3))] aa ww) ?_ (fun s3=>?_)
 ·
  refine gSR<|Zb Z<|zug z0n 78 215<|z1o (fun (s4:(List UInt32) × Int) aa ww=>∃ nv:Nat→Value,Sta (ctx 203 H [] w) [(1,.rd (z02 u8R) a1),(2,.val (z05 v1 0)),(4,.val (z05 v2 0)),(5,.val (nv 0)),(6,.rd z0a s4.2)] [(1,some (v1,.box 176 [.rd (z34 8 z0n) a0])),(2,some (v2,.box 176 [.rd (z34 8 z0n) (Vector.replicate 8 0)])),(214,some ((nv 0),.list z0n 78 s4.1))] aa ww) (fun aa ww h=>⟨nvl [(.slice none 0 0)],Zu h [1,2,215]⟩) (fun s4=>?_)
  refine gEx fun n5=>z0j<|gSR<|Zm Z<|Zq (I.lss Z Z)<|Zj Z (fun h6=>?_) (fun h6=>?_)
  ·
   refine Zt<|z0j<|z49<|z5a [214,318] z2o Z Z<|hTk 0 Z Z (mv Z)<|hTk 1 Z Z (mv Z)<|hTk 2 Z Z (mv Z)<|hTk 3 Z Z (I.mul Z Z)<|z35 fun x7 h8=>hTk 4 Z Z (ixR Z Z h8 tu109 ti5 Z)<|hTk 5 Z Z (ldR Z ty5)<|hTk 6 Z Z (B.toW Z tu5 tu78)<|hTk 7 Z Z (W.mul Z Z)<|hTk 8 Z Z (mv Z)<|hTk 9 Z Z (mv Z)<|hTk 10 Z Z (I.mul Z Z)<|hTk 11 Z Z (I.add Z Z)<|z35 fun x9 h10=>hTk 12 Z Z (ixR Z Z h10 tu109 ti5 Z)<|hTk 13 Z Z (ldR Z ty5)<|hTk 14 Z Z (B.toW Z tu5 tu78)<|hTk 15 Z Z (W.add Z Z)<|hTk 16 Z Z (W.mul Z Z)<|hTk 17 Z Z (mv Z)<|hTk 18 Z Z (mv Z)<|hTk 19 Z Z (I.mul Z Z)<|hTk 20 Z Z (I.add Z Z)<|z35 fun x11 h12=>hTk 21 Z Z (ixR Z Z h12 tu109 ti5 Z)<|hTk 22 Z Z (ldR Z ty5)<|hTk 23 Z Z (B.toW Z tu5 tu78)<|hTk 24 Z Z (W.add Z Z)<|hTk 25 Z Z (W.mul Z Z)<|hTk 26 Z Z (mv Z)<|hTk 27 Z Z (mv Z)<|hTk 28 Z Z (I.mul Z Z)<|hTk 29 Z Z (I.add Z Z)<|z35 fun x13 h14=>hTk 30 Z Z (ixR Z Z h14 tu109 ti5 Z)<|hTk 31 Z Z (ldR Z ty5)<|hTk 32 Z Z (B.toW Z tu5 tu78)<|hTk 33 Z Z (W.add Z Z)<|Zo 34 Z Z Z (lit (R:=z0n) ([(((((x7.toUInt32 * 256)+x9.toUInt32) * 256)+x11.toUInt32) * 256)+x13.toUInt32]:List UInt32) 318 (pP Z Z<|pN) Z tu188 z4x Z Z) fun v15=>z35 fun x16 h17=>Zo 35 Z Z Z (apn 214 Z Z Z (.own 318 Z) h17 tu188 z4x Z Z Z) fun v18=>Zf 36 Z Z z2p (asg Z)<|z3c (by kernel_rfl)<|z2w<|z0h<|z2b<|Zm Z<|Zq (I.add Z Z)<|Za Z<|z1z 6 Z fun y19=>z1x<|z1b (fun aa ww h=>⟨nvl [v18],Zu h [1,2,214]⟩)
  ·
   refine z1m<|z0t<|z0u<|z4o (fun aa ww h=>⟨nvl [(n5 0)],Zu h [1,2,214]⟩)
 ·
  refine gEx fun n20=>z8g (fun (s21:(List UInt32)) aa ww=>∃ nv:Nat→Value,Sta (ctx 203 H [] w) [(2,.val (z05 v1 0)),(4,.val (z05 v2 0)),(5,.val (nv 0))] [(1,some (v1,.box 176 [.rd (z34 8 z0n) a0])),(2,some (v2,.box 176 [.rd (z34 8 z0n) (Vector.replicate 8 0)])),(108,some ((nv 0),.list z0n 78 s21))] aa ww) ?_ (fun s21=>?_)
  ·
   refine gSR<|Zb Z<|z1o (fun (s22:(List UInt32) × Int) aa ww=>∃ nv:Nat→Value,Sta (ctx 203 H [] w) [(2,.val (z05 v1 0)),(4,.val (z05 v2 0)),(5,.val (nv 0)),(7,.rd z0a s22.2)] [(1,some (v1,.box 176 [.rd (z34 8 z0n) a0])),(2,some (v2,.box 176 [.rd (z34 8 z0n) (Vector.replicate 8 0)])),(108,some ((nv 0),.list z0n 78 s22.1))] aa ww) (fun aa ww h=>⟨nvl [(n20 0)],Zu h [1,2,108]⟩) (fun s22=>?_)
   refine gEx fun n23=>z0j<|gSR<|Zm Z<|Zq (I.lss Z Z)<|Zj Z (fun h24=>?_) (fun h24=>?_)
   ·
    refine Zt<|z0j<|z49<|z0j<|zhs z2o (by kernel_rfl)<|Rq Z (mv Z)<|Rq Z (mv Z)<|Rq Z (I.sub Z Z)<|z7a fun x25 h26=>Rq Z (ixO 108 Z Z Z h26 tu188 z4x)<|Rq Z (ld 108 Z Z (Foc.el h26) z78 Z)<|Rq Z (mv Z)<|Rq Z (mv Z)<|Rq Z (I.sub Z Z)<|z7a fun x27 h28=>Rq Z (ixO 108 Z Z Z h28 tu188 z4x)<|Rq Z (ld 108 Z Z (Foc.el h28) z78 Z)<|Rq Z (asg Z)<|Rq Z (asg Z)<|zs4<|z0h<|zqz [(5,.val (n23 0)),(2,.val (z05 v1 0)),(4,.val (z05 v2 0)),(7,.rd z0a s22.2),(8,.rd z0n x25),(9,.rd z0n x27)] [(1,some (v1,.box 176 [.rd (z34 8 z0n) a0])),(2,some (v2,.box 176 [.rd (z34 8 z0n) (Vector.replicate 8 0)])),(108,some ((n23 0),.list z0n 78 s22.1))] [1,2,108] (Zs Z Z Z Z<|sS Z<|sS Z<|sN) (Zi Z<|Zi Z<|Zi Z<|rN)<|z4t fun x29 h30=>z4t fun x31 h32=>z4t fun r33 h35=>z4t fun r36 h38=>z4t fun r39 h41=>z4t fun r42 h44=>z4t fun x45 h46=>gOr [(5,.val (n23 0),32)] [⟨108,some ([], fun nv=>((n23 0),.list z0n 78 s22.1)),[(31,some ([2], fun nv=>((nv 2),.list z0n 78 x45)))]⟩,⟨330,none,[(30,some ([1], fun nv=>((nv 1),.list z0n 78 [((x29+x31)+((r33 ^^^ r36) ^^^ (z44 x25 3)))+((r39 ^^^ r42) ^^^ (z44 x27 10))])))]⟩] [⟨some (76,[], fun nv=>.val (n23 0)),[],[],[0]⟩,⟨some (77,[], fun nv=>.val (n23 0)),[],[],[0]⟩,pd 78 (.rd z0a s22.2),pd 79 (.rd z0a (w64 (s22.2 - 16))),pk 80 (.val (z05 (n23 0) ((w64 (s22.2 - 16):Int).toNat * 1))) [(0,0,false)],pk 81 (.rd z0n x29) [(0,0,false)],⟨some (82,[], fun nv=>.val (n23 0)),[],[],[0]⟩,pd 83 (.rd z0a s22.2),pd 84 (.rd z0a (w64 (s22.2 - 7))),pk 85 (.val (z05 (n23 0) ((w64 (s22.2 - 7):Int).toNat * 1))) [(0,0,false)],pk 86 (.rd z0n x31) [(0,0,false)],pd 87 (.rd z0n (x29+x31)),pd 88 (.rd z0n x25),pd 89 (.rd z0n r33),pd 90 (.rd z0n x25),pd 91 (.rd z0n r36),pd 92 (.rd z0n (r33 ^^^ r36)),pd 93 (.rd z0n x25),pd 94 (.rd z0n (z44 x25 3)),pd 95 (.rd z0n ((r33 ^^^ r36) ^^^ (z44 x25 3))),pd 96 (.rd z0n ((x29+x31)+((r33 ^^^ r36) ^^^ (z44 x25 3)))),pd 97 (.rd z0n x27),pd 98 (.rd z0n r39),pd 99 (.rd z0n x27),pd 100 (.rd z0n r42),pd 101 (.rd z0n (r39 ^^^ r42)),pd 102 (.rd z0n x27),pd 103 (.rd z0n (z44 x27 10)),pd 104 (.rd z0n ((r39 ^^^ r42) ^^^ (z44 x27 10))),pd 105 (.rd z0n (((x29+x31)+((r33 ^^^ r36) ^^^ (z44 x25 3)))+((r39 ^^^ r42) ^^^ (z44 x27 10)))),⟨some (106,[1], fun nv=>.val (nv 1)),[(1,0,true)],[1],[]⟩,⟨some (107,[2], fun nv=>.val (nv 2)),[(1,1,false),(0,0,true)],[2],[]⟩,⟨some (5,[2], fun nv=>.val (nv 2)),[],[],[]⟩] z2o (oC (oRn (fun nv E=>mv Z))<|oC (oRn (fun nv E=>mv Z))<|oC (oRn (fun nv E=>mv Z))<|oC (oRn (fun nv E=>I.sub Z Z))<|oC (oRn (fun nv E=>ixO 108 Z Z Z h30 tu188 z4x))<|oC (oRn (fun nv E=>ld 108 Z Z (Foc.el h30) z78 Z))<|oC (oRn (fun nv E=>mv Z))<|oC (oRn (fun nv E=>mv Z))<|oC (oRn (fun nv E=>I.sub Z Z))<|oC (oRn (fun nv E=>ixO 108 Z Z Z h32 tu188 z4x))<|oC (oRn (fun nv E=>ld 108 Z Z (Foc.el h32) z78 Z))<|oC (oRn (fun nv E=>W.add Z Z))<|oC (oRn (fun nv E=>mv Z))<|oC (oCl [] [] [] h35 Tryz.func191 Z (fun nv=>(z27 _ _)) (fun nv=>(Y2 Z Z)) (fun nv E=>rN))<|oC (oRn (fun nv E=>mv Z))<|oC (oCl [] [] [] h38 Tryz.func191 Z (fun nv=>(z27 _ _)) (fun nv=>(Y2 Z Z)) (fun nv E=>rN))<|oC (oRn (fun nv E=>W.xor Z Z))<|oC (oRn (fun nv E=>mv Z))<|oC (oRn (fun nv E=>W.shr Z Z (Int.natCast_nonneg _)))<|oC (oRn (fun nv E=>W.xor Z Z))<|oC (oRn (fun nv E=>W.add Z Z))<|oC (oRn (fun nv E=>mv Z))<|oC (oCl [] [] [] h41 Tryz.func191 Z (fun nv=>(z27 _ _)) (fun nv=>(Y2 Z Z)) (fun nv E=>rN))<|oC (oRn (fun nv E=>mv Z))<|oC (oCl [] [] [] h44 Tryz.func191 Z (fun nv=>(z27 _ _)) (fun nv=>(Y2 Z Z)) (fun nv E=>rN))<|oC (oRn (fun nv E=>W.xor Z Z))<|oC (oRn (fun nv E=>mv Z))<|oC (oRn (fun nv E=>W.shr Z Z (Int.natCast_nonneg _)))<|oC (oRn (fun nv E=>W.xor Z Z))<|oC (oRn (fun nv E=>W.add Z Z))<|oC (oEf 330 1 (fun nv E=>lit (R:=z0n) ([((x29+x31)+((r33 ^^^ r36) ^^^ (z44 x25 3)))+((r39 ^^^ r42) ^^^ (z44 x27 10))]:List UInt32) 330 (pP Z Z<|pN) Z tu188 z4x Z Z))<|oC (oEf 108 2 (fun nv E=>apn 108 Z Z Z (.own 330 Z) h46 tu188 z4x Z Z Z))<|oC (oRn (fun nv E=>asg Z))<|oN) fun n47=>z2w<|z0h<|z2b<|Zm Z<|Zq (I.add Z Z)<|Za Z<|z1z 7 Z fun y48=>z1x<|z1b (fun aa ww h=>⟨nvl [(n47 2)],Zu h [1,2,108]⟩)
   ·
    refine z1m<|z0t<|z0u<|z4o (fun aa ww h=>⟨nvl [(n23 0)],Zu h [1,2,108]⟩)
  ·
   refine gEx fun n49=>gSR<|Zc [] [(100,331)] Tryz.func192 Z (zd7) fun r50 n51=>Zb Z<|gSR<|Zq (ld 1 Z Z fH zno Z)<|Eb Z (z8e 332 zev (.zr (R:=(z34 8 z0n)) (x:=(Vector.replicate 8 0)) znz)) fun v52=>Es (sto 332 Z Z fH Z zev)<|Zn<|z8g (fun (s53:(Vector UInt32 8)) aa ww=>Sta (ctx 203 H [] w) [(2,.val (z05 v1 0)),(4,.val (z05 v2 0)),(11,.val (z05 v52 0))] [(1,some (v1,.box 176 [.rd (z34 8 z0n) a0])),(2,some (v2,.box 176 [.rd (z34 8 z0n) (Vector.replicate 8 0)])),(332,some (v52,.box 176 [.rd (z34 8 z0n) s53]))] aa ww) ?_ (fun s53=>?_)
   ·
    refine gSR<|Zb Z<|z1o (fun (s54:(Vector UInt32 8) × Int) aa ww=>Sta (ctx 203 H [] w) [(2,.val (z05 v1 0)),(4,.val (z05 v2 0)),(5,.val (n49 0)),(10,.val (n51 0)),(11,.val (z05 v52 0)),(12,.rd z0a s54.2)] [(1,some (v1,.box 176 [.rd (z34 8 z0n) a0])),(2,some (v2,.box 176 [.rd (z34 8 z0n) (Vector.replicate 8 0)])),(108,some ((n49 0),.list z0n 78 s21)),(331,some ((n51 0),.list z0n 78 r50)),(332,some (v52,.box 176 [.rd (z34 8 z0n) s54.1]))] aa ww) (fun aa ww h=>Zu h [1,2,108,331,332]) (fun s54=>?_)
    refine z0j<|gSR<|Zm Z<|Zq (I.lss Z Z)<|Zj Z (fun h55=>?_) (fun h55=>?_)
    ·
     refine Zt<|z0j<|z49<|z0j<|zhs z2o (by kernel_rfl)<|z7a fun x56 h57=>Rq Z (ixB 332 Z Z Z h57 tu176 z4x)<|Rq Z (ld 332 Z Z (fP (.el h57)) z78 Z)<|z7a fun x58 h59=>Rq Z (ixB 332 Z Z Z h59 tu176 z4x)<|Rq Z (ld 332 Z Z (fP (.el h59)) z78 Z)<|z7a fun x60 h61=>Rq Z (ixB 332 Z Z Z h61 tu176 z4x)<|Rq Z (ld 332 Z Z (fP (.el h61)) z78 Z)<|z7a fun x62 h63=>Rq Z (ixB 332 Z Z Z h63 tu176 z4x)<|Rq Z (ld 332 Z Z (fP (.el h63)) z78 Z)<|z7a fun x64 h65=>Rq Z (ixB 332 Z Z Z h65 tu176 z4x)<|Rq Z (ld 332 Z Z (fP (.el h65)) z78 Z)<|z7a fun x66 h67=>Rq Z (ixB 332 Z Z Z h67 tu176 z4x)<|Rq Z (ld 332 Z Z (fP (.el h67)) z78 Z)<|Rq Z (asg Z)<|Rq Z (asg Z)<|Rq Z (asg Z)<|Rq Z (asg Z)<|Rq Z (asg Z)<|Rq Z (asg Z)<|zs4<|z0h<|z0j<|z5a [] z2o Z Z<|z35 fun x68 h69=>hTk 0 Z Z (ixB 332 Z Z Z h69 tu176 z4x)<|hTk 1 Z Z (ld 332 Z Z (fP (.el h69)) z78 Z)<|hTk 2 Z Z (mv Z)<|hTk 4 Z Z (mv Z)<|hTk 7 Z Z (mv Z)<|hTk 11 Z Z (mv Z)<|hTk 12 Z Z (mv Z)<|hTk 13 Z Z (W.and Z Z)<|hTk 14 Z Z (mv Z)<|hTk 15 Z Z (W.cpl Z)<|hTk 16 Z Z (mv Z)<|hTk 17 Z Z (W.and Z Z)<|hTk 18 Z Z (W.xor Z Z)<|hTk 20 Z Z (mv Z)<|hTk 21 Z Z (mv Z)<|z35 fun x70 h71=>hTk 22 Z Z (ixO 331 Z Z Z h71 tu188 z4x)<|hTk 23 Z Z (ld 331 Z Z (Foc.el h71) z78 Z)<|hTk 25 Z Z (mv Z)<|hTk 26 Z Z (mv Z)<|z35 fun x72 h73=>hTk 27 Z Z (ixO 108 Z Z Z h73 tu188 z4x)<|hTk 28 Z Z (ld 108 Z Z (Foc.el h73) z78 Z)<|z2s 3 [] [] Z (by kernel_rfl) Z (gd0 Z) Z Tryz.func191 Z Z (z27 _ _) (Y2 Z Z) rN Z (fun _ _=>z30) fun r74 n75=>z2s 5 [] [] Z (by kernel_rfl) Z (gd0 Z) Z Tryz.func191 Z Z (z27 _ _) (Y2 Z Z) rN Z (fun _ _=>z30) fun r76 n77=>hTk 6 Z Z (W.xor Z Z)<|z2s 8 [] [] Z (by kernel_rfl) Z (gd0 Z) Z Tryz.func191 Z Z (z27 _ _) (Y2 Z Z) rN Z (fun _ _=>z30) fun r78 n79=>hTk 9 Z Z (W.xor Z Z)<|hTk 10 Z Z (W.add Z Z)<|hTk 19 Z Z (W.add Z Z)<|hTk 24 Z Z (W.add Z Z)<|hTk 29 Z Z (W.add Z Z)<|hTk 30 Z Z (asg Z)<|zxc 19 Z Z fun y80=>z3c (by kernel_rfl)<|z0h<|gSR<|Zm Z<|Zc [] [] Tryz.func191 Z (z27 _ _) fun r81 n82=>Zm Z<|Zc [] [] Tryz.func191 Z (z27 _ _) fun r83 n84=>Zq (W.xor Z Z)<|Zm Z<|Zc [] [] Tryz.func191 Z (z27 _ _) fun r85 n86=>Zq (W.xor Z Z)<|Zm Z<|Zm Z<|Zq (W.and Z Z)<|Zm Z<|Zm Z<|Zq (W.and Z Z)<|Zq (W.xor Z Z)<|Zm Z<|Zm Z<|Zq (W.and Z Z)<|Zq (W.xor Z Z)<|Zq (W.add Z Z)<|Za Z<|z1z 20 Z fun y87=>Zn<|z2b<|Zm Z<|Zm Z<|Zq (W.add Z Z)<|Zm Z<|Zm Z<|Zm Z<|z0x fun x88 h89=>Zq (ixB 332 Z Z Z h89 tu176 z4x)<|Zq (ld 332 Z Z (fP (.el h89)) z78 Z)<|Zm Z<|Zq (W.add Z Z)<|Zm Z<|Zm Z<|Zm Z<|Zq (litA (R:=z0n) [y80+y87,x56,x58,x60,x88+y80,x62,x64,x66] (#v[y80+y87,x56,x58,x60,x88+y80,x62,x64,x66]:Vector UInt32 8) (pP Z Z<|pP Z Z<|pP Z Z<|pP Z Z<|pP Z Z<|pP Z Z<|pP Z Z<|pP Z Z<|pN) Z tu176 zev Z z4x)<|Es (sto 332 Z Z fH Z zev)<|z1x<|z2w<|z0h<|z2b<|Zm Z<|Zq (I.add Z Z)<|Za Z<|z1z 12 Z fun y90=>z1x<|z1b (fun aa ww h=>Zu h [1,2,108,331,332])
    ·
     refine z1m<|z0t<|z0u<|z4o (fun aa ww h=>Zu h [1,2,332])
   ·
    refine z8g (fun (s91:(Vector UInt32 8)) aa ww=>Sta (ctx 203 H [] w) [(2,.val (z05 v1 0)),(4,.val (z05 v2 0))] [(1,some (v1,.box 176 [.rd (z34 8 z0n) s91])),(2,some (v2,.box 176 [.rd (z34 8 z0n) (Vector.replicate 8 0)]))] aa ww) ?_ (fun s91=>?_)
    ·
     refine gSR<|Zb Z<|z1o (fun (s92:(Vector UInt32 8) × Int) aa ww=>Sta (ctx 203 H [] w) [(2,.val (z05 v1 0)),(4,.val (z05 v2 0)),(11,.val (z05 v52 0)),(21,.rd z0a s92.2)] [(1,some (v1,.box 176 [.rd (z34 8 z0n) s92.1])),(2,some (v2,.box 176 [.rd (z34 8 z0n) (Vector.replicate 8 0)])),(332,some (v52,.box 176 [.rd (z34 8 z0n) s53]))] aa ww) (fun aa ww h=>Zu h [1,2,332]) (fun s92=>?_)
     refine z0j<|gSR<|Zm Z<|Zq (I.lss Z Z)<|Zj Z (fun h93=>?_) (fun h93=>?_)
     ·
      refine Zt<|z0j<|z49<|z5a [1] z2o Z Z<|hTk 0 Z Z (mv Z)<|z35 fun x94 h95=>hTk 1 Z Z (ixB 1 Z Z Z h95 tu176 z4x)<|hTk 3 Z Z (mv Z)<|z35 fun x96 h97=>hTk 4 Z Z (ixB 332 Z Z Z h97 tu176 z4x)<|hTk 5 Z Z (ld 332 Z Z (fP (.el h97)) z78 Z)<|hRun 2 Z (by kernel_rfl) (gd0 Z) Z Z z30 (ld 1 Z Z (fP (.el h95)) z78 Z)<|hTk 6 Z Z (W.add Z Z)<|z35 fun x98 h99=>hTk 7 Z Z (ixB 1 Z Z Z h99 tu176 z4x)<|Zp 8 Z Z Z Z Z (sto 1 Z Z (fP (.el h99)) Z z4x)<|z3c (by kernel_rfl)<|z2w<|z0h<|z2b<|Zm Z<|Zq (I.add Z Z)<|Za Z<|z1z 21 Z fun y100=>z1x<|z1b (fun aa ww h=>Zu h [1,2,332])
     ·
      refine z1m<|z0t<|z0u<|z4o (fun aa ww h=>Zu h [1,2])
    ·
     refine gSR<|Zq (ld 1 Z Z fH zno Z)<|Es (sto 2 Z Z fH Z zev)<|Zn<|z0e<|zd6 [] [] Z (eC 2 Z Z zno<|eN) (rN)
def z4j (a1:List UInt8) (s4:(Vector UInt32 8) × Int):Option (Sum ((Vector UInt32 8)) ((Vector UInt32 8) × Int)) :=
 if decide ((w64 (s4.2+64))≤(a1.length:Int)) then
  cut a1 s4.2 (w64 (s4.2+64)) >>= fun x6 =>
  z82 s4.1 x6 >>= fun r8 =>
  some (w64 (s4.2+64)) >>= fun y10 =>
  some (.inr (r8,y10))
 else
  some (.inl s4.1)
def z83 (a0:Vector UInt32 8) (a1:List UInt8):Option ((Vector UInt32 8)) :=
 (iter (z4j a1) (a0,0)) >>= fun s3 =>
 some s3
theorem zer (a0:Vector UInt32 8) (a1:List UInt8):z1u Tryz.prog 140 [.rd (z34 8 z0n) a0,.rd (z02 u8R) a1] [] (z83 a0 a1) (fun r nv=>⟨[.rd (z34 8 z0n) r],[]⟩):=by
 refine z2d 21 Tryz.func140 Z Z Z fun H w=>?_
 refine gSR<|Eb Z (bx 1 Z) fun v1=>Eb Z (z8e 2 zev (.zr (R:=(z34 8 z0n)) (x:=(Vector.replicate 8 0)) znz)) fun v2=>Zn<|z8g (fun (s3:(Vector UInt32 8)) aa ww=>Sta (ctx 21 H [] w) [(2,.val (z05 v1 0)),(4,.val (z05 v2 0))] [(1,some (v1,.box 176 [.rd (z34 8 z0n) s3])),(2,some (v2,.box 176 [.rd (z34 8 z0n) (Vector.replicate 8 0)]))] aa ww) ?_ (fun s3=>?_)
 ·
  refine gSR<|Zb Z<|z1o (fun (s4:(Vector UInt32 8) × Int) aa ww=>Sta (ctx 21 H [] w) [(1,.rd (z02 u8R) a1),(2,.val (z05 v1 0)),(4,.val (z05 v2 0)),(5,.rd z0a s4.2)] [(1,some (v1,.box 176 [.rd (z34 8 z0n) s4.1])),(2,some (v2,.box 176 [.rd (z34 8 z0n) (Vector.replicate 8 0)]))] aa ww) (fun aa ww h=>Zu h [1,2]) (fun s4=>?_)
  refine z0j<|gSR<|Zm Z<|Zq (I.add Z Z)<|Zm Z<|Zq (z33 Z .rd Z tu109)<|Zq (I.leq Z Z)<|Zj Z (fun h5=>?_) (fun h5=>?_)
  ·
   refine Zt<|z0j<|z49<|z5a [1] z2o Z Z<|hTk 1 Z Z (mv Z)<|hTk 2 Z Z (mv Z)<|hTk 3 Z Z (mv Z)<|hTk 4 Z Z (I.add Z Z)<|z35 fun x6 h7=>hTk 5 Z Z (zzt Z (.to Z) (.to Z) h7 tu109 ti5)<|hRun 0 Z (by kernel_rfl) (gd0 Z) Z Z anyJ (ld 1 Z Z fH zno Z)<|zlj 6 [] [] Z (by kernel_rfl) Z (gd0 Z) Z Tryz.func174 Z Z (zew _ _) (Y2 Z Z) rN Z fun r8 n9=>Zp 7 Z Z Z Z Z (sto 1 Z Z fH Z zev)<|z3c (by kernel_rfl)<|z2w<|z0h<|z2b<|Zm Z<|Zq (I.add Z Z)<|Za Z<|z1z 5 Z fun y10=>z1x<|z1b (fun aa ww h=>Zu h [1,2])
  ·
   refine z1m<|z0t<|z0u<|z4o (fun aa ww h=>Zu h [1,2])
 ·
  refine gSR<|Zq (ld 1 Z Z fH zno Z)<|Es (sto 2 Z Z fH Z zev)<|Zn<|z0e<|zd6 [] [] Z (eC 2 Z Z zno<|eN) (rN)
def z43 (a0:Vector UInt32 8) (s5:V3 × Int):Option (Sum (V3) (V3 × Int)) :=
 if decide (s5.2<32) then
  z6g a0 (w64 (Int.tdiv s5.2 4)) >>= fun x7 =>
  chk (0≤w64 (24 - (w64 (8 * (Int.tmod s5.2 4))))) >>= fun u9 =>
  z6g s5.1 s5.2 >>= fun x11 =>
  some (w64 (s5.2+1)) >>= fun y13 =>
  some (.inr (zg7 s5.1 s5.2 ((z44 x7 ((w64 (24 - (w64 (8 * (Int.tmod s5.2 4)))):Int).toNat)).toUInt8),y13))
 else
  some (.inl s5.1)
def z79 (a0:Vector UInt32 8):Option (V3) :=
 (iter (z43 a0) ((Vector.replicate 32 0),0)) >>= fun s4 =>
 some s4
theorem zeb (a0:Vector UInt32 8):z1u Tryz.prog 139 [.rd (z34 8 z0n) a0] [] (z79 a0) (fun r nv=>⟨[.rd aZ r],[]⟩):=by
 refine z2d 22 Tryz.func139 Z Z Z fun H w=>?_
 refine gSR<|Eb Z (bx 1 Z) fun v1=>Eb Z (z8e 2 z4q (.zr (R:=aZ) (x:=(Vector.replicate 32 0)) zl4)) fun v2=>Zn<|gSR<|Eb Z (z8e 3 z4q (.zr (R:=aZ) (x:=(Vector.replicate 32 0)) zl4)) fun v3=>Zn<|z8g (fun (s4:V3) aa ww=>Sta (ctx 22 H [] w) [(2,.val (z05 v2 0)),(3,.val (z05 v3 0))] [(2,some (v2,.box 94 [.rd aZ (Vector.replicate 32 0)])),(3,some (v3,.box 94 [.rd aZ s4]))] aa ww) ?_ (fun s4=>?_)
 ·
  refine gSR<|Zb Z<|z1o (fun (s5:V3 × Int) aa ww=>Sta (ctx 22 H [] w) [(1,.val (z05 v1 0)),(2,.val (z05 v2 0)),(3,.val (z05 v3 0)),(4,.rd z0a s5.2)] [(1,some (v1,.box 176 [.rd (z34 8 z0n) a0])),(2,some (v2,.box 94 [.rd aZ (Vector.replicate 32 0)])),(3,some (v3,.box 94 [.rd aZ s5.1]))] aa ww) (fun aa ww h=>Zu h [1,2,3]) (fun s5=>?_)
  refine z0j<|gSR<|Zm Z<|Zq (I.lss Z Z)<|Zj Z (fun h6=>?_) (fun h6=>?_)
  ·
   refine Zt<|z0j<|z49<|z2b<|Zm Z<|Zm Z<|Zq (I.quo Z Z (by decide))<|z0x fun x7 h8=>Zq (ixB 1 Z Z Z h8 tu176 z4x)<|Zq (ld 1 Z Z (fP (.el h8)) z78 Z)<|Zm Z<|Zq (I.rem Z Z (by decide))<|Zq (I.mul Z Z)<|Zq (I.sub Z Z)<|z0x fun u9 h10=>Zq (W.shr Z Z (z61 h10))<|Zq (W.toB Z tu78 tu5)<|z0x fun x11 h12=>Zq (ixB 3 Z Z Z h12 tu94 ti5)<|Es (sto 3 Z Z (fP (.el h12)) Z ti5)<|z1x<|z2w<|z0h<|z2b<|Zm Z<|Zq (I.add Z Z)<|Za Z<|z1z 4 Z fun y13=>z1x<|z1b (fun aa ww h=>Zu h [1,2,3])
  ·
   refine z1m<|z0t<|z0u<|z4o (fun aa ww h=>Zu h [2,3])
 ·
  refine gSR<|Zq (ld 3 Z Z fH z8d Z)<|Es (sto 2 Z Z fH Z z4q)<|Zn<|z0e<|zd6 [] [] Z (eC 2 Z Z z8d<|eN) (rN)
def z99 (a0:List UInt8):Option (V3) :=
 zal >>= fun r2 =>
 app 1 ([]:List UInt8) a0 >>= fun x5 =>
 z9k (a0.length:Int) >>= fun r8 =>
 app 1 x5 r8 >>= fun x10 =>
 z83 r2 x10 >>= fun r13 =>
 z79 r13 >>= fun r15 =>
 some r15
end
section
open Go Go.RowKit
set_option maxRecDepth 100000
theorem zdi (a0:List UInt8):z1u Tryz.prog 101 [.rd (z02 u8R) a0] [] (z99 a0) (fun r nv=>⟨[.rd aZ r],[]⟩):=by
 refine z2d 13 Tryz.func101 Z Z Z fun H w=>?_
 refine gSR<|Eb Z (z8e 1 z4q (.zr (R:=aZ) (x:=(Vector.replicate 32 0)) zl4)) fun v1=>Zn<|gSR<|Zc [] [] Tryz.func141 Z (zfr) fun r2 n3=>Ef Z (lit (R:=u8R) (([]:List UInt8):List UInt8) 2 (pN) Z tu109 ti5 Z Z) fun v4=>Zm Z<|z0x fun x5 h6=>Ef Z (apn 2 Z Z Z .rd h6 tu109 ti5 Z Z Z) fun v7=>Zm Z<|Zq (z33 Z .rd Z tu109)<|Zc [] [(100,3)] Tryz.func142 Z (zgi _) fun r8 n9=>z0x fun x10 h11=>Ef Z (apn 2 Z Z Z (.own 3 Z) h11 tu109 ti5 Z Z Z) fun v12=>zen 2 [10] Z (fS Z<|fN)<|Zc [] [] Tryz.func140 Z (zer _ _) fun r13 n14=>Zc [] [] Tryz.func139 Z (zeb _) fun r15 n16=>Es (sto 1 Z Z fH Z z4q)<|Zn<|z0e<|zd6 [] [] Z (eC 1 Z Z z8d<|eN) (rN)
def zas (a0:z06):Option (V3) :=
 z8t a0 >>= fun r3 =>
 z99 r3 >>= fun r5 =>
 some r5
theorem zim (a0:z06):z1u Tryz.prog 71 [.rd z03 a0] [] (zas a0) (fun r nv=>⟨[.rd aZ r],[]⟩):=by
 refine z2d 6 Tryz.func71 Z Z Z fun H w=>?_
 refine gSR<|Eb Z (bx 1 Z) fun v1=>Eb Z (z8e 2 z4q (.zr (R:=aZ) (x:=(Vector.replicate 32 0)) zl4)) fun v2=>Zn<|gSR<|Zq (ld 1 Z Z fH zc0 Z)<|Zc [] [(100,3)] Tryz.func102 Z (zg0 _) fun r3 n4=>zen 3 [4] Z (fS Z<|fN)<|Zc [] [] Tryz.func101 Z (zdi _) fun r5 n6=>Es (sto 2 Z Z fH Z z4q)<|Zn<|z0e<|zd6 [] [] Z (eC 2 Z Z z8d<|eN) (rN)
def z68 (a0:V3) (a1:V3) (s4:Int):Option (Sum (Sum Int Unit) Int) :=
 if decide (s4<32) then
  z6g a0 s4 >>= fun x6 =>
  z6g a1 s4 >>= fun x8 =>
  if decide (x6<x8) then
   some (.inl (.inl (-1)))
  else
   z6g a0 s4 >>= fun x11 =>
   z6g a1 s4 >>= fun x13 =>
   if decide (x13<x11) then
    some (.inl (.inl 1))
   else
    some (.inr (w64 (s4+1)))
 else
  some (.inl (.inr ()))
def z73 (a0:V3) (a1:V3):Option (Int) :=
 z3p (iter (z68 a0 a1) 0) fun s3 =>
 some 0
theorem zci (a0:V3) (a1:V3):z1u Tryz.prog 105 [.rd aZ a0,.rd aZ a1] [] (z73 a0 a1) (fun r nv=>⟨[.rd z0a r],[]⟩):=by
 refine z2d 24 Tryz.func105 Z Z Z fun H w=>?_
 refine gSR<|Eb Z (bx 1 Z) fun v1=>Eb Z (bx 2 Z) fun v2=>Zb Z<|z4e (fun (s3:Unit) aa ww=>Sta (ctx 24 H [] w) [] [] aa ww) ?_ (fun s3=>?_)
 ·
  refine gSR<|Zb Z<|z1o (fun (s4:Int) aa ww=>Sta (ctx 24 H [] w) [(2,.val (z05 v1 0)),(3,.val (z05 v2 0)),(5,.rd z0a s4)] [(1,some (v1,.box 94 [.rd aZ a0])),(2,some (v2,.box 94 [.rd aZ a1]))] aa ww) (fun aa ww h=>Zu h [1,2]) (fun s4=>?_)
  refine z0j<|gSR<|Zm Z<|Zq (I.lss Z Z)<|Zj Z (fun h5=>?_) (fun h5=>?_)
  ·
   refine Zt<|z0j<|z49<|z0j<|z0j<|zhs z2o (by kernel_rfl)<|Rq Z (mv Z)<|z7a fun x6 h7=>Rq Z (ixB 1 Z Z Z h7 tu94 ti5)<|Rq Z (ld 1 Z Z (fP (.el h7)) ty5 Z)<|Rq Z (mv Z)<|z7a fun x8 h9=>Rq Z (ixB 2 Z Z Z h9 tu94 ti5)<|Rq Z (ld 2 Z Z (fP (.el h9)) ty5 Z)<|Rq Z (B.lss Z Z)<|zs4<|z0h<|gIf Z Z (fun h10=>?_) (fun h10=>?_)
   ·
    refine gSR<|Zb Z<|z0e<|z0k<|z2r<|z0k<|z3z<|z3e<|Ze [] [] Z
   ·
    refine Zt<|z0j<|zhs z2o (by kernel_rfl)<|Rq Z (mv Z)<|z7a fun x11 h12=>Rq Z (ixB 1 Z Z Z h12 tu94 ti5)<|Rq Z (ld 1 Z Z (fP (.el h12)) ty5 Z)<|Rq Z (mv Z)<|z7a fun x13 h14=>Rq Z (ixB 2 Z Z Z h14 tu94 ti5)<|Rq Z (ld 2 Z Z (fP (.el h14)) ty5 Z)<|Rq Z (B.gtr Z Z)<|zs4<|z0h<|gIf Z Z (fun h15=>?_) (fun h15=>?_)
    ·
     refine gSR<|Zb Z<|z0e<|z2r<|z0k<|z3z<|z3e<|Ze [] [] Z
    ·
     refine z24<|z2w<|z0h<|z2b<|Zm Z<|Zq (I.add Z Z)<|Za Z<|z1x<|z1b (fun aa ww h=>Zu h [1,2])
  ·
   refine z1m<|z0t<|z0u<|z3o (fun aa ww h=>Zu h [])
 ·
  refine gSR<|Zb Z<|z0e<|Ze [] [] Z
def z3n (a0:List V3) (s2:Int):Option (Sum (Sum Bool Unit) Int) :=
 if decide (s2<(a0.length:Int)) then
  idx a0 (w64 (s2 - 1)) >>= fun x4 =>
  idx a0 s2 >>= fun x6 =>
  z73 x4 x6 >>= fun r8 =>
  if decide (0≤r8) then
   some (.inl (.inl false))
  else
   some (.inr (w64 (s2+1)))
 else
  some (.inl (.inr ()))
def z6c (a0:List V3):Option (Bool) :=
 z3p (iter (z3n a0) 1) fun s1 =>
 some true
theorem zap (a0:List V3):z1u Tryz.prog 103 [.rd (z02 aZ) a0] [] (z6c a0) (fun r nv=>⟨[.rd z0m r],[]⟩):=by
 refine z2d 21 Tryz.func103 Z Z Z fun H w=>?_
 refine gSR<|Zb Z<|z4e (fun (s1:Unit) aa ww=>Sta (ctx 21 H [] w) [] [] aa ww) ?_ (fun s1=>?_)
 ·
  refine gSR<|Zb Z<|z1o (fun (s2:Int) aa ww=>Sta (ctx 21 H [] w) [(0,.rd (z02 aZ) a0),(3,.rd z0a s2)] [] aa ww) (fun aa ww h=>Zu h []) (fun s2=>?_)
  refine z0j<|gSR<|Zm Z<|Zm Z<|Zq (z33 Z .rd Z tu46)<|Zq (I.lss Z Z)<|Zj Z (fun h3=>?_) (fun h3=>?_)
  ·
   refine Zt<|z0j<|z49<|z0j<|z5a [] z2o Z Z<|hTk 0 Z Z (mv Z)<|hTk 1 Z Z (mv Z)<|hTk 2 Z Z (I.sub Z Z)<|z35 fun x4 h5=>hTk 3 Z Z (ixR Z Z h5 tu46 z4q Z)<|hTk 4 Z Z (ldR Z z8d)<|hTk 5 Z Z (mv Z)<|hTk 6 Z Z (mv Z)<|z35 fun x6 h7=>hTk 7 Z Z (ixR Z Z h7 tu46 z4q Z)<|hTk 8 Z Z (ldR Z z8d)<|z2s 9 [] [] Z (by kernel_rfl) Z (gd0 Z) Z Tryz.func105 Z Z (zci _ _) (Y2 Z Z) rN Z (fun _ _=>z30) fun r8 n9=>hTk 10 Z Z (I.geq Z Z)<|z3c (by kernel_rfl)<|z0h<|gIf Z Z (fun h10=>?_) (fun h10=>?_)
   ·
    refine gSR<|Zb Z<|z0e<|z2r<|z0k<|z3z<|z3e<|Ze [] [] Z
   ·
    refine z24<|z2w<|z0h<|z2b<|Zm Z<|Zq (I.add Z Z)<|Za Z<|z1x<|z1b (fun aa ww h=>Zu h [])
  ·
   refine z1m<|z0t<|z0u<|z3o (fun aa ww h=>Zu h [])
 ·
  refine gSR<|Zb Z<|z0e<|Ze [] [] Z
def z50 (a2:UInt64) (s2:UInt64 × UInt64 × UInt64):Option (Sum UInt64 (UInt64 × UInt64 × UInt64)) :=
 if decide (0<s2.2.1) then
  (if (s2.2.1 % 2)==1 then
   chk (a2≠0) >>= fun u6 =>
   some ((s2.2.2 * s2.1) % a2) >>= fun y8 =>
   some y8
  else
   some s2.2.2) >>= fun s4 =>
  chk (a2≠0) >>= fun u9 =>
  some ((s2.1 * s2.1) % a2) >>= fun y11 =>
  some (.inr (y11,s2.2.1 / 2,s4))
 else
  some (.inl s2.2.2)
def z6y (a0:UInt64) (a1:UInt64) (a2:UInt64):Option (UInt64) :=
 (iter (z50 a2) (a0,a1,1)) >>= fun s1 =>
 some s1
theorem zb2 (a0:UInt64) (a1:UInt64) (a2:UInt64):z1u Tryz.prog 163 [.rd z2z a0,.rd z2z a1,.rd z2z a2] [] (z6y a0 a1 a2) (fun r nv=>⟨[.rd z2z r],[]⟩):=by
 refine z2d 26 Tryz.func163 Z Z Z fun H w=>?_
 refine gSR<|Zb Z<|gSR<|Zb Z<|z8g (fun (s1:UInt64) aa ww=>Sta (ctx 26 H [] w) [(7,.rd z2z s1)] [] aa ww) ?_ (fun s1=>?_)
 ·
  refine z1o (fun (s2:UInt64 × UInt64 × UInt64) aa ww=>Sta (ctx 26 H [] w) [(0,.rd z2z s2.1),(1,.rd z2z s2.2.1),(2,.rd z2z a2),(7,.rd z2z s2.2.2)] [] aa ww) (fun aa ww h=>Zu h []) (fun s2=>?_)
  refine z0j<|gSR<|Zm Z<|Zq (U.gtr Z Z)<|Zj Z (fun h3=>?_) (fun h3=>?_)
  ·
   refine Zt<|z49<|z8g (fun (s4:UInt64) aa ww=>Sta (ctx 26 H [] w) [(0,.rd z2z s2.1),(1,.rd z2z s2.2.1),(2,.rd z2z a2),(7,.rd z2z s4)] [] aa ww) ?_ (fun s4=>?_)
   ·
    refine gSR<|Zm Z<|Zq (U.rem Z Z (by decide))<|Zq (U.eql Z Z)<|Zj Z (fun h5=>?_) (fun h5=>?_)
    ·
     refine z2b<|Zm Z<|Zm Z<|Zq (U.mul Z Z)<|Zm Z<|z0x fun u6 h7=>Zq (U.rem Z Z (z61 h7))<|Za Z<|z1z 7 Z fun y8=>z1x<|z4o (fun aa ww h=>Zu h [])
    ·
     refine z24<|z4o (fun aa ww h=>Zu h [])
   ·
    refine gSR<|Zm Z<|Zm Z<|Zq (U.mul Z Z)<|Zm Z<|z0x fun u9 h10=>Zq (U.rem Z Z (z61 h10))<|Za Z<|z1z 0 Z fun y11=>Zn<|z2b<|Zm Z<|Zq (U.quo Z Z (by decide))<|Za Z<|z1x<|z2w<|z1b (fun aa ww h=>Zu h [])
  ·
   refine z1m<|z0t<|z0u<|z4o (fun aa ww h=>Zu h [])
 ·
  refine gSR<|Zm Z<|Zb Z<|z0e<|Ze [] [] Z
def z9l (a0:UInt32):Option (Bool) :=
 if decide (1≤a0) then
  if decide (a0<1000000007) then
   z6y a0.toUInt64 500000003 1000000007 >>= fun r3 =>
   some (r3==1)
  else
   some false
 else
  some false
theorem zdh (a0:UInt32):z1u Tryz.prog 134 [.rd z0n a0] [] (z9l a0) (fun r nv=>⟨[.rd z0m r],[]⟩):=by
 refine z2d 15 Tryz.func134 Z Z Z fun H w=>?_
 refine gSR<|Zb Z<|gSR<|Zm Z<|Zq (W.geq Z Z)<|Zm Z<|z17 5 Z (fun h1=>?_) (fun h1=>?_)
 ·
  refine lKn 4 Z h1<|z0y Zx Z Z (mv Z)<|z0y Zx Z Z (W.lss Z Z)<|Zq (pkT Z Z)<|Zm Z<|z17 9 Z (fun h2=>?_) (fun h2=>?_)
  ·
   refine lKn 7 Z h2<|lKn 8 Z h2<|z0y Zx Z Z (mv Z)<|z0y Zx Z Z (W.toU Z tu78 tu56)<|zdo [] [] Zx Z Tryz.func163 Z Z (zb2 _ _ _) (aQ Z<|aQ Z<|aQ Z<|aN) rN fun r3 n4=>z0y Zx Z Z (U.eql Z Z)<|Zq (pkT Z Z)<|Zb Z<|z0e<|Ze [] [] Z
  ·
   refine lKn 7 Z h2<|lKn 8 Z h2<|Zk Z<|Zk Z<|Zk Z<|Zk Z<|Zq (pkF Z Z)<|Zb Z<|z0e<|Ze [] [] Z
 ·
  refine lKn 4 Z h1<|Zk Z<|Zk Z<|Zq (pkF Z Z)<|Zm Z<|Zk Z<|Zk Z<|Zk Z<|Zk Z<|Zq (pkF Z Z)<|Zb Z<|z0e<|Ze [] [] Z
def z5p (a0:List UInt8) (s4:Int):Option (Sum (Sum Bool Unit) Int) :=
 if decide (s4<(a0.length:Int)) then
  idx a0 s4 >>= fun x6 =>
  if decide (x6<33) then
   some (.inl (.inl false))
  else
   idx a0 s4 >>= fun x9 =>
   if decide (126<x9) then
    some (.inl (.inl false))
   else
    some (.inr (w64 (s4+1)))
 else
  some (.inl (.inr ()))
def z7g (a0:List UInt8):Option (Bool) :=
 if decide ((a0.length:Int)<1) then
  some false
 else
  if decide (20<(a0.length:Int)) then
   some false
  else
   z3p (iter (z5p a0) 0) fun s3 =>
   some true
theorem zbm (a0:List UInt8):z1u Tryz.prog 164 [.rd zhk a0] [] (z7g a0) (fun r nv=>⟨[.rd z0m r],[]⟩):=by
 refine z2d 28 Tryz.func164 Z Z Z fun H w=>?_
 refine gSR<|Zb Z<|z0j<|gSR<|Zm Z<|Zq (zw4 Z Z tu9)<|Zq (I.lss Z Z)<|Zm Z<|z17 7 Z (fun h1=>?_) (fun h1=>?_)
 ·
  refine lKn 6 Z h1<|Zk Z<|Zk Z<|Zk Z<|Zq (pkT Z Z)<|Zn<|zce Z<|gSR<|Zb Z<|z0e<|z0k<|Ze [] [] Z
 ·
  refine lKn 6 Z h1<|z0y Zx Z Z (mv Z)<|z0y Zx Z Z (zw4 Z Z tu9)<|z0y Zx Z Z (I.gtr Z Z)<|Zq (pkF Z Z)<|Zj Z (fun h2=>?_) (fun h2=>?_)
  ·
   refine gKn 10 Z h2<|gSR<|Zb Z<|z0e<|z0k<|Ze [] [] Z
  ·
   refine gKn 10 Z h2<|Zt<|z4e (fun (s3:Unit) aa ww=>Sta (ctx 28 H [] w) [] [] aa ww) ?_ (fun s3=>?_)
   ·
    refine gSR<|Zb Z<|z1o (fun (s4:Int) aa ww=>Sta (ctx 28 H [] w) [(0,.rd zhk a0),(3,.rd z0a s4)] [] aa ww) (fun aa ww h=>Zu h []) (fun s4=>?_)
    refine z0j<|gSR<|Zm Z<|Zm Z<|Zq (zw4 Z Z tu9)<|Zq (I.lss Z Z)<|Zj Z (fun h5=>?_) (fun h5=>?_)
    ·
     refine Zt<|z0j<|z49<|gSR<|Zm Z<|Zm Z<|z0x fun x6 h7=>Zq (idxT Z Z tu9 (z57 h7).1 (z57 h7).2.1)<|Zq (B.lss Z Z)<|Zm Z<|z17 22 Z (fun h8=>?_) (fun h8=>?_)
     ·
      refine lKn 21 Z h8<|Zk Z<|Zk Z<|Zk Z<|Zk Z<|Zq (pkT Z Z)<|Zn<|zce Z<|gSR<|Zb Z<|z0e<|z2r<|z0k<|z3z<|z3e<|Ze [] [] Z
     ·
      refine lKn 21 Z h8<|z0y Zx Z Z (mv Z)<|z0y Zx Z Z (mv Z)<|z0x fun x9 h10=>z0y Zx Z Z (idxT Z Z tu9 (z57 h10).1 (z57 h10).2.1)<|z0y Zx Z Z (B.gtr Z Z)<|Zq (pkF Z Z)<|Zj Z (fun h11=>?_) (fun h11=>?_)
      ·
       refine gKn 26 Z h11<|gSR<|Zb Z<|z0e<|z2r<|z0k<|z3z<|z3e<|Ze [] [] Z
      ·
       refine gKn 26 Z h11<|z24<|z2w<|z0h<|z2b<|Zm Z<|Zq (I.add Z Z)<|Za Z<|z1x<|z1b (fun aa ww h=>Zu h [])
    ·
     refine z1m<|z0t<|z0u<|z3o (fun aa ww h=>Zu h [])
   ·
    refine gSR<|Zb Z<|z0e<|Ze [] [] Z
def z6r (a0:UInt64):Option (Int) :=
 some (w64 (((a0 % 9223372036854775808) / 4503599627370496).toNat:Int)) >>= fun y1 =>
 some y1
theorem zdl (a0:UInt64):z1u Tryz.prog 200 [.rd z2z a0] [] (z6r a0) (fun r nv=>⟨[.rd z0a r],[]⟩):=by
 refine z2d 7 Tryz.func200 Z Z Z fun H w=>?_
 refine gSR<|Zb Z<|gSR<|Zm Z<|Zq (U.rem Z Z (by decide))<|Zq (U.quo Z Z (by decide))<|Zq (U.toI Z tu56 tu3)<|Za Z<|z1z 2 Z fun y1=>Zn<|z0e<|Ze [] [] Z
def z91 (a0:UInt64):Option (UInt64) :=
 some (a0 % 4503599627370496) >>= fun y1 =>
 some y1
theorem zdn (a0:UInt64):z1u Tryz.prog 201 [.rd z2z a0] [] (z91 a0) (fun r nv=>⟨[.rd z2z r],[]⟩):=by
 refine z2d 5 Tryz.func201 Z Z Z fun H w=>?_
 refine gSR<|Zb Z<|gSR<|Zm Z<|Zq (U.rem Z Z (by decide))<|Za Z<|z1z 2 Z fun y1=>Zn<|z0e<|Ze [] [] Z
def z8m (a0:UInt64):Option (UInt8) :=
 z6r a0 >>= fun r1 =>
 z91 a0 >>= fun r3 =>
 z3p (if r1==0 then
  if r3==0 then
   some (.inl 1)
  else
   some (.inr ())
 else
  some (.inr ())) fun s5 =>
 if r1==0 then
  some 2
 else
  if decide (r1<2047) then
   some 3
  else
   if r3==0 then
    some 4
   else
    some 5
theorem zg4 (a0:UInt64):z1u Tryz.prog 197 [.rd z2z a0] [] (z8m a0) (fun r nv=>⟨[.rd u8R r],[]⟩):=by
 refine z2d 21 Tryz.func197 Z Z Z fun H w=>?_
 refine gSR<|Zb Z<|gSR<|Zm Z<|Zc [] [] Tryz.func200 Z (zdl _) fun r1 n2=>Zm Z<|Zc [] [] Tryz.func201 Z (zdn _) fun r3 n4=>Za Z<|Zb Z<|z4e (fun (s5:Unit) aa ww=>Sta (ctx 21 H [] w) [(3,.rd z0a r1),(4,.rd z2z r3)] [] aa ww) ?_ (fun s5=>?_)
 ·
  refine gSR<|Zm Z<|Zq (I.eql Z Z)<|Zm Z<|z17 11 Z (fun h6=>?_) (fun h6=>?_)
  ·
   refine lKn 10 Z h6<|z0y Zx Z Z (mv Z)<|z0y Zx Z Z (U.eql Z Z)<|Zq (pkT Z Z)<|Zj Z (fun h7=>?_) (fun h7=>?_)
   ·
    refine gKn 13 Z h7<|gSR<|Zb Z<|z0e<|z3e<|Ze [] [] Z
   ·
    refine gKn 13 Z h7<|z24<|z3o (fun aa ww h=>Zu h [])
  ·
   refine lKn 10 Z h6<|Zk Z<|Zk Z<|Zq (pkF Z Z)<|Zn<|zao Z<|z24<|z3o (fun aa ww h=>Zu h [])
 ·
  refine z0j<|gSR<|Zm Z<|Zq (I.eql Z Z)<|Zj Z (fun h8=>?_) (fun h8=>?_)
  ·
   refine gSR<|Zb Z<|z0e<|z0k<|Ze [] [] Z
  ·
   refine Zt<|z0j<|gSR<|Zm Z<|Zq (I.lss Z Z)<|Zj Z (fun h9=>?_) (fun h9=>?_)
   ·
    refine gSR<|Zb Z<|z0e<|z0k<|Ze [] [] Z
   ·
    refine Zt<|z0j<|gSR<|Zm Z<|Zq (U.eql Z Z)<|Zj Z (fun h10=>?_) (fun h10=>?_)
    ·
     refine gSR<|Zb Z<|z0e<|z0k<|Ze [] [] Z
    ·
     refine Zt<|gSR<|Zb Z<|z0e<|Ze [] [] Z
def z8w (a0:UInt64):Option (UInt64) :=
 z8m a0 >>= fun r1 =>
 if r1==5 then
  some 9221120237041090560
 else
  some a0
theorem zg6 (a0:UInt64):z1u Tryz.prog 185 [.rd z2z a0] [] (z8w a0) (fun r nv=>⟨[.rd z2z r],[]⟩):=by
 refine z2d 7 Tryz.func185 Z Z Z fun H w=>?_
 refine gSR<|Zb Z<|z0j<|gSR<|Zm Z<|Zc [] [] Tryz.func197 Z (zg4 _) fun r1 n2=>Zq (B.eql Z Z)<|Zj Z (fun h3=>?_) (fun h3=>?_)
 ·
  refine gSR<|Zb Z<|z0e<|z0k<|Ze [] [] Z
 ·
  refine Zt<|gSR<|Zm Z<|Zb Z<|z0e<|Ze [] [] Z
def z3i (a0:List UInt8) (s2:Int):Option (Sum (Sum Bool Unit) Int) :=
 if decide (s2<(a0.length:Int)) then
  idx a0 s2 >>= fun x4 =>
  if decide (x4<32) then
   some (.inl (.inl false))
  else
   idx a0 s2 >>= fun x7 =>
   if decide (126<x7) then
    some (.inl (.inl false))
   else
    some (.inr (w64 (s2+1)))
 else
  some (.inl (.inr ()))
def z62 (a0:List UInt8):Option (Bool) :=
 z3p (iter (z3i a0) 0) fun s1 =>
 some true
theorem zct (a0:List UInt8):z1u Tryz.prog 186 [.rd zhk a0] [] (z62 a0) (fun r nv=>⟨[.rd z0m r],[]⟩):=by
 refine z2d 20 Tryz.func186 Z Z Z fun H w=>?_
 refine gSR<|Zb Z<|z4e (fun (s1:Unit) aa ww=>Sta (ctx 20 H [] w) [] [] aa ww) ?_ (fun s1=>?_)
 ·
  refine gSR<|Zb Z<|z1o (fun (s2:Int) aa ww=>Sta (ctx 20 H [] w) [(0,.rd zhk a0),(3,.rd z0a s2)] [] aa ww) (fun aa ww h=>Zu h []) (fun s2=>?_)
  refine z0j<|gSR<|Zm Z<|Zm Z<|Zq (zw4 Z Z tu9)<|Zq (I.lss Z Z)<|Zj Z (fun h3=>?_) (fun h3=>?_)
  ·
   refine Zt<|z0j<|z49<|gSR<|Zm Z<|Zm Z<|z0x fun x4 h5=>Zq (idxT Z Z tu9 (z57 h5).1 (z57 h5).2.1)<|Zq (B.lss Z Z)<|Zm Z<|z17 14 Z (fun h6=>?_) (fun h6=>?_)
   ·
    refine lKn 13 Z h6<|Zk Z<|Zk Z<|Zk Z<|Zk Z<|Zq (pkT Z Z)<|Zn<|zce Z<|gSR<|Zb Z<|z0e<|z2r<|z0k<|z3z<|z3e<|Ze [] [] Z
   ·
    refine lKn 13 Z h6<|z0y Zx Z Z (mv Z)<|z0y Zx Z Z (mv Z)<|z0x fun x7 h8=>z0y Zx Z Z (idxT Z Z tu9 (z57 h8).1 (z57 h8).2.1)<|z0y Zx Z Z (B.gtr Z Z)<|Zq (pkF Z Z)<|Zj Z (fun h9=>?_) (fun h9=>?_)
    ·
     refine gKn 18 Z h9<|gSR<|Zb Z<|z0e<|z2r<|z0k<|z3z<|z3e<|Ze [] [] Z
    ·
     refine gKn 18 Z h9<|z24<|z2w<|z0h<|z2b<|Zm Z<|Zq (I.add Z Z)<|Za Z<|z1x<|z1b (fun aa ww h=>Zu h [])
  ·
   refine z1m<|z0t<|z0u<|z3o (fun aa ww h=>Zu h [])
 ·
  refine gSR<|Zb Z<|z0e<|Ze [] [] Z
def z8r (a0:z08):Option (Int) :=
 if a0.Kind==1 then
  if a0.Bits==0 then
   if a0.Text==[] then
    some 0
   else
    some 8
  else
   some 8
 else
  if a0.Kind==2 then
   (if a0.Num==0 then
    if a0.Text==[] then
     z8w a0.Bits >>= fun r9 =>
     some (r9==a0.Bits)
    else
     some false
   else
    some false) >>= fun s6 =>
   if s6 then
    some 0
   else
    some 8
  else
   if a0.Kind==3 then
    (if a0.Num==0 then
     if a0.Bits==0 then
      if decide ((a0.Text.length:Int)≤30) then
       z62 a0.Text >>= fun r17 =>
       some r17
      else
       some false
     else
      some false
    else
     some false) >>= fun s13 =>
    if s13 then
     some 0
    else
     some 8
   else
    some 8
theorem zfm (a0:z08):z1u Tryz.prog 165 [.rd z1k a0] [] (z8r a0) (fun r nv=>⟨[.rd z0a r],[]⟩):=by
 refine z2d 54 Tryz.func165 Z Z Z fun H w=>?_
 refine gSR<|Eb Z (bx 1 Z) fun v1=>Zb Z<|z0j<|gSR<|Zq (faB 1 Z Z Tryz.underlying80 Z (by exact ti5))<|Zq (ld 1 Z Z (fP (z2h _)) ty5 Z)<|Zn<|z49<|gSR<|Zq (B.eql Z Z)<|Zb Z<|gIf Z Z (fun h2=>?_) (fun h2=>?_)
 ·
  refine gKn 6 Z h2<|gSR<|Zq (faB 1 Z Z Tryz.underlying80 Z (by exact zne))<|Zq (ld 1 Z Z (fP (z3a _)) zmj Z)<|Zq (U.eql Z Z)<|Zm Z<|z17 10 Z (fun h3=>?_) (fun h3=>?_)
  ·
   refine lKn 9 Z h3<|z0y Zx Z Z (faB 1 Z Z Tryz.underlying80 Z (by exact ti9))<|z0y Zx Z Z (ld 1 Z Z (fP (z2u _)) ty9 Z)<|z0y Zx Z Z (eqS Z Z)<|Zq (pkT Z Z)<|Zj Z (fun h4=>?_) (fun h4=>?_)
   ·
    refine gKn 13 Z h4<|gSR<|Zb Z<|z0e<|z2r<|z0k<|Ze [] [] Z
   ·
    refine gKn 13 Z h4<|z24<|z2w<|z0h<|gSR<|Zb Z<|z0e<|Ze [] [] Z
  ·
   refine lKn 9 Z h3<|Zk Z<|Zk Z<|Zk Z<|Zq (pkF Z Z)<|Zn<|zao Z<|z24<|z2w<|z0h<|gSR<|Zb Z<|z0e<|Ze [] [] Z
 ·
  refine gKn 6 Z h2<|gSR<|Zq (B.eql Z Z)<|Zb Z<|gIf Z Z (fun h5=>?_) (fun h5=>?_)
  ·
   refine gKn 16 Z h5<|z8g (fun (s6:Bool) aa ww=>Sta (ctx 54 H [] w) [(32,.rd z0m s6)] [] aa ww) ?_ (fun s6=>?_)
   ·
    refine z5a [] z2o Z Z<|hTk 0 Z Z (faB 1 Z Z Tryz.underlying80 Z (by exact ti2))<|hTk 1 Z Z (ld 1 Z Z (fP (z5g _)) ty2 Z)<|hTk 2 Z Z (I.eql Z Z)<|hTk 3 Z Z (mv Z)<|hIf 20 Z Z (fun h7=>?_) (fun h7=>?_)
    ·
     refine hKn 19 Z Z h7<|Zg 4 Z Z (faB 1 Z Z Tryz.underlying80 Z (by exact ti9))<|Zg 5 Z Z (ld 1 Z Z (fP (z2u _)) ty9 Z)<|Zg 6 Z Z (eqS Z Z)<|hTk 7 Z Z (pkT Z Z)<|hTk 8 Z Z (mv Z)<|hIf 25 Z Z (fun h8=>?_) (fun h8=>?_)
     ·
      refine hKn 23 Z Z h8<|hKn 24 Z Z h8<|Zg 9 Z Z (faB 1 Z Z Tryz.underlying80 Z (by exact zne))<|Zg 10 Z Z (ld 1 Z Z (fP (z3a _)) zmj Z)<|Zg 12 Z Z (faB 1 Z Z Tryz.underlying80 Z (by exact zne))<|Zg 13 Z Z (ld 1 Z Z (fP (z3a _)) zmj Z)<|z2s 11 [] [] Z (by kernel_rfl) Z Zx Z Tryz.func185 Z Z (zg6 _) (Y1 Z) rN Z (fun _ _=>z30) fun r9 n10=>Zg 14 Z Z (U.eql Z Z)<|hTk 15 Z Z (pkT Z Z)<|z3c (by kernel_rfl)<|z4o (fun aa ww h=>Zu h [])
     ·
      refine hKn 23 Z Z h8<|hKn 24 Z Z h8<|hSk 9 Z Z<|hSk 10 Z Z<|hSk 11 Z Z<|hSk 12 Z Z<|hSk 13 Z Z<|hSk 14 Z Z<|hTk 15 Z Z (pkF Z Z)<|z3c (by kernel_rfl)<|z4o (fun aa ww h=>Zu h [])
    ·
     refine hKn 19 Z Z h7<|hSk 4 Z Z<|hSk 5 Z Z<|hSk 6 Z Z<|hTk 7 Z Z (pkF Z Z)<|hTk 8 Z Z (mv Z)<|hSk 9 Z Z<|hSk 10 Z Z<|hSk 11 Z Z<|hSk 12 Z Z<|hSk 13 Z Z<|hSk 14 Z Z<|hTk 15 Z Z (pkF Z Z)<|z3c (by kernel_rfl)<|z4o (fun aa ww h=>Zu h [])
   ·
    refine gIf Z Z (fun h11=>?_) (fun h11=>?_)
    ·
     refine gSR<|Zb Z<|z0e<|z2r<|z0k<|Ze [] [] Z
    ·
     refine z24<|z2w<|z0h<|gSR<|Zb Z<|z0e<|Ze [] [] Z
  ·
   refine gKn 16 Z h5<|gSR<|Zq (B.eql Z Z)<|Zb Z<|gIf Z Z (fun h12=>?_) (fun h12=>?_)
   ·
    refine gKn 34 Z h12<|z8g (fun (s13:Bool) aa ww=>Sta (ctx 54 H [] w) [(53,.rd z0m s13)] [] aa ww) ?_ (fun s13=>?_)
    ·
     refine z2b<|Zq (faB 1 Z Z Tryz.underlying80 Z (by exact ti2))<|Zq (ld 1 Z Z (fP (z5g _)) ty2 Z)<|Zq (I.eql Z Z)<|Zm Z<|z17 38 Z (fun h14=>?_) (fun h14=>?_)
     ·
      refine lKn 37 Z h14<|z0y Zx Z Z (faB 1 Z Z Tryz.underlying80 Z (by exact zne))<|z0y Zx Z Z (ld 1 Z Z (fP (z3a _)) zmj Z)<|z0y Zx Z Z (U.eql Z Z)<|Zq (pkT Z Z)<|Zm Z<|z17 43 Z (fun h15=>?_) (fun h15=>?_)
      ·
       refine lKn 41 Z h15<|lKn 42 Z h15<|z0y Zx Z Z (faB 1 Z Z Tryz.underlying80 Z (by exact ti9))<|z0y Zx Z Z (ld 1 Z Z (fP (z2u _)) ty9 Z)<|z0y Zx Z Z (zw4 Z Z tu9)<|z0y Zx Z Z (I.leq Z Z)<|Zq (pkT Z Z)<|Zm Z<|z17 49 Z (fun h16=>?_) (fun h16=>?_)
       ·
        refine lKn 47 Z h16<|lKn 48 Z h16<|z0y Zx Z Z (faB 1 Z Z Tryz.underlying80 Z (by exact ti9))<|z0y Zx Z Z (ld 1 Z Z (fP (z2u _)) ty9 Z)<|zdo [] [] Zx Z Tryz.func186 Z Z (zct _) (Y1 Z) rN fun r17 n18=>Zq (pkT Z Z)<|z1x<|z4o (fun aa ww h=>Zu h [])
       ·
        refine lKn 47 Z h16<|lKn 48 Z h16<|Zk Z<|Zk Z<|Zk Z<|Zq (pkF Z Z)<|z1x<|z4o (fun aa ww h=>Zu h [])
      ·
       refine lKn 41 Z h15<|lKn 42 Z h15<|Zk Z<|Zk Z<|Zk Z<|Zk Z<|Zq (pkF Z Z)<|Zm Z<|Zk Z<|Zk Z<|Zk Z<|Zq (pkF Z Z)<|z1x<|z4o (fun aa ww h=>Zu h [])
     ·
      refine lKn 37 Z h14<|Zk Z<|Zk Z<|Zk Z<|Zq (pkF Z Z)<|Zm Z<|Zk Z<|Zk Z<|Zk Z<|Zk Z<|Zq (pkF Z Z)<|Zm Z<|Zk Z<|Zk Z<|Zk Z<|Zq (pkF Z Z)<|z1x<|z4o (fun aa ww h=>Zu h [])
    ·
     refine gIf Z Z (fun h19=>?_) (fun h19=>?_)
     ·
      refine gSR<|Zb Z<|z0e<|z2r<|z0k<|Ze [] [] Z
     ·
      refine z24<|z2w<|z0h<|gSR<|Zb Z<|z0e<|Ze [] [] Z
   ·
    refine gKn 34 Z h12<|z24<|z2w<|z0h<|gSR<|Zb Z<|z0e<|Ze [] [] Z
def z6n (a0:z1i):Option (Int) :=
 some (decide (a0.Value=(⟨0,0,0,[]⟩:z08))) >>= fun y2 =>
 if a0.Kind==1 then
  if a0.Key==[] then
   if y2 then
    some 0
   else
    some 8
  else
   some 8
 else
  (if a0.Kind==2 then
   some true
  else
   some (a0.Kind==3)) >>= fun s6 =>
  if s6 then
   z7g a0.Key >>= fun r9 =>
   if r9 then
    if y2 then
     some 0
    else
     some 8
   else
    some 8
  else
   if a0.Kind==4 then
    z7g a0.Key >>= fun r14 =>
    if r14 then
     z8r a0.Value >>= fun r17 =>
     if r17==0 then
      some 0
     else
      some 8
    else
     some 8
   else
    some 8
theorem zdm (a0:z1i):z1u Tryz.prog 135 [.rd z19 a0] [] (z6n a0) (fun r nv=>⟨[.rd z0a r],[]⟩):=by
 refine z2d 38 Tryz.func135 Z Z Z fun H w=>?_
 refine gSR<|Eb Z (bx 1 Z) fun v1=>Zb Z<|gSR<|Zq (faB 1 Z Z Tryz.underlying82 Z (by exact zhm))<|Zq (ld 1 Z Z (fP (z4h _)) zps Z)<|Zq (bld (x':=(⟨0,0,0,[]⟩:z08)) [(0,1),(1,1),(2,1),(3,1)] Tryz.underlying80 zhm Z zsc Z (Bld.done Z))<|Zq (eqA Z Z eq80 Z Z gq80)<|Za Z<|z1z 3 Z fun y2=>Zn<|z0j<|gSR<|Zq (faB 1 Z Z Tryz.underlying82 Z (by exact ti5))<|Zq (ld 1 Z Z (fP (z3l _)) ty5 Z)<|Zn<|z49<|gSR<|Zq (B.eql Z Z)<|Zb Z<|gIf Z Z (fun h3=>?_) (fun h3=>?_)
 ·
  refine gKn 11 Z h3<|gSR<|Zq (faB 1 Z Z Tryz.underlying82 Z (by exact ti9))<|Zq (ld 1 Z Z (fP (z4s _)) ty9 Z)<|Zq (eqS Z Z)<|Zm Z<|z17 15 Z (fun h4=>?_) (fun h4=>?_)
  ·
   refine lKn 14 Z h4<|z0y Zx Z Z (mv Z)<|Zq (pkT Z Z)<|Zj Z (fun h5=>?_) (fun h5=>?_)
   ·
    refine gKn 3 Z h5<|gKn 16 Z h5<|gSR<|Zb Z<|z0e<|z2r<|z0k<|Ze [] [] Z
   ·
    refine gKn 3 Z h5<|gKn 16 Z h5<|z24<|z2w<|z0h<|gSR<|Zb Z<|z0e<|Ze [] [] Z
  ·
   refine lKn 14 Z h4<|Zk Z<|Zq (pkF Z Z)<|Zn<|zao Z<|z24<|z2w<|z0h<|gSR<|Zb Z<|z0e<|Ze [] [] Z
 ·
  refine gKn 11 Z h3<|z8g (fun (s6:Bool) aa ww=>Sta (ctx 38 H [] w) [(1,.val (z05 v1 0)),(3,.rd z0m y2),(9,.rd u8R a0.Kind),(18,.rd z0m s6)] [(1,some (v1,.box 82 [.rd z19 a0]))] aa ww) ?_ (fun s6=>?_)
  ·
   refine gSR<|Zq (B.eql Z Z)<|Zb Z<|gIf Z Z (fun h7=>?_) (fun h7=>?_)
   ·
    refine gKn 19 Z h7<|z24<|z4o (fun aa ww h=>Zu h [1])
   ·
    refine gKn 19 Z h7<|z2b<|Zq (B.eql Z Z)<|Za Z<|z1x<|z4o (fun aa ww h=>Zu h [1])
  ·
   refine gIf Z Z (fun h8=>?_) (fun h8=>?_)
   ·
    refine gSR<|Zq (faB 1 Z Z Tryz.underlying82 Z (by exact ti9))<|Zq (ld 1 Z Z (fP (z4s _)) ty9 Z)<|Zc [] [] Tryz.func164 Z (zbm _) fun r9 n10=>Zm Z<|z17 24 Z (fun h11=>?_) (fun h11=>?_)
    ·
     refine lKn 23 Z h11<|z0y Zx Z Z (mv Z)<|Zq (pkT Z Z)<|Zj Z (fun h12=>?_) (fun h12=>?_)
     ·
      refine gKn 3 Z h12<|gKn 25 Z h12<|gSR<|Zb Z<|z0e<|z2r<|z0k<|Ze [] [] Z
     ·
      refine gKn 3 Z h12<|gKn 25 Z h12<|z24<|z2w<|z0h<|gSR<|Zb Z<|z0e<|Ze [] [] Z
    ·
     refine lKn 23 Z h11<|Zk Z<|Zq (pkF Z Z)<|Zn<|zao Z<|z24<|z2w<|z0h<|gSR<|Zb Z<|z0e<|Ze [] [] Z
   ·
    refine gSR<|Zq (B.eql Z Z)<|Zb Z<|gIf Z Z (fun h13=>?_) (fun h13=>?_)
    ·
     refine gKn 28 Z h13<|gSR<|Zq (faB 1 Z Z Tryz.underlying82 Z (by exact ti9))<|Zq (ld 1 Z Z (fP (z4s _)) ty9 Z)<|Zc [] [] Tryz.func164 Z (zbm _) fun r14 n15=>Zm Z<|z17 32 Z (fun h16=>?_) (fun h16=>?_)
     ·
      refine lKn 31 Z h16<|z0y Zx Z Z (faB 1 Z Z Tryz.underlying82 Z (by exact zhm))<|z0y Zx Z Z (ld 1 Z Z (fP (z4h _)) zps Z)<|zdo [] [] Zx Z Tryz.func165 Z Z (zfm _) (Y1 Z) rN fun r17 n18=>z0y Zx Z Z (I.eql Z Z)<|Zq (pkT Z Z)<|Zj Z (fun h19=>?_) (fun h19=>?_)
      ·
       refine gKn 36 Z h19<|gSR<|Zb Z<|z0e<|z2r<|z0k<|Ze [] [] Z
      ·
       refine gKn 36 Z h19<|z24<|z2w<|z0h<|gSR<|Zb Z<|z0e<|Ze [] [] Z
     ·
      refine lKn 31 Z h16<|Zk Z<|Zk Z<|Zk Z<|Zk Z<|Zq (pkF Z Z)<|Zn<|zao Z<|z24<|z2w<|z0h<|gSR<|Zb Z<|z0e<|Ze [] [] Z
    ·
     refine gKn 28 Z h13<|z24<|z2w<|z0h<|gSR<|Zb Z<|z0e<|Ze [] [] Z
def z36 (a0:UInt32):Option (Bool) :=
 some (decide (a0.toUInt64<500000003)) >>= fun y1 =>
 some y1
theorem z58 (a0:UInt32):z1u Tryz.prog 136 [.rd z0n a0] [] (z36 a0) (fun r nv=>⟨[.rd z0m r],[]⟩):=by
 refine z2d 6 Tryz.func136 Z Z Z fun H w=>?_
 refine gSR<|Zb Z<|gSR<|Zm Z<|Zq (W.toU Z tu78 tu56)<|Zq (U.lss Z Z)<|Za Z<|z1z 2 Z fun y1=>Zn<|z0e<|Ze [] [] Z
def z6z (a0:z06):Option (Int) :=
 if decide (4<(a0.Preds.length:Int)) then
  some 4
 else
  z6c a0.Preds >>= fun r3 =>
  if !r3 then
   some 32
  else
   (z9l a0.Author >>= fun r7 =>
   if !r7 then
    some true
   else
    if decide (1000000000000<a0.Stamp) then
     some true
    else
     z6n a0.Act >>= fun r11 =>
     if r11 != 0 then
      some true
     else
      z36 a0.Sig.E >>= fun r14 =>
      if !r14 then
       some true
      else
       z36 a0.Sig.S >>= fun r17 =>
       some (!r17)) >>= fun s6 =>
   if s6 then
    some 8
   else
    some 0
theorem zbf (a0:z06):z1u Tryz.prog 99 [.rd z03 a0] [] (z6z a0) (fun r nv=>⟨[.rd z0a r],[]⟩):=by
 refine z2d 40 Tryz.func99 Z Z Z fun H w=>?_
 refine gSR<|Eb Z (bx 1 Z) fun v1=>Zb Z<|z0j<|gSR<|Zq (faB 1 Z Z Tryz.underlying86 Z (by exact z85))<|Zq (ld 1 Z Z (fP (z0v _)) z8z Z)<|Zq (z33 Z .rd Z tu46)<|Zq (I.gtr Z Z)<|Zj Z (fun h2=>?_) (fun h2=>?_)
 ·
  refine gSR<|Zb Z<|z0e<|z0k<|Ze [] [] Z
 ·
  refine Zt<|z0j<|gSR<|Zq (faB 1 Z Z Tryz.underlying86 Z (by exact z85))<|Zq (ld 1 Z Z (fP (z0v _)) z8z Z)<|Zc [] [] Tryz.func103 Z (zap _) fun r3 n4=>Zq (zdf Z)<|Zj Z (fun h5=>?_) (fun h5=>?_)
  ·
   refine gSR<|Zb Z<|z0e<|z0k<|Ze [] [] Z
  ·
   refine Zt<|z0j<|z8g (fun (s6:Bool) aa ww=>Sta (ctx 40 H [] w) [(39,.rd z0m s6)] [] aa ww) ?_ (fun s6=>?_)
   ·
    refine z2b<|Zq (faB 1 Z Z Tryz.underlying86 Z (by exact z4x))<|Zq (ld 1 Z Z (fP (z20 _)) z78 Z)<|Zc [] [] Tryz.func134 Z (zdh _) fun r7 n8=>Zq (zdf Z)<|Zm Z<|z17 15 Z (fun h9=>?_) (fun h9=>?_)
    ·
     refine lKn 14 Z h9<|Zk Z<|Zk Z<|Zk Z<|Zq (pkT Z Z)<|Zm Z<|Zk Z<|Zk Z<|Zk Z<|Zk Z<|Zq (pkT Z Z)<|Zm Z<|Zk Z<|Zk Z<|Zk Z<|Zk Z<|Zk Z<|Zq (pkT Z Z)<|Zm Z<|Zk Z<|Zk Z<|Zk Z<|Zk Z<|Zk Z<|Zq (pkT Z Z)<|z1x<|z4o (fun aa ww h=>Zu h [])
    ·
     refine lKn 14 Z h9<|z0y Zx Z Z (faB 1 Z Z Tryz.underlying86 Z (by exact zne))<|z0y Zx Z Z (ld 1 Z Z (fP (z31 _)) zmj Z)<|z0y Zx Z Z (U.gtr Z Z)<|Zq (pkF Z Z)<|Zm Z<|z17 20 Z (fun h10=>?_) (fun h10=>?_)
     ·
      refine lKn 18 Z h10<|lKn 19 Z h10<|Zk Z<|Zk Z<|Zk Z<|Zk Z<|Zq (pkT Z Z)<|Zm Z<|Zk Z<|Zk Z<|Zk Z<|Zk Z<|Zk Z<|Zq (pkT Z Z)<|Zm Z<|Zk Z<|Zk Z<|Zk Z<|Zk Z<|Zk Z<|Zq (pkT Z Z)<|z1x<|z4o (fun aa ww h=>Zu h [])
     ·
      refine lKn 18 Z h10<|lKn 19 Z h10<|z0y Zx Z Z (faB 1 Z Z Tryz.underlying86 Z (by exact zkb))<|z0y Zx Z Z (ld 1 Z Z (fP (z1d _)) zxp Z)<|zdo [] [] Zx Z Tryz.func135 Z Z (zdm _) (Y1 Z) rN fun r11 n12=>z0y Zx Z Z (I.neq Z Z)<|Zq (pkF Z Z)<|Zm Z<|z17 26 Z (fun h13=>?_) (fun h13=>?_)
      ·
       refine lKn 24 Z h13<|lKn 25 Z h13<|Zk Z<|Zk Z<|Zk Z<|Zk Z<|Zk Z<|Zq (pkT Z Z)<|Zm Z<|Zk Z<|Zk Z<|Zk Z<|Zk Z<|Zk Z<|Zq (pkT Z Z)<|z1x<|z4o (fun aa ww h=>Zu h [])
      ·
       refine lKn 24 Z h13<|lKn 25 Z h13<|z0y Zx Z Z (faB 1 Z Z Tryz.underlying86 Z (by exact zla))<|z0y Zx Z Z (faB 1 Z Z Tryz.underlying84 Z (by exact z4x))<|z0y Zx Z Z (ld 1 Z Z ((fP (z1r _)).part (z4r _)) z78 Z)<|zdo [] [] Zx Z Tryz.func136 Z Z (z58 _) (Y1 Z) rN fun r14 n15=>z0y Zx Z Z (zdf Z)<|Zq (pkF Z Z)<|Zm Z<|z17 33 Z (fun h16=>?_) (fun h16=>?_)
       ·
        refine lKn 31 Z h16<|lKn 32 Z h16<|Zk Z<|Zk Z<|Zk Z<|Zk Z<|Zk Z<|Zq (pkT Z Z)<|z1x<|z4o (fun aa ww h=>Zu h [])
       ·
        refine lKn 31 Z h16<|lKn 32 Z h16<|z0y Zx Z Z (faB 1 Z Z Tryz.underlying86 Z (by exact zla))<|z0y Zx Z Z (faB 1 Z Z Tryz.underlying84 Z (by exact z4x))<|z0y Zx Z Z (ld 1 Z Z ((fP (z1r _)).part (z6j _)) z78 Z)<|zdo [] [] Zx Z Tryz.func136 Z Z (z58 _) (Y1 Z) rN fun r17 n18=>z0y Zx Z Z (zdf Z)<|Zq (pkF Z Z)<|z1x<|z4o (fun aa ww h=>Zu h [])
   ·
    refine gIf Z Z (fun h19=>?_) (fun h19=>?_)
    ·
     refine gSR<|Zb Z<|z0e<|z0k<|Ze [] [] Z
    ·
     refine Zt<|gSR<|Zb Z<|z0e<|Ze [] [] Z
def z4v (a0:UInt32) (a1:UInt64):Option (UInt32) :=
 z6y a0.toUInt64 a1 1000000007 >>= fun r1 =>
 some r1.toUInt32
theorem z8b (a0:UInt32) (a1:UInt64):z1u Tryz.prog 167 [.rd z0n a0,.rd z2z a1] [] (z4v a0 a1) (fun r nv=>⟨[.rd z0n r],[]⟩):=by
 refine z2d 10 Tryz.func167 Z Z Z fun H w=>?_
 refine gSR<|Zb Z<|gSR<|Zm Z<|Zq (W.toU Z tu78 tu56)<|Zm Z<|Zc [] [] Tryz.func163 Z (zb2 _ _ _) fun r1 n2=>Zq (U.toW Z tu56 tu78)<|Zb Z<|z0e<|Ze [] [] Z
def zc1 (a0:UInt32):Option (UInt32 × Int) :=
 z9l a0 >>= fun r1 =>
 if !r1 then
  some (0,2)
 else
  z4v a0 500000002 >>= fun r4 =>
  some (r4,0)
theorem zhy (a0:UInt32):z1u Tryz.prog 166 [.rd z0n a0] [] (zc1 a0) (fun r nv=>⟨[.rd z0n r.1,.rd z0a r.2],[]⟩):=by
 refine z2d 9 Tryz.func166 Z Z Z fun H w=>?_
 refine gSR<|Za Z<|Zb Z<|z0j<|gSR<|Zm Z<|Zc [] [] Tryz.func134 Z (zdh _) fun r1 n2=>Zq (zdf Z)<|Zj Z (fun h3=>?_) (fun h3=>?_)
 ·
  refine gSR<|Za Z<|Zb Z<|z0e<|z0k<|Ze [] [] Z
 ·
  refine Zt<|gSR<|Zm Z<|Zc [] [] Tryz.func167 Z (z8b _ _) fun r4 n5=>Za Z<|Zb Z<|z0e<|Ze [] [] Z
def zb8 (a0:UInt64):Option (UInt32) :=
 z4v 4 a0 >>= fun r1 =>
 some r1
theorem zh2 (a0:UInt64):z1u Tryz.prog 189 [.rd z2z a0] [] (zb8 a0) (fun r nv=>⟨[.rd z0n r],[]⟩):=by
 refine z2d 5 Tryz.func189 Z Z Z fun H w=>?_
 refine gSR<|Zb Z<|gSR<|Zm Z<|Zc [] [] Tryz.func167 Z (z8b _ _) fun r1 n2=>Zb Z<|z0e<|Ze [] [] Z
def zc2 (a0:UInt32):Option (UInt32) :=
 zb8 a0.toUInt64 >>= fun r1 =>
 some r1
theorem zhq (a0:UInt32):z1u Tryz.prog 170 [.rd z0n a0] [] (zc2 a0) (fun r nv=>⟨[.rd z0n r],[]⟩):=by
 refine z2d 6 Tryz.func170 Z Z Z fun H w=>?_
 refine gSR<|Zb Z<|gSR<|Zm Z<|Zq (W.toU Z tu78 tu56)<|Zc [] [] Tryz.func189 Z (zh2 _) fun r1 n2=>Zb Z<|z0e<|Ze [] [] Z
def z9p (a0:UInt32) (a1:UInt32):Option (UInt32) :=
 some (((a0.toUInt64 * a1.toUInt64) % 1000000007).toUInt32) >>= fun y1 =>
 some y1
theorem ze4 (a0:UInt32) (a1:UInt32):z1u Tryz.prog 169 [.rd z0n a0,.rd z0n a1] [] (z9p a0 a1) (fun r nv=>⟨[.rd z0n r],[]⟩):=by
 refine z2d 12 Tryz.func169 Z Z Z fun H w=>?_
 refine gSR<|Zb Z<|gSR<|Zm Z<|Zq (W.toU Z tu78 tu56)<|Zm Z<|Zq (W.toU Z tu78 tu56)<|Zq (U.mul Z Z)<|Zq (U.rem Z Z (by decide))<|Zq (U.toW Z tu56 tu78)<|Za Z<|z1z 4 Z fun y1=>Zn<|z0e<|Ze [] [] Z
def z7j (a0:UInt32):Option ((List UInt8)) :=
 some [(a0 / 16777216).toUInt8,((a0 / 65536) % 256).toUInt8,((a0 / 256) % 256).toUInt8,(a0 % 256).toUInt8]
theorem zbs (a0:UInt32):z1u Tryz.prog 187 [.rd z0n a0] [] (z7j a0) (fun r nv=>⟨[.val (nv 0)],[(100,some (nv 0,.list u8R 5 r))]⟩):=by
 refine z2d 18 Tryz.func187 Z Z Z fun H w=>?_
 refine gSR<|Zb Z<|gSR<|Zm Z<|Zq (W.quo Z Z (by decide))<|Zq (W.toB Z tu78 tu5)<|Zm Z<|Zq (W.quo Z Z (by decide))<|Zq (W.rem Z Z (by decide))<|Zq (W.toB Z tu78 tu5)<|Zm Z<|Zq (W.quo Z Z (by decide))<|Zq (W.rem Z Z (by decide))<|Zq (W.toB Z tu78 tu5)<|Zm Z<|Zq (W.rem Z Z (by decide))<|Zq (W.toB Z tu78 tu5)<|Ef Z (lit (R:=u8R) ([(a0 / 16777216).toUInt8,((a0 / 65536) % 256).toUInt8,((a0 / 256) % 256).toUInt8,(a0 % 256).toUInt8]:List UInt8) 1 (pP Z Z<|pP Z Z<|pP Z Z<|pP Z Z<|pN) Z tu109 ti5 Z Z) fun v1=>Zb Z<|z0e<|Ze [v1] [1] Z
def z4n (r1:V3) (s5:UInt64 × Int):Option (Sum UInt64 (UInt64 × Int)) :=
 if decide (s5.2<8) then
  z6g r1 s5.2 >>= fun x7 =>
  some ((256 * s5.1)+x7.toUInt64) >>= fun y9 =>
  some (w64 (s5.2+1)) >>= fun y10 =>
  some (.inr (y9,y10))
 else
  some (.inl s5.1)
def z7s (a0:List UInt8):Option (UInt64) :=
 z99 a0 >>= fun r1 =>
 (iter (z4n r1) (0,0)) >>= fun s4 =>
 some s4
theorem zf3 (a0:List UInt8):z1u Tryz.prog 188 [.rd (z02 u8R) a0] [] (z7s a0) (fun r nv=>⟨[.rd z2z r],[]⟩):=by
 refine z2d 20 Tryz.func188 Z Z Z fun H w=>?_
 refine gSR<|Zb Z<|gSR<|Zm Z<|Zc [] [] Tryz.func101 Z (zdi _) fun r1 n2=>Eb Z (z8e 1 z4q (.zr (R:=aZ) (x:=(Vector.replicate 32 0)) zl4)) fun v3=>Es (sto 1 Z Z fH Z z4q)<|Zn<|gSR<|Zb Z<|z8g (fun (s4:UInt64) aa ww=>Sta (ctx 20 H [] w) [(4,.rd z2z s4)] [] aa ww) ?_ (fun s4=>?_)
 ·
  refine gSR<|Zb Z<|z1o (fun (s5:UInt64 × Int) aa ww=>Sta (ctx 20 H [] w) [(3,.val (z05 v3 0)),(4,.rd z2z s5.1),(5,.rd z0a s5.2)] [(1,some (v3,.box 94 [.rd aZ r1]))] aa ww) (fun aa ww h=>Zu h [1]) (fun s5=>?_)
  refine z0j<|gSR<|Zm Z<|Zq (I.lss Z Z)<|Zj Z (fun h6=>?_) (fun h6=>?_)
  ·
   refine Zt<|z0j<|z49<|z2b<|Zm Z<|Zq (U.mul Z Z)<|Zm Z<|z0x fun x7 h8=>Zq (ixB 1 Z Z Z h8 tu94 ti5)<|Zq (ld 1 Z Z (fP (.el h8)) ty5 Z)<|Zq (B.toU Z tu5 tu56)<|Zq (U.add Z Z)<|Za Z<|z1z 4 Z fun y9=>z1x<|z2w<|z0h<|z2b<|Zm Z<|Zq (I.add Z Z)<|Za Z<|z1z 5 Z fun y10=>z1x<|z1b (fun aa ww h=>Zu h [1])
  ·
   refine z1m<|z0t<|z0u<|z4o (fun aa ww h=>Zu h [])
 ·
  refine gSR<|Zm Z<|Zb Z<|z0e<|Ze [] [] Z
def z64 (a0:UInt32) (a1:UInt32) (a2:List UInt8):Option (UInt32) :=
 z7j a0 >>= fun r2 =>
 app 1 [99] r2 >>= fun x4 =>
 z7j a1 >>= fun r7 =>
 app 1 x4 r7 >>= fun x9 =>
 app 1 x9 a2 >>= fun x12 =>
 z7s x12 >>= fun r15 =>
 some ((r15 % 500000003).toUInt32) >>= fun y17 =>
 some y17
theorem zd5 (a0:UInt32) (a1:UInt32) (a2:List UInt8):z1u Tryz.prog 168 [.rd z0n a0,.rd z0n a1,.rd (z02 u8R) a2] [] (z64 a0 a1 a2) (fun r nv=>⟨[.rd z0n r],[]⟩):=by
 refine z2d 21 Tryz.func168 Z Z Z fun H w=>?_
 refine gSR<|Zb Z<|gSR<|Ef Z (lit (R:=u8R) ([99]:List UInt8) 1 (pP Z Z<|pN) Z tu109 ti5 Z Z) fun v1=>Zm Z<|Zc [] [(100,2)] Tryz.func187 Z (zbs _) fun r2 n3=>z0x fun x4 h5=>Ef Z (apn 1 Z Z Z (.own 2 Z) h5 tu109 ti5 Z Z Z) fun v6=>Zm Z<|Zc [] [(100,3)] Tryz.func187 Z (zbs _) fun r7 n8=>z0x fun x9 h10=>Ef Z (apn 1 Z Z Z (.own 3 Z) h10 tu109 ti5 Z Z Z) fun v11=>Zb Z<|gSR<|Zm Z<|Zm Z<|z0x fun x12 h13=>Ef Z (apn 1 Z Z Z .rd h13 tu109 ti5 Z Z Z) fun v14=>zen 1 [17] Z (fS Z<|fN)<|Zc [] [] Tryz.func188 Z (zf3 _) fun r15 n16=>Zq (U.rem Z Z (by decide))<|Zq (U.toW Z tu56 tu78)<|Za Z<|z1z 6 Z fun y17=>Zn<|z0e<|Ze [] [] Z
def z90 (a0:UInt32) (a1:List UInt8) (a2:z0w):Option (Bool) :=
 z36 a2.E >>= fun r2 =>
 if !r2 then
  some false
 else
  z36 a2.S >>= fun r5 =>
  if !r5 then
   some false
  else
   z4v a0 a2.E.toUInt64 >>= fun r8 =>
   zc1 r8 >>= fun r10 =>
   zc2 a2.S >>= fun r12 =>
   z9p r12 r10.1 >>= fun r14 =>
   z64 r14 a0 a1 >>= fun r16 =>
   some (r16==a2.E)
theorem zfn (a0:UInt32) (a1:List UInt8) (a2:z0w):z1u Tryz.prog 137 [.rd z0n a0,.rd (z02 u8R) a1,.rd z1j a2] [] (z90 a0 a1 a2) (fun r nv=>⟨[.rd z0m r],[]⟩):=by
 refine z2d 39 Tryz.func137 Z Z Z fun H w=>?_
 refine gSR<|Eb Z (bx 1 Z) fun v1=>Zb Z<|z0j<|gSR<|Zq (faB 1 Z Z Tryz.underlying84 Z (by exact z4x))<|Zq (ld 1 Z Z (fP (z4r _)) z78 Z)<|Zc [] [] Tryz.func136 Z (z58 _) fun r2 n3=>Zq (zdf Z)<|Zm Z<|z17 13 Z (fun h4=>?_) (fun h4=>?_)
 ·
  refine lKn 12 Z h4<|Zk Z<|Zk Z<|Zk Z<|Zk Z<|Zq (pkT Z Z)<|Zn<|zce Z<|gSR<|Zb Z<|z0e<|z0k<|Ze [] [] Z
 ·
  refine lKn 12 Z h4<|z0y Zx Z Z (faB 1 Z Z Tryz.underlying84 Z (by exact z4x))<|z0y Zx Z Z (ld 1 Z Z (fP (z6j _)) z78 Z)<|zdo [] [] Zx Z Tryz.func136 Z Z (z58 _) (Y1 Z) rN fun r5 n6=>z0y Zx Z Z (zdf Z)<|Zq (pkF Z Z)<|Zj Z (fun h7=>?_) (fun h7=>?_)
  ·
   refine gKn 17 Z h7<|gSR<|Zb Z<|z0e<|z0k<|Ze [] [] Z
  ·
   refine gKn 17 Z h7<|Zt<|gSR<|Zm Z<|Zq (faB 1 Z Z Tryz.underlying84 Z (by exact z4x))<|Zq (ld 1 Z Z (fP (z4r _)) z78 Z)<|Zq (W.toU Z tu78 tu56)<|Zc [] [] Tryz.func167 Z (z8b _ _) fun r8 n9=>Zc [] [] Tryz.func166 Z (zhy _) fun r10 n11=>Zm Z<|Zq (ext Z Z)<|Zq (ext Z Z)<|Za Z<|Zb Z<|z0j<|z5a [] z2o Z Z<|hTk 0 Z Z (faB 1 Z Z Tryz.underlying84 Z (by exact z4x))<|hTk 1 Z Z (ld 1 Z Z (fP (z6j _)) z78 Z)<|hTk 3 Z Z (mv Z)<|hTk 5 Z Z (mv Z)<|hTk 6 Z Z (mv Z)<|hTk 8 Z Z (faB 1 Z Z Tryz.underlying84 Z (by exact z4x))<|hTk 9 Z Z (ld 1 Z Z (fP (z4r _)) z78 Z)<|z2s 2 [] [] Z (by kernel_rfl) Z (gd0 Z) Z Tryz.func170 Z Z (zhq _) (Y1 Z) rN Z (fun _ _=>z30) fun r12 n13=>z2s 4 [] [] Z (by kernel_rfl) Z (gd0 Z) Z Tryz.func169 Z Z (ze4 _ _) (Y2 Z Z) rN Z (fun _ _=>z30) fun r14 n15=>z2s 7 [] [] Z (by kernel_rfl) Z (gd0 Z) Z Tryz.func168 Z Z (zd5 _ _ _) (aQ Z<|aQ Z<|aQ Z<|aN) rN Z (fun _ _=>z30) fun r16 n17=>hTk 10 Z Z (W.eql Z Z)<|hTk 11 Z Z (asg Z)<|z3c (by kernel_rfl)<|z0h<|z0e<|Ze [] [] Z
def z9u (a0:z06):Option (Bool) :=
 z7n a0 >>= fun r2 =>
 z90 a0.Author r2 a0.Sig >>= fun r4 =>
 some r4
theorem zeu (a0:z06):z1u Tryz.prog 100 [.rd z03 a0] [] (z9u a0) (fun r nv=>⟨[.rd z0m r],[]⟩):=by
 refine z2d 10 Tryz.func100 Z Z Z fun H w=>?_
 refine gSR<|Eb Z (bx 1 Z) fun v1=>Zb Z<|z0j<|z5a [11] z2o Z Z<|hTk 0 Z Z (faB 1 Z Z Tryz.underlying86 Z (by exact z4x))<|hTk 1 Z Z (ld 1 Z Z (fP (z20 _)) z78 Z)<|hTk 2 Z Z (ld 1 Z Z fH zc0 Z)<|hTk 4 Z Z (faB 1 Z Z Tryz.underlying86 Z (by exact zla))<|hTk 5 Z Z (ld 1 Z Z (fP (z1r _)) zz1 Z)<|z2s 3 [] [(100,11)] Z (by kernel_rfl) Z (gd0 Z) Z Tryz.func138 Z Z (zbw _) (Y1 Z) rN Z (fun _ _=>z2p) fun r2 n3=>hFrz 11 [6] Z (fS Z<|fN)<|z2s 6 [] [] Z (by kernel_rfl) Z (gd0 Z) Z Tryz.func137 Z Z (zfn _ _ _) (aQ Z<|aQ Z<|aQ Z<|aN) rN Z (fun _ _=>z5j) fun r4 n5=>hTk 7 Z Z (asg Z)<|z3c (by kernel_rfl)<|z0h<|z0e<|Ze [] [] Z
def z7r (a0:z06):Option (Int) :=
 z6z a0 >>= fun r2 =>
 if r2 != 0 then
  z6z a0 >>= fun r5 =>
  some r5
 else
  z9u a0 >>= fun r7 =>
  if !r7 then
   some 22
  else
   some 0
theorem zf1 (a0:z06):z1u Tryz.prog 70 [.rd z03 a0] [] (z7r a0) (fun r nv=>⟨[.rd z0a r],[]⟩):=by
 refine z2d 11 Tryz.func70 Z Z Z fun H w=>?_
 refine gSR<|Eb Z (bx 1 Z) fun v1=>Zb Z<|z0j<|gSR<|Zq (ld 1 Z Z fH zc0 Z)<|Zc [] [] Tryz.func99 Z (zbf _) fun r2 n3=>Zq (I.neq Z Z)<|Zj Z (fun h4=>?_) (fun h4=>?_)
 ·
  refine gSR<|Zq (ld 1 Z Z fH zc0 Z)<|Zc [] [] Tryz.func99 Z (zbf _) fun r5 n6=>Zb Z<|z0e<|z0k<|Ze [] [] Z
 ·
  refine Zt<|z0j<|gSR<|Zq (ld 1 Z Z fH zc0 Z)<|Zc [] [] Tryz.func100 Z (zeu _) fun r7 n8=>Zq (zdf Z)<|Zj Z (fun h9=>?_) (fun h9=>?_)
  ·
   refine gSR<|Zb Z<|z0e<|z0k<|Ze [] [] Z
  ·
   refine Zt<|gSR<|Zb Z<|z0e<|Ze [] [] Z
end
section
open Go Go.RowKit
set_option maxRecDepth 100000
def z0d (a0:List V3) (a1:V3) (s4:Int × Int):Option (Sum Int (Int × Int)) :=
 if decide (s4.1<s4.2) then
  some (w64 ((z6e (UInt64.ofInt (w64 (s4.1+s4.2))) 1).toNat:Int)) >>= fun y6 =>
  idx a0 y6 >>= fun x7 =>
  z7v x7 a1 >>= fun r9 =>
  if decide (r9<0) then
   some (.inr (w64 (y6+1),s4.2))
  else
   some (.inr (s4.1,y6))
 else
  some (.inl s4.1)
def z0f (a0:List V3) (a1:V3):Option (Int × Bool) :=
 some (a0.length:Int) >>= fun y2 =>
 (iter (z0d a0 a1) (0,y2)) >>= fun s3 =>
 if decide (s3<y2) then
  idx a0 s3 >>= fun x13 =>
  z7v x13 a1 >>= fun r15 =>
  some (s3,r15==0)
 else
  some (s3,false)
theorem z41 (a0:List V3) (a1:V3):z1u Tryz.prog 106 [.rd (z02 aZ) a0,.rd aZ a1,.val (.func (.func 69) #[] #[])] [] (z0f a0 a1) (fun r nv=>⟨[.rd z0a r.1,.rd z0m r.2],[]⟩):=by
 refine z2d 49 Tryz.func106 Z Z Z fun H w=>?_
 refine gSR<|Eb Z (bx 1 Z) fun v1=>Za Z<|Zb Z<|gSR<|Zm Z<|Zq (z33 Z .rd Z tu46)<|Za Z<|z1z 8 Z fun y2=>Zn<|gSR<|Zm Z<|Za Z<|Zb Z<|z8g (fun (s3:Int) aa ww=>Sta (ctx 49 H [] w) [(0,.rd (z02 aZ) a0),(2,.val (.func (.func 69) #[] #[])),(4,.val (z05 v1 0)),(8,.rd z0a y2),(9,.rd z0a s3)] [(1,some (v1,.box 94 [.rd aZ a1]))] aa ww) ?_ (fun s3=>?_)
 ·
  refine z1o (fun (s4:Int × Int) aa ww=>Sta (ctx 49 H [] w) [(0,.rd (z02 aZ) a0),(2,.val (.func (.func 69) #[] #[])),(4,.val (z05 v1 0)),(8,.rd z0a y2),(9,.rd z0a s4.1),(10,.rd z0a s4.2)] [(1,some (v1,.box 94 [.rd aZ a1]))] aa ww) (fun aa ww h=>Zu h [1]) (fun s4=>?_)
  refine z0j<|gSR<|Zm Z<|Zm Z<|Zq (I.lss Z Z)<|Zj Z (fun h5=>?_) (fun h5=>?_)
  ·
   refine Zt<|z49<|gSR<|Zm Z<|Zm Z<|Zq (I.add Z Z)<|Zq (I.toU Z tu3 Tryz.underlying76)<|Zq (U.shr Z Z (Int.natCast_nonneg _))<|Zq (U.toI Z Tryz.underlying76 tu3)<|Za Z<|z1z 11 Z fun y6=>Zn<|z0j<|z5a [] z2o Z Z<|hTk 0 Z Z (mv Z)<|hTk 1 Z Z (mv Z)<|hTk 2 Z Z (mv Z)<|z35 fun x7 h8=>hTk 3 Z Z (ixR Z Z h8 tu46 z4q Z)<|hTk 4 Z Z (ldR Z z8d)<|hTk 5 Z Z (ld 1 Z Z fH z8d Z)<|zpl 6 [] [] Z (by kernel_rfl) Z (gd0 Z) Z Tryz.func69 Z Z Z (z9c _ _) (Y2 Z Z) (cN) Z rN Z (fun _ _=>z30) fun r9 n10=>hTk 7 Z Z (I.lss Z Z)<|z3c (by kernel_rfl)<|z0h<|gIf Z Z (fun h11=>?_) (fun h11=>?_)
   ·
    refine z2b<|Zm Z<|Zq (I.add Z Z)<|Za Z<|z1x<|z2w<|z1b (fun aa ww h=>Zu h [1])
   ·
    refine z2b<|Zm Z<|Za Z<|z1x<|z2w<|z1b (fun aa ww h=>Zu h [1])
  ·
   refine z1m<|z0t<|z0u<|z4o (fun aa ww h=>Zu h [1])
 ·
  refine z0j<|z5a [] z2o Z Z<|hTk 0 Z Z (mv Z)<|hTk 1 Z Z (mv Z)<|hTk 2 Z Z (mv Z)<|hTk 3 Z Z (I.lss Z Z)<|hTk 4 Z Z (mv Z)<|hIf 39 Z Z (fun h12=>?_) (fun h12=>?_)
  ·
   refine hKn 38 Z Z h12<|Zg 5 Z Z (mv Z)<|Zg 6 Z Z (mv Z)<|Zg 7 Z Z (mv Z)<|z35 fun x13 h14=>Zg 8 Z Z (ixR Z Z h14 tu46 z4q Z)<|Zg 9 Z Z (ldR Z z8d)<|Zg 10 Z Z (ld 1 Z Z fH z8d Z)<|zpl 11 [] [] Z (by kernel_rfl) Z Zx Z Tryz.func69 Z Z Z (z9c _ _) (Y2 Z Z) (cN) Z rN Z (fun _ _=>z30) fun r15 n16=>Zg 12 Z Z (I.eql Z Z)<|hTk 13 Z Z (pkT Z Z)<|hTk 14 Z Z (asg Z)<|hTk 15 Z Z (asg Z)<|z3c (by kernel_rfl)<|z0h<|z0e<|Ze [] [] Z
  ·
   refine hKn 38 Z Z h12<|hSk 5 Z Z<|hSk 6 Z Z<|hSk 7 Z Z<|hSk 8 Z Z<|hSk 9 Z Z<|hSk 10 Z Z<|hSk 11 Z Z<|hSk 12 Z Z<|hTk 13 Z Z (pkF Z Z)<|hTk 14 Z Z (asg Z)<|hTk 15 Z Z (asg Z)<|z3c (by kernel_rfl)<|z0h<|z0e<|Ze [] [] Z
def zbv (a0:z01) (a1:V3):Option (Int × Bool) :=
 z0f a0.IDs a1 >>= fun r3 =>
 some (r3.1,r3.2)
theorem zfz (a0:z01) (a1:V3):z1u Tryz.prog 76 [.rd z00 a0,.rd aZ a1] [] (zbv a0 a1) (fun r nv=>⟨[.rd z0a r.1,.rd z0m r.2],[]⟩):=by
 refine z2d 12 Tryz.func76 Z Z Z fun H w=>?_
 refine gSR<|Eb Z (bx 1 Z) fun v1=>Eb Z (bx 2 Z) fun v2=>Za Z<|Zb Z<|gSR<|Zq (faB 1 Z Z Tryz.underlying49 Z (by exact z85))<|Zq (ld 1 Z Z (fP (z09 _)) z8z Z)<|Zq (ld 2 Z Z fH z8d Z)<|Zc [] [] Tryz.func106 Z (z41 _ _) fun r3 n4=>Zq (ext Z Z)<|Zq (ext Z Z)<|Za Z<|Zb Z<|z0e<|Ze [] [] Z
def z7i (a0:z01) (s3:Int):Option (Sum (Sum Int Unit) Int) :=
 if decide (s3<(a0.IDs.length:Int)) then
  idx a0.IDs (w64 (s3 - 1)) >>= fun x5 =>
  idx a0.IDs s3 >>= fun x7 =>
  z7v x5 x7 >>= fun r9 =>
  if decide (0≤r9) then
   some (.inl (.inl 32))
  else
   some (.inr (w64 (s3+1)))
 else
  some (.inl (.inr ()))
def z92 (a0:z01) (s19:(List Int) × (List (List Int)) × (List Int) × Int) (x22:z06) (s26:(List (List Int)) × Int):Option (Sum (Sum (Sum (Sum Int ((List Int) × (List (List Int)) × (List Int))) ((List Int) × (List (List Int)) × (List Int) × Int)) ((List (List Int)))) ((List (List Int)) × Int)) :=
 if decide (s26.2<(x22.Preds.length:Int)) then
  idx x22.Preds s26.2 >>= fun x29 =>
  zbv a0 x29 >>= fun r32 =>
  if !r32.2 then
   some (.inl (.inl (.inl (.inl 40))))
  else
   idx s26.1 r32.1 >>= fun x35 =>
   app 8 x35 [s19.2.2.2] >>= fun x38 =>
   some (.inr (s26.1.set (r32.1:Int).toNat x38,w64 (s26.2+1)))
 else
  some (.inl (.inr s26.1))
def z93 (a0:z01) (s19:(List Int) × (List (List Int)) × (List Int) × Int):Option (Sum (Sum Int ((List Int) × (List (List Int)) × (List Int))) ((List Int) × (List (List Int)) × (List Int) × Int)) :=
 if decide (s19.2.2.2<(a0.Ops.length:Int)) then
  idx a0.Ops s19.2.2.2 >>= fun x22 =>
  z3p (iter (z92 a0 s19 x22) (s19.2.1,0)) fun s25 =>
  idx s19.1 s19.2.2.2 >>= fun x42 =>
  idx (s19.1.set (s19.2.2.2:Int).toNat (x22.Preds.length:Int)) s19.2.2.2 >>= fun x44 =>
  if x44==0 then
   app 8 s19.2.2.1 [s19.2.2.2] >>= fun x48 =>
   some (.inr (s19.1.set (s19.2.2.2:Int).toNat (x22.Preds.length:Int),s25,x48,w64 (s19.2.2.2+1)))
  else
   some (.inr (s19.1.set (s19.2.2.2:Int).toNat (x22.Preds.length:Int),s25,s19.2.2.1,w64 (s19.2.2.2+1)))
 else
  some (.inl (.inr (s19.1,s19.2.1,s19.2.2.1)))
def z94 (x59:List Int) (s61:(List Int) × (List Int) × Int):Option (Sum ((List Int) × (List Int)) ((List Int) × (List Int) × Int)) :=
 if decide (s61.2.2<(x59.length:Int)) then
  idx x59 s61.2.2 >>= fun x64 =>
  idx s61.1 x64 >>= fun x66 =>
  idx s61.1 x64 >>= fun x68 =>
  idx (s61.1.set (x64:Int).toNat (w64 (x66 - 1))) x64 >>= fun x70 =>
  if x70==0 then
   app 8 s61.2.1 [x64] >>= fun x74 =>
   some (.inr (s61.1.set (x64:Int).toNat (w64 (x66 - 1)),x74,w64 (s61.2.2+1)))
  else
   some (.inr (s61.1.set (x64:Int).toNat (w64 (x66 - 1)),s61.2.1,w64 (s61.2.2+1)))
 else
  some (.inl (s61.1,s61.2.1))
def za9 (s18:(List Int) × (List (List Int)) × (List Int)) (s53:(List Int) × (List Int) × Int):Option (Sum Int ((List Int) × (List Int) × Int)) :=
 if decide (s53.2.2<(s53.2.1.length:Int)) then
  (idx s53.2.1 s53.2.2 >>= fun x57 =>
  idx s18.2.1 x57 >>= fun x59 =>
  iter (z94 x59) (s53.1,s53.2.1,0)) >>= fun s56 =>
  some (w64 (s53.2.2+1)) >>= fun y78 =>
  some (.inr (s56.1,s56.2,y78))
 else
  some (.inl s53.2.2)
def zh3 (a0:z01):Option (Int) :=
 z3p (iter (z7i a0) 1) fun s2 =>
 mkn 8 0 (a0.Ops.length:Int) >>= fun x12 =>
 mkn 24 ([]:List Int) (a0.Ops.length:Int) >>= fun x15 =>
 z3p (iter (z93 a0) (x12,x15,[],0)) fun s18 =>
 (iter (za9 s18) (s18.1,s18.2.2,0)) >>= fun s52 =>
 if decide (s52<(a0.Ops.length:Int)) then
  some 36
 else
  some 0
theorem znn (a0:z01):z1u Tryz.prog 67 [.rd z00 a0] [] (zh3 a0) (fun r nv=>⟨[.rd z0a r],[]⟩):=by
 refine z2d 133 Tryz.func67 Z Z Z fun H w=>?_
 refine gSR<|Eb Z (bx 1 Z) fun v1=>Zb Z<|z4e (fun (s2:Unit) aa ww=>Sta (ctx 133 H [] w) [(1,.val (z05 v1 0))] [(1,some (v1,.box 49 [.rd z00 a0]))] aa ww) ?_ (fun s2=>?_)
 ·
  refine gSR<|Zb Z<|z1o (fun (s3:Int) aa ww=>Sta (ctx 133 H [] w) [(1,.val (z05 v1 0)),(3,.rd z0a s3)] [(1,some (v1,.box 49 [.rd z00 a0]))] aa ww) (fun aa ww h=>h.sub [1] (sS Z<|sS Z<|sN) (y1 Z)) (fun s3=>?_)
  refine z0j<|gSR<|Zm Z<|Zq (faB 1 Z Z Tryz.underlying49 Z (by exact z85))<|Zq (ld 1 Z Z (fP (z09 _)) z8z Z)<|Zq (z33 Z .rd Z tu46)<|Zq (I.lss Z Z)<|Zj Z (fun h4=>?_) (fun h4=>?_)
  ·
   refine Zt<|z0j<|z49<|z0j<|z5a [] z2o Z Z<|hTk 0 Z Z (faB 1 Z Z Tryz.underlying49 Z (by exact z85))<|hTk 1 Z Z (ld 1 Z Z (fP (z09 _)) z8z Z)<|hTk 2 Z Z (mv Z)<|hTk 3 Z Z (I.sub Z Z)<|z35 fun x5 h6=>hTk 4 Z Z (ixR Z Z h6 tu46 z4q Z)<|hTk 5 Z Z (ldR Z z8d)<|hTk 6 Z Z (faB 1 Z Z Tryz.underlying49 Z (by exact z85))<|hTk 7 Z Z (ld 1 Z Z (fP (z09 _)) z8z Z)<|hTk 8 Z Z (mv Z)<|z35 fun x7 h8=>hTk 9 Z Z (ixR Z Z h8 tu46 z4q Z)<|hTk 10 Z Z (ldR Z z8d)<|z2s 11 [] [] Z (by kernel_rfl) Z (gd0 Z) Z Tryz.func69 Z Z (z9c _ _) (Y2 Z Z) rN Z (fun _ _=>z30) fun r9 n10=>hTk 12 Z Z (I.geq Z Z)<|z3c (by kernel_rfl)<|z0h<|gIf Z Z (fun h11=>?_) (fun h11=>?_)
   ·
    refine gSR<|Zb Z<|z0e<|z2r<|z0k<|z3z<|z3e<|zd6 [] [] Z (eE Z<|eN) (rN)
   ·
    refine z24<|z2w<|z0h<|z2b<|Zm Z<|Zq (I.add Z Z)<|Za Z<|z1x<|z1b (fun aa ww h=>h.sub [1] (sS Z<|sS Z<|sN) (y1 Z))
  ·
   refine z1m<|z0t<|z0u<|z3o (fun aa ww h=>h.sub [1] (sS Z<|sN) (y1 Z))
 ·
  refine gSR<|Zq (faB 1 Z Z Tryz.underlying49 Z (by exact z7w))<|Zq (ld 1 Z Z (fP (z04 _)) zar Z)<|Zq (z33 Z .rd Z tu47)<|z0x fun x12 h13=>Ef Z (mks (R:=z0a) 44 Z Z h13 tu54 ti3 (Zr.num Z) Z) fun v14=>Zb Z<|gSR<|Zq (faB 1 Z Z Tryz.underlying49 Z (by exact z7w))<|Zq (ld 1 Z Z (fP (z04 _)) zar Z)<|Zq (z33 Z .rd Z tu47)<|z0x fun x15 h16=>Ef Z (mksF 45 Z Z h16 tu50 ti54 Z) fun v17=>z13b (base:=100000) (lits:=[(1,some (v1,.box 49 [.rd z00 a0])),(44,some (v14,.list z0a 3 x12)),(45,some (v17,.list zf7 54 (z9a (fun _=>Value.slice none 0 0) x15)))]) z0a 3 [1,44,45] (z10v h16) (Zi Z<|Zi Z<|Zi Z<|rN)<|Zb Z<|gSR<|Zb Z<|z4e (fun (s18:(List Int) × (List (List Int)) × (List Int)) aa ww=>∃ nv:Nat→Value,Sta (ctx 133 H [] w) [(1,.val (z05 v1 0)),(4,.val v14),(5,.val v17),(6,.val (nv 0))] ([(1,some (v1,.box 49 [.rd z00 a0])),(44,some (v14,.list z0a 3 s18.1)),(45,some (v17,.list zf7 54 (z9a (fun j=>nv (j+1)) s18.2.1))),(50,some ((nv 0),.list z0a 3 s18.2.2))]++zmk 100000 z0a 3 (fun j=>nv (j+1)) s18.2.1 0) aa ww) ?_ (fun s18=>?_)
  ·
   refine gSR<|Zq (faB 1 Z Z Tryz.underlying49 Z (by exact z7w))<|Zq (ld 1 Z Z (fP (z04 _)) zar Z)<|Zq (z33 Z .rd Z tu47)<|Zm Z<|Zn<|zug z0a 3 56<|z1o (fun (s19:(List Int) × (List (List Int)) × (List Int) × Int) aa ww=>∃ nv:Nat→Value,Sta (ctx 133 H [] w) [(1,.val (z05 v1 0)),(4,.val v14),(5,.val v17),(6,.val (nv 0)),(45,.rd (z02 z03) a0.Ops),(46,.rd z0a (a0.Ops.length:Int)),(47,.rd z0a s19.2.2.2)] ([(1,some (v1,.box 49 [.rd z00 a0])),(44,some (v14,.list z0a 3 s19.1)),(45,some (v17,.list zf7 54 (z9a (fun j=>nv (j+1)) s19.2.1))),(55,some ((nv 0),.list z0a 3 s19.2.2.1))]++zmk 100000 z0a 3 (fun j=>nv (j+1)) s19.2.1 0) aa ww) (fun aa ww h=>⟨zyv [(.slice none 0 0)] (fun _=>Value.slice none 0 0),h.subF (by repeat (first | refine z60.cons Z ?_ | exact z60.tail)) [1,44,45,56] (Zs Z Z Z Z<|sS Z<|sS Z<|sS Z<|sN) (Zi Z<|Zi Z<|Zi Z<|Zi Z<|rN) rfl⟩) (fun s19=>?_)
   refine gEx fun n20=>gSR<|Zq (I.lss Z Z)<|Zn<|z0j<|gIf Z Z (fun h21=>?_) (fun h21=>?_)
   ·
    refine Zt<|z0j<|z49<|gSR<|Zm Z<|z0x fun x22 h23=>Zq (ixR Z Z h23 tu47 z97 Z)<|Zq (ldR Z zc0)<|Eb Z (z8e 57 z97 (ZrE.rd (R:=z0n) (x:=0) (Zr.num Z) (ZrE.nilS (ZrE.rd (R:=z2z) (x:=0) (Zr.num Z) (ZrE.rd (R:=z19) (x:=(⟨0,[],(⟨0,0,0,[]⟩:z08)⟩:z1i)) zx7 (ZrE.rd (R:=z1j) (x:=(⟨0,0⟩:z0w)) zxk ZrE.nil Z) Z) Z)) Z)) fun v24=>Za Z<|zcl aZ [.rd z0n 0,.rd (z02 aZ) [],.rd z2z 0,.rd z19 (⟨0,[],(⟨0,0,0,[]⟩:z08)⟩:z1i),.rd z1j (⟨0,0⟩:z0w)] 57 [.rd z0n 0] [.rd z2z 0,.rd z19 (⟨0,[],(⟨0,0,0,[]⟩:z08)⟩:z1i),.rd z1j (⟨0,0⟩:z0w)] Z Z Z<|zel (R:=z03) (⟨0,[],0,(⟨0,[],(⟨0,0,0,[]⟩:z08)⟩:z1i),(⟨0,0⟩:z0w)⟩:z06) 57 Z (Sp.via (Sp.prod (Sp.prod (Sp.prod (Sp.prod (Sp.prod Sp.unit))))))<|Es (sto 57 Z Z fH Z z97)<|Zn<|z4e (fun (s25:(List (List Int))) aa ww=>∃ nv:Nat→Value,Sta (ctx 133 H [] w) [(1,.val (z05 v1 0)),(4,.val v14),(5,.val v17),(6,.val (n20 0)),(7,.rd z0a s19.2.2.2),(8,.val (z05 v24 0)),(45,.rd (z02 z03) a0.Ops),(46,.rd z0a (a0.Ops.length:Int)),(47,.rd z0a s19.2.2.2)] ([(1,some (v1,.box 49 [.rd z00 a0])),(44,some (v14,.list z0a 3 s19.1)),(45,some (v17,.list zf7 54 (z9a (fun j=>nv (j+0)) s25))),(55,some ((n20 0),.list z0a 3 s19.2.2.1)),(57,some (v24,.box 86 [.rd z03 x22]))]++zmk 100000 z0a 3 (fun j=>nv (j+0)) s25 0) aa ww) ?_ (fun s25=>?_)
    ·
     refine gSR<|Zq (faB 57 Z Z Tryz.underlying86 Z (by exact z85))<|Zq (ld 57 Z Z (fP (z0v _)) z8z Z)<|Zq (z33 Z .rd Z tu46)<|Zm Z<|Zn<|z1o (fun (s26:(List (List Int)) × Int) aa ww=>∃ nv:Nat→Value,Sta (ctx 133 H [] w) [(1,.val (z05 v1 0)),(4,.val v14),(5,.val v17),(6,.val (n20 0)),(7,.rd z0a s19.2.2.2),(8,.val (z05 v24 0)),(45,.rd (z02 z03) a0.Ops),(46,.rd z0a (a0.Ops.length:Int)),(47,.rd z0a s19.2.2.2),(53,.rd (z02 aZ) x22.Preds),(54,.rd z0a (x22.Preds.length:Int)),(55,.rd z0a s26.2)] ([(1,some (v1,.box 49 [.rd z00 a0])),(44,some (v14,.list z0a 3 s19.1)),(45,some (v17,.list zf7 54 (z9a (fun j=>nv (j+0)) s26.1))),(55,some ((n20 0),.list z0a 3 s19.2.2.1)),(57,some (v24,.box 86 [.rd z03 x22]))]++zmk 100000 z0a 3 (fun j=>nv (j+0)) s26.1 0) aa ww) (fun aa ww h=>⟨zyv [] (fun j=>n20 (j+1)),h.subF (by repeat (first | refine z60.cons Z ?_ | exact z60.tail)) [1,44,45,55,57] (Zs Z Z Z Z<|Zs Z Z Z Z<|Zs Z Z Z Z<|sN) (Zi Z<|Zi Z<|Zi Z<|Zi Z<|Zi Z<|rN) rfl⟩) (fun s26=>?_)
     refine gEx fun n27=>gSR<|Zq (I.lss Z Z)<|Zn<|z0j<|gIf Z Z (fun h28=>?_) (fun h28=>?_)
     ·
      refine Zt<|z0j<|z49<|gSR<|z0x fun x29 h30=>Zq (ixR Z Z h30 tu46 z4q Z)<|Zq (ldR Z z8d)<|Eb Z (z8e 58 z4q (.zr (R:=aZ) (x:=(Vector.replicate 32 0)) zl4)) fun v31=>Es (sto 58 Z Z fH Z z4q)<|Zn<|gSR<|Zq (ld 1 Z Z fH za2 Z)<|Zq (ld 58 Z Z fH z8d Z)<|call [] [] Z Tryz.func76 Z Z (zfz _ _) (Y2 Z Z) rN fun r32 n33=>Zm Z<|Zq (ext Z Z)<|Zq (ext Z Z)<|Za Z<|Zb Z<|z0j<|gSR<|Zm Z<|Zq (zdf Z)<|Zj Z (fun h34=>?_) (fun h34=>?_)
      ·
       refine gSR<|Zb Z<|z0e<|z0k<|z2r<|z0k<|z3z<|z3e<|z2r<|z0k<|z3z<|z3e<|zd6 [] [] Z (eE Z<|eN) (rN)
      ·
       refine Zt<|z2b<|Zm Z<|Zm Z<|Zm Z<|Zm Z<|z0x fun x35 h36=>Zq (ixO 45 Z Z Z (zlv h36) tu50 ti54)<|Zq (ldF 45 Z Z h36 ty54 Z)<|Zm Z<|Ef Z (lit (R:=z0a) ([s19.2.2.2]:List Int) 59 (pP Z Z<|pN) Z tu54 ti3 Z Z) fun v37=>z0x fun x38 h39=>lApF (base:=100000) (lits:=[(1,some (v1,.box 49 [.rd z00 a0])),(44,some (v14,.list z0a 3 s19.1)),(55,some ((n20 0),.list z0a 3 s19.2.2.1)),(57,some (v24,.box 86 [.rd z03 x22])),(58,some (v31,.box 94 [.rd aZ x29])),(59,some (v37,.list z0a 3 [s19.2.2.2]))]) 45 [1,44,55,57,58,59] (by repeat (first | refine z60.cons Z ?_ | exact z60.tail)) Z Z Z h36 Z Z Z Z (.own 59 Z) h39 Z (fun _ h=>by cases h; rfl) (fun _ h=>by cases h; rfl) Z Z tu54 ti3 Z Z Z tu50 ti54 ty54 (Zi Z<|Zi Z<|Zi Z<|Zi Z<|Zi Z<|Zi Z<|rN) Z fun v40=>z1x<|z2w<|z0h<|z2b<|Zq (I.add Z Z)<|Zm Z<|z1x<|z1b (fun aa ww h=>⟨zyv [] (zw0 (fun j=>n27 (j+0)) (r32.1:Int).toNat v40),h.subF (by repeat (first | refine z60.cons Z ?_ | exact z60.tail)) [1,44,45,55,57] (Zs Z Z Z Z<|Zs Z Z Z Z<|Zs Z Z Z Z<|sN) (Zi Z<|Zi Z<|Zi Z<|Zi Z<|Zi Z<|rN) rfl⟩)
     ·
      refine z1m<|z0t<|z0u<|z3o (fun aa ww h=>⟨zyv [] (fun j=>n27 (j+0)),h.subF (by repeat (first | refine z60.cons Z ?_ | exact z60.tail)) [1,44,45,55,57] (Zs Z Z Z Z<|Zs Z Z Z Z<|sS Z<|sN) (Zi Z<|Zi Z<|Zi Z<|Zi Z<|Zi Z<|rN) rfl⟩)
    ·
     refine gEx fun n41=>gSR<|Zm Z<|Zm Z<|Zq (faB 57 Z Z Tryz.underlying86 Z (by exact z85))<|Zq (ld 57 Z Z (fP (z0v _)) z8z Z)<|Zq (z33 Z .rd Z tu46)<|z0x fun x42 h43=>Zq (ixO 44 Z Z Z h43 tu54 ti3)<|Es (sto 44 Z Z (Foc.el h43) Z ti3)<|Zn<|gSR<|Zm Z<|Zm Z<|z0x fun x44 h45=>Zq (ixO 44 Z Z Z h45 tu54 ti3)<|Zq (ld 44 Z Z (Foc.el h45) ty3 Z)<|Zq (I.eql Z Z)<|Zj Z (fun h46=>?_) (fun h46=>?_)
     ·
      refine z2b<|Zm Z<|Zm Z<|Ef Z (lit (R:=z0a) ([s19.2.2.2]:List Int) 60 (pP Z Z<|pN) Z tu54 ti3 Z Z) fun v47=>z0x fun x48 h49=>Ef Z (apn 55 Z Z Z (.own 60 Z) h49 tu54 ti3 Z Z Z) fun v50=>Za Z<|z1x<|z2w<|z0h<|z2b<|Zq (I.add Z Z)<|Zm Z<|z1x<|z1b (fun aa ww h=>⟨zyv [v50] (fun j=>n41 (j+0)),h.subF (by repeat (first | refine z60.cons Z ?_ | exact z60.tail)) [1,44,45,55] (Zs Z Z Z Z<|sS Z<|sS Z<|sS Z<|sN) (Zi Z<|Zi Z<|Zi Z<|Zi Z<|rN) rfl⟩)
     ·
      refine z24<|z2w<|z0h<|z2b<|Zq (I.add Z Z)<|Zm Z<|z1x<|z1b (fun aa ww h=>⟨zyv [(n20 0)] (fun j=>n41 (j+0)),h.subF (by repeat (first | refine z60.cons Z ?_ | exact z60.tail)) [1,44,45,55] (Zs Z Z Z Z<|sS Z<|sS Z<|sS Z<|sN) (Zi Z<|Zi Z<|Zi Z<|Zi Z<|rN) rfl⟩)
   ·
    refine z1m<|z0t<|z0u<|z3o (fun aa ww h=>⟨zyv [(n20 0)] (fun j=>n20 (j+1)),h.subF (by repeat (first | refine z60.cons Z ?_ | exact z60.tail)) [1,44,45,55] (Zs Z Z Z Z<|sN) (Zi Z<|Zi Z<|Zi Z<|Zi Z<|rN) rfl⟩)
  ·
   refine gEx fun n51=>gSR<|Zb Z<|z8g (fun (s52:Int) aa ww=>Sta (ctx 133 H [] w) [(1,.val (z05 v1 0)),(13,.rd z0a s52)] [(1,some (v1,.box 49 [.rd z00 a0]))] aa ww) ?_ (fun s52=>?_)
   ·
    refine z139 (base:=100000) (T:=3) (lits:=[(1,some (v1,.box 49 [.rd z00 a0])),(44,some (v14,.list z0a 3 s18.1)),(50,some ((n51 0),.list z0a 3 s18.2.2))]) (by repeat (first | refine z60.cons Z ?_ | exact z60.tail)) 45 Z [1,44,50] (Zi Z<|Zi Z<|Zi Z<|rN) Z Z<|z1o (fun (s53:(List Int) × (List Int) × Int) aa ww=>∃ nv:Nat→Value,Sta (ctx 133 H [] w) [(1,.val (z05 v1 0)),(4,.val v14),(5,.val v17),(6,.val (nv 0)),(13,.rd z0a s53.2.2)] [(1,some (v1,.box 49 [.rd z00 a0])),(44,some (v14,.list z0a 3 s53.1)),(45,some (v17,.list (z02 z0a) 54 s18.2.1)),(50,some ((nv 0),.list z0a 3 s53.2.1))] aa ww) (fun aa ww h=>⟨nvl [(n51 0)],h.sub [1,44,45,50] (Zs Z Z Z Z<|sS Z<|sN) (Zi Z<|Zi Z<|Zi Z<|Zi Z<|rN)⟩) (fun s53=>?_)
    refine gEx fun n54=>z0j<|gSR<|Zm Z<|Zm Z<|Zq (z33 Z (.own 50 Z) Z tu54)<|Zq (I.lss Z Z)<|Zj Z (fun h55=>?_) (fun h55=>?_)
    ·
     refine Zt<|z8g (fun (s56:(List Int) × (List Int)) aa ww=>∃ nv:Nat→Value,Sta (ctx 133 H [] w) [(1,.val (z05 v1 0)),(4,.val v14),(5,.val v17),(6,.val (nv 0)),(13,.rd z0a s53.2.2)] [(1,some (v1,.box 49 [.rd z00 a0])),(44,some (v14,.list z0a 3 s56.1)),(45,some (v17,.list (z02 z0a) 54 s18.2.1)),(50,some ((nv 0),.list z0a 3 s56.2))] aa ww) ?_ (fun s56=>?_)
     ·
      refine z49<|gSR<|Zm Z<|Zm Z<|Zm Z<|z0x fun x57 h58=>Zq (ixO 50 Z Z Z h58 tu54 ti3)<|Zq (ld 50 Z Z (Foc.el h58) ty3 Z)<|z0x fun x59 h60=>Zq (ixO 45 Z Z Z h60 tu50 ti54)<|Zq (ld 45 Z Z (Foc.el h60) ty54 Z)<|Zq (z33 Z .rd Z tu54)<|Zm Z<|Zn<|z1o (fun (s61:(List Int) × (List Int) × Int) aa ww=>∃ nv:Nat→Value,Sta (ctx 133 H [] w) [(1,.val (z05 v1 0)),(4,.val v14),(5,.val v17),(6,.val (nv 0)),(13,.rd z0a s53.2.2),(106,.rd (z02 z0a) x59),(107,.rd z0a (x59.length:Int)),(108,.rd z0a s61.2.2)] [(1,some (v1,.box 49 [.rd z00 a0])),(44,some (v14,.list z0a 3 s61.1)),(45,some (v17,.list (z02 z0a) 54 s18.2.1)),(50,some ((nv 0),.list z0a 3 s61.2.1))] aa ww) (fun aa ww h=>⟨nvl [(n54 0)],h.sub [1,44,45,50] (Zs Z Z Z Z<|Zs Z Z Z Z<|sN) (Zi Z<|Zi Z<|Zi Z<|Zi Z<|rN)⟩) (fun s61=>?_)
      refine gEx fun n62=>gSR<|Zq (I.lss Z Z)<|Zn<|z0j<|gIf Z Z (fun h63=>?_) (fun h63=>?_)
      ·
       refine Zt<|z0j<|z49<|gSR<|z0x fun x64 h65=>Zq (ixR Z Z h65 tu54 ti3 Z)<|Zq (ldR Z ty3)<|Zb Z<|gSR<|Zm Z<|Zm Z<|z0x fun x66 h67=>Zq (ixO 44 Z Z Z h67 tu54 ti3)<|Zq (ld 44 Z Z (Foc.el h67) ty3 Z)<|Zq (I.sub Z Z)<|z0x fun x68 h69=>Zq (ixO 44 Z Z Z h69 tu54 ti3)<|Es (sto 44 Z Z (Foc.el h69) Z ti3)<|Zn<|gSR<|Zm Z<|Zm Z<|z0x fun x70 h71=>Zq (ixO 44 Z Z Z h71 tu54 ti3)<|Zq (ld 44 Z Z (Foc.el h71) ty3 Z)<|Zq (I.eql Z Z)<|Zj Z (fun h72=>?_) (fun h72=>?_)
       ·
        refine z2b<|Zm Z<|Zm Z<|Ef Z (lit (R:=z0a) ([x64]:List Int) 61 (pP Z Z<|pN) Z tu54 ti3 Z Z) fun v73=>z0x fun x74 h75=>Ef Z (apn 50 Z Z Z (.own 61 Z) h75 tu54 ti3 Z Z Z) fun v76=>Za Z<|z1x<|z2w<|z0h<|z2b<|Zq (I.add Z Z)<|Zm Z<|z1x<|z1b (fun aa ww h=>⟨nvl [v76],h.sub [1,44,45,50] (Zs Z Z Z Z<|Zs Z Z Z Z<|sN) (Zi Z<|Zi Z<|Zi Z<|Zi Z<|rN)⟩)
       ·
        refine z24<|z2w<|z0h<|z2b<|Zq (I.add Z Z)<|Zm Z<|z1x<|z1b (fun aa ww h=>⟨nvl [(n62 0)],h.sub [1,44,45,50] (Zs Z Z Z Z<|Zs Z Z Z Z<|sN) (Zi Z<|Zi Z<|Zi Z<|Zi Z<|rN)⟩)
      ·
       refine z1m<|z0t<|z0u<|z2w<|z4o (fun aa ww h=>⟨nvl [(n62 0)],h.sub [1,44,45,50] (Zs Z Z Z Z<|sS Z<|sN) (Zi Z<|Zi Z<|Zi Z<|Zi Z<|rN)⟩)
     ·
      refine gEx fun n77=>z2b<|Zm Z<|Zq (I.add Z Z)<|Za Z<|z1z 13 Z fun y78=>z1x<|z1b (fun aa ww h=>⟨nvl [(n77 0)],h.sub [1,44,45,50] (Zs Z Z Z Z<|sS Z<|sN) (Zi Z<|Zi Z<|Zi Z<|Zi Z<|rN)⟩)
    ·
     refine z1m<|z0t<|z0u<|z4o (fun aa ww h=>h.sub [1] (sS Z<|sS Z<|sN) (y1 Z))
   ·
    refine z0j<|gSR<|Zm Z<|Zq (faB 1 Z Z Tryz.underlying49 Z (by exact z7w))<|Zq (ld 1 Z Z (fP (z04 _)) zar Z)<|Zq (z33 Z .rd Z tu47)<|Zq (I.lss Z Z)<|Zj Z (fun h79=>?_) (fun h79=>?_)
    ·
     refine gSR<|Zb Z<|z0e<|z0k<|zd6 [] [] Z (eE Z<|eN) (rN)
    ·
     refine Zt<|gSR<|Zb Z<|z0e<|zd6 [] [] Z (eE Z<|eN) (rN)
def zae (a0:z01) (s5:Int):Option (Sum (Sum Int Unit) Int) :=
 if decide (s5<(a0.Ops.length:Int)) then
  idx a0.Ops s5 >>= fun x7 =>
  zwt x7 >>= fun r10 =>
  (if r10.2 != 0 then
   some true
  else
   idx a0.IDs s5 >>= fun x15 =>
   if !decide (r10.1=x15) then
    some true
   else
    zgw x7 >>= fun r18 =>
    some (r18 != 0)) >>= fun s13 =>
  if s13 then
   some (.inl (.inl 8))
  else
   some (.inr (w64 (s5+1)))
 else
  some (.inl (.inr ()))
def z8c (a0:z01):Option (Int) :=
 if decide (60<(a0.Ops.length:Int)) then
  some 4
 else
  if (a0.IDs.length:Int) != (a0.Ops.length:Int) then
   some 8
  else
   z3p (iter (zae a0) 0) fun s4 =>
   zh3 a0 >>= fun r21 =>
   some r21
theorem ze0 (a0:z01):z1u Tryz.prog 55 [.rd z00 a0] [zG1] (z8c a0) (fun r nv=>⟨[.rd z0a r],[(1001,some (.bool true,.glob 1 (z34 64 z0n) z6m))]⟩):=by
 refine z2d 50 Tryz.func55 Z Z Z fun H w=>?_
 refine gSR<|Eb Z (bx 1 Z) fun v1=>Zb Z<|z0j<|gSR<|Zq (faB 1 Z Z Tryz.underlying49 Z (by exact z7w))<|Zq (ld 1 Z Z (fP (z04 _)) zar Z)<|Zq (z33 Z .rd Z tu47)<|Zq (I.gtr Z Z)<|Zj Z (fun h2=>?_) (fun h2=>?_)
 ·
  refine gSR<|Zb Z<|z0e<|z0k<|Ze [] [1001] Z
 ·
  refine Zt<|z0j<|gSR<|Zq (faB 1 Z Z Tryz.underlying49 Z (by exact z85))<|Zq (ld 1 Z Z (fP (z09 _)) z8z Z)<|Zq (z33 Z .rd Z tu46)<|Zq (faB 1 Z Z Tryz.underlying49 Z (by exact z7w))<|Zq (ld 1 Z Z (fP (z04 _)) zar Z)<|Zq (z33 Z .rd Z tu47)<|Zq (I.neq Z Z)<|Zj Z (fun h3=>?_) (fun h3=>?_)
  ·
   refine gSR<|Zb Z<|z0e<|z0k<|Ze [] [1001] Z
  ·
   refine Zt<|z4e (fun (s4:Unit) aa ww=>Sta (ctx 50 H [zG1] w) [(1,.val (z05 v1 0))] [(1,some (v1,.box 49 [.rd z00 a0])),zG1] aa ww) ?_ (fun s4=>?_)
   ·
    refine gSR<|Zq (faB 1 Z Z Tryz.underlying49 Z (by exact z7w))<|Zq (ld 1 Z Z (fP (z04 _)) zar Z)<|Zq (z33 Z .rd Z tu47)<|Zm Z<|Zn<|z1o (fun (s5:Int) aa ww=>Sta (ctx 50 H [zG1] w) [(1,.val (z05 v1 0)),(19,.rd (z02 z03) a0.Ops),(20,.rd z0a (a0.Ops.length:Int)),(21,.rd z0a s5)] [(1,some (v1,.box 49 [.rd z00 a0])),zG1] aa ww) (fun aa ww h=>Zu h [1,1001]) (fun s5=>?_)
    refine gSR<|Zq (I.lss Z Z)<|Zn<|z0j<|gIf Z Z (fun h6=>?_) (fun h6=>?_)
    ·
     refine Zt<|z0j<|z49<|gSR<|Zm Z<|z0x fun x7 h8=>Zq (ixR Z Z h8 tu47 z97 Z)<|Zq (ldR Z zc0)<|Eb Z (z8e 1100 z97 (ZrE.rd (R:=z0n) (x:=0) (Zr.num Z) (ZrE.nilS (ZrE.rd (R:=z2z) (x:=0) (Zr.num Z) (ZrE.rd (R:=z19) (x:=(⟨0,[],(⟨0,0,0,[]⟩:z08)⟩:z1i)) zx7 (ZrE.rd (R:=z1j) (x:=(⟨0,0⟩:z0w)) zxk ZrE.nil Z) Z) Z)) Z)) fun v9=>Za Z<|zcl aZ [.rd z0n 0,.rd (z02 aZ) [],.rd z2z 0,.rd z19 (⟨0,[],(⟨0,0,0,[]⟩:z08)⟩:z1i),.rd z1j (⟨0,0⟩:z0w)] 1100 [.rd z0n 0] [.rd z2z 0,.rd z19 (⟨0,[],(⟨0,0,0,[]⟩:z08)⟩:z1i),.rd z1j (⟨0,0⟩:z0w)] Z Z Z<|zel (R:=z03) (⟨0,[],0,(⟨0,[],(⟨0,0,0,[]⟩:z08)⟩:z1i),(⟨0,0⟩:z0w)⟩:z06) 1100 Z (Sp.via (Sp.prod (Sp.prod (Sp.prod (Sp.prod (Sp.prod Sp.unit))))))<|Es (sto 1100 Z Z fH Z z97)<|Zn<|gSR<|Zq (ld 1100 Z Z fH zc0 Z)<|Zc [1001] [] Tryz.func65 Z (zxo _) fun r10 n11=>Zm Z<|Zq (ext Z Z)<|Zq (ext Z Z)<|Eb Z (z8e 1101 z4q (.zr (R:=aZ) (x:=(Vector.replicate 32 0)) zl4)) fun v12=>Es (sto 1101 Z Z fH Z z4q)<|Zb Z<|z8g (fun (s13:Bool) aa ww=>Sta (ctx 50 H [zG1] w) [(1,.val (z05 v1 0)),(19,.rd (z02 z03) a0.Ops),(20,.rd z0a (a0.Ops.length:Int)),(21,.rd z0a s5),(46,.rd z0m s13)] [(1,some (v1,.box 49 [.rd z00 a0])),zG1] aa ww) ?_ (fun s13=>?_)
     ·
      refine z5a [1001] z2o Z Z<|hTk 0 Z Z (mv Z)<|hTk 1 Z Z (I.neq Z Z)<|hTk 2 Z Z (mv Z)<|hIf 33 Z Z (fun h14=>?_) (fun h14=>?_)
      ·
       refine hKn 32 Z Z h14<|hSk 3 Z Z<|hSk 4 Z Z<|hSk 5 Z Z<|hSk 6 Z Z<|hSk 7 Z Z<|hSk 8 Z Z<|hSk 9 Z Z<|hTk 10 Z Z (pkT Z Z)<|hTk 11 Z Z (mv Z)<|hSk 12 Z Z<|hSk 13 Z Z<|hSk 14 Z Z<|hTk 15 Z Z (pkT Z Z)<|z3c (by kernel_rfl)<|z4o (fun aa ww h=>Zu h [1,1001])
      ·
       refine hKn 32 Z Z h14<|Zg 3 Z Z (ld 1101 Z Z fH z8d Z)<|Zg 4 Z Z (faB 1 Z Z Tryz.underlying49 Z (by exact z85))<|Zg 5 Z Z (ld 1 Z Z (fP (z09 _)) z8z Z)<|Zg 6 Z Z (mv Z)<|z35 fun x15 h16=>Zg 7 Z Z (ixR Z Z h16 tu46 z4q Z)<|Zg 8 Z Z (ldR Z z8d)<|Zg 9 Z Z (neA Z Z zya Z Z zy9)<|hTk 10 Z Z (pkF Z Z)<|hTk 11 Z Z (mv Z)<|hIf 42 Z Z (fun h17=>?_) (fun h17=>?_)
       ·
        refine hKn 40 Z Z h17<|hKn 41 Z Z h17<|hSk 12 Z Z<|hSk 13 Z Z<|hSk 14 Z Z<|hTk 15 Z Z (pkT Z Z)<|z3c (by kernel_rfl)<|z4o (fun aa ww h=>Zu h [1,1001])
       ·
        refine hKn 40 Z Z h17<|hKn 41 Z Z h17<|Zg 12 Z Z (ld 1100 Z Z fH zc0 Z)<|z2s 13 [1001] [] Z (by kernel_rfl) Z Zx Z Tryz.func64 Z Z (zmw _) (Y1 Z) (y1 Z) Z (fun _ _=>z30) fun r18 n19=>Zg 14 Z Z (I.neq Z Z)<|hTk 15 Z Z (pkF Z Z)<|z3c (by kernel_rfl)<|z4o (fun aa ww h=>Zu h [1,1001])
     ·
      refine gIf Z Z (fun h20=>?_) (fun h20=>?_)
      ·
       refine gSR<|Zb Z<|z0e<|z2r<|z0k<|z3z<|z3e<|Ze [] [1001] Z
      ·
       refine z24<|z2w<|z0h<|z2b<|Zq (I.add Z Z)<|Zm Z<|z1x<|z1b (fun aa ww h=>Zu h [1,1001])
    ·
     refine z1m<|z0t<|z0u<|z3o (fun aa ww h=>Zu h [1,1001])
   ·
    refine gSR<|Zq (ld 1 Z Z fH za2 Z)<|Zc [] [] Tryz.func67 Z (znn _) fun r21 n22=>Zb Z<|z0e<|Ze [] [1001] Z
def z6u (a0:List V3) (a1:V3) (s3:Int):Option (Sum (Sum Int Unit) Int) :=
 if decide (s3<(a0.length:Int)) then
  idx a0 s3 >>= fun x5 =>
  if decide (x5=a1) then
   some (.inl (.inl s3))
  else
   some (.inr (w64 (s3+1)))
 else
  some (.inl (.inr ()))
def z40 (a0:List V3) (a1:V3):Option (Int) :=
 z3p (iter (z6u a0 a1) 0) fun s2 =>
 some (-1)
theorem zai (a0:List V3) (a1:V3):z1u Tryz.prog 49 [.rd (z02 aZ) a0,.rd aZ a1] [] (z40 a0 a1) (fun r nv=>⟨[.rd z0a r],[]⟩):=by
 refine z2d 19 Tryz.func49 Z Z Z fun H w=>?_
 refine gSR<|Eb Z (bx 1 Z) fun v1=>Zb Z<|z4e (fun (s2:Unit) aa ww=>Sta (ctx 19 H [] w) [] [] aa ww) ?_ (fun s2=>?_)
 ·
  refine gSR<|Zb Z<|z1o (fun (s3:Int) aa ww=>Sta (ctx 19 H [] w) [(0,.rd (z02 aZ) a0),(3,.val (z05 v1 0)),(5,.rd z0a s3)] [(1,some (v1,.box 94 [.rd aZ a1]))] aa ww) (fun aa ww h=>Zu h [1]) (fun s3=>?_)
  refine z0j<|gSR<|Zm Z<|Zm Z<|Zq (z33 Z .rd Z tu46)<|Zq (I.lss Z Z)<|Zj Z (fun h4=>?_) (fun h4=>?_)
  ·
   refine Zt<|z0j<|z49<|z0j<|zhs z2o (by kernel_rfl)<|Rq Z (mv Z)<|Rq Z (mv Z)<|z7a fun x5 h6=>Rq Z (ixR Z Z h6 tu46 z4q Z)<|Rq Z (ldR Z z8d)<|Rq Z (ld 1 Z Z fH z8d Z)<|Rq Z (eqA Z Z zya Z Z zy9)<|zs4<|z0h<|gIf Z Z (fun h7=>?_) (fun h7=>?_)
   ·
    refine gSR<|Zm Z<|Zb Z<|z0e<|z2r<|z0k<|z3z<|z3e<|Ze [] [] Z
   ·
    refine z24<|z2w<|z0h<|z2b<|Zm Z<|Zq (I.add Z Z)<|Za Z<|z1x<|z1b (fun aa ww h=>Zu h [1])
  ·
   refine z1m<|z0t<|z0u<|z3o (fun aa ww h=>Zu h [])
 ·
  refine gSR<|Zb Z<|z0e<|Ze [] [] Z
def z6b (a0:List V3) (a1:List V3) (s2:Int):Option (Sum (Sum Bool Unit) Int) :=
 if decide (s2<(a1.length:Int)) then
  idx a1 s2 >>= fun x4 =>
  z40 a0 x4 >>= fun r6 =>
  if decide (r6<0) then
   some (.inl (.inl false))
  else
   some (.inr (w64 (s2+1)))
 else
  some (.inl (.inr ()))
def z3d (a0:List V3) (a1:List V3):Option (Bool) :=
 z3p (iter (z6b a0 a1) 0) fun s1 =>
 some true
theorem zhr (a0:List V3) (a1:List V3):z1u Tryz.prog 29 [.rd (z02 aZ) a0,.rd (z02 aZ) a1] [] (z3d a0 a1) (fun r nv=>⟨[.rd z0m r],[]⟩):=by
 refine z2d 19 Tryz.func29 Z Z Z fun H w=>?_
 refine gSR<|Zb Z<|z4e (fun (s1:Unit) aa ww=>Sta (ctx 19 H [] w) [] [] aa ww) ?_ (fun s1=>?_)
 ·
  refine gSR<|Zb Z<|z1o (fun (s2:Int) aa ww=>Sta (ctx 19 H [] w) [(0,.rd (z02 aZ) a0),(1,.rd (z02 aZ) a1),(5,.rd z0a s2)] [] aa ww) (fun aa ww h=>Zu h []) (fun s2=>?_)
  refine z0j<|gSR<|Zm Z<|Zm Z<|Zq (z33 Z .rd Z tu46)<|Zq (I.lss Z Z)<|Zj Z (fun h3=>?_) (fun h3=>?_)
  ·
   refine Zt<|z0j<|z49<|gSR<|Zm Z<|Zm Z<|Zm Z<|z0x fun x4 h5=>Zq (ixR Z Z h5 tu46 z4q Z)<|Zq (ldR Z z8d)<|Zc [] [] Tryz.func49 Z (zai _ _) fun r6 n7=>Zq (I.lss Z Z)<|Zj Z (fun h8=>?_) (fun h8=>?_)
   ·
    refine gSR<|Zb Z<|z0e<|z2r<|z0k<|z3z<|z3e<|Ze [] [] Z
   ·
    refine z24<|z2w<|z0h<|z2b<|Zm Z<|Zq (I.add Z Z)<|Za Z<|z1x<|z1b (fun aa ww h=>Zu h [])
  ·
   refine z1m<|z0t<|z0u<|z3o (fun aa ww h=>Zu h [])
 ·
  refine gSR<|Zb Z<|z0e<|Ze [] [] Z
theorem zfv (a0:List V3) (q0:Value) (l0:List V3) (a1:V3):z1u Tryz.prog 49 [.vw aZ q0 l0 a0,.rd aZ a1] [(1,some (q0,.list aZ 94 l0))] (z40 a0 a1) (fun r nv=>⟨[.rd z0a r],[(1,some (q0,.list aZ 94 l0))]⟩):=by
 refine z2d 19 Tryz.func49 Z Z Z fun H w=>?_
 refine gSR<|Eb Z (bx 2 Z) fun v1=>Zb Z<|z4e (fun (s2:Unit) aa ww=>Sta (ctx 19 H [(1,some (q0,.list aZ 94 l0))] w) [] [(1,some (q0,.list aZ 94 l0))] aa ww) ?_ (fun s2=>?_)
 ·
  refine gSR<|Zb Z<|z1o (fun (s3:Int) aa ww=>Sta (ctx 19 H [(1,some (q0,.list aZ 94 l0))] w) [(0,.vw aZ q0 l0 a0),(3,.val (z05 v1 0)),(5,.rd z0a s3)] [(1,some (q0,.list aZ 94 l0)),(2,some (v1,.box 94 [.rd aZ a1]))] aa ww) (fun aa ww h=>Zu h [1,2]) (fun s3=>?_)
  refine z0j<|gSR<|Zm Z<|Zm Z<|Zq (z33 Z (.vw 1 Z) Z tu46)<|Zq (I.lss Z Z)<|Zj Z (fun h4=>?_) (fun h4=>?_)
  ·
   refine Zt<|z0j<|z49<|z0j<|zhs z2o (by kernel_rfl)<|Rq Z (mv Z)<|Rq Z (mv Z)<|z7a fun x5 h6=>Rq Z (ixQ 1 Z Z Z h6 tu46 z4q)<|Rq Z (ldQ 1 Z Z z8d Z)<|Rq Z (ld 2 Z Z fH z8d Z)<|Rq Z (eqA Z Z zya Z Z zy9)<|zs4<|z0h<|gIf Z Z (fun h7=>?_) (fun h7=>?_)
   ·
    refine gSR<|Zm Z<|Zb Z<|z0e<|z2r<|z0k<|z3z<|z3e<|Ze [] [1] Z
   ·
    refine z24<|z2w<|z0h<|z2b<|Zm Z<|Zq (I.add Z Z)<|Za Z<|z1x<|z1b (fun aa ww h=>Zu h [1,2])
  ·
   refine z1m<|z0t<|z0u<|z3o (fun aa ww h=>Zu h [1])
 ·
  refine gSR<|Zb Z<|z0e<|Ze [] [1] Z
theorem zex (a0:List V3) (q0:Value) (l0:List V3) (a1:List V3):z1u Tryz.prog 29 [.vw aZ q0 l0 a0,.rd (z02 aZ) a1] [(1,some (q0,.list aZ 94 l0))] (z3d a0 a1) (fun r nv=>⟨[.rd z0m r],[(1,some (q0,.list aZ 94 l0))]⟩):=by
 refine z2d 19 Tryz.func29 Z Z Z fun H w=>?_
 refine gSR<|Zb Z<|z4e (fun (s1:Unit) aa ww=>Sta (ctx 19 H [(1,some (q0,.list aZ 94 l0))] w) [] [(1,some (q0,.list aZ 94 l0))] aa ww) ?_ (fun s1=>?_)
 ·
  refine gSR<|Zb Z<|z1o (fun (s2:Int) aa ww=>Sta (ctx 19 H [(1,some (q0,.list aZ 94 l0))] w) [(0,.vw aZ q0 l0 a0),(1,.rd (z02 aZ) a1),(5,.rd z0a s2)] [(1,some (q0,.list aZ 94 l0))] aa ww) (fun aa ww h=>Zu h [1]) (fun s2=>?_)
  refine z0j<|gSR<|Zm Z<|Zm Z<|Zq (z33 Z .rd Z tu46)<|Zq (I.lss Z Z)<|Zj Z (fun h3=>?_) (fun h3=>?_)
  ·
   refine Zt<|z0j<|z49<|gSR<|Zm Z<|Zm Z<|Zm Z<|z0x fun x4 h5=>Zq (ixR Z Z h5 tu46 z4q Z)<|Zq (ldR Z z8d)<|Zc [1] [(1,1)] Tryz.func49 Z (zfv _ _ _ _) fun r6 n7=>Zq (I.lss Z Z)<|Zj Z (fun h8=>?_) (fun h8=>?_)
   ·
    refine gSR<|Zb Z<|z0e<|z2r<|z0k<|z3z<|z3e<|Ze [] [1] Z
   ·
    refine z24<|z2w<|z0h<|z2b<|Zm Z<|Zq (I.add Z Z)<|Za Z<|z1x<|z1b (fun aa ww h=>Zu h [1])
  ·
   refine z1m<|z0t<|z0u<|z3o (fun aa ww h=>Zu h [1])
 ·
  refine gSR<|Zb Z<|z0e<|Ze [] [1] Z
def z39 (a0:z01) (s6:(List Int) × (List V3) × (List Bool) × Bool) (s9:Int):Option (Sum (Sum ((List Int)) ((List Int) × (List V3) × (List Bool) × Bool)) Int) :=
 if decide (s9<(a0.Ops.length:Int)) then
  (idx s6.2.2.1 s9 >>= fun x12 =>
  if !x12 then
   idx a0.Ops s9 >>= fun x15 =>
   z3d s6.2.1 x15.Preds >>= fun r17 =>
   some r17
  else
   some false) >>= fun s11 =>
  if s11 then
   app 8 s6.1 [s9] >>= fun x20 =>
   idx a0.IDs s9 >>= fun x22 =>
   app 32 s6.2.1 [x22] >>= fun x24 =>
   idx s6.2.2.1 s9 >>= fun x26 =>
   some (.inl (.inr (x20,x24,s6.2.2.1.set (s9:Int).toNat true,true)))
  else
   some (.inr (w64 (s9+1)))
 else
  some (.inl (.inr (s6.1,s6.2.1,s6.2.2.1,false)))
def z6o (a0:z01) (s6:(List Int) × (List V3) × (List Bool) × Bool):Option (Sum ((List Int)) ((List Int) × (List V3) × (List Bool) × Bool)) :=
 if s6.2.2.2 then
  iter (z39 a0 s6) 0
 else
  some (.inl s6.1)
def z8v (a0:z01):Option ((List Int)) :=
 mkn 1 false (a0.Ops.length:Int) >>= fun x2 =>
 (iter (z6o a0) ([],[],x2,true)) >>= fun s5 =>
 some s5
set_option maxHeartbeats 4000000 in
theorem zfl (a0:z01):z1u Tryz.prog 104 [.rd z00 a0] [] (z8v a0) (fun r nv=>⟨[.val (nv 0)],[(100,some (nv 0,.list z0a 3 r))]⟩):=by
 refine z2d 51 Tryz.func104 Z Z Z fun H w=>?_
 refine gSR<|Eb Z (bx 1 Z) fun v1=>Zb Z<|gSR<|Zb Z<|gSR<|Zb Z<|gSR<|Zq (faB 1 Z Z Tryz.underlying49 Z (by exact z7w))<|Zq (ld 1 Z Z (fP (z04 _)) zar Z)<|Zq (z33 Z .rd Z tu47)<|z0x fun x2 h3=>Ef Z (mks (R:=z0m) 2 Z Z h3 Tryz.underlying180 ti4 Zr.bool Z) fun v4=>Zb Z<|z8g (fun (s5:(List Int)) aa ww=>∃ nv:Nat→Value,Sta (ctx 51 H [] w) [(3,.val (nv 0))] [(3,some ((nv 0),.list z0a 3 s5))] aa ww) ?_ (fun s5=>?_)
 ·
  refine gSR<|Zb Z<|zug z0a 3 6<|zug aZ 94 7<|z1o (fun (s6:(List Int) × (List V3) × (List Bool) × Bool) aa ww=>∃ nv:Nat→Value,Sta (ctx 51 H [] w) [(1,.val (z05 v1 0)),(3,.val (nv 0)),(4,.val (nv 1)),(5,.val v4),(6,.rd z0m s6.2.2.2)] [(1,some (v1,.box 49 [.rd z00 a0])),(4,some ((nv 0),.list z0a 3 s6.1)),(5,some ((nv 1),.list aZ 94 s6.2.1)),(2,some (v4,.list z0m 4 s6.2.2.1))] aa ww) (fun aa ww h=>⟨nvl [(.slice none 0 0),(.slice none 0 0)],Zu h [1,6,7,2]⟩) (fun s6=>?_)
  refine gEx fun n7=>z0j<|gSR<|Zm Z<|Zj Z (fun h8=>?_) (fun h8=>?_)
  ·
   refine gKn 6 Z h8<|Zt<|z49<|gSR<|Zb Z<|gSR<|Zb Z<|z1o (fun (s9:Int) aa ww=>Sta (ctx 51 H [] w) [(1,.val (z05 v1 0)),(3,.val (n7 0)),(4,.val (n7 1)),(5,.val v4),(6,.rd z0m false),(7,.rd z0a s9)] [(1,some (v1,.box 49 [.rd z00 a0])),(4,some ((n7 0),.list z0a 3 s6.1)),(5,some ((n7 1),.list aZ 94 s6.2.1)),(2,some (v4,.list z0m 4 s6.2.2.1))] aa ww) (fun aa ww h=>Zu h [1,4,5,2]) (fun s9=>?_)
   refine z0j<|gSR<|Zm Z<|Zq (faB 1 Z Z Tryz.underlying49 Z (by exact z7w))<|Zq (ld 1 Z Z (fP (z04 _)) zar Z)<|Zq (z33 Z .rd Z tu47)<|Zq (I.lss Z Z)<|Zj Z (fun h10=>?_) (fun h10=>?_)
   ·
    refine Zt<|z0j<|z49<|z8g (fun (s11:Bool) aa ww=>Sta (ctx 51 H [] w) [(1,.val (z05 v1 0)),(3,.val (n7 0)),(4,.val (n7 1)),(5,.val v4),(6,.rd z0m false),(7,.rd z0a s9),(34,.rd z0m s11)] [(1,some (v1,.box 49 [.rd z00 a0])),(4,some ((n7 0),.list z0a 3 s6.1)),(5,some ((n7 1),.list aZ 94 s6.2.1)),(2,some (v4,.list z0m 4 s6.2.2.1))] aa ww) ?_ (fun s11=>?_)
    ·
     refine z2b<|Zm Z<|Zm Z<|z0x fun x12 h13=>Zq (ixO 2 Z Z Z h13 Tryz.underlying180 ti4)<|Zq (ld 2 Z Z (Foc.el h13) ty4 Z)<|Zq (zdf Z)<|Zm Z<|z17 25 Z (fun h14=>?_) (fun h14=>?_)
     ·
      refine lKn 24 Z h14<|z0y Zx Z Z (mv Z)<|z0y Zx Z Z (faB 1 Z Z Tryz.underlying49 Z (by exact z7w))<|z0y Zx Z Z (ld 1 Z Z (fP (z04 _)) zar Z)<|z0y Zx Z Z (mv Z)<|z0x fun x15 h16=>z0y Zx Z Z (ixR Z Z h16 tu47 z97 Z)<|z0y Zx Z Z (faR Z (z0v _) Tryz.underlying86 Z Z (by exact z85))<|z0y Zx Z Z (ldR Z z8z)<|zdo [5] [(1,5)] Zx Z Tryz.func29 Z Z (zex _ _ _ _) (aW Z<|aQ Z<|aN) (y1 Z) fun r17 n18=>Zq (pkT Z Z)<|z1x<|z4o (fun aa ww h=>Zu h [1,4,5,2])
     ·
      refine lKn 24 Z h14<|Zk Z<|Zk Z<|Zk Z<|Zk Z<|Zk Z<|Zk Z<|Zk Z<|Zk Z<|Zq (pkF Z Z)<|z1x<|z4o (fun aa ww h=>Zu h [1,4,5,2])
    ·
     refine gIf Z Z (fun h19=>?_) (fun h19=>?_)
     ·
      refine z0j<|zqz [(3,.val (n7 0)),(4,.val (n7 1)),(1,.val (z05 v1 0)),(5,.val v4),(7,.rd z0a s9)] [(1,some (v1,.box 49 [.rd z00 a0])),(4,some ((n7 0),.list z0a 3 s6.1)),(5,some ((n7 1),.list aZ 94 s6.2.1)),(2,some (v4,.list z0m 4 s6.2.2.1))] [1,4,5,2] (Zs Z Z Z Z<|sS Z<|sN) (Zi Z<|Zi Z<|Zi Z<|Zi Z<|rN)<|z4t fun x20 h21=>z4t fun x22 h23=>z4t fun x24 h25=>z4t fun x26 h27=>gOr [(3,.val (n7 0),14),(4,.val (n7 1),15)] [⟨8,none,[(4,some ([1], fun nv=>((nv 1),.list z0a 3 [s9])))]⟩,⟨4,some ([], fun nv=>((n7 0),.list z0a 3 s6.1)),[(5,some ([2], fun nv=>((nv 2),.list z0a 3 x20)))]⟩,⟨1,some ([], fun nv=>(v1,.box 49 [.rd z00 a0])),[]⟩,⟨9,none,[(12,none)]⟩,⟨5,some ([], fun nv=>((n7 1),.list aZ 94 s6.2.1)),[(13,some ([4], fun nv=>((nv 4),.list aZ 94 x24)))]⟩,⟨2,some ([], fun nv=>(v4,.list z0m 4 s6.2.2.1)),[(17,some ([], fun nv=>(v4,.list z0m 4 (s6.2.2.1.set (s9:Int).toNat true))))]⟩] [pd 35 (.val v4),pd 36 (.rd z0a s9),⟨some (37,[], fun nv=>.val (n7 0)),[],[],[0]⟩,pd 38 (.rd z0a s9),⟨some (39,[1], fun nv=>.val (nv 1)),[(0,0,true)],[1],[]⟩,⟨some (40,[2], fun nv=>.val (nv 2)),[(1,0,true),(0,1,false)],[2],[]⟩,⟨some (41,[], fun nv=>.val (n7 1)),[],[],[1]⟩,pk 42 (.val (z05 v1 (0+0))) [(2,0,false)],pk 43 (.rd (z02 aZ) a0.IDs) [(2,0,false)],pd 44 (.rd z0a s9),pd 45 (.rp aZ x22),pd 46 (.rd aZ x22),⟨some (47,[], fun nv=>.rd (z02 aZ) [x22]),[(3,0,true)],[3],[]⟩,⟨some (48,[4], fun nv=>.val (nv 4)),[(4,0,true)],[4],[]⟩,⟨some (3,[2], fun nv=>.val (nv 2)),[],[],[]⟩,⟨some (4,[4], fun nv=>.val (nv 4)),[],[],[]⟩,pk 49 (.val (z05 v4 ((s9:Int).toNat * 1))) [(5,0,false)],⟨none,[(5,0,true)],[],[]⟩,pd 6 (.rd z0m true)] z2o (oC (oRn (fun nv E=>mv Z))<|oC (oRn (fun nv E=>mv Z))<|oC (oRn (fun nv E=>mv Z))<|oC (oRn (fun nv E=>mv Z))<|oC (oEf 8 1 (fun nv E=>lit (R:=z0a) ([s9]:List Int) 8 (pP Z Z<|pN) Z tu54 ti3 Z Z))<|oC (oEf 4 2 (fun nv E=>apn 4 Z Z Z (.own 8 Z) h21 tu54 ti3 Z Z Z))<|oC (oRn (fun nv E=>mv Z))<|oC (oRn (fun nv E=>faB 1 Z Z Tryz.underlying49 Z (by exact z85)))<|oC (oRn (fun nv E=>ld 1 Z Z (fP (z09 _)) z8z Z))<|oC (oRn (fun nv E=>mv Z))<|oC (oRn (fun nv E=>ixR Z Z h23 tu46 z4q Z))<|oC (oRn (fun nv E=>ldR Z z8d))<|oC (oFz (A1:=fun nv=>[(9,some ((nv 3),.list aZ 94 [x22]))]) 9 3 (oEf 9 3 (fun nv E=>lit (R:=aZ) ([x22]:List V3) 9 (pP Z Z<|pN) Z tu46 z4q Z Z)))<|oC (oEf 5 4 (fun nv E=>apn 5 Z Z Z .rd h25 tu46 z4q Z Z Z))<|oC (oRn (fun nv E=>asg Z))<|oC (oRn (fun nv E=>asg Z))<|oC (oRn (fun nv E=>ixO 2 Z Z Z h27 Tryz.underlying180 ti4))<|oC (oEs 2 (fun nv E=>sto 2 Z Z (Foc.el h27) Z ti4))<|oC (oRn (fun nv E=>asg Z))<|oN) fun n28=>z0h<|z1m<|z10x Z<|z0t<|z0u<|z2w<|z1b (fun aa ww h=>⟨nvl [(n28 2),(n28 4)],Zu h [1,4,5,2]⟩)
     ·
      refine z24<|z2w<|z0h<|z2b<|Zm Z<|Zq (I.add Z Z)<|Za Z<|z1x<|z1b (fun aa ww h=>Zu h [1,4,5,2])
   ·
    refine z1m<|z0t<|z0u<|z2w<|z1b (fun aa ww h=>⟨nvl [(n7 0),(n7 1)],Zu h [1,4,5,2]⟩)
  ·
   refine gKn 6 Z h8<|z1m<|z0t<|z0u<|z4o (fun aa ww h=>⟨nvl [(n7 0)],Zu h [4]⟩)
 ·
  refine gEx fun n29=>gSR<|Zm Z<|Zb Z<|z0e<|Ze [(n29 0)] [3] Z
def z54 (a0:z01) (s6:Int):Option (Sum (Sum Int Unit) Int) :=
 if decide (s6<(a0.Ops.length:Int)) then
  idx a0.Ops s6 >>= fun x8 =>
  z3d a0.IDs x8.Preds >>= fun r10 =>
  if !r10 then
   some (.inl (.inl 40))
  else
   some (.inr (w64 (s6+1)))
 else
  some (.inl (.inr ()))
def z8s (a0:z01):Option (Int) :=
 z6c a0.IDs >>= fun r2 =>
 if !r2 then
  some 32
 else
  z3p (iter (z54 a0) 0) fun s5 =>
  z8v a0 >>= fun r13 =>
  if decide ((r13.length:Int)<(a0.Ops.length:Int)) then
   some 36
  else
   some 0
theorem zfy (a0:z01):z1u Tryz.prog 72 [.rd z00 a0] [] (z8s a0) (fun r nv=>⟨[.rd z0a r],[]⟩):=by
 refine z2d 32 Tryz.func72 Z Z Z fun H w=>?_
 refine gSR<|Eb Z (bx 1 Z) fun v1=>Zb Z<|z0j<|gSR<|Zq (faB 1 Z Z Tryz.underlying49 Z (by exact z85))<|Zq (ld 1 Z Z (fP (z09 _)) z8z Z)<|Zc [] [] Tryz.func103 Z (zap _) fun r2 n3=>Zq (zdf Z)<|Zj Z (fun h4=>?_) (fun h4=>?_)
 ·
  refine gSR<|Zb Z<|z0e<|z0k<|Ze [] [] Z
 ·
  refine Zt<|z4e (fun (s5:Unit) aa ww=>Sta (ctx 32 H [] w) [(1,.val (z05 v1 0))] [(1,some (v1,.box 49 [.rd z00 a0]))] aa ww) ?_ (fun s5=>?_)
  ·
   refine gSR<|Zb Z<|z1o (fun (s6:Int) aa ww=>Sta (ctx 32 H [] w) [(1,.val (z05 v1 0)),(3,.rd z0a s6)] [(1,some (v1,.box 49 [.rd z00 a0]))] aa ww) (fun aa ww h=>Zu h [1]) (fun s6=>?_)
   refine z0j<|gSR<|Zm Z<|Zq (faB 1 Z Z Tryz.underlying49 Z (by exact z7w))<|Zq (ld 1 Z Z (fP (z04 _)) zar Z)<|Zq (z33 Z .rd Z tu47)<|Zq (I.lss Z Z)<|Zj Z (fun h7=>?_) (fun h7=>?_)
   ·
    refine Zt<|z0j<|z49<|z0j<|z5a [] z2o Z Z<|hTk 0 Z Z (faB 1 Z Z Tryz.underlying49 Z (by exact z85))<|hTk 1 Z Z (ld 1 Z Z (fP (z09 _)) z8z Z)<|hTk 2 Z Z (faB 1 Z Z Tryz.underlying49 Z (by exact z7w))<|hTk 3 Z Z (ld 1 Z Z (fP (z04 _)) zar Z)<|hTk 4 Z Z (mv Z)<|z35 fun x8 h9=>hTk 5 Z Z (ixR Z Z h9 tu47 z97 Z)<|hTk 6 Z Z (faR Z (z0v _) Tryz.underlying86 Z Z (by exact z85))<|hTk 7 Z Z (ldR Z z8z)<|z2s 8 [] [] Z (by kernel_rfl) Z (gd0 Z) Z Tryz.func29 Z Z (zhr _ _) (Y2 Z Z) rN Z (fun _ _=>z5j) fun r10 n11=>hTk 9 Z Z (zdf Z)<|z3c (by kernel_rfl)<|z0h<|gIf Z Z (fun h12=>?_) (fun h12=>?_)
    ·
     refine gSR<|Zb Z<|z0e<|z2r<|z0k<|z3z<|z3e<|Ze [] [] Z
    ·
     refine z24<|z2w<|z0h<|z2b<|Zm Z<|Zq (I.add Z Z)<|Za Z<|z1x<|z1b (fun aa ww h=>Zu h [1])
   ·
    refine z1m<|z0t<|z0u<|z3o (fun aa ww h=>Zu h [1])
  ·
   refine z0j<|z0j<|z5a [38] z2o Z Z<|hTk 0 Z Z (ld 1 Z Z fH za2 Z)<|hTk 3 Z Z (faB 1 Z Z Tryz.underlying49 Z (by exact z7w))<|hTk 4 Z Z (ld 1 Z Z (fP (z04 _)) zar Z)<|hTk 5 Z Z (z33 Z .rd Z tu47)<|z2s 1 [] [(100,38)] Z (by kernel_rfl) Z (gd0 Z) Z Tryz.func104 Z Z (zfl _) (Y1 Z) rN Z (fun _ _=>z2p) fun r13 n14=>Zf 2 Z Z z30 (z33 Z (.own 38 Z) Z tu54)<|hTk 6 Z Z (I.lss Z Z)<|z3c (by kernel_rfl)<|z0h<|gIf Z Z (fun h15=>?_) (fun h15=>?_)
   ·
    refine gSR<|Zb Z<|z0e<|z0k<|Ze [] [] Z
   ·
    refine Zt<|gSR<|Zb Z<|z0e<|Ze [] [] Z
def z51 (a0:z01) (s5:Int):Option (Sum (Sum Int Unit) Int) :=
 if decide (s5<(a0.Ops.length:Int)) then
  idx a0.Ops s5 >>= fun x7 =>
  z7r x7 >>= fun r9 =>
  if r9 != 0 then
   some (.inl (.inl 8))
  else
   idx a0.Ops s5 >>= fun x12 =>
   idx a0.IDs s5 >>= fun x14 =>
   zas x12 >>= fun r16 =>
   if !decide (r16=x14) then
    some (.inl (.inl 8))
   else
    some (.inr (w64 (s5+1)))
 else
  some (.inl (.inr ()))
def z6x (a0:z01):Option (Int) :=
 if decide (60<(a0.Ops.length:Int)) then
  some 4
 else
  if (a0.IDs.length:Int) != (a0.Ops.length:Int) then
   some 8
  else
   z3p (iter (z51 a0) 0) fun s4 =>
   z8s a0 >>= fun r19 =>
   some r19
theorem zfh (a0:z01):z1u Tryz.prog 52 [.rd z00 a0] [] (z6x a0) (fun r nv=>⟨[.rd z0a r],[]⟩):=by
 refine z2d 45 Tryz.func52 Z Z Z fun H w=>?_
 refine gSR<|Eb Z (bx 1 Z) fun v1=>Zb Z<|z0j<|gSR<|Zq (faB 1 Z Z Tryz.underlying49 Z (by exact z7w))<|Zq (ld 1 Z Z (fP (z04 _)) zar Z)<|Zq (z33 Z .rd Z tu47)<|Zq (I.gtr Z Z)<|Zj Z (fun h2=>?_) (fun h2=>?_)
 ·
  refine gSR<|Zb Z<|z0e<|z0k<|Ze [] [] Z
 ·
  refine Zt<|z0j<|gSR<|Zq (faB 1 Z Z Tryz.underlying49 Z (by exact z85))<|Zq (ld 1 Z Z (fP (z09 _)) z8z Z)<|Zq (z33 Z .rd Z tu46)<|Zq (faB 1 Z Z Tryz.underlying49 Z (by exact z7w))<|Zq (ld 1 Z Z (fP (z04 _)) zar Z)<|Zq (z33 Z .rd Z tu47)<|Zq (I.neq Z Z)<|Zj Z (fun h3=>?_) (fun h3=>?_)
  ·
   refine gSR<|Zb Z<|z0e<|z0k<|Ze [] [] Z
  ·
   refine Zt<|z4e (fun (s4:Unit) aa ww=>Sta (ctx 45 H [] w) [(1,.val (z05 v1 0))] [(1,some (v1,.box 49 [.rd z00 a0]))] aa ww) ?_ (fun s4=>?_)
   ·
    refine gSR<|Zb Z<|z1o (fun (s5:Int) aa ww=>Sta (ctx 45 H [] w) [(1,.val (z05 v1 0)),(3,.rd z0a s5)] [(1,some (v1,.box 49 [.rd z00 a0]))] aa ww) (fun aa ww h=>Zu h [1]) (fun s5=>?_)
    refine z0j<|gSR<|Zm Z<|Zq (faB 1 Z Z Tryz.underlying49 Z (by exact z7w))<|Zq (ld 1 Z Z (fP (z04 _)) zar Z)<|Zq (z33 Z .rd Z tu47)<|Zq (I.lss Z Z)<|Zj Z (fun h6=>?_) (fun h6=>?_)
    ·
     refine Zt<|z0j<|z49<|z0j<|z5a [] z2o Z Z<|hTk 0 Z Z (faB 1 Z Z Tryz.underlying49 Z (by exact z7w))<|hTk 1 Z Z (ld 1 Z Z (fP (z04 _)) zar Z)<|hTk 2 Z Z (mv Z)<|z35 fun x7 h8=>hTk 3 Z Z (ixR Z Z h8 tu47 z97 Z)<|hTk 4 Z Z (ldR Z zc0)<|z2s 5 [] [] Z (by kernel_rfl) Z (gd0 Z) Z Tryz.func70 Z Z (zf1 _) (Y1 Z) rN Z (fun _ _=>z30) fun r9 n10=>hTk 6 Z Z (I.neq Z Z)<|hTk 7 Z Z (mv Z)<|hIf 29 Z Z (fun h11=>?_) (fun h11=>?_)
     ·
      refine hKn 28 Z Z h11<|hSk 8 Z Z<|hSk 9 Z Z<|hSk 10 Z Z<|hSk 11 Z Z<|hSk 12 Z Z<|hSk 13 Z Z<|hSk 14 Z Z<|hSk 15 Z Z<|hSk 16 Z Z<|hSk 17 Z Z<|hSk 18 Z Z<|hSk 19 Z Z<|hTk 20 Z Z (pkT Z Z)<|z3c (by kernel_rfl)<|z0h<|zce Z<|gSR<|Zb Z<|z0e<|z2r<|z0k<|z3z<|z3e<|Ze [] [] Z
     ·
      refine hKn 28 Z Z h11<|Zg 8 Z Z (faB 1 Z Z Tryz.underlying49 Z (by exact z7w))<|Zg 9 Z Z (ld 1 Z Z (fP (z04 _)) zar Z)<|Zg 10 Z Z (mv Z)<|z35 fun x12 h13=>Zg 11 Z Z (ixR Z Z h13 tu47 z97 Z)<|Zg 12 Z Z (ldR Z zc0)<|Zg 14 Z Z (faB 1 Z Z Tryz.underlying49 Z (by exact z85))<|Zg 15 Z Z (ld 1 Z Z (fP (z09 _)) z8z Z)<|Zg 16 Z Z (mv Z)<|z35 fun x14 h15=>Zg 17 Z Z (ixR Z Z h15 tu46 z4q Z)<|Zg 18 Z Z (ldR Z z8d)<|zlj 13 [] [] Z (by kernel_rfl) Z Zx Z Tryz.func71 Z Z (zim _) (Y1 Z) rN Z fun r16 n17=>zue 19 Z (by kernel_rfl) (by kernel_rfl) (by kernel_rfl) Zx Z Z z5j (neA Z Z zya Z Z zy9)<|hTk 20 Z Z (pkF Z Z)<|z3c (by kernel_rfl)<|z0h<|gIf Z Z (fun h18=>?_) (fun h18=>?_)
      ·
       refine gKn 41 Z h18<|gSR<|Zb Z<|z0e<|z2r<|z0k<|z3z<|z3e<|Ze [] [] Z
      ·
       refine gKn 41 Z h18<|z24<|z2w<|z0h<|z2b<|Zm Z<|Zq (I.add Z Z)<|Za Z<|z1x<|z1b (fun aa ww h=>Zu h [1])
    ·
     refine z1m<|z0t<|z0u<|z3o (fun aa ww h=>Zu h [1])
   ·
    refine gSR<|Zq (ld 1 Z Z fH za2 Z)<|Zc [] [] Tryz.func72 Z (zfy _) fun r19 n20=>Zb Z<|z0e<|Ze [] [] Z
end
section
open Go
section
variable {σ β α ρ τ:Type}
theorem bs (x:α) (f:α→Option β):(some x >>= f)=f x:=rfl
theorem bS (x:α) (f:α→Option β):(some x >>= f)=f x:=Eq.trans (rfl:(some x >>= f)=f x) rfl
theorem or_l (r:ρ) (k:τ→Option ρ):z3p (some (.inl r)) k=some r:=rfl
theorem zr8 (t:τ) (k:τ→Option ρ):z3p (some (.inr t)) k=k t:=rfl
theorem z0s {F:σ→Option (Sum β σ)} {s:σ} {b:β} (h:F s=some (.inl b)):iter F s=some b:=by rw [iter,h]; rfl
theorem z16 {F:σ→Option (Sum β σ)} {s s':σ} (h:F s=some (.inr s')):iter F s=iter F s':=by rw [iter,h]; rfl
theorem zef {F:σ→Option (Sum β σ)} (I:σ→Prop) (μ:σ→Nat) (Q:β→Prop) (h:∀ s,I s→(∃ b,F s=some (.inl b)∧Q b)∨∃ s',F s=some (.inr s')∧I s'∧μ s'<μ s) (s:σ) (hs:I s):∃ b,iter F s=some b∧Q b:=by
 have key:∀ n s,μ s=n→I s→∃ b,iter F s=some b∧Q b:=by
  intro n
  induction n using Nat.strongRecOn with
  | _ n ih =>
   intro s hn hs
   rcases h s hs with ⟨b,h1,h2⟩ | ⟨s',h1,h2,h3⟩
   ·
    exact ⟨b,z0s h1,h2⟩
   ·
    rw [z16 h1]; exact ih (μ s') (hn ▸ h3) s' rfl h2
 exact key _ s rfl hs
theorem zd1 {F:σ→Option (Sum β σ)} (n:Nat) (I:Nat→σ→Prop) (Q:β→Prop) (h1:∀ i s,i<n→I i s→∃ s',F s=some (.inr s')∧I (i+1) s') (h2:∀ s,I n s→∃ b,F s=some (.inl b)∧Q b) (s:σ) (i:Nat) (hi:i≤n) (hs:I i s):∃ b,iter F s=some b∧Q b:=by
 have key:∀ k i s,n - i=k→i≤n→I i s→∃ b,iter F s=some b∧Q b:=by
  intro k
  induction k with
  | zero =>
   intro i s hk hi hs
   have:i=n:=by omega
   subst this
   obtain ⟨b,h3,h4⟩:=h2 s hs
   exact ⟨b,z0s h3,h4⟩
  | succ k ih =>
   intro i s hk hi hs
   obtain ⟨s',h3,h4⟩:=h1 i s (by omega) hs
   rw [z16 h3]; exact ih (i+1) s' (by omega) (by omega) h4
 exact key _ i s rfl hi hs
theorem z2c {F:σ→Option (Sum β σ)} (n:Nat) (g:Nat→σ) {b:β} (h1:∀ i,i<n→F (g i)=some (.inr (g (i+1)))) (h2:F (g n)=some (.inl b)):iter F (g 0)=some b:=by
 obtain ⟨b',h3,rfl⟩:=zd1 n (fun i s=>s=g i) (fun x=>x=b) (fun i s hi hs=>⟨_, by rw [hs]; exact h1 i hi,rfl⟩) (fun s hs=>⟨_, by rw [hs]; exact h2,rfl⟩) (g 0) 0 (Nat.zero_le _) rfl
 exact h3
theorem z0c {l:List α} {i:Nat} (h:i<l.length):idx l (i:Int)=some l[i]:=by simp [idx,h]
theorem zdq {l:List α} {i:Int} (h0:0≤i) (h:i.toNat<l.length):idx l i=some l[i.toNat]:=by simp [idx,h0,h]
theorem z8p {n:Nat} {v:Vector α n} {i:Nat} (h:i<n):z6g v (i:Int)=some v[i]:=by unfold z6g; rw [z0c (by simpa using h)]; simp
theorem zgv {n:Nat} {v:Vector α n} {i:Int} {x:α} {j:Nat} (hj:j<n):(zg7 v i x)[j]=if i.toNat=j then x else v[j]:=by
 unfold zg7; rw [Vector.getElem_setIfInBounds hj]
theorem z4a {p:Prop} [Decidable p] (h:p):chk p=some ():=by simp [chk,h]
theorem z1l {by_:Nat} {b c:List α} (h:(b.length+c.length) * by_≤140737488355328):app by_ b c=some (b++c):=by simp [app,h]
theorem zlc {by_:Nat} {x:α} {n:Nat} (h:by_ * n≤281474976710656) (h2:n≤9223372036854775807):mkn by_ x (n:Int)=some (List.replicate n x):=by
 unfold mkn; rw [if_pos ⟨by omega, by simpa using h, by omega⟩]; simp
theorem zf8 {b:List α} {i j:Nat} (h:i≤j) (hj:j≤b.length):cut b (i:Int) (j:Int)=some ((b.drop i).take (j - i)):=by
 unfold cut; rw [if_pos ⟨by omega, by omega, by omega⟩]; simp
end
theorem z0z {x:Int} (h1:-9223372036854775808≤x) (h2:x≤9223372036854775807):w64 x=x:=zdp h1 h2
theorem z0i {n:Nat} (h:n<9223372036854775807):w64 ((n:Int)+1)=((n+1:Nat):Int):=by rw [z0z (by omega) (by omega)]; omega
theorem zb3 (a:UInt64) (n:Nat):(z6e a n).toNat=a.toNat / 2 ^ (min n 64):=by
 unfold z6e
 have h1:=UInt64.toNat_lt a
 have h2:a.toNat / 2 ^ (min n 64)≤a.toNat:=Nat.div_le_self _ _
 simp; omega
theorem zjj (a:UInt64) (n:Nat):(zm2 a n).toNat=a.toNat * 2 ^ (min n 64) % 18446744073709551616:=by
 unfold zm2; simp
theorem z12z (a:UInt64) (k:Nat) (hk:k<64):((z6e a k &&& 1)==1)=a.toNat.testBit k:=by
 rw [Bool.eq_iff_iff,beq_iff_eq,← UInt64.toNat_inj,UInt64.toNat_and,zb3,Nat.min_eq_left (by omega)]
 have:(1:UInt64).toNat=1:=rfl
 rw [this,Nat.and_one_is_mod,Nat.testBit_eq_decide_div_mod_eq]
 simp
end
section
open Go
def z5z (n:Nat):Nat:=if n=0 then 0 else n.log2+1
theorem zbz (n k:Nat) (h:2 ^ k≤n):z5z n=k+z5z (n / 2 ^ k):=by
 have hp:0<2 ^ k:=Nat.pow_pos (by decide)
 have h1:n / 2 ^ k≠0:=by
  have:1≤n / 2 ^ k:=(Nat.le_div_iff_mul_le hp).2 (by rw [Nat.one_mul]; exact h)
  omega
 have h2:n≠0:=by omega
 unfold z5z
 rw [if_neg h1,if_neg h2]
 have h3:n.log2=k+(n / 2 ^ k).log2:=by
  rw [Nat.log2_eq_iff h2]
  have h4:=(Nat.log2_eq_iff h1).1 rfl
  refine ⟨?_,?_⟩
  ·
   rw [Nat.pow_add,Nat.mul_comm]; exact (Nat.le_div_iff_mul_le hp).1 h4.1
  ·
   rw [Nat.add_assoc,Nat.pow_add,Nat.mul_comm]; exact (Nat.div_lt_iff_lt_mul hp).1 h4.2
 omega
theorem zgj (n k:Nat) (h:n<2 ^ k):z5z n≤k:=by
 unfold z5z; split
 ·
  omega
 ·
  rename_i h0; have:=(Nat.log2_lt h0).2 h; omega
def zva:ByteArray:=⟨#[0,1,2,2,3,3,3,3,4,4,4,4,4,4,4,4,5,5,5,5,5,5,5,5,5,5,5,5,5,5,5,5,6,6,6,6,6,6,6,6,6,6,6,6,6,6,6,6,6,6,6,6,6,6,6,6,6,6,6,6,6,6,6,6,7,7,7,7,7,7,7,7,7,7,7,7,7,7,7,7,7,7,7,7,7,7,7,7,7,7,7,7,7,7,7,7,7,7,7,7,7,7,7,7,7,7,7,7,7,7,7,7,7,7,7,7,7,7,7,7,7,7,7,7,7,7,7,7,8,8,8,8,8,8,8,8,8,8,8,8,8,8,8,8,8,8,8,8,8,8,8,8,8,8,8,8,8,8,8,8,8,8,8,8,8,8,8,8,8,8,8,8,8,8,8,8,8,8,8,8,8,8,8,8,8,8,8,8,8,8,8,8,8,8,8,8,8,8,8,8,8,8,8,8,8,8,8,8,8,8,8,8,8,8,8,8,8,8,8,8,8,8,8,8,8,8,8,8,8,8,8,8,8,8,8,8,8,8,8,8,8,8,8,8,8,8,8,8,8,8,8,8,8,8,8,8]⟩
set_option maxRecDepth 100000 in
theorem zww:∀ x:Fin 256,zva.data[x.val]? = some (UInt8.ofNat (z5z x.val)):=by decide +kernel
def z2q (n:Nat):List UInt8:=if h:n=0 then [] else UInt8.ofNat n::z2q (n / 256)
termination_by n
theorem zfu:z2q 0=[]:=by rw [z2q]; simp
theorem zhg (n:Nat) (h:n≠0):z2q n=UInt8.ofNat n::z2q (n / 256):=by rw [z2q]; simp [h]
def z2n (n:Nat):List UInt8:=if n≤247 then [UInt8.ofNat n] else UInt8.ofNat (247+(z2q n).length)::(z2q n).reverse
theorem zli (n:Nat):(z2q n).length=(z5z n+7) / 8:=by
 induction n using Nat.strongRecOn with
 | _ n ih =>
  by_cases h:n=0
  ·
   subst h; rw [zfu]; simp [z5z]
  ·
   rw [zhg n h,List.length_cons,ih (n / 256) (by omega)]
   by_cases h2:n<256
   ·
    have:n / 256=0:=by omega
    rw [this]
    have h3:z5z n≤8:=zgj n 8 h2
    have h4:1≤z5z n:=by unfold z5z; rw [if_neg h]; omega
    simp [z5z] at h3 h4 ⊢
    rw [if_neg h] at h3 h4 ⊢; omega
   ·
    have:=zbz n 8 (by omega)
    rw [show (2:Nat) ^ 8=256 from rfl] at this
    omega
theorem zs7 (n:Nat):∀ (i:Nat),i<(z2q n).length→(z2q n)[i]? = some (UInt8.ofNat (n / 256 ^ i)):=by
 induction n using Nat.strongRecOn with
 | _ n ih =>
  intro i hi
  by_cases h:n=0
  ·
   subst h; rw [zfu] at hi; simp at hi
  ·
   rw [zhg n h] at hi ⊢
   cases i with
   | zero=>simp
   | succ i =>
    simp only [List.length_cons] at hi
    rw [List.getElem?_cons_succ,ih (n / 256) (by omega) i (by omega),Nat.div_div_eq_div_mul]
    congr 3
    rw [Nat.pow_succ,Nat.mul_comm]
theorem zj4 (n:Nat) (h:n<18446744073709551616):(z2q n).length≤8:=by
 rw [zli]; have:=zgj n 64 (by simpa using h); omega
theorem z13 (n:Nat) (h:n<18446744073709551616):1≤(z2n n).length∧(z2n n).length≤9:=by
 unfold z2n; have:=zj4 n h; split <;> simp <;> omega
def zaj (n i:Nat):List UInt8:=UInt8.ofNat (247+(z2q n).length)::(List.replicate ((z2q n).length - i) 0++((z2q n).take i).reverse)
theorem zpd (n i:Nat) (h:i≤(z2q n).length):(zaj n i).length=(z2q n).length+1:=by simp [zaj]; omega
theorem znt (n:Nat):(List.replicate ((z2q n).length+1) (0:UInt8)).set 0 (UInt8.ofNat (247+(z2q n).length))=zaj n 0:=by
 simp [zaj,List.replicate_succ]
theorem znq (n i:Nat) (h:i<(z2q n).length):(zaj n i).set ((z2q n).length - i) (UInt8.ofNat (n / 2 ^ (8 * i)))=zaj n (i+1):=by
 have hg:=zs7 n i h
 have he:n / 2 ^ (8 * i)=n / 256 ^ i:=by rw [Nat.pow_mul]
 rw [he]
 unfold zaj
 obtain ⟨m,hm⟩:∃ m,(z2q n).length - i=m+1:=⟨(z2q n).length - i - 1, by omega⟩
 have hm2:(z2q n).length - (i+1)=m:=by omega
 rw [hm,hm2,List.set_cons_succ,List.take_succ_eq_append_getElem h,List.reverse_append,List.reverse_singleton,List.replicate_succ']
 rw [List.getElem?_eq_getElem h,Option.some.injEq] at hg
 rw [hg,List.append_assoc,List.set_append_right _ _ (by simp)]
 simp
theorem zo9 (n:Nat) (h:247<n):zaj n (z2q n).length=z2n n:=by
 unfold zaj z2n; rw [if_neg (by omega)]; simp
theorem zoe (n m:Nat) (ds:List UInt8) (hm:m≠0) (h:z2q n=ds++z2q m):z2q n=(ds++[UInt8.ofNat (m % 256)])++z2q (m / 256):=by
 rw [h,zhg m hm,List.append_assoc]
 have:UInt8.ofNat (m % 256)=UInt8.ofNat m:=by
  apply UInt8.toNat_inj.1; simp
 rw [this]; rfl
theorem zkl {α} {l a b:List α} (h:l=a++b):a.length≤l.length:=by rw [h]; simp
def zig (n:Int):Nat:=if 0≤n then (2 * n).toNat else (-2 * n - 1).toNat
theorem z11i {n:Int} (h1:-9223372036854775808≤n) (h2:n≤9223372036854775807):zig n<18446744073709551616:=by unfold zig; split <;> omega
end
section
open Go Go.RowKit
def z9y (x:z0b):Prop:=inI x.A∧inI x.B∧True
def zi7 (x:z08):Prop:=(fun _=>True) x.Kind∧inI x.Num∧(fun _=>True) x.Bits∧(fun s:List UInt8=>s.length≤9223372036854775807) x.Text∧True
def zlb (x:z1i):Prop:=(fun _=>True) x.Kind∧(fun s:List UInt8=>s.length≤9223372036854775807) x.Key∧zi7 x.Value∧True
def zlk (x:z0w):Prop:=(fun _=>True) x.E∧(fun _=>True) x.S∧True
def zj7 (x:z06):Prop:=(fun _=>True) x.Author∧(fun l:List V3=>(∀ x∈l,(fun v:V3=>∀ x∈v.toList,(fun _=>True) x) x)∧l.length≤9223372036854775807) x.Preds∧(fun _=>True) x.Stamp∧zlb x.Act∧zlk x.Sig∧True
def z42 (x:z01):Prop:=(fun l:List V3=>(∀ x∈l,(fun v:V3=>∀ x∈v.toList,(fun _=>True) x) x)∧l.length≤9223372036854775807) x.IDs∧(fun l:List z06=>(∀ x∈l,zj7 x)∧l.length≤9223372036854775807) x.Ops∧True
end
section
open Go
theorem zx2 {n k:Nat} (hn:n<9223372036854775808) (hk:k<9223372036854775808):andI (n:Int) (k:Int)=((n &&& k:Nat):Int):=by
 show IntKind.i64.wrap (BitVec.toNat (BitVec.ofInt 64 (n:Int) &&& BitVec.ofInt 64 (k:Int)):Int)=_
 rw [BitVec.ofInt_natCast,BitVec.ofInt_natCast,BitVec.toNat_and,BitVec.toNat_ofNat,BitVec.toNat_ofNat,Nat.mod_eq_of_lt (by omega),Nat.mod_eq_of_lt (by omega)]
 have:=Nat.and_le_left (n:=n) (m:=k)
 exact zdp (by omega) (by omega)
def okb (c:UInt8):Bool:=decide (32≤c.toNat)&&decide (c.toNat≤126)
theorem zlt {b:List UInt8} {q:Nat} (h:q<b.length) (ha:(b[q]).toNat<128):z87 b q=((b[q]).toNat,1):=by
 unfold z87
 exact decode_ascii ⟨b.toArray⟩ q (by show q<b.toArray.size; simpa using h) ha
theorem ztj {b:List UInt8} {q:Nat} (h:q<b.length) (ha:128≤(b[q]).toNat):128≤(z87 b q).1:=by
 unfold z87
 have e:((ByteArray.mk b.toArray).get! (q+0)).toNat=(b[q]).toNat:=by
  show ((ByteArray.mk b.toArray).get! q).toNat=_
  simp [ByteArray.get!,h]
 simp only [Utf8.decode,e]
 rw [if_neg (by omega)]
 repeat' split
 all_goals (first | (simp only [Utf8.runeError]; omega) | (rename_i h1; simp at h1; omega) | omega)
theorem zwf (x:Int):zbx x=some (decide (x<32) || decide (126<x)):=by
 unfold zbx
 cases decide (x<32) <;> rfl
theorem zqa (b:List UInt8):∀ (rest pre:List UInt8),b=pre++rest →
  (rest.all okb=true→iter (z1c b true) pre.length=some (.inr ()))∧(rest.all okb=false→∃ i:Nat,iter (z1c b true) pre.length=some (.inl (i:Int)))
 | [],pre,e=>by
  refine ⟨fun _=>z0s ?_, fun h=>by simp at h⟩
  subst e
  unfold z1c
  simp
 | c::rest,pre,e=>by
  have hlen:pre.length<b.length:=by rw [e]; simp
  have hget:b[pre.length]'hlen=c:=by subst e; simp
  have hF:z1c b true pre.length=if ((decide (((z87 b pre.length).1:Int)<32) || decide (126<((z87 b pre.length).1:Int)))==true) then some (.inl (.inl (pre.length:Int))) else some (.inr (pre.length+(z87 b pre.length).2)):=by
   unfold z1c
   rw [if_pos hlen]
   simp only [bs,zwf]
  cases hc:okb c with
  | false =>
   refine ⟨fun h=>by simp [hc] at h, fun _=>⟨pre.length,z0s ?_⟩⟩
   rw [hF,if_pos]
   by_cases h8:c.toNat<128
   ·
    rw [zlt hlen (by rw [hget]; exact h8),hget]
    simp only [okb,Bool.and_eq_false_iff,decide_eq_false_iff_not] at hc
    simp; omega
   ·
    have:=ztj hlen (by rw [hget]; omega)
    simp; omega
  | true =>
   simp only [okb,Bool.and_eq_true,decide_eq_true_eq] at hc
   rw [zlt hlen (by rw [hget]; omega),hget,if_neg (by simp; omega)] at hF
   have ih:=zqa b rest (pre++[c]) (by simp [e])
   simp only [List.length_append,List.length_cons,List.length_nil,Nat.zero_add] at ih
   rw [z16 hF]
   have hc':okb c=true:=by simp [okb,hc]
   simpa [hc'] using ih
theorem zi4 (b:List UInt8) (hb:b.length≤9223372036854775807):∀ (rest pre:List UInt8),b=pre++rest→iter (z3i b) (pre.length:Int)=some (if rest.all okb then .inr () else .inl false)
 | [],pre,e=>by
  refine z0s ?_
  subst e
  unfold z3i
  simp
 | c::rest,pre,e=>by
  have hlen:pre.length<b.length:=by rw [e]; simp
  have hget:b[pre.length]'hlen=c:=by subst e; simp
  have hF:z3i b (pre.length:Int)=if okb c then some (.inr ((pre.length+1:Nat):Int)) else some (.inl (.inl false)):=by
   unfold z3i
   rw [if_pos (by simp <;> omega)]
   simp only [z0c hlen,hget,bs,z0i (show pre.length<9223372036854775807 by omega)]
   simp only [okb,UInt8.lt_iff_toNat_lt,UInt8.reduceToNat]
   by_cases h1:c.toNat<32
   ·
    have:¬ 32≤c.toNat:=by omega
    simp [h1,this]
   ·
    by_cases h2:126<c.toNat
    ·
     have:¬ c.toNat≤126:=by omega
     simp [h1,h2,this]
    ·
     have h3:32≤c.toNat:=by omega
     have h4:c.toNat≤126:=by omega
     simp [h1,h2,h3,h4]
  cases hc:okb c with
  | false=>rw [hc] at hF; rw [z0s hF]; simp [hc]
  | true =>
   rw [hc] at hF
   rw [z16 hF]
   have ih:=zi4 b hb rest (pre++[c]) (by simp [e])
   simp only [List.length_append,List.length_cons,List.length_nil,Nat.zero_add] at ih
   rw [ih]; simp [hc]
theorem zmn (b:List UInt8) (hb:b.length≤9223372036854775807):z62 b=some (b.all okb):=by
 have h:=zi4 b hb b [] rfl
 unfold z62
 rw [show (0:Int)=(([]:List UInt8).length:Int) from rfl,h]
 cases b.all okb <;> rfl
theorem zwy (b:List UInt8) (hb:b.length≤9223372036854775807):zeo b=some (if decide (30<(b.length:Int)) then (⟨0,0,0,[]⟩,4) else if b.all okb then (⟨3,0,0,b⟩,0) else (⟨0,0,0,[]⟩,8)):=by
 unfold zeo z45 z48
 cases decide (30<(b.length:Int))
 ·
  simp only [Bool.false_eq_true,if_false]
  obtain ⟨h1,h2⟩:=zqa b b [] rfl
  simp only [List.length_nil] at h1 h2
  cases h:b.all okb
  ·
   obtain ⟨i,hi⟩:=h2 h
   rw [hi]
   simp only [or_l,bs]
   rw [if_pos (by simp)]; rfl
  ·
   rw [h1 h]; rfl
 ·
  rfl
theorem zxa (a:UInt64):zd3 a=some (((a.toNat / 4503599627370496 % 2048:Nat):Int),a % 4503599627370496):=by
 unfold zd3
 simp only [bs]
 have h0:=UInt64.toNat_lt a
 rw [zb3]
 have e1:(2:Nat) ^ (min 52 64)=4503599627370496:=by decide
 rw [e1,z0z (by omega) (by omega), show (2047:Int)=((2047:Nat):Int) from rfl,zx2 (by omega) (by omega)]
 congr 2
 ·
  congr 1
  exact Nat.and_two_pow_sub_one_eq_mod _ 11
 ·
  apply UInt64.toNat_inj.1
  rw [UInt64.toNat_and,UInt64.toNat_mod]
  exact Nat.and_two_pow_sub_one_eq_mod _ 52
theorem z12t (a:UInt64):z6r a=some ((a.toNat / 4503599627370496 % 2048:Nat):Int):=by
 unfold z6r
 have h0:=UInt64.toNat_lt a
 simp only [bs,UInt64.toNat_div,UInt64.toNat_mod,UInt64.reduceToNat]
 rw [z0z (by omega) (by omega)]
 congr 2
 omega
def zp6 (a:UInt64):Nat:=a.toNat / 4503599627370496 % 2048
def zvz (a:UInt64):Nat:=a.toNat % 4503599627370496
theorem z10p (a:UInt64):zp6 a<2048:=Nat.mod_lt _ (by omega)
def clsF (a:UInt64):UInt8:=if zp6 a=2047 then (if zvz a=0 then 4 else 5) else if zp6 a=0 then (if zvz a=0 then 1 else 2) else 3
theorem zyl (a:UInt64):(a % 4503599627370496==0)=decide (zvz a=0):=by
 rw [Bool.eq_iff_iff]
 simp only [beq_iff_eq,decide_eq_true_eq,← UInt64.toNat_inj,UInt64.toNat_mod]
 rfl
theorem zth (a:UInt64):zcx a=some (clsF a):=by
 unfold zcx clsF
 rw [zxa]
 simp only [bs]
 have hm:=zyl a
 have hne:(a % 4503599627370496 != 0)=!decide (zvz a=0):=by rw [← hm]; rfl
 have he:((a.toNat / 4503599627370496 % 2048:Nat):Int)=(zp6 a:Int):=rfl
 rw [hne,he]
 by_cases h1:zp6 a=2047
 ·
  rw [h1]
  by_cases h2:zvz a=0
  ·
   rw [decide_eq_true h2,if_pos h2]; rfl
  ·
   rw [decide_eq_false h2,if_neg h2]; rfl
 ·
  have e1:((zp6 a:Int)==2047)=false:=by simp; omega
  rw [if_neg h1,e1]
  simp only [Bool.false_eq_true,if_false,bs]
  by_cases h0:zp6 a=0
  ·
   rw [h0]
   by_cases h2:zvz a=0
   ·
    rw [decide_eq_true h2,if_pos h2]; rfl
   ·
    rw [decide_eq_false h2,if_neg h2]; rfl
  ·
   have e0:((zp6 a:Int) != 0)=true:=by simp; omega
   rw [e0,if_neg h0]; rfl
theorem ztv (a:UInt64):z8m a=some (clsF a):=by
 unfold z8m z91 clsF
 rw [z12t]
 simp only [bs]
 rw [zyl a]
 have hx:=z10p a
 show z3p (if ((zp6 a:Int)==0)=true then if decide (zvz a=0)=true then some (.inl 1) else some (.inr ()) else some (.inr ())) (fun s5=>if ((zp6 a:Int)==0)=true then some 2 else if decide ((zp6 a:Int)<2047)=true then some 3 else if decide (zvz a=0)=true then some 4 else some 5)=_
 by_cases h1:zp6 a=2047
 ·
  rw [h1]
  by_cases h2:zvz a=0 <;> simp [h2,zr8,or_l]
 ·
  by_cases h0:zp6 a=0
  ·
   rw [h0]
   by_cases h2:zvz a=0 <;> simp [h2,zr8,or_l]
  ·
   have e0:((zp6 a:Int)==0)=false:=by simp; omega
   have e2:decide ((zp6 a:Int)<2047)=true:=by simp; omega
   rw [e0,e2,if_neg h1,if_neg h0]; rfl
def zgp (a:UInt64):UInt64:=if clsF a=5 then 9221120237041090560 else a
theorem zst (a:UInt64):zcm a=some (zgp a):=by
 unfold zcm zgp
 rw [zth]
 simp only [bs]
 by_cases h:clsF a=5 <;> simp [h]
theorem zvv (a:UInt64):z8w a=some (zgp a):=by
 unfold z8w zgp
 rw [ztv]
 simp only [bs]
 by_cases h:clsF a=5 <;> simp [h]
theorem zum (a:UInt64):zda a=some ⟨2,0,zgp a,[]⟩:=by
 unfold zda; rw [zst]; rfl
def okV (v:z08):Bool :=
 if v.Kind=1 then decide (v.Bits=0)&&decide (v.Text=[])
 else if v.Kind=2 then decide (v.Num=0)&&decide (v.Text=[])&&decide (zgp v.Bits=v.Bits)
 else if v.Kind=3 then decide (v.Num=0)&&decide (v.Bits=0)&&decide (v.Text.length≤30)&&v.Text.all okb
 else false
theorem zt8 (v:z08) (hb:v.Text.length≤9223372036854775807):z8r v=some (if okV v then 0 else 8):=by
 obtain ⟨K,n,f,t⟩:=v
 unfold z8r okV
 simp only at hb ⊢
 rw [zvv,zmn t hb]
 by_cases h1:K=1
 ·
  subst h1
  by_cases hf:f=0 <;> by_cases ht:t=[] <;> simp [hf,ht]
 by_cases h2:K=2
 ·
  subst h2
  by_cases hn:n=0 <;> by_cases ht:t=[] <;> by_cases hc:zgp f=f <;> simp [hn,ht,hc,bs]
 by_cases h3:K=3
 ·
  subst h3
  by_cases hl:t.length≤30
  ·
   have hl':(t.length:Int)≤30:=by omega
   by_cases hn:n=0 <;> by_cases hf:f=0 <;> cases t.all okb <;> simp [hn,hf,hl,hl',bs]
  ·
   have hl':¬ (t.length:Int)≤30:=by omega
   by_cases hn:n=0 <;> by_cases hf:f=0 <;> simp [hn,hf,hl,hl',bs]
 ·
  simp [h1,h2,h3]
theorem zn8 (v:z08) (hb:v.Text.length≤9223372036854775807):zb6 v=some (if okV v then 0 else 8):=by
 obtain ⟨K,n,f,t⟩:=v
 unfold zb6 zdx okV
 simp only at hb ⊢
 rw [zum,zwy t hb]
 by_cases h1:K=1
 ·
  subst h1
  by_cases hf:f=0 <;> by_cases ht:t=[] <;> simp [hf,ht,bs]
 by_cases h2:K=2
 ·
  subst h2
  by_cases hc:zgp f=f
  ·
   by_cases hn:n=0 <;> by_cases ht:t=[] <;> simp [hn,ht,hc,bs]
  ·
   have hc':¬ f=zgp f:=fun e=>hc e.symm
   by_cases hn:n=0 <;> by_cases ht:t=[] <;> simp [hn,ht,hc,hc',bs]
 by_cases h3:K=3
 ·
  subst h3
  by_cases hl:30<(t.length:Int)
  ·
   have h4:¬ t.length≤30:=by omega
   rw [decide_eq_true hl,decide_eq_false h4]
   simp [bs]
  ·
   have h4:t.length≤30:=by omega
   rw [decide_eq_false hl,decide_eq_true h4]
   cases t.all okb <;> by_cases hn:n=0 <;> by_cases hf:f=0 <;> simp [hn,hf,bs]
 ·
  have e1:(K==1)=false:=by simpa using h1
  have e2:(K==2)=false:=by simpa using h2
  have e3:(K==3)=false:=by simpa using h3
  simp only [e1,e2,e3,Bool.false_eq_true,if_false,bs,h1,h2,h3]
  by_cases h0:K=0
  ·
   subst h0
   split <;> rfl
  ·
   simp [h0]
end
section
open Go
theorem zsr:∀ (n:Nat) (a:UInt64) (ds:List UInt8) (N:Nat),a.toNat=n→z2q N=ds++z2q n→(z2q N).length≤8→iter z4k (a,ds)=some (z2q N):=by
 intro n
 induction n using Nat.strongRecOn with
 | _ n ih =>
  intro a ds N ha hd hl
  by_cases h0:n=0
  ·
   subst h0
   refine z0s ?_
   unfold z4k
   rw [if_neg (by simp [UInt64.lt_iff_toNat_lt,ha])]
   rw [zfu,List.append_nil] at hd
   rw [hd]
  ·
   have hF:z4k (a,ds)=some (.inr (a / 256,ds++[(a % 256).toUInt8])):=by
    unfold z4k
    rw [if_pos (by simp [UInt64.lt_iff_toNat_lt,ha]; omega)]
    have:ds.length≤8:=Nat.le_trans (zkl hd) hl
    simp only [z1l (show (ds.length+[(a % 256).toUInt8].length) * 1≤140737488355328 by simp; omega),bs]
   rw [z16 hF]
   have hd2:=zoe N n ds h0 hd
   refine ih (n / 256) (Nat.div_lt_self (by omega) (by omega)) _ _ N ?_ ?_ hl
   ·
    simp [ha]
   ·
    rw [hd2]
    congr 2
    congr 1
    apply UInt8.toNat_inj.1
    simp [ha]
theorem zn0 (s:List UInt8) (hl:s.length≤8):∀ (i:Nat) (acc:List UInt8),i≤s.length→acc.length+i≤100→iter (z4m s) (acc,(i:Int) - 1)=some (acc++(s.take i).reverse)
 | 0,acc,_,_=>by
  refine z0s ?_
  unfold z4m
  rw [if_neg (by simp)]; simp
 | i+1,acc,hi,ha=>by
  have hlt:i<s.length:=by omega
  have e:((i+1:Nat):Int) - 1=(i:Int):=by omega
  have hF:z4m s (acc,((i+1:Nat):Int) - 1)=some (.inr (acc++[s[i]],(i:Int) - 1)):=by
   unfold z4m
   rw [e,if_pos (by simp)]
   simp only [z0c hlt,bs]
   rw [z1l (by simp; omega)]
   simp only [bs,z0z (show -9223372036854775808≤(i:Int) - 1 by omega) (by omega)]
  rw [z16 hF,zn0 s hl i _ (by omega) (by simp; omega)]
  have:List.take (i+1) s=List.take i s++[s[i]]:=by rw [List.take_add_one,List.getElem?_eq_getElem hlt]; rfl
  rw [this]; simp only [List.reverse_append,List.reverse_cons,List.reverse_nil,List.nil_append,List.append_assoc]
theorem z6h (a:UInt64):z22 a=some (z2n a.toNat):=by
 unfold z22 z2n
 have h0:=UInt64.toNat_lt a
 by_cases h:a.toNat≤247
 ·
  have h':decide (a≤247)=true:=by simpa [UInt64.le_iff_toNat_le] using h
  rw [if_pos h',if_pos h]
  congr 2
 ·
  have h':¬ decide (a≤247)=true:=by simpa [UInt64.le_iff_toNat_le] using h
  rw [if_neg h',if_neg h]
  have hd:=zj4 a.toNat h0
  rw [zsr a.toNat a [] a.toNat rfl rfl hd]
  simp only [bs]
  rw [z0z (show -9223372036854775808≤((z2q a.toNat).length:Int) - 1 by omega) (by omega),z0z (show -9223372036854775808≤247+((z2q a.toNat).length:Int) by omega) (by omega)]
  rw [zn0 _ hd _ _ (Nat.le_refl _) (by simp; omega)]
  simp only [bs,List.take_length]
  rw [show (247+((z2q a.toNat).length:Int))=((247+(z2q a.toNat).length:Nat):Int) by omega]
  congr 1
  show _::_=_
  congr 1
  apply UInt8.toNat_inj.1
  simp [UInt8.ofInt]
  omega
theorem zrh (a:UInt64) (k:Nat) (hk:k=(z2q a.toNat).length) (hk8:k≤8):iter (za1 a (k:Int)) (zaj a.toNat 0,0)=some (zaj a.toNat k):=by
 refine z2c k (fun i=>(zaj a.toNat i,(i:Int))) (fun i hi=>?_) ?_
 ·
  have hf:=zpd a.toNat i (by omega)
  unfold za1
  rw [if_pos (by simp; omega)]
  simp only [z0z (show -9223372036854775808≤8 * (i:Int) by omega) (by omega),z4a (show (0:Int)≤8 * (i:Int) by omega),bs,z0z (show -9223372036854775808≤(k:Int) - (i:Int) by omega) (by omega),z0i (show i<9223372036854775807 by omega)]
  rw [zdq (by omega) (by omega)]
  simp only [bs]
  have:=znq a.toNat i (by omega)
  rw [← this]
  have e1:((k:Int) - (i:Int)).toNat=(z2q a.toNat).length - i:=by omega
  have e2:(z6e a (8 * (i:Int)).toNat).toUInt8=UInt8.ofNat (a.toNat / 2 ^ (8 * i)):=by
   apply UInt8.toNat_inj.1
   have e3:(8 * (i:Int)).toNat=8 * i:=by omega
   rw [e3]
   simp only [UInt64.toNat_toUInt8,zb3,Nat.min_eq_left (show 8 * i≤64 by omega)]
   simp
  rw [e1,e2]
 ·
  unfold za1
  rw [if_neg (by simp)]
theorem zeq (a:UInt64) (k:Nat) (hk:k<64):(z6e a k).toNat=a.toNat / 2 ^ k:=by rw [zb3,Nat.min_eq_left (by omega)]
set_option maxRecDepth 100000 in
theorem zwr (a:UInt64):z9g a=some (z5z a.toNat:Int):=by
 unfold z9g
 have h0:=UInt64.toNat_lt a
 have s1:∃ (y:UInt64) (n:Nat),(if decide (4294967296≤a) then some (z6e a 32,(32:Int)) else some (a,0))=some (y,(n:Int))∧y.toNat<2 ^ 32∧n≤32∧z5z a.toNat=n+z5z y.toNat:=by
  by_cases h:4294967296≤a.toNat
  ·
   refine ⟨z6e a 32,32, by rw [if_pos (by simpa [UInt64.le_iff_toNat_le] using h)]; rfl,?_, by omega,?_⟩
   ·
    rw [zeq a 32 (by omega)]; omega
   ·
    rw [zeq a 32 (by omega)]; exact zbz _ 32 (by omega)
  ·
   exact ⟨a,0, by rw [if_neg (by simpa [UInt64.le_iff_toNat_le] using h)]; rfl, by omega, by omega, by omega⟩
 obtain ⟨y,n,e1,hy,hn,hb⟩:=s1
 rw [e1]; simp only [bs]
 have s2:∃ (z:UInt64) (k:Nat),(if decide (65536≤y) then some (z6e y 16) >>= fun y5=>some (w64 ((n:Int)+16)) >>= fun y6=>some (y5,y6) else some (y,(n:Int)))=some (z,(k:Int))∧z.toNat<2 ^ 16∧k≤48∧z5z a.toNat=k+z5z z.toNat:=by
  by_cases h:65536≤y.toNat
  ·
   refine ⟨z6e y 16,n+16, by rw [if_pos (by simpa [UInt64.le_iff_toNat_le] using h)]; simp only [bs,z0z (show -9223372036854775808≤(n:Int)+16 by omega) (by omega)]; rfl,?_, by omega,?_⟩
   ·
    rw [zeq y 16 (by omega)]; omega
   ·
    rw [zeq y 16 (by omega),hb,zbz y.toNat 16 (by omega)]; omega
  ·
   exact ⟨y,n, by rw [if_neg (by simpa [UInt64.le_iff_toNat_le] using h)], by omega, by omega,hb⟩
 obtain ⟨z,k,e2,hz,hk,hb2⟩:=s2
 simp only [bs] at e2
 rw [e2]; simp only [bs]
 have s3:∃ (x:UInt64) (j:Nat),(if decide (256≤z) then some (w64 ((k:Int)+8)) >>= fun y9=>some (z6e z 8,y9) else some (z,(k:Int)))=some (x,(j:Int))∧x.toNat<256∧j≤56∧z5z a.toNat=j+z5z x.toNat:=by
  by_cases h:256≤z.toNat
  ·
   refine ⟨z6e z 8,k+8, by rw [if_pos (by simpa [UInt64.le_iff_toNat_le] using h)]; simp only [bs,z0z (show -9223372036854775808≤(k:Int)+8 by omega) (by omega)]; rfl,?_, by omega,?_⟩
   ·
    rw [zeq z 8 (by omega)]; omega
   ·
    rw [zeq z 8 (by omega),hb2,zbz z.toNat 8 (by omega)]; omega
  ·
   exact ⟨z,k, by rw [if_neg (by simpa [UInt64.le_iff_toNat_le] using h)], by omega, by omega,hb2⟩
 obtain ⟨x,j,e3,hx,hj,hb3⟩:=s3
 simp only [bs] at e3
 rw [e3]; simp only [bs]
 have ht:=zww ⟨x.toNat,hx⟩
 have hx8:(x.toUInt8.toNat:Int)=((x.toNat:Nat):Int):=by simp; omega
 have hle:z5z x.toNat≤8:=zgj _ 8 (by omega)
 rw [hx8]
 have hlist:∀ (l:List UInt8),l=zva.data.toList→idx l ((x.toNat:Nat):Int)=some (UInt8.ofNat (z5z x.toNat)):=fun l hl=>by
  subst hl
  unfold idx
  rw [if_pos (by omega)]
  simpa using ht
 refine Eq.trans (congrArg (fun o:Option UInt8=>o >>= fun x10=>some (w64 ((j:Int)+(x10.toNat:Int)))) (hlist _ ?hh)) ?_
 case hh=>rfl
 simp only [bs]
 have e4:((UInt8.ofNat (z5z x.toNat)).toNat:Int)=(z5z x.toNat:Int):=by simp; omega
 rw [e4,z0z (by omega) (by omega),hb3]
 simp
theorem z6s (a:UInt64):z5w a=some (z2n a.toNat):=by
 unfold z5w
 have h0:=UInt64.toNat_lt a
 by_cases h:a.toNat≤247
 ·
  have h':decide (a≤247)=true:=by simpa [UInt64.le_iff_toNat_le] using h
  unfold z2n
  rw [if_pos h',if_pos h]
  congr 2
 ·
  have h':¬ decide (a≤247)=true:=by simpa [UInt64.le_iff_toNat_le] using h
  rw [if_neg h',zwr]
  have hd:=zj4 a.toNat h0
  have hl:=zli a.toNat
  have hb:z5z a.toNat≤64:=zgj _ 64 h0
  simp only [bs]
  rw [z0z (show -9223372036854775808≤(z5z a.toNat:Int)+7 by omega) (by omega)]
  have e1:Int.tdiv ((z5z a.toNat:Int)+7) 8=((z2q a.toNat).length:Int):=by
   rw [hl, show ((z5z a.toNat:Int)+7)=((z5z a.toNat+7:Nat):Int) by omega]
   rfl
  rw [e1,z0z (show -9223372036854775808≤((z2q a.toNat).length:Int) by omega) (by omega),z0i (by omega),zlc (by omega) (by omega)]
  simp only [bs]
  rw [show (0:Int)=((0:Nat):Int) from rfl,z0c (by simp)]
  simp only [bs,Int.toNat_natCast]
  rw [z0z (show -9223372036854775808≤247+((z2q a.toNat).length:Int) by omega) (by omega)]
  have e2:UInt8.ofInt (247+((z2q a.toNat).length:Int))=UInt8.ofNat (247+(z2q a.toNat).length):=by
   apply UInt8.toNat_inj.1
   rw [show (247+((z2q a.toNat).length:Int))=((247+(z2q a.toNat).length:Nat):Int) by omega]
   simp [UInt8.ofInt]
   omega
  have:=znt a.toNat
  rw [e2,this]
  have:=zrh a (z2q a.toNat).length rfl hd
  rw [show (0:Int)=((0:Nat):Int) from rfl] at this
  rw [this]
  simp only [bs]
  rw [zo9 a.toNat (by omega)]
end
section
open Go
theorem okV3 {v:z08} (h:okV v=true) (k:v.Kind=3):v.Num=0∧v.Bits=0∧v.Text.length≤30∧v.Text.all okb=true:=by
 unfold okV at h; rw [if_neg (by rw [k]; decide),if_neg (by rw [k]; decide),if_pos k] at h
 simp only [Bool.and_eq_true,decide_eq_true_eq] at h
 exact ⟨h.1.1.1,h.1.1.2,h.1.2,h.2⟩
theorem zm3 {v:z08} (h:okV v=true):v.Kind=1∨v.Kind=2∨v.Kind=3:=by
 by_cases h1:v.Kind=1
 ·
  exact .inl h1
 by_cases h2:v.Kind=2
 ·
  exact .inr (.inl h2)
 by_cases h3:v.Kind=3
 ·
  exact .inr (.inr h3)
 ·
  unfold okV at h; simp [h1,h2,h3] at h
theorem zwh (x:UInt64):(x ^^^ 18446744073709551615).toNat=18446744073709551615 - x.toNat:=by
 have e:x ^^^ 18446744073709551615 = ~~~x:=by
  apply UInt64.eq_of_toBitVec_eq
  rw [UInt64.toBitVec_xor,UInt64.toBitVec_not]
  exact BitVec.xor_allOnes
 rw [e,UInt64.toNat_not]; rfl
theorem zbi (n:Int):(UInt64.ofInt n).toNat=(n % 18446744073709551616).toNat:=by
 simp [UInt64.ofInt]; omega
theorem z13a (n:Int) (h:inI n):((zm2 (UInt64.ofInt n) 1) ^^^ (UInt64.ofInt (shrI n 63))).toNat=zig n:=by
 obtain ⟨h1,h2⟩:=h
 have es:(zm2 (UInt64.ofInt n) 1).toNat=(n % 18446744073709551616).toNat * 2 % 18446744073709551616:=by
  rw [zjj,zbi]; rfl
 by_cases h0:0≤n
 ·
  have e:shrI n 63=0:=by
   unfold shrI
   rw [show (2:Int) ^ (min 63 64)=9223372036854775808 from rfl,Int.fdiv_eq_ediv_of_nonneg _ (by omega)]; omega
  rw [e, show UInt64.ofInt 0=0 from rfl,UInt64.xor_zero,es]
  unfold zig; rw [if_pos h0]; omega
 ·
  have e:shrI n 63 = -1:=by
   unfold shrI
   rw [show (2:Int) ^ (min 63 64)=9223372036854775808 from rfl,Int.fdiv_eq_ediv_of_nonneg _ (by omega)]; omega
  rw [e, show UInt64.ofInt (-1)=18446744073709551615 from rfl,zwh,es]
  unfold zig; rw [if_neg h0]; omega
theorem zsl (n:Int) (h:inI n):zcq n=some (z2n (zig n)):=by
 unfold zcq
 rw [z6s,z13a n h]; rfl
theorem zmm (s:List UInt8) (h:s.length≤10000):zaw s=some (z2n s.length++s,0):=by
 unfold zaw
 rw [if_neg (by simp; omega),z6s]
 have e:(UInt64.ofInt (s.length:Int)).toNat=s.length:=by rw [zbi]; omega
 have:=z13 s.length (by omega)
 simp only [bs,e]
 rw [z1l (by omega)]; rfl
def be8 (b:UInt64):List UInt8:=[(z6e b 56).toUInt8,(z6e b 48).toUInt8,(z6e b 40).toUInt8,(z6e b 32).toUInt8,(z6e b 24).toUInt8,(z6e b 16).toUInt8,(z6e b 8).toUInt8,(z6e b 0).toUInt8]
theorem ztc (v:z08) (l:List UInt8) (k:Nat) (hl:l.length≤100) (hk:k≤56):z7p v (l,(k:Int))=some (.inr (l++[(z6e v.Bits k).toUInt8],(k:Int) - 8)):=by
 unfold z7p
 rw [if_pos (by simp)]
 simp only
 rw [z4a (by omega)]
 simp only [bs,Int.toNat_natCast]
 rw [z1l (by simp; omega)]
 simp only [bs]
 rw [z0z (by omega) (by omega)]
theorem zxx (v:z08):iter (z7p v) ([v.Kind],56)=some (v.Kind::be8 v.Bits):=by
 have hs:=fun l k h1 h2=>ztc v l k h1 h2
 rw [show (56:Int)=((56:Nat):Int) from rfl,z16 (hs [v.Kind] 56 (by simp) (by omega))]
 simp only [List.cons_append,List.nil_append, show ((56:Nat):Int) - 8=((48:Nat):Int) from rfl]
 rw [z16 (hs _ 48 (by simp) (by omega))]
 simp only [List.cons_append,List.nil_append, show ((48:Nat):Int) - 8=((40:Nat):Int) from rfl]
 rw [z16 (hs _ 40 (by simp) (by omega))]
 simp only [List.cons_append,List.nil_append, show ((40:Nat):Int) - 8=((32:Nat):Int) from rfl]
 rw [z16 (hs _ 32 (by simp) (by omega))]
 simp only [List.cons_append,List.nil_append, show ((32:Nat):Int) - 8=((24:Nat):Int) from rfl]
 rw [z16 (hs _ 24 (by simp) (by omega))]
 simp only [List.cons_append,List.nil_append, show ((24:Nat):Int) - 8=((16:Nat):Int) from rfl]
 rw [z16 (hs _ 16 (by simp) (by omega))]
 simp only [List.cons_append,List.nil_append, show ((16:Nat):Int) - 8=((8:Nat):Int) from rfl]
 rw [z16 (hs _ 8 (by simp) (by omega))]
 simp only [List.cons_append,List.nil_append, show ((8:Nat):Int) - 8=((0:Nat):Int) from rfl]
 rw [z16 (hs _ 0 (by simp) (by omega))]
 simp only [List.cons_append,List.nil_append]
 refine z0s ?_
 unfold z7p
 rw [if_neg (by simp)]; rfl
def encV (v:z08):List UInt8:=v.Kind::(if v.Kind=1 then z2n (zig v.Num) else if v.Kind=2 then be8 v.Bits else z2n v.Text.length++v.Text)
theorem zts {n:Int} (h:inI n):zig n<18446744073709551616:=z11i h.1 h.2
theorem z11u (v:z08) (hI:inI v.Num) (hl:v.Text.length≤9223372036854775807):zbt v=some (if okV v then (encV v,0) else ([],8)):=by
 unfold zbt
 rw [zn8 v hl]
 cases hv:okV v
 ·
  rfl
 simp only [bs,if_true]
 rw [if_neg (by simp)]
 unfold encV
 rcases zm3 hv with k | k | k
 ·
  have h1:=z13 (zig v.Num) (zts hI)
  rw [k,zsl v.Num hI]
  simp only [bs]
  rw [if_pos (by decide),z1l (by simp; omega)]; simp [bs]
 ·
  rw [k,if_neg (by decide),if_pos (by decide),if_neg (by decide),if_pos rfl,← k,zxx]; rfl
 ·
  have h3:=(okV3 hv k).2.2.1
  have h1:=z13 v.Text.length (by omega)
  rw [k,zmm v.Text (by omega)]
  rw [if_neg (by decide),if_neg (by decide),if_pos (by decide),if_neg (by decide),if_neg (by decide),z4a (by omega)]
  simp only [bs]
  rw [z1l (by simp; omega)]; rfl
theorem znx (n:Int) (h:inI n):z7t n=some (z2n (zig n)):=by
 obtain ⟨h1,h2⟩:=h
 unfold z7t
 by_cases h0:0≤n
 ·
  rw [if_pos (by simpa using h0),z6h]
  have e:(2 * UInt64.ofInt n).toNat=zig n:=by
   rw [UInt64.toNat_mul,zbi, show (2:UInt64).toNat=2 from rfl]
   unfold zig; rw [if_pos h0]; omega
  rw [e]; rfl
 ·
  rw [if_neg (by simpa using h0),z6h]
  have e:((2 * UInt64.ofInt (w64 (0 - (w64 (n+1)))))+1).toNat=zig n:=by
   rw [z0z (x:=n+1) (by omega) (by omega),z0z (by omega) (by omega),UInt64.toNat_add,UInt64.toNat_mul,zbi, show (2:UInt64).toNat=2 from rfl, show (1:UInt64).toNat=1 from rfl]
   unfold zig; rw [if_neg h0]; omega
  rw [e]; rfl
theorem zlg (s:List UInt8) (h:s.length≤100000):z6a s=some (z2n s.length++s):=by
 unfold z6a
 rw [z6h]
 have e:(UInt64.ofInt (s.length:Int)).toNat=s.length:=by rw [zbi]; omega
 have:=z13 s.length (by omega)
 rw [e]
 simp only [bs]
 rw [z1l (by omega)]; rfl
theorem zsn (v:z08) (l:List UInt8) (k:Nat) (hl:l.length≤100) (hk:k≤7):z56 v (l,(k:Int))=some (.inr (l++[(z6e v.Bits (8 * k)).toUInt8],(k:Int) - 1)):=by
 unfold z56
 rw [if_pos (by simp)]
 simp only
 have e:w64 (8 * (k:Int))=((8 * k:Nat):Int):=by rw [z0z (by omega) (by omega)]; omega
 rw [e,z4a (by omega)]
 simp only [bs,Int.toNat_natCast]
 rw [z1l (by simp; omega)]
 simp only [bs]
 rw [z0z (by omega) (by omega)]
theorem zwn (v:z08):iter (z56 v) ([v.Kind],7)=some (v.Kind::be8 v.Bits):=by
 have hs:=fun l k h1 h2=>zsn v l k h1 h2
 rw [show (7:Int)=((7:Nat):Int) from rfl,z16 (hs [v.Kind] 7 (by simp) (by omega))]
 simp only [List.cons_append,List.nil_append, show ((7:Nat):Int) - 1=((6:Nat):Int) from rfl]
 rw [z16 (hs _ 6 (by simp) (by omega))]
 simp only [List.cons_append,List.nil_append, show ((6:Nat):Int) - 1=((5:Nat):Int) from rfl]
 rw [z16 (hs _ 5 (by simp) (by omega))]
 simp only [List.cons_append,List.nil_append, show ((5:Nat):Int) - 1=((4:Nat):Int) from rfl]
 rw [z16 (hs _ 4 (by simp) (by omega))]
 simp only [List.cons_append,List.nil_append, show ((4:Nat):Int) - 1=((3:Nat):Int) from rfl]
 rw [z16 (hs _ 3 (by simp) (by omega))]
 simp only [List.cons_append,List.nil_append, show ((3:Nat):Int) - 1=((2:Nat):Int) from rfl]
 rw [z16 (hs _ 2 (by simp) (by omega))]
 simp only [List.cons_append,List.nil_append, show ((2:Nat):Int) - 1=((1:Nat):Int) from rfl]
 rw [z16 (hs _ 1 (by simp) (by omega))]
 simp only [List.cons_append,List.nil_append, show ((1:Nat):Int) - 1=((0:Nat):Int) from rfl]
 rw [z16 (hs _ 0 (by simp) (by omega))]
 simp only [List.cons_append,List.nil_append]
 refine z0s ?_
 unfold z56
 rw [if_neg (by simp)]; rfl
theorem zsv (v:z08) (hI:inI v.Num) (hv:okV v=true):z8q v=some (encV v):=by
 unfold encV z8q
 rcases zm3 hv with k | k | k
 ·
  have h1:=z13 (zig v.Num) (zts hI)
  rw [k,znx v.Num hI]
  simp only [bs]
  rw [if_pos (by decide),z1l (by simp; omega)]; simp [bs]
 ·
  rw [k,if_neg (by decide),if_pos (by decide),if_neg (by decide),if_pos rfl,← k,zwn]; rfl
 ·
  have h3:=(okV3 hv k).2.2.1
  have h1:=z13 v.Text.length (by omega)
  rw [k,zlg v.Text (by omega)]
  rw [if_neg (by decide),if_neg (by decide),if_neg (by decide),if_neg (by decide),z4a (by omega)]
  simp only [bs]
  rw [z1l (by simp; omega)]; rfl
end
section
open Go
theorem zxe (a b:V3):∀ (n i:Nat),32 - i=n→i≤32→∃ r:Sum Int Unit,iter (z68 a b) (i:Int)=some r∧(z3p (some r) (fun _=>some 0)=some (Lib.compareBytes (a.toList.drop i) (b.toList.drop i))):=by
 intro n
 induction n with
 | zero =>
  intro i hn hi
  have:i=32:=by omega
  subst this
  refine ⟨.inr (),z0s ?_,?_⟩
  ·
   unfold z68; rw [if_neg (by simp)]
  ·
   rw [List.drop_eq_nil_of_le (by simp),List.drop_eq_nil_of_le (by simp)]; rfl
 | succ n ih =>
  intro i hn hi
  have hlt:i<32:=by omega
  have da:a.toList.drop i=a[i]::a.toList.drop (i+1):=by rw [List.drop_eq_getElem_cons (by simpa using hlt)]; simp
  have db:b.toList.drop i=b[i]::b.toList.drop (i+1):=by rw [List.drop_eq_getElem_cons (by simpa using hlt)]; simp
  have hF:z68 a b (i:Int)=if decide (a[i]<b[i]) then some (.inl (.inl (-1))) else if decide (b[i]<a[i]) then some (.inl (.inl 1)) else some (.inr ((i+1:Nat):Int)):=by
   unfold z68
   rw [if_pos (by simp; omega)]
   simp only [z8p hlt,bs,z0i (show i<9223372036854775807 by omega)]
  rw [da,db,Lib.compareBytes]
  by_cases h1:a[i]<b[i]
  ·
   rw [decide_eq_true h1] at hF
   exact ⟨_,z0s hF, by rw [if_pos h1]; rfl⟩
  ·
   rw [decide_eq_false h1] at hF
   by_cases h2:b[i]<a[i]
   ·
    rw [decide_eq_true h2] at hF
    exact ⟨_,z0s hF, by rw [if_neg h1,if_pos h2]; rfl⟩
   ·
    rw [decide_eq_false h2] at hF
    obtain ⟨r,k1,k2⟩:=ih (i+1) (by omega) (by omega)
    exact ⟨r, by rw [z16 hF]; exact k1, by rw [if_neg h1,if_neg h2]; exact k2⟩
theorem zmv (a b:V3):z73 a b=some (Lib.compareBytes a.toList b.toList):=by
 obtain ⟨r,h1,h2⟩:=zxe a b 32 0 rfl (by omega)
 unfold z73
 rw [show (0:Int)=((0:Nat):Int) from rfl,h1]
 simpa using h2
theorem zoq (a b:V3):z7v a b=some (Lib.compareBytes a.toList b.toList):=by
 unfold z7v zcz; rfl
def z96:List V3→Bool
 | a::b::l=>!decide (0≤Lib.compareBytes a.toList b.toList)&&z96 (b::l)
 | _=>true
theorem zjs (l:List V3) (hl:l.length≤9223372036854775807):∀ (n i:Nat),l.length - i=n→1≤i→i≤l.length→iter (z3n l) (i:Int)=some (if z96 (l.drop (i - 1)) then .inr () else .inl false):=by
 intro n
 induction n with
 | zero =>
  intro i hn h1 hi
  have:i=l.length:=by omega
  refine z0s ?_
  have e:l.drop (i - 1)=[l[i - 1]'(by omega)]:=by
   rw [List.drop_eq_getElem_cons (by omega),List.drop_eq_nil_of_le (by omega)]
  rw [e]
  unfold z3n
  rw [if_neg (by simp; omega)]
  simp [z96]
 | succ n ih =>
  intro i hn h1 hi
  have hlt:i<l.length:=by omega
  have e:l.drop (i - 1)=l[i - 1]::l[i]::l.drop (i+1):=by
   rw [List.drop_eq_getElem_cons (by omega), show i - 1+1=i by omega,List.drop_eq_getElem_cons hlt]
  have e':l.drop (i+1 - 1)=l[i]::l.drop (i+1):=by rw [Nat.add_sub_cancel,List.drop_eq_getElem_cons hlt]
  have hF:z3n l (i:Int)=if decide (0≤Lib.compareBytes (l[i - 1]).toList (l[i]).toList) then some (.inl (.inl false)) else some (.inr ((i+1:Nat):Int)):=by
   unfold z3n
   rw [if_pos (by simp; omega),z0z (by omega) (by omega), show ((i:Int) - 1)=((i - 1:Nat):Int) by omega]
   simp only [z0c hlt,z0c (show i - 1<l.length by omega),bs,zmv,z0i (show i<9223372036854775807 by omega)]
  rw [e,z96]
  cases hc:decide (0≤Lib.compareBytes (l[i - 1]).toList (l[i]).toList) with
  | true=>rw [hc] at hF; rw [z0s hF]; rfl
  | false =>
   rw [hc] at hF
   rw [z16 hF,ih (i+1) (by omega) (by omega) (by omega),e']; simp
theorem zof (l:List V3) (hl:l.length≤9223372036854775807):z6c l=some (z96 l):=by
 unfold z6c
 cases l with
 | nil =>
  rw [z0s (b:=.inr ()) (by unfold z3n; rw [if_neg (by simp)])]; rfl
 | cons x l =>
  have:=zjs (x::l) hl _ 1 rfl (by omega) (by simp)
  rw [show (1:Int)=((1:Nat):Int) from rfl,this]
  simp only [Nat.sub_self,List.drop_zero]
  cases z96 (x::l) <;> rfl
theorem zo5 (l:List V3) (hl:l.length≤9223372036854775806):∀ (n i:Nat),l.length - i=n→i≤l.length→∃ r,iter (z0g l l) ((i:Int),(i:Int))=some r∧(z96 (l.drop i)=true→∃ c,r=.inr c)∧(z96 (l.drop i)=false→∃ (k:Nat) (c:Int),r=.inl ((k:Int),c)):=by
 intro n
 induction n with
 | zero =>
  intro i hn hi
  have:i=l.length:=by omega
  refine ⟨.inr (i:Int),z0s ?_, fun _=>⟨_,rfl⟩, fun h=>?_⟩
  ·
   unfold z0g
   rw [if_neg (by simp; omega)]
  ·
   rw [List.drop_eq_nil_of_le (by omega)] at h; simp [z96] at h
 | succ n ih =>
  intro i hn hi
  have hlt:i<l.length:=by omega
  by_cases h2:i+1<l.length
  ·
   have e:l.drop i=l[i]::l[i+1]::l.drop (i+2):=by rw [List.drop_eq_getElem_cons hlt,List.drop_eq_getElem_cons h2]
   have e':l.drop (i+1)=l[i+1]::l.drop (i+2):=by rw [List.drop_eq_getElem_cons h2]
   have hF:z0g l l ((i:Int),(i:Int))=if decide (0≤Lib.compareBytes (l[i]).toList (l[i+1]).toList) then some (.inl (.inl ((i:Int),((i+1:Nat):Int)))) else some (.inr (((i+1:Nat):Int),((i+1:Nat):Int))):=by
    unfold z0g zau
    rw [if_pos (by simp; omega)]
    simp only [z0c hlt,bs,z0i (show i<9223372036854775807 by omega)]
    rw [if_pos (by simp; omega),z0z (by omega) (by omega), show ((i+1:Nat):Int) - 1=(i:Int) by omega]
    simp only [z0c hlt,z0c h2,bs,zoq]
   rw [e,z96]
   cases hc:decide (0≤Lib.compareBytes (l[i]).toList (l[i+1]).toList) with
   | true =>
    rw [hc] at hF
    exact ⟨_,z0s hF, fun h=>by simp at h, fun _=>⟨i,_,rfl⟩⟩
   | false =>
    rw [hc] at hF
    obtain ⟨r,k1,k2,k3⟩:=ih (i+1) (by omega) (by omega)
    rw [e'] at k2 k3
    exact ⟨r, by rw [z16 hF]; exact k1, fun h=>k2 (by simpa using h), fun h=>k3 (by simpa using h)⟩
  ·
   have e:l.drop i=[l[i]]:=by rw [List.drop_eq_getElem_cons hlt,List.drop_eq_nil_of_le (by omega)]
   have hF:z0g l l ((i:Int),(i:Int))=some (.inr (((i+1:Nat):Int),((i+1:Nat):Int))):=by
    unfold z0g zau
    rw [if_pos (by simp; omega)]
    simp only [z0c hlt,bs,z0i (show i<9223372036854775807 by omega)]
    rw [if_neg (by simp; omega)]
    simp only [bs]; rfl
   obtain ⟨r,k1,k2,k3⟩:=ih (i+1) (by omega) (by omega)
   rw [List.drop_eq_nil_of_le (by omega)] at k2 k3
   exact ⟨r, by rw [z16 hF]; exact k1, fun _=>k2 rfl, fun h=>by rw [e] at h; simp [z96] at h⟩
theorem zs1 (l:List V3) (hl:l.length≤9223372036854775806):zcr l=some (z96 l):=by
 obtain ⟨r,k1,k2,k3⟩:=zo5 l hl _ 0 rfl (by omega)
 unfold zcr z1w z28
 rw [show ((0:Int),(0:Int))=(((0:Nat):Int),((0:Nat):Int)) from rfl,k1]
 simp only [List.drop_zero] at k2 k3
 cases h:z96 l with
 | true=>obtain ⟨c,rfl⟩:=k2 h; rfl
 | false =>
  obtain ⟨k,c,rfl⟩:=k3 h
  simp only [or_l,bs]
  rw [decide_eq_true (by omega)]; rfl
def zml (l:List V3):List UInt8:=l.flatMap Vector.toList
theorem zh0 (l:List V3):(zml l).length=32 * l.length:=by
 induction l with
 | nil=>rfl
 | cons x l ih=>unfold zml at ih ⊢; rw [List.flatMap_cons,List.length_append,ih]; simp; omega
theorem zn7 (l:List V3) (i:Nat) (hi:i<l.length):zml (l.take (i+1))=zml (l.take i)++(l[i]).toList:=by
 rw [List.take_add_one,List.getElem?_eq_getElem hi]; unfold zml; rw [List.flatMap_append,Option.toList_some,List.flatMap_cons,List.flatMap_nil,List.append_nil]
theorem zzr (l:List V3) (h:l.length≤1000) (s:List UInt8) (hs:s.length≤9):iter (z5l l) (s,0)=some (s++zml l):=by
 have:=z2c (F:=z5l l) (b:=s++zml l) l.length (fun i=>(s++zml (l.take i),(i:Int))) (fun i hi=>?_) ?_
 ·
  simpa [zml] using this
 ·
  unfold z5l
  have hf:=zh0 (l.take i)
  rw [if_pos (by simp; omega)]
  simp only [z0c hi,bs]
  rw [z1l (by simp at hf ⊢; omega)]
  simp only [bs,z0i (show i<9223372036854775807 by omega),zn7 l i hi,List.append_assoc]
 ·
  unfold z5l
  rw [if_neg (by simp)]
  simp
theorem z12o (l:List V3) (h:l.length≤1000) (s:List UInt8) (hs:s.length≤9):iter (zbg l) (s,0)=some (s++zml l):=by
 have:=z2c (F:=zbg l) (b:=s++zml l) l.length (fun i=>(s++zml (l.take i),(i:Int))) (fun i hi=>?_) ?_
 ·
  simpa [zml] using this
 ·
  unfold zbg
  have hf:=zh0 (l.take i)
  rw [if_pos (by simp; omega)]
  simp only [z0c hi,bs]
  rw [z1l (by simp at hf ⊢; omega)]
  simp only [bs,z0i (show i<9223372036854775807 by omega),zn7 l i hi,List.append_assoc]
 ·
  unfold zbg
  rw [if_neg (by simp)]
  simp
theorem zjc {n:Nat} (h:n<18446744073709551616):(UInt64.ofInt (n:Int)).toNat=n:=by
 simp [UInt64.ofInt]; omega
theorem zxi (l:List V3) (h:l.length≤1000):z9h l=some (z2n l.length++zml l):=by
 unfold z9h
 have hn:=z13 l.length (by omega)
 rw [z6h,zjc (by omega)]
 simp only [bs]
 rw [zzr l h _ (by omega)]; rfl
theorem z10y (l:List V3) (h:l.length≤60) (hi:z96 l=true):zio l=some (z2n l.length++zml l,0):=by
 unfold zio
 have hn:=z13 l.length (by omega)
 rw [if_neg (by simp; omega),zs1 l (by omega),hi,z6s,zjc (by omega)]
 simp only [bs,Bool.not_true,Bool.false_eq_true,if_false]
 rw [z12o l (by omega) _ (by omega)]; rfl
end
section
open Go
def nk:List UInt8→Nat
 | []=>0
 | a::l=>a.toNat * 256 ^ l.length+nk l
theorem z10i:∀ l:List UInt8,nk l<256 ^ l.length
 | []=>by simp [nk]
 | a::l=>by
  have ih:=z10i l
  have ha:=UInt8.toNat_lt a
  simp only [nk,List.length_cons,Nat.pow_succ]
  have h1:(a.toNat+1) * 256 ^ l.length≤256 * 256 ^ l.length:=Nat.mul_le_mul_right _ (by omega)
  rw [Nat.add_mul,Nat.one_mul] at h1
  omega
theorem zu8:∀ a b:List UInt8,a.length=b.length→Lib.compareBytes a b=(if nk a<nk b then -1 else if nk b<nk a then 1 else 0)∧(nk a=nk b→a=b)
 | [],[],_=>by simp [Lib.compareBytes,nk]
 | [],_::_,h=>by simp at h
 | _::_,[],h=>by simp at h
 | a::x,b::y,h=>by
  have hl:x.length=y.length:=by simpa using h
  obtain ⟨i1,i2⟩:=zu8 x y hl
  have lx:=z10i x
  have ly:=z10i y
  simp only [Lib.compareBytes,nk,hl] at *
  have e:∀ u v:UInt8,u.toNat<v.toNat→u.toNat * 256 ^ y.length+256 ^ y.length≤v.toNat * 256 ^ y.length:=fun u v huv=>by
   have:=Nat.mul_le_mul_right (256 ^ y.length) (show u.toNat+1≤v.toNat from huv)
   rwa [Nat.add_mul,Nat.one_mul] at this
  by_cases h1:a<b
  ·
   have h1':a.toNat<b.toNat:=UInt8.lt_iff_toNat_lt.1 h1
   have:=e a b h1'
   rw [if_pos h1,if_pos (by omega)]
   exact ⟨rfl, fun h=>by omega⟩
  ·
   by_cases h2:b<a
   ·
    have h2':b.toNat<a.toNat:=UInt8.lt_iff_toNat_lt.1 h2
    have:=e b a h2'
    rw [if_neg h1,if_pos h2,if_neg (by omega),if_pos (by omega)]
    exact ⟨rfl, fun h=>by omega⟩
   ·
    have h3:a=b:=UInt8.toNat_inj.1 (by rw [UInt8.lt_iff_toNat_lt] at h1 h2; omega)
    subst h3
    rw [if_neg h1,if_neg h1,i1]
    refine ⟨?_, fun h=>by rw [i2 (by omega)]⟩
    by_cases c1:nk x<nk y
    ·
     rw [if_pos c1,if_pos (by omega)]
    ·
     by_cases c2:nk y<nk x
     ·
      rw [if_neg c1,if_pos c2,if_neg (by omega),if_pos (by omega)]
     ·
      rw [if_neg c1,if_neg c2,if_neg (by omega),if_neg (by omega)]
def kd (d:V3):Nat:=nk d.toList
theorem zwk (a b:V3):Lib.compareBytes a.toList b.toList=if kd a<kd b then -1 else if kd b<kd a then 1 else 0:=(zu8 a.toList b.toList (by simp)).1
theorem zt0 {a b:V3} (h:kd a=kd b):a=b:=by
 have:=(zu8 a.toList b.toList (by simp)).2 h
 exact Vector.toList_inj.1 this
theorem zqw (a b:V3):z7v a b=some (if kd a<kd b then -1 else if kd b<kd a then 1 else 0):=by rw [zoq,zwk]
theorem ztt (a b:V3):z73 a b=some (if kd a<kd b then -1 else if kd b<kd a then 1 else 0):=by rw [zmv,zwk]
theorem zq9 (a b:V3):decide ((if kd a<kd b then (-1:Int) else if kd b<kd a then 1 else 0)<0)=decide (kd a<kd b):=by
 by_cases h:kd a<kd b
 ·
  simp [h]
 ·
  by_cases h2:kd b<kd a <;> simp [h,h2]
theorem zyn (a b:V3):decide (0≤(if kd a<kd b then (-1:Int) else if kd b<kd a then 1 else 0))=decide (kd b≤kd a):=by
 by_cases h:kd a<kd b
 ·
  have:¬ kd b≤kd a:=by omega
  simp [h,this]
 ·
  have h3:kd b≤kd a:=by omega
  by_cases h2:kd b<kd a <;> simp [h,h2,h3]
theorem z12q (a b:V3):((if kd a<kd b then (-1:Int) else if kd b<kd a then 1 else 0)==0)=decide (a=b):=by
 by_cases h:kd a<kd b
 ·
  have:a≠b:=fun e=>by rw [e] at h; omega
  simp [h,this]
 ·
  by_cases h2:kd b<kd a
  ·
   have:a≠b:=fun e=>by rw [e] at h2; omega
   simp [h,h2,this]
  ·
   have:a=b:=zt0 (by omega)
   simp [h,h2,this]
theorem zqb:∀ l:List V3,z96 l=true↔∀ i (h:i+1<l.length),kd (l[i]'(by omega))<kd l[i+1]
 | []=>by simp [z96]
 | [a]=>by simp [z96]
 | a::b::l=>by
  have ih:=zqb (b::l)
  rw [z96,Bool.and_eq_true,ih,zwk,zyn]
  constructor
  ·
   rintro ⟨h1,h2⟩ i hi
   cases i with
   | zero=>simpa using h1
   | succ i=>exact h2 i (by simpa using hi)
  ·
   intro h
   refine ⟨?_, fun i hi=>h (i+1) (by simpa using hi)⟩
   have:=h 0 (by simp)
   simpa using this
theorem ze5:∀ l:List V3,z96 l=true↔l.Pairwise (fun a b=>kd a<kd b)
 | []=>by simp [z96]
 | [a]=>by simp [z96]
 | a::b::l=>by
  have ih:=ze5 (b::l)
  rw [z96,Bool.and_eq_true,ih,zwk,zyn]
  constructor
  ·
   rintro ⟨h1,h2⟩
   have h1':kd a<kd b:=by simpa using h1
   refine List.pairwise_cons.2 ⟨fun c hc=>?_,h2⟩
   rcases List.mem_cons.1 hc with rfl | hc
   ·
    exact h1'
   ·
    have:=(List.pairwise_cons.1 h2).1 c hc; omega
  ·
   intro h
   obtain ⟨h1,h2⟩:=List.pairwise_cons.1 h
   have:=h1 b (by simp)
   exact ⟨by simp; omega,h2⟩
theorem zt5 (l:List V3) (hl:l.length≤9223372036854775807):∃ b,z11 l=some b∧(b=true↔∀ i (h:i+1<l.length),kd (l[i]'(by omega))≤kd l[i+1]):=by
 have key:∀ n,n<l.length→∃ r:Sum Bool Unit,iter (z0l l) (n:Int)=some r∧((r=.inr ()∧∀ i (h:i+1<l.length),i+1≤n→kd (l[i]'(by omega))≤kd l[i+1])∨(r=.inl false∧∃ i,∃ h:i+1<l.length,¬ kd (l[i]'(by omega))≤kd l[i+1])):=by
  intro n
  induction n with
  | zero =>
   intro h
   refine ⟨_,z0s ?_,.inl ⟨rfl, fun i _ h=>by omega⟩⟩
   unfold z0l
   rw [if_neg (by simp)]
  | succ n ih =>
   intro h
   have hF:z0l l ((n+1:Nat):Int)=if decide (kd l[n+1]<kd l[n]) then some (.inl (.inl false)) else some (.inr (n:Int)):=by
    unfold z0l
    rw [if_pos (by simp <;> omega),z0c h,z0z (by omega) (by omega), show (((n+1:Nat):Int) - 1)=(n:Int) by omega,z0c (by omega)]
    simp only [bS]
    rw [zqw]
    simp only [bS]
    rw [zq9]
   by_cases hc:kd l[n+1]<kd l[n]
   ·
    rw [decide_eq_true hc,if_pos rfl] at hF
    exact ⟨_,z0s hF,.inr ⟨rfl,n,h, by omega⟩⟩
   ·
    rw [decide_eq_false hc,if_neg (by simp)] at hF
    obtain ⟨r,h1,h2⟩:=ih (by omega)
    refine ⟨r, by rw [z16 hF]; exact h1,?_⟩
    rcases h2 with ⟨h2,h3⟩ | h2
    ·
     refine .inl ⟨h2, fun i hi hn=>?_⟩
     by_cases hin:i=n
     ·
      subst hin; omega
     ·
      exact h3 i hi (by omega)
    ·
     exact .inr h2
 unfold z11
 simp only [bS]
 by_cases h0:l.length=0
 ·
  refine ⟨true,?_, by simp; intro i hi; omega⟩
  rw [h0,z0z (by omega) (by omega),z0s (b:=.inr ())]
  ·
   rfl
  ·
   unfold z0l
   rw [if_neg (by simp)]
 ·
  obtain ⟨r,h1,h2⟩:=key (l.length - 1) (by omega)
  rw [z0z (by omega) (by omega), show ((l.length:Int) - 1)=((l.length - 1:Nat):Int) by omega,h1]
  rcases h2 with ⟨rfl,h3⟩ | ⟨rfl,i,hi,h3⟩
  ·
   exact ⟨true,rfl, by simp; exact fun i hi=>h3 i hi (by omega)⟩
  ·
   exact ⟨false,rfl, by simp; exact ⟨i,hi, by omega⟩⟩
theorem zv5 {k n j:Nat} (h:j<n):subi k n (j:Int)=some (k+j):=by unfold subi; rw [if_pos (by omega)]; simp
theorem zzf {α:Type} (b:List α) (k n:Nat) (x:α) (h:k+n≤b.length):(clr b k n x).length=b.length:=by
 unfold clr
 simp only [List.length_append,List.length_take,List.length_replicate,List.length_drop]; omega
theorem zpi (l:List V3) (s:Nat) (h1:1≤s) (hs:s<l.length) (hl:l.length≤9223372036854775806):∃ b:List V3 × Int,iter (z23 l s) (l,(s:Int),1)=some b∧b.1.length=l.length∧∃ j:Nat,b.2=(j:Int)∧j<l.length:=by
 refine zd1 (F:=z23 l s) (l.length - s) (fun i st=>st.1.length=l.length∧st.2.2=(i:Int)∧1≤i∧∃ j:Nat,st.2.1=(j:Int)∧j+1≤s+i) _ ?_ ?_ _ 1 (by omega) ⟨rfl,rfl, by omega,s,rfl, by omega⟩
 ·
  rintro i ⟨c,j',i'⟩ hi ⟨e1,e2,e0,j,e3,e4⟩
  simp only at e1 e2 e3
  subst e2 e3
  unfold z23
  rw [if_pos (by simp; omega)]
  simp only [Int.toNat_natCast]
  rw [zv5 (by omega),z0z (x:=(i:Int) - 1) (by omega) (by omega), show ((i:Int) - 1)=((i - 1:Nat):Int) by omega,zv5 (by omega)]
  simp only [bS]
  rw [z0c (by omega),z0c (by omega)]
  simp only [bS]
  by_cases hc:c[s+i]'(by omega)=c[s+(i - 1)]'(by omega)
  ·
   rw [decide_eq_true hc,if_neg (by simp)]
   exact ⟨_,rfl,e1,z0i (by omega), by omega,j,rfl, by omega⟩
  ·
   rw [decide_eq_false hc,if_pos (by simp),z0c (by omega)]
   simp only [bS]
   exact ⟨_,rfl, by simpa using e1,z0i (by omega), by omega,j+1,z0i (by omega), by omega⟩
 ·
  rintro ⟨c,j',i'⟩ ⟨e1,e2,e0,j,e3,e4⟩
  simp only at e1 e2 e3
  subst e2 e3
  unfold z23
  rw [if_neg (by simp <;> omega)]
  exact ⟨_,rfl,e1,j,rfl, by omega⟩
theorem zrl (l:List V3) (hl:l.length≤9223372036854775806):∃ c,z2m l=some c∧(c.length=l.length↔∀ i (h:i+1<l.length),l[i]'(by omega)≠l[i+1]):=by
 have key:∀ k n,l.length - n=k→1≤n→n≤l.length→∃ r:Sum (List V3) Unit,iter (z18 l) (n:Int)=some r∧((r=.inr ()∧∀ i (h:i+1<l.length),n≤i+1→l[i]'(by omega)≠l[i+1])∨(∃ c,r=.inl c∧c.length≠l.length∧∃ i,∃ h:i+1<l.length,l[i]'(by omega)=l[i+1])):=by
  intro k
  induction k with
  | zero =>
   intro n hk h1 hn
   refine ⟨_,z0s ?_,.inl ⟨rfl, fun i _ h=>by omega⟩⟩
   unfold z18
   rw [if_neg (by simp; omega)]
  | succ k ih =>
   intro n hk h1 hn
   have hlt:n<l.length:=by omega
   by_cases hc:l[n]=l[n - 1]
   ·
    obtain ⟨⟨c,j'⟩,e1,e2,j,e3,e4⟩:=zpi l n h1 hlt hl
    simp only at e2 e3
    subst e3
    have hF:z18 l (n:Int)=some (.inl (.inl ((clr c j (c.length - j) (Vector.replicate 32 0)).take j))):=by
     unfold z18
     rw [if_pos (by simp; omega),z0c hlt,z0z (by omega) (by omega), show ((n:Int) - 1)=((n - 1:Nat):Int) by omega,z0c (by omega)]
     simp only [bS]
     rw [decide_eq_true hc,if_pos rfl,z4a (by omega)]
     simp only [bS]
     rw [e1]
     simp only [bS]
     rw [z4a (by omega),z4a (by simp; omega)]
     simp only [bS,Int.toNat_natCast]
     rw [show (0:Int)=((0:Nat):Int) from rfl,zf8 (by omega) (by rw [zzf _ _ _ _ (by omega)]; omega)]
     simp
    refine ⟨_,z0s hF,.inr ⟨_,rfl,?_,n - 1, by omega,?_⟩⟩
    ·
     rw [List.length_take]; omega
    ·
     have:n - 1+1=n:=by omega
     simp only [this]; exact hc.symm
   ·
    have hF:z18 l (n:Int)=some (.inr ((n+1:Nat):Int)):=by
     unfold z18
     rw [if_pos (by simp; omega),z0c hlt,z0z (x:=(n:Int) - 1) (by omega) (by omega), show ((n:Int) - 1)=((n - 1:Nat):Int) by omega,z0c (by omega)]
     simp only [bS]
     rw [decide_eq_false hc,if_neg (by simp),z0i (by omega)]
    obtain ⟨r,h2,h3⟩:=ih (n+1) (by omega) (by omega) (by omega)
    refine ⟨r, by rw [z16 hF]; exact h2,?_⟩
    rcases h3 with ⟨h3,h4⟩ | h3
    ·
     refine .inl ⟨h3, fun i hi hni=>?_⟩
     by_cases hin:i+1=n
     ·
      subst hin; exact fun e=>hc e.symm
     ·
      exact h4 i hi (by omega)
    ·
     exact .inr h3
 unfold z2m
 by_cases h2:l.length<2
 ·
  rw [if_pos (by simp; omega)]
  exact ⟨l,rfl, by simp; intro i hi; omega⟩
 ·
  rw [if_neg (by simp; omega)]
  obtain ⟨r,e1,e2⟩:=key (l.length - 1) 1 rfl (by omega) (by omega)
  rw [show (1:Int)=((1:Nat):Int) from rfl,e1]
  rcases e2 with ⟨rfl,h3⟩ | ⟨c,rfl,h3,i,hi,h4⟩
  ·
   exact ⟨l,rfl, by simp; exact fun i hi=>h3 i hi (by omega)⟩
  ·
   exact ⟨c,rfl,⟨fun h=>absurd h h3, fun h=>absurd h4 (h i hi)⟩⟩
theorem zwc (l:List V3):z96 l=true↔(∀ i (h:i+1<l.length),kd (l[i]'(by omega))≤kd l[i+1])∧∀ i (h:i+1<l.length),l[i]'(by omega)≠l[i+1]:=by
 rw [zqb]
 constructor
 ·
  intro h
  refine ⟨fun i hi=>Nat.le_of_lt (h i hi), fun i hi e=>?_⟩
  have:=h i hi
  rw [e] at this; omega
 ·
  rintro ⟨h1,h2⟩ i hi
  have:=h1 i hi
  rcases Nat.lt_or_eq_of_le this with h | h
  ·
   exact h
  ·
   exact absurd (zt0 h) (h2 i hi)
end
section
open Go Go.Shelf Go.RowKit Go.Lib
theorem zwa {P:Program} {k:Nat} (w:World) (dT sT ty elem:TypeId) (g o dLen dCap:Nat) (a:Addr) (sLen sCap:Nat) (cur:Array Value) (t:TypeId) (cs:List Value)
  (hu:P.underlying dT=some (.slice elem)) (hs:(P.info? elem).map (·.size)=some k)
  (hg:w.heap[g]? = some (.cells cur t (0,0))) (hn:cs.length=Nat.min sLen dLen * k)
  (hsrc:∀ j v,cs[j]? = some v→w.cell? (a.add j)=some v) (hfit:o+cs.length≤cur.size) (h1:∀ v∈cs,v.oneCell'=true) :
  (Builtin.copy_ #[dT,sT] ty #[.slice (some ⟨g,o,none⟩) dLen dCap,.slice (some a) sLen sCap]).run P w =
   .ok (goInt (Nat.min sLen dLen)) (w.setRow g (cur.toList.take o++cs++cur.toList.drop (o+cs.length)).toArray):=by
 have hl:=run_firstCells_some (P:=P) w k (Nat.min sLen dLen) a sLen sCap cs hn hsrc
 have hst:=run_storeCells_at P g o t cs 0 cur w hg (by simpa using hfit) h1
 cases hq:P.info? elem with
 | none=>simp [hq] at hs
 | some i =>
  have hi:i.size=k:=by simpa [hq] using hs
  simp [Builtin.copy_,run_underlying hu,Builtin.lenOf,sizeOf,typeInfo,hq,hi,hl,hst]
theorem zxt {P:Program} (w:World) {o:Oper} {a:Act} {K:Act→World→Prop} {Q:Exit→Act→World→Prop} (d s:Operand) (t t':TypeId)
  (ho:o.op=.call { callee:=.builtin .copy,args:=#[d,s],argTypes:=#[t,t'] }) (v u:Value) (hd:a.eval d=v) (hs:a.eval s=u) {v':Value} {w':World}
  (hr:(Builtin.copy_ #[t,t'] o.type #[v,u]).run P w=.ok v' w') (h:K (a.put o.dst v') w'):o.wp P a w K Q:=by
 unfold Oper.wp execOp
 simp only [ho,resolve,invoke,builtin,Sem.run_bind,Sem.run_pure,Result.andThen_ok,List.map_toArray,List.map_cons,List.map_nil,hd,hs,hr]
 exact h
theorem zi2 {P:Program} (w:World) {ops:Array Oper} {rest:List Oper} {o:Oper} {a:Act} {Q:Exit→Act→World→Prop} (hgd:o.guard=none) (d s:Operand) (t t':TypeId)
  (ho:o.op=.call { callee:=.builtin .copy,args:=#[d,s],argTypes:=#[t,t'] }) (v u:Value) (hd:a.eval d=v) (hs:a.eval s=u) {v':Value} {w':World}
  (hr:(Builtin.copy_ #[t,t'] o.type #[v,u]).run P w=.ok v' w') (h:wpList P ops Q rest (a.put o.dst v') w'):wpList P ops Q (o::rest) a w :=
 wpList_plain hgd fun _ hK=>zxt w d s t t' ho v u hd hs hr (hK _ _ h)
theorem zlm {P:Program} {ops:Array Oper} {o:Oper} {a:Act} {w:World} {K:Act→World→Prop} {Q:Exit→Act→World→Prop} {E:Prop}
  (hg:o.guard=none) (d x:Operand) (dT sT:TypeId) (hop:o.op=Op.call { callee:=Callee.builtin Builtin.copy,args:=#[d,x],argTypes:=#[dT,sT] })
  (v u:Value) (hd:a.eval d=v) (hx:a.eval x=u) {v':Value} {w':World} (hr:(Builtin.copy_ #[dT,sT] o.type #[v,u]).run P w=.ok v' w') (hK:K (a.put o.dst v') w') :
  if Region.wanted o (yielded ops a.tmps)=true then Oper.wp P o a w K Q else E:=by
 have hw:Region.wanted o (yielded ops a.tmps)=true:=by simp [Region.wanted,hg]
 rw [if_pos hw]
 unfold Oper.wp
 simp [execOp,hop,resolve,invoke,builtin,hd,hx,hr,Result.andThen]
 exact hK
section
variable (b n c i vb vc:Nat) (xs ys:List Value) (C V:Array Value) (w:World)
theorem zto:TI Tryz.prog 94 (.agg (Array.replicate 32 (.int .u8 0))) 32 32:=z4q
theorem zsj:(Tryz.prog.info? 94).map (·.size)=some 32:=by kernel_rfl
set_option maxHeartbeats 4000000 in
set_option maxRecDepth 100000 in
theorem zt3 (hi:i<n) (hroom:n+1≤c) (hc63:c≤9223372036854775807) (hvb:vb≠b) (hC:w.heap[b]? = some (.cells C 94 (0,0))) (hV:w.heap[vb]? = some (.cells V 94 (0,0)))
  (hCs:C.size=c * 32) (hxs:C.toList.take (n * 32)=xs) (hys:V.toList.take 32=ys) (hyl:ys.length=32) (h1x:∀ v∈xs,v.oneCell'=true) (h1y:∀ v∈ys,v.oneCell'=true) :
  Calls Tryz.prog 95 #[.slice (some ⟨b,0,none⟩) n c,.int .i64 i,.slice (some ⟨vb,0,none⟩) 1 vc] w fun e w' =>
   e=.returned (.slice (some ⟨b,0,none⟩) (n+1) c)∧∃ D,w'=w.drew.setRow b D∧D.size=C.size∧D.toList.take ((n+1) * 32)=xs.take (i * 32)++ys++xs.drop (i * 32):=by
 have hsz:=zsj
 have u22:Tryz.prog.underlying 46=some (.slice 94):=Tryz.underlying46
 have hcc:∀ j v,C.toList[j]? = some v→w.cell? ⟨b,j,none⟩=some v:=fun j v hj=>by
  rw [Array.getElem?_toList] at hj; unfold World.cell?; rw [hC]; exact hj
 have hcv:∀ j v,V.toList[j]? = some v→w.cell? ⟨vb,j,none⟩=some v:=fun j v hj=>by
  rw [Array.getElem?_toList] at hj; unfold World.cell?; rw [hV]; exact hj
 have hxl:xs.length=n * 32:=by rw [← hxs,List.length_take,Array.length_toList]; omega
 have hxg:∀ j v,xs[j]? = some v→C.toList[j]? = some v:=fun j v hj=>by
  rw [← hxs,List.getElem?_take] at hj; split at hj
  ·
   exact hj
  ·
   cases hj
 have hyg:∀ j v,ys[j]? = some v→V.toList[j]? = some v:=fun j v hj=>by
  rw [← hys,List.getElem?_take] at hj; split at hj
  ·
   exact hj
  ·
   cases hj
 have hVs:V.size≠0:=by
  have:ys.length≤V.size:=by rw [← hys,List.length_take,Array.length_toList]; omega
  omega
 have hov:∀ lb cb,(callFunc 122 #[.slice (some ⟨vb,0,none⟩) 1 vc,.slice (some ⟨b,(i+1) * 32,none⟩) lb cb]).run Tryz.prog w=.ok (.value (.bool false)) w:=fun lb cb=>by
  rw [run_callFunc_extern Tryz.func122 (by kernel_rfl) (by kernel_rfl) (by kernel_rfl) (e:=Extern.SlicesOverlaps.overlaps #[46,46] #[4]) (by kernel_rfl),
   Lib.run_overlaps_apart w 46 4 94 u22 32 Tryz.sizeOf94 ⟨vb,0,none⟩ ⟨b,(i+1) * 32,none⟩ 1 vc lb cb hvb 94 94 V.size C.size (by simp [World.shape?,hV]) (by simp [World.shape?,hC]) (by omega) (by simp [World.frozen?,hV]) (by simp [World.frozen?,hV])]
  rfl
 have hdl:(xs.drop (i * 32)).length=(n - i) * 32:=by rw [List.length_drop,hxl,Nat.sub_mul]
 have hmin1:Nat.min (n+1 - i) (n - i)=n - i:=by simp only [Nat.min_def]; split <;> omega
 have hcp1:∀ ty dc sc,(Builtin.copy_ #[46,46] ty #[.slice (some ⟨b,(i+1) * 32,none⟩) (n - i) dc,.slice (some ⟨b,i * 32,none⟩) (n+1 - i) sc]).run Tryz.prog w.drew =
   .ok (goInt ((n - i:Nat):Int)) (w.drew.setRow b (C.toList.take ((i+1) * 32)++xs.drop (i * 32)++C.toList.drop ((i+1) * 32+(xs.drop (i * 32)).length)).toArray):=fun ty dc sc=>by
  have e:=zwa (P:=Tryz.prog) w.drew 46 46 ty 94 b ((i+1) * 32) (n - i) dc ⟨b,i * 32,none⟩ (n+1 - i) sc C 94 (xs.drop (i * 32)) u22 hsz hC (by rw [hmin1,hdl])
   (fun j v hj=>by rw [Addr.add_lit]; exact hcc _ v (hxg _ v (by rwa [List.getElem?_drop] at hj))) (by rw [hdl,hCs]; omega) (fun v hv=>h1x v (List.mem_of_mem_drop hv))
  rw [hmin1] at e; exact e
 obtain ⟨D1,hD1⟩:∃ D1,D1=(C.toList.take ((i+1) * 32)++xs.drop (i * 32)++C.toList.drop ((i+1) * 32+(xs.drop (i * 32)).length)).toArray:=⟨_,rfl⟩
 rw [← hD1] at hcp1
 have hD1s:D1.size=C.size:=by
  rw [hD1]; simp only [List.size_toArray,List.length_append,List.length_take,List.length_drop,Array.length_toList,hxl]; omega
 obtain ⟨W1,hW1⟩:∃ W1,W1=w.drew.setRow b D1:=⟨_,rfl⟩
 have hB1:W1.heap[b]? = some (.cells D1 94 (0,0)):=by rw [hW1]; exact setRow_heap w.drew b C D1 94 (0,0) hC
 have hV1:W1.heap[vb]? = some (.cells V 94 (0,0)):=by rw [hW1,setRow_other w.drew b vb D1 hvb]; exact hV
 obtain ⟨D2,hD2⟩:∃ D2,D2=(D1.toList.take (i * 32)++ys++D1.toList.drop (i * 32+ys.length)).toArray:=⟨_,rfl⟩
 have hcp2:∀ ty dc,(Builtin.copy_ #[46,46] ty #[.slice (some ⟨b,i * 32,none⟩) (n+1 - i) dc,.slice (some ⟨vb,0,none⟩) 1 vc]).run Tryz.prog W1=.ok (goInt 1) (W1.setRow b D2):=fun ty dc=>by
  have hm:Nat.min 1 (n+1 - i)=1:=by simp only [Nat.min_def]; split <;> omega
  have e:=zwa (P:=Tryz.prog) W1 46 46 ty 94 b (i * 32) (n+1 - i) dc ⟨vb,0,none⟩ 1 vc D1 94 ys u22 hsz hB1 (by rw [hm,hyl])
   (fun j v hj=>by
    rw [Addr.add_lit,Nat.zero_add]
    have:=hyg j v hj
    rw [Array.getElem?_toList] at this
    unfold World.cell?; rw [hV1]; exact this) (by rw [hyl,hD1s,hCs]; omega) h1y
  rw [hm,← hD2] at e; exact e
 have hfin:D2.size=C.size∧D2.toList.take ((n+1) * 32)=xs.take (i * 32)++ys++xs.drop (i * 32):=by
  have t1:D1.toList.take (i * 32)=xs.take (i * 32):=by
   rw [hD1,← hxs,List.take_take]
   simp only [List.append_assoc]
   rw [List.take_append_of_le_length (by rw [List.length_take,Array.length_toList]; omega),List.take_take]
   congr 1; omega
  have t2:(D1.toList.drop ((i+1) * 32)).take ((n - i) * 32)=xs.drop (i * 32):=by
   have el:(C.toList.take ((i+1) * 32)).length=(i+1) * 32:=by rw [List.length_take,Array.length_toList]; omega
   rw [hD1]
   simp only [List.append_assoc]
   rw [List.drop_append,el,Nat.sub_self,List.drop_zero,List.drop_eq_nil_of_le (by rw [el]; omega),List.nil_append,List.take_append_of_le_length (by rw [hdl]; omega),List.take_of_length_le (by rw [hdl]; omega)]
  constructor
  ·
   rw [hD2]; simp only [List.size_toArray,List.length_append,List.length_take,List.length_drop,Array.length_toList,hyl]; omega
  ·
   rw [hD2]
   simp only [List.append_assoc]
   have el:(D1.toList.take (i * 32)).length=i * 32:=by rw [List.length_take,Array.length_toList]; omega
   rw [List.take_append,el,List.take_of_length_le (by rw [el]; omega),List.take_append,hyl,List.take_of_length_le (l:=ys) (by rw [hyl]; omega),t1,
    show i * 32+32=(i+1) * 32 by omega, show (n+1) * 32 - i * 32 - 32=(n - i) * 32 by omega,t2]
 have hz1:¬ ((1:Int)=0):=by decide
 have hz2:¬ ((i:Int)=(n:Int)):=by omega
 have hw1:IntKind.i64.wrap ((i:Int)+1)=(i:Int)+1:=by rw [IntKind.wrap_i64]; omega
 have hb1:(0:Int)≤(i:Int)+1:=by omega
 have hin:i≤n:=by omega
 have htn:((i:Int)+1).toNat=i+1:=by omega
 have hb2:¬ (c=i+1):=by omega
 have hb3:(i:Int)≤(n:Int)+1:=by omega
 have hb4:¬ (c=i):=by omega
 subst hW1
 clear hcc hcv hxg hyg hD1 hD2 hxs hys hC hV hB1 hV1 h1x h1y hdl hmin1 hxl hyl
 go_enter Tryz.func95,Tryz.ntmps95
 go_wp2_with (simp only [hov])
 go_region_law (refine zlm rfl _ _ 46 46 rfl (.slice (some ⟨b,(i+1) * 32,none⟩) (n - i) (c - (i+1))) (.slice (some ⟨b,i * 32,none⟩) (n+1 - i) (c - i)) (by simp [Act.eval,Act.put]) (by simp [Act.eval,Act.put]) (hcp1 3 (c - (i+1)) (c - i)) ?_)
 go_wp2_with (at_builtin; refine zi2 _ rfl _ _ 46 46 rfl _ _ rfl rfl (hcp2 _ _) ?_)
 go_ret
 exact ⟨rfl,D2, by rw [setRow_setRow],hfin⟩
set_option maxHeartbeats 4000000 in
set_option maxRecDepth 100000 in
theorem zx3 (hi:i<n) (hnc:n≤c) (hroom:c<n+1) (hn:n≤1000000) (hvb:vb≠b) (hC:w.heap[b]? = some (.cells C 94 (0,0))) (hV:w.heap[vb]? = some (.cells V 94 (0,0)))
  (hCs:C.size=c * 32) (hxs:C.toList.take (n * 32)=xs) (hys:V.toList.take 32=ys) (hyl:ys.length=32) (h1x:∀ v∈xs,v.oneCell'=true) (h1y:∀ v∈ys,v.oneCell'=true) :
  Calls Tryz.prog 95 #[.slice (some ⟨b,0,none⟩) n c,.int .i64 i,.slice (some ⟨vb,0,none⟩) 1 vc] w fun e w' =>
   ∃ G,e=.returned (.slice (some ⟨w.heap.size,0,none⟩) (n+1) G)∧n+1≤G∧G≤maxLen∧∃ D,w'.heap[w.heap.size]? = some (.cells D 94 (0,0))∧w.grownBy w' none∧D.size=G * 32∧D.toList.take ((n+1) * 32)=xs.take (i * 32)++ys++xs.drop (i * 32):=by
 have hsz:=zsj
 have u22:Tryz.prog.underlying 46=some (.slice 94):=Tryz.underlying46
 have u3:Tryz.prog.underlying 3=some (.int .i64):=Tryz.underlying3
 have hcn:c=n:=by omega
 subst hcn
 have hcc:∀ j v,C.toList[j]? = some v→w.cell? ⟨b,j,none⟩=some v:=fun j v hj=>by
  rw [Array.getElem?_toList] at hj; unfold World.cell?; rw [hC]; exact hj
 have hxl:xs.length=c * 32:=by rw [← hxs,List.length_take,Array.length_toList]; omega
 have hxg:∀ j v,xs[j]? = some v→C.toList[j]? = some v:=fun j v hj=>by
  rw [← hxs,List.getElem?_take] at hj; split at hj
  ·
   exact hj
  ·
   cases hj
 have hyg:∀ j v,ys[j]? = some v→V.toList[j]? = some v:=fun j v hj=>by
  rw [← hys,List.getElem?_take] at hj; split at hj
  ·
   exact hj
  ·
   cases hj
 have hbw:b<w.heap.size:=(Array.getElem?_eq_some_iff.1 hC).1
 have hvw:vb<w.heap.size:=(Array.getElem?_eq_some_iff.1 hV).1
 have hkk:(c:Int)+1 - (i:Int)=((c+1 - i:Nat):Int):=by omega
 obtain ⟨i0,hi0,hz0,hzs,hzb⟩:=zto
 have hold:(Builtin.firstCells i0.size i (.slice (some ⟨b,0,none⟩) i c)).run Tryz.prog w.drew=.ok (xs.take (i * 32)).toArray w.drew:=by
  rw [hzs]
  exact run_firstCells_some w.drew 32 i ⟨b,0,none⟩ i c (xs.take (i * 32)) (by rw [List.length_take]; omega) (fun j v hj=>by
   rw [Addr.add_lit,Nat.zero_add]
   rw [List.getElem?_take] at hj
   split at hj
   ·
    exact hcc j v (hxg j v hj)
   ·
    cases hj)
 obtain ⟨G,hG⟩:∃ G,G=grownCap w (c+1) c 94:=⟨_,rfl⟩
 obtain ⟨ROW,hROW⟩:∃ ROW:Array Value,ROW=(xs.take (i * 32)).toArray++Builtin.zeroCells (Array.replicate 32 (.int .u8 0)) (c+1 - i)++Builtin.zeroCells (Array.replicate 32 (.int .u8 0)) (G - (c+1)):=⟨_,rfl⟩
 have hrz:∀ ty,(Builtin.append_ #[46,3] ty #[.slice (some ⟨b,0,none⟩) i c,.int .i64 ((c:Int)+1 - (i:Int))]).run Tryz.prog w =
   .ok (.slice (some ⟨w.heap.size,0,none⟩) (c+1) G) (w.drew.alloc (.cells ROW 94)):=fun ty=>by
  have h:=Lib.run_append_grow_zeros w 46 3 ty 94 i0 _ .i64 .i64 u22 u3 hi0 hz0 (some ⟨b,0,none⟩) i c (xs.take (i * 32)) hold (c+1 - i) (by omega) (by omega) (by omega) (by omega) (by rw [hzb]; omega) (by rw [hzb, show i+(c+1 - i)=c+1 by omega]; exact growslice_fits (by omega) (by omega))
  rw [show i+(c+1 - i)=c+1 by omega] at h
  rw [hkk,hROW,hG]
  exact h
 have hGn:c+1≤G:=by rw [hG]; exact grownCap_ge w _ _ _
 have hGm:G≤maxLen:=by rw [hG]; exact grownCap_le_maxLen w (c+1) c 94 (by unfold maxLen; omega)
 have hG63:G≤9223372036854775807:=by unfold maxLen at hGm; omega
 have hRs:ROW.size=G * 32:=by
  rw [hROW]; simp only [Array.size_append,List.size_toArray,List.length_take,size_zeroCells,Array.size_replicate,hxl]; omega
 have hRt:ROW.toList.take (i * 32)=xs.take (i * 32):=by
  rw [hROW]; simp only [Array.toList_append,List.append_assoc]
  rw [List.take_append_of_le_length (by rw [List.length_take]; omega),List.take_take]; congr 1; omega
 obtain ⟨D1,hD1⟩:∃ D1,D1=(ROW.toList.take (i * 32)++ys++ROW.toList.drop (i * 32+ys.length)).toArray:=⟨_,rfl⟩
 have hD1s:D1.size=G * 32:=by
  rw [hD1]; simp only [List.size_toArray,List.length_append,List.length_take,List.length_drop,Array.length_toList,hyl]; omega
 obtain ⟨D2,hD2⟩:∃ D2,D2=(D1.toList.take ((i+1) * 32)++xs.drop (i * 32)++D1.toList.drop ((i+1) * 32+(xs.drop (i * 32)).length)).toArray:=⟨_,rfl⟩
 have hdl:(xs.drop (i * 32)).length=(c - i) * 32:=by rw [List.length_drop,hxl,Nat.sub_mul]
 have hD2s:D2.size=G * 32:=by
  rw [hD2]; simp only [List.size_toArray,List.length_append,List.length_take,List.length_drop,Array.length_toList,hxl]; omega
 have hfin:D2.toList.take ((c+1) * 32)=xs.take (i * 32)++ys++xs.drop (i * 32):=by
  have e1:(ROW.toList.take (i * 32)).length=i * 32:=by rw [List.length_take,Array.length_toList]; omega
  have e2:D1.toList.take ((i+1) * 32)=xs.take (i * 32)++ys:=by
   rw [hD1]; simp only [List.append_assoc]
   rw [List.take_append,e1,List.take_of_length_le (by rw [e1]; omega),List.take_append_of_le_length (by rw [hyl]; omega),List.take_of_length_le (l:=ys) (by rw [hyl]; omega),hRt]
  have e3:(D1.toList.take ((i+1) * 32)).length=(i+1) * 32:=by rw [List.length_take,Array.length_toList]; omega
  rw [hD2]; simp only [List.append_assoc]
  rw [List.take_append,e3,List.take_of_length_le (by rw [e3]; omega),List.take_append_of_le_length (by rw [hdl]; omega),List.take_of_length_le (l:=xs.drop (i * 32)) (by rw [hdl]; omega),e2,List.append_assoc]
 have hcpA:∀ (W:World),W.heap=w.heap.push (.cells ROW 94)→∀ ty dc,(Builtin.copy_ #[46,46] ty #[.slice (some ⟨w.heap.size,i * 32,none⟩) (c+1 - i) dc,.slice (some ⟨vb,0,none⟩) 1 vc]).run Tryz.prog W=.ok (goInt 1) (W.setRow w.heap.size D1):=fun W hW ty dc=>by
  have hm:Nat.min 1 (c+1 - i)=1:=by simp only [Nat.min_def]; split <;> omega
  have hN:W.heap[w.heap.size]? = some (.cells ROW 94 (0,0)):=by rw [hW,Array.getElem?_push_size]
  have hV1:W.heap[vb]? = some (.cells V 94 (0,0)):=by rw [hW,Array.getElem?_push_lt hvw]; rw [← hV,Array.getElem?_eq_getElem hvw]
  have e:=zwa (P:=Tryz.prog) W 46 46 ty 94 w.heap.size (i * 32) (c+1 - i) dc ⟨vb,0,none⟩ 1 vc ROW 94 ys u22 hsz hN (by rw [hm,hyl])
   (fun j v hj=>by
    rw [Addr.add_lit,Nat.zero_add]
    have:=hyg j v hj
    rw [Array.getElem?_toList] at this
    unfold World.cell?; rw [hV1]; exact this) (by rw [hyl,hRs]; omega) h1y
  rw [hm,← hD1] at e; exact e
 have hcpB:∀ (W W0:World),W0.heap=w.heap.push (.cells ROW 94)→W.heap=(W0.setRow w.heap.size D1).heap→∀ ty dc sc,(Builtin.copy_ #[46,46] ty #[.slice (some ⟨w.heap.size,(i+1) * 32,none⟩) (c - i) dc,.slice (some ⟨b,i * 32,none⟩) (c - i) sc]).run Tryz.prog W=.ok (goInt ((c - i:Nat):Int)) (W.setRow w.heap.size D2):=fun W W0 hW0 hW ty dc sc=>by
  have hm:Nat.min (c - i) (c - i)=c - i:=Nat.min_self _
  have hN:W.heap[w.heap.size]? = some (.cells D1 94 (0,0)):=by rw [hW]; exact setRow_heap W0 w.heap.size ROW D1 94 (0,0) (by rw [hW0,Array.getElem?_push_size])
  have hB1:W.heap[b]? = some (.cells C 94 (0,0)):=by
   rw [hW,setRow_other W0 w.heap.size b D1 (by omega),hW0,Array.getElem?_push_lt hbw,← hC,Array.getElem?_eq_getElem hbw]
  have e:=zwa (P:=Tryz.prog) W 46 46 ty 94 w.heap.size ((i+1) * 32) (c - i) dc ⟨b,i * 32,none⟩ (c - i) sc D1 94 (xs.drop (i * 32)) u22 hsz hN (by rw [hm,hdl])
   (fun j v hj=>by
    rw [Addr.add_lit]
    have:=hxg _ v (by rwa [List.getElem?_drop] at hj)
    rw [Array.getElem?_toList] at this
    unfold World.cell?; rw [hB1]; exact this) (by rw [hdl,hD1s]; omega) (fun v hv=>h1x v (List.mem_of_mem_drop hv))
  rw [hm,← hD2] at e; exact e
 have hz1:¬ ((1:Int)=0):=by decide
 have hz2:¬ ((i:Int)=(c:Int)):=by omega
 have hz3:(c:Int)<(c:Int)+1:=by omega
 have hw1:IntKind.i64.wrap ((i:Int)+1)=(i:Int)+1:=by rw [IntKind.wrap_i64]; omega
 have hb1:(0:Int)≤(i:Int)+1:=by omega
 have hin:i≤c:=by omega
 have htn:((i:Int)+1).toNat=i+1:=by omega
 have hGi:¬ (G=i):=by omega
 have hGim:¬ (G=i+1):=by omega
 have hci:¬ (c=i):=by omega
 have hb3:(i:Int)≤(c:Int):=by omega
 have hE1:((w.alloc (.cells ROW 94)).drew).heap=w.heap.push (.cells ROW 94):=rfl
 have hF1:(((w.alloc (.cells ROW 94)).drew.setRow w.heap.size D1).drew).heap=(((w.alloc (.cells ROW 94)).drew).setRow w.heap.size D1).heap:=rfl
 clear hROW hold hG hRt hD1 hD2 hxs hys hC hV h1x h1y hdl hxl hyl hcc hxg hyg hi0 hz0 hzs hzb hkk hnc hroom
 go_enter Tryz.func95,Tryz.ntmps95
 go_wp2_with (first
  | (at_builtin; refine Lib.wpList_append_run _ rfl _ _ _ _ rfl _ _ rfl rfl _ _ (hrz _) ?_)
  | (at_builtin; refine zi2 _ rfl _ _ 46 46 rfl _ _ rfl rfl (hcpA _ hE1 _ _) ?_))
 go_region_law (refine zlm rfl _ _ 46 46 rfl (.slice (some ⟨w.heap.size,(i+1) * 32,none⟩) (c - i) (G - (i+1))) (.slice (some ⟨b,i * 32,none⟩) (c - i) (c - i)) (by simp [Act.eval,Act.put]) (by simp [Act.eval,Act.put]) (hcpB _ _ hE1 hF1 3 (G - (i+1)) (c - i)) ?_)
 go_wp2
 go_ret
 refine ⟨G,rfl,hGn,hGm,D2,?_,⟨rfl,rfl,rfl,?_, fun k hk _=>?_⟩,hD2s,hfin⟩
 ·
  exact setRow_heap _ w.heap.size D1 D2 94 (0,0) (setRow_heap ((w.alloc (.cells ROW 94)).drew) w.heap.size ROW D1 94 (0,0) (by rw [hE1,Array.getElem?_push_size]))
 ·
  rw [setRow_size]; show _≤((w.alloc (.cells ROW 94)).drew.setRow w.heap.size D1).heap.size; rw [setRow_size,hE1,Array.size_push]; omega
 ·
  rw [setRow_other _ w.heap.size k D2 (by omega)]; show ((w.alloc (.cells ROW 94)).drew.setRow w.heap.size D1).heap[k]? = _
  rw [setRow_other _ w.heap.size k D1 (by omega),hE1,Array.getElem?_push_lt hk,Array.getElem?_eq_getElem hk]
set_option maxHeartbeats 4000000 in
set_option maxRecDepth 100000 in
theorem zzm (p0 p1:Value) (h0:w.ownsRow 0 94 32 p0 n xs) (h1:w.ownsRow 0 94 32 p1 1 ys) (hn:n≤1000000) (h1y:∀ v∈ys,v.oneCell'=true) :
  Calls Tryz.prog 95 #[p0,.int .i64 n,p1] w fun e w'=>∃ v',e=.returned v'∧w'.ownsRow 0 94 32 v' (n+1) (xs++ys)∧w.grownBy w' p0.ownBlock∧∀ b,v'.ownBlock=some b→p0.ownBlock=some b∨w.heap.size≤b:=by
 have u22:Tryz.prog.underlying 46=some (.slice 94):=Tryz.underlying46
 obtain ⟨p,c,rfl⟩:=z3m h0
 obtain ⟨q,d,rfl⟩:=z3m h1
 obtain ⟨p',c',w',hrun,ho,hg,hs⟩:=zgh (P:=Tryz.prog) (rt:=46) (w:=w) u22 zto (by simp [Value.cells]) (by decide) h0 (Rd.of_own h1) h1y (by omega) (by omega) (Nat.zero_le _)
 have hz1:¬ ((1:Int)=0):=by decide
 have hnc:n≤c:=by
  rcases h0.2 with ⟨e,rfl⟩ | ⟨g,cap,cur,e,_,_,h,_⟩
  ·
   omega
  ·
   simp only [Value.slice.injEq] at e; omega
 have hc63:c≤9223372036854775807:=by
  rcases h0.2 with ⟨e,rfl⟩ | ⟨g,cap,cur,e,_,_,_,h,_⟩
  ·
   simp only [Value.slice.injEq] at e; omega
  ·
   simp only [Value.slice.injEq] at e; unfold maxLen at h; omega
 have hin:n≤n:=Nat.le_refl _
 have hp0:p=none→n=0∧c=0:=fun e=>by
  rcases h0.2 with ⟨e',rfl⟩ | ⟨g,cap,cur,e',_⟩
  ·
   simp only [Value.slice.injEq] at e'; omega
  ·
   rw [e] at e'; simp at e'
 clear h0 h1 h1y
 go_enter Tryz.func95,Tryz.ntmps95
 cases p with
 | none =>
  obtain ⟨rfl,rfl⟩:=hp0 rfl
  clear hp0
  go_wp2_with (at_builtin; refine Lib.wpList_append_run _ rfl _ _ _ _ rfl _ _ rfl rfl _ _ hrun ?_)
  go_ret
  exact ⟨_,rfl,ho,hg,hs⟩
 | some a =>
  clear hp0
  obtain ⟨ab,ao,asp⟩:=a
  go_wp2_with (at_builtin; refine Lib.wpList_append_run _ rfl _ _ _ _ rfl _ _ rfl rfl _ _ hrun ?_)
  all_goals (go_ret; exact ⟨_,rfl,ho,hg,hs⟩)
end
end
section
open Go Go.RowKit
theorem relB {S S':Blk} {w w':World}:∀ {l:List UInt8} {cs:List Value},z5s u8R S w cs l→z5s u8R S' w' cs l
 | [],cs,h=>h
 | x::l,cs,h=>by
  obtain ⟨c,d,rfl,h1,h2⟩:=h
  exact ⟨c,d,rfl,h1,relB h2⟩
theorem relD {S S':Blk} {w w':World}:∀ {l:List V3} {cs:List Value},z5s (z34 32 u8R) S w cs l→z5s (z34 32 u8R) S' w' cs l
 | [],cs,h=>h
 | x::l,cs,h=>by
  obtain ⟨c,d,rfl,h1,h2⟩:=h
  exact ⟨c,d,rfl,relB h1,relD h2⟩
def insF (c0:List V3) (i:Int) (c1:List V3):Option (List V3) :=
 chk (0≤i∧i.toNat≤c0.length∧c0.length≤1000000∧c1.length=1) >>= fun _=>some (c0.take i.toNat++c1++c0.drop i.toNat)
theorem zzb (p0 p1:Value) (n i:Nat) (xs ys:List Value) (w:World) (hi:i≤n) (h0:w.ownsRow 0 94 32 p0 n xs) (h1:w.ownsRow 0 94 32 p1 1 ys) (hsep:∀ b,p0.ownBlock=some b→p1.ownBlock≠some b) (hn:n≤1000000)
  (h1x:∀ v∈xs,v.oneCell'=true) (h1y:∀ v∈ys,v.oneCell'=true) :
  Calls Tryz.prog 95 #[p0,.int .i64 i,p1] w fun e w'=>∃ v',e=.returned v'∧w'.ownsRow 0 94 32 v' (n+1) (xs.take (i * 32)++ys++xs.drop (i * 32))∧w.grownBy w' p0.ownBlock∧∀ b,v'.ownBlock=some b→p0.ownBlock=some b∨w.heap.size≤b:=by
 have hxl:=h0.1
 by_cases hin:i=n
 ·
  subst hin
  refine (zzm i xs ys w p0 p1 h0 h1 hn h1y).mono fun e w' ⟨v',a,b,c,d⟩=>⟨v',a,?_,c,d⟩
  rw [List.take_of_length_le (by omega),List.drop_eq_nil_of_le (by omega),List.append_nil]
  exact b
 ·
  rcases h0.2 with ⟨rfl,rfl⟩ | ⟨b,c,C,rfl,-,hC,hnc,hcm,hCs,hxs⟩
  ·
   omega
  rcases h1.2 with ⟨rfl,e⟩ | ⟨vb,vc,V,rfl,-,hV,-,-,hVs,hys⟩
  ·
   omega
  have hvb:vb≠b:=fun e=>hsep b rfl (by rw [e]; rfl)
  have hyl:ys.length=32:=by have:=h1.1; omega
  have hlen:(xs.take (i * 32)++ys++xs.drop (i * 32)).length=(n+1) * 32:=by
   simp only [List.length_append,List.length_take,List.length_drop,hyl]; omega
  by_cases hroom:n+1≤c
  ·
   refine (zt3 b n c i vb vc xs ys C V w (by omega) hroom (by unfold maxLen at hcm; omega) hvb hC hV hCs hxs (by simpa using hys) hyl h1x h1y).mono fun e w' ⟨a,D,a2,a3,a4⟩=>⟨_,a,?_,?_, fun b' hb'=>.inl hb'⟩
   ·
    refine ⟨hlen,.inr ⟨b,c,D,rfl,Nat.zero_le _,?_,hroom,hcm,a3.trans hCs,a4⟩⟩
    rw [a2]; exact setRow_heap w.drew b C D 94 (0,0) hC
   ·
    rw [a2]
    refine ⟨rfl,rfl,rfl,?_, fun k hk hne=>?_⟩
    ·
     rw [setRow_size]; exact Nat.le_refl _
    ·
     rw [setRow_other w.drew b k D (fun e=>hne (by rw [e]; rfl))]; rfl
  ·
   refine (zx3 b n c i vb vc xs ys C V w (by omega) hnc (by omega) hn hvb hC hV hCs hxs (by simpa using hys) hyl h1x h1y).mono fun e w' ⟨G,a,g1,g2,D,a1,a2,a3,a4⟩=>⟨_,a,?_,?_, fun b' hb'=>.inr ?_⟩
   ·
    exact ⟨hlen,.inr ⟨w.heap.size,G,D,rfl,Nat.zero_le _,a1,g1,g2,a3,a4⟩⟩
   ·
    exact ⟨a2.os,a2.tape,a2.output,a2.size, fun k hk _=>a2.block k hk (by simp)⟩
   ·
    simp only [Value.ownBlock,Option.some.injEq] at hb'; omega
theorem zzv (p0 p1:Value) (c0 c1:List V3) (i:Int):z1u Tryz.prog 95 [.val p0,.rd z0a i,.val p1] [(1,some (p0,.list (z34 32 u8R) 94 c0)),(2,some (p1,.list (z34 32 u8R) 94 c1))] (insF c0 i c1)
  (fun r nv=>⟨[.val (nv 0)],[(100,some (nv 0,.list (z34 32 u8R) 94 r))]⟩):=by
 intro r hr H vs w hvs hres
 have hb:(0≤i∧i.toNat≤c0.length∧c0.length≤1000000∧c1.length=1)∧r=c0.take i.toNat++c1++c0.drop i.toNat:=by
  unfold insF chk at hr
  split at hr
  ·
   rename_i h; simp at hr; exact ⟨h, by rw [← hr,List.append_assoc]⟩
  ·
   simp at hr
 obtain ⟨⟨hi0,hi1,hn,hc1⟩,rfl⟩:=hb
 match vs,hvs with
 | [v0,v1,v2],hvs =>
 obtain ⟨h0,h1,h2,_⟩:=hvs
 have e0:v0=p0:=h0.1
 have e2:v2=p1:=h2.1
 have e1:v1=.int .i64 i:=z3q h1
 subst e0; subst e2; subst e1
 obtain ⟨j,rfl⟩:∃ j:Nat,i=(j:Int):=⟨i.toNat, by omega⟩
 simp only [Int.toNat_natCast] at hi1 ⊢
 obtain ⟨xs,x1,x2⟩:=z7f (hres.conts 1 v0 _ rfl)
 obtain ⟨ys,y1,y2⟩:=z7f (hres.conts 2 v2 _ rfl)
 rw [hc1] at y1
 have hsep:∀ b,v0.ownBlock=some b→v2.ownBlock≠some b:=fun b hb hb2=>by
  obtain ⟨p,c,rfl⟩:=z3m x1
  obtain ⟨q,d,rfl⟩:=z3m y1
  exact hres.excl 1 _ _ 2 _ _ rfl rfl (by decide) b (by rw [z84]; exact hb) (by rw [z84]; exact hb2)
 refine (zzb v0 v2 c0.length j xs ys w hi1 x1 y1 hsep hn x2.one y2.one).mono fun e w' ⟨v',he,hw,hg,hs⟩=>?_
 have only:∀ r v c (q:z3y),lr [(100,some (v',q))] r=some (v,c)→r=100∧v=v'∧c=q:=fun r v c q h=>by
  rw [z14] at h
  split at h
  ·
   rename_i e; cases h; exact ⟨e.symm,rfl,rfl⟩
  ·
   simp [lr,lk] at h
 have hlen:(c0.take j++c1++c0.drop j).length=c0.length+1:=by
  simp only [List.length_append,List.length_take,List.length_drop,hc1]; omega
 obtain ⟨p',c',rfl⟩:=z3m hw
 refine ⟨fun _=>.slice p' (c0.length+1) c',[.slice p' (c0.length+1) c'],he,⟨⟨rfl,rfl⟩,trivial⟩, fun r v c h=>?_, fun r v c r' v2' c2' h h' hne=>?_, fun r v c h b hb=>?_,hg.os,hg.tape,hg.output,hg.size, fun k hk=>?_⟩
 ·
  obtain ⟨rfl,rfl,rfl⟩:=only _ _ _ _ h
  refine zjw (B:=0) (xs:=xs.take (j * 32)++ys++xs.drop (j * 32)) (by rw [hlen]; exact hw) ?_
  exact ((relD (x2.take j)).append (relD y2)).append (relD (x2.drop j))
 ·
  exact absurd ((only _ _ _ _ h).1.trans (only _ _ _ _ h').1.symm) hne
 ·
  obtain ⟨rfl,rfl,rfl⟩:=only _ _ _ _ h
  rw [z84] at hb
  rcases hs b hb with h | h
  ·
   exact .inr ⟨1,_,_,rfl, by obtain ⟨p,c,rfl⟩:=z3m x1; rw [z84]; exact h⟩
  ·
   exact .inl h
 ·
  refine hg.block k hk.1 fun e=>hk.2 ⟨1,_,_,rfl,?_⟩
  obtain ⟨p,c,rfl⟩:=z3m x1; rw [z84]; exact e.symm
end
end Go.Proofs.YthimiiphpckifaaGreatDoor
