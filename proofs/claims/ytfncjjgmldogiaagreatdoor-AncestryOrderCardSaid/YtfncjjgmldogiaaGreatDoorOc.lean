import Derived.Test.YtfncjjgmldogiaaGreatDoorOb
set_option linter.unusedSimpArgs false
set_option linter.unusedVariables false
namespace Go.Proofs.YtfncjjgmldogiaaGreatDoor
section
open Go Go.RowKit
set_option maxRecDepth 100000
theorem zch (a1:Int):z1u Tryz.prog 119 [.val (.slice none 0 0),.rd z07 a1] [] (z3d a1) (fun r nv=>⟨[.val (nv 0)],[(100,some (nv 0,.list u8R 5 r))]⟩):=by
 refine z2m 27 Tryz.func119 Z Z Z fun H w=>?_
 refine gSR<|Zb Z<|z0w<|gSR<|Zm Z<|Zq (I.lss Z Z)<|Zj Z (fun h1=>?_) (fun h1=>?_)
 ·
  refine z129
 ·
  refine Zt<|z0w<|gSR<|Zm Z<|Zm Z<|Zq (capN Z Z tu89)<|Zm Z<|zyb u8R 11 Z<|Zq (z3q Z .rd Z tu89)<|Zq (I.sub Z Z)<|Zq (I.sub Z Z)<|Za Z<|z1z 1 Z fun y2=>Zn<|gSR<|Zm Z<|Zq (I.gtr Z Z)<|Zj Z (fun h3=>?_) (fun h3=>?_)
  ·
   refine z2o<|Zm Z<|Zm Z<|Zq (capN Z Z tu89)<|Zq (cutN Z Z tu89 ti5)<|Zm Z<|z0u fun x4 h5=>Ef Z (apZ 1 Z Z h5 tu89 tu3 ti5 (Zr.num Z) Z) fun v6=>Zm Z<|zyb u8R 23 Z<|Zq (z3q Z .rd Z tu89)<|z0u fun x7 h8=>Ef Z (cutO 1 Z Z Z h8 tu89 ti5) fun v9=>Zb Z<|gSR<|Zm Z<|Zb Z<|z0m<|Ze [v9] [1] Z
  ·
   refine Zt<|gSR<|Zm Z<|Zb Z<|z0m<|zpm u8R 5 2<|Ze [(.slice none 0 0)] [2] Z
def z0r (a0:List (List UInt8)) (s2:Int × Int):Option (Sum Int (Int × Int)) :=
 if decide (s2.2<(a0.length:Int)) then
  idx a0 s2.2 >>= fun x4 =>
  some (w64 (s2.1+(x4.length:Int))) >>= fun y6 =>
  if decide (y6<0) then
   none
  else
   some (.inr (y6,w64 (s2.2+1)))
 else
  some (.inl s2.1)
def z0s (a0:List (List UInt8)) (s11:(List UInt8) × Int):Option (Sum ((List UInt8)) ((List UInt8) × Int)) :=
 if decide (s11.2<(a0.length:Int)) then
  idx a0 s11.2 >>= fun x14 =>
  app 1 s11.1 x14 >>= fun x16 =>
  some (.inr (x16,w64 (s11.2+1)))
 else
  some (.inl s11.1)
def z1p (a0:List (List UInt8)):Option ((List UInt8)) :=
 (iter (z0r a0) (0,0)) >>= fun s1 =>
 z3d s1 >>= fun r8 =>
 (iter (z0s a0) (r8,0)) >>= fun s10 =>
 some s10
theorem z54 (a0:List (List UInt8)):z1u Tryz.prog 79 [.rd (z02 (z02 u8R)) a0] [] (z1p a0) (fun r nv=>⟨[.val (nv 0)],[(100,some (nv 0,.list u8R 5 r))]⟩):=by
 refine z2m 36 Tryz.func79 Z Z Z fun H w=>?_
 refine gSR<|Zb Z<|gSR<|Zb Z<|z7m (fun (s1:Int) aa ww=>Sta (ctx 36 H [] w) [(0,.rd (z02 (z02 u8R)) a0),(3,.rd z07 s1)] [] aa ww) ?_ (fun s1=>?_)
 ·
  refine gSR<|Zm Z<|Zq (z3q Z .rd Z tu124)<|Zm Z<|Zn<|z2b (fun (s2:Int × Int) aa ww=>Sta (ctx 36 H [] w) [(0,.rd (z02 (z02 u8R)) a0),(3,.rd z07 s2.1),(9,.rd (z02 (z02 u8R)) a0),(10,.rd z07 (a0.length:Int)),(11,.rd z07 s2.2)] [] aa ww) (fun aa ww h=>Zu h []) (fun s2=>?_)
  refine gSR<|Zq (I.lss Z Z)<|Zn<|z0w<|gIf Z Z (fun h3=>?_) (fun h3=>?_)
  ·
   refine Zt<|z0w<|z58<|gSR<|z0u fun x4 h5=>Zq (ixR Z Z h5 tu124 zqg Z)<|Zq (ldR Z ty89)<|Zb Z<|gSR<|Zm Z<|Zm Z<|Zq (z3q Z .rd Z tu89)<|Zq (I.add Z Z)<|Za Z<|z1z 3 Z fun y6=>Zn<|gSR<|Zm Z<|Zq (I.lss Z Z)<|Zj Z (fun h7=>?_) (fun h7=>?_)
   ·
    refine z129
   ·
    refine z3a<|z3h<|z0n<|z2o<|Zq (I.add Z Z)<|Zm Z<|z23<|z1l (fun aa ww h=>Zu h [])
  ·
   refine z24<|z14<|z13<|z3s (fun aa ww h=>Zu h [])
 ·
  refine gSR<|Zm Z<|Zc [] [(100,1)] Tryz.func119 Z (zch _) fun r8 n9=>Zb Z<|z7m (fun (s10:(List UInt8)) aa ww=>∃ nv:Nat→Value,Sta (ctx 36 H [] w) [(6,.val (nv 0))] [(1,some ((nv 0),.list u8R 5 s10))] aa ww) ?_ (fun s10=>?_)
  ·
   refine gSR<|Zm Z<|Zq (z3q Z .rd Z tu124)<|Zm Z<|Zn<|z2b (fun (s11:(List UInt8) × Int) aa ww=>∃ nv:Nat→Value,Sta (ctx 36 H [] w) [(6,.val (nv 0)),(25,.rd (z02 (z02 u8R)) a0),(26,.rd z07 (a0.length:Int)),(27,.rd z07 s11.2)] [(1,some ((nv 0),.list u8R 5 s11.1))] aa ww) (fun aa ww h=>⟨nvl [(n9 0)],Zu h [1]⟩) (fun s11=>?_)
   refine gEx fun n12=>gSR<|Zq (I.lss Z Z)<|Zn<|z0w<|gIf Z Z (fun h13=>?_) (fun h13=>?_)
   ·
    refine Zt<|z0w<|z58<|gSR<|z0u fun x14 h15=>Zq (ixR Z Z h15 tu124 zqg Z)<|Zq (ldR Z ty89)<|Zb Z<|z2o<|Zm Z<|Zm Z<|z0u fun x16 h17=>Ef Z (apn 1 Z Z Z .rd h17 tu89 ti5 Z Z Z) fun v18=>Za Z<|z23<|z3h<|z0n<|z2o<|Zq (I.add Z Z)<|Zm Z<|z23<|z1l (fun aa ww h=>⟨nvl [v18],Zu h [1]⟩)
   ·
    refine z24<|z14<|z13<|z3s (fun aa ww h=>⟨nvl [(n12 0)],Zu h [1]⟩)
  ·
   refine gEx fun n19=>gSR<|Zm Z<|Zb Z<|z0m<|Ze [(n19 0)] [1] Z
def zao (a0:List UInt8):Option ((List UInt8) × Int) :=
 if decide (10000<(a0.length:Int)) then
  some ([],4)
 else
  z5x (UInt64.ofInt (a0.length:Int)) >>= fun r2 =>
  app 1 r2 a0 >>= fun x4 =>
  some (x4,0)
theorem zgp (a0:List UInt8):z1u Tryz.prog 81 [.rd (z02 u8R) a0] [] (zao a0) (fun r nv=>⟨[.val (nv 0),.rd z07 r.2],[(100,some (nv 0,.list u8R 5 r.1))]⟩):=by
 refine z2m 13 Tryz.func81 Z Z Z fun H w=>?_
 refine gSR<|Za Z<|Zb Z<|z0w<|gSR<|Zm Z<|Zq (z3q Z .rd Z tu89)<|Zq (I.gtr Z Z)<|Zj Z (fun h1=>?_) (fun h1=>?_)
 ·
  refine gSR<|Za Z<|Zb Z<|z0m<|z10<|zpm u8R 5 1<|Ze [(.slice none 0 0)] [1] Z
 ·
  refine Zt<|gSR<|Zm Z<|Zq (z3q Z .rd Z tu89)<|Zq (I.toU Z tu3 tu38)<|Zc [] [(100,2)] Tryz.func80 Z (z5w _) fun r2 n3=>Zm Z<|z0u fun x4 h5=>Ef Z (apn 2 Z Z Z .rd h5 tu89 ti5 Z Z Z) fun v6=>Za Z<|Zb Z<|z0m<|Ze [v6] [2] Z
def zcn (a0:Int):Option ((List UInt8)) :=
 z5x ((zlr (UInt64.ofInt a0) 1) ^^^ (UInt64.ofInt (shrI a0 63))) >>= fun r1 =>
 some r1
theorem zk4 (a0:Int):z1u Tryz.prog 120 [.rd z07 a0] [] (zcn a0) (fun r nv=>⟨[.val (nv 0)],[(100,some (nv 0,.list u8R 5 r))]⟩):=by
 refine z2m 11 Tryz.func120 Z Z Z fun H w=>?_
 refine gSR<|Zb Z<|gSR<|Zm Z<|Zq (I.toU Z Tryz.underlying2 tu38)<|Zq (U.shl Z Z (Int.natCast_nonneg _))<|Zm Z<|Zq (I.shr Z Z (Int.natCast_nonneg _))<|Zq (I.toU Z Tryz.underlying2 tu38)<|Zq (U.xor Z Z)<|Zc [] [(100,1)] Tryz.func80 Z (z5w _) fun r1 n2=>Zb Z<|z0m<|Ze [(n2 0)] [1] Z
def z7e (a0:z04) (s14:(List UInt8) × Int):Option (Sum ((List UInt8)) ((List UInt8) × Int)) :=
 if decide (0≤s14.2) then
  chk (0≤s14.2) >>= fun u17 =>
  app 1 s14.1 [(z6k a0.Bits ((s14.2:Int).toNat)).toUInt8] >>= fun x20 =>
  some (w64 (s14.2 - 8)) >>= fun y23 =>
  some (.inr (x20,y23))
 else
  some (.inl s14.1)
def zbe (a0:z04):Option ((List UInt8) × Int) :=
 zb7 a0 >>= fun r2 =>
 if r2 != 0 then
  some ([],r2)
 else
  (if a0.Kind==1 then
   zcn a0.Num >>= fun r8 =>
   app 1 [a0.Kind] r8 >>= fun x10 =>
   some x10
  else
   if a0.Kind==2 then
    iter (z7e a0) ([a0.Kind],56)
   else
    if a0.Kind==3 then
     chk (a0.Text.length≤281474976710656) >>= fun u25 =>
     zao a0.Text >>= fun r27 =>
     app 1 [a0.Kind] r27.1 >>= fun x29 =>
     some x29
    else
     some [a0.Kind]) >>= fun s6 =>
  some (s6,0)
theorem zjn (a0:z04):z1u Tryz.prog 82 [.rd z1h a0] [] (zbe a0) (fun r nv=>⟨[.val (nv 0),.rd z07 r.2],[(100,some (nv 0,.list u8R 5 r.1))]⟩):=by
 refine z2m 53 Tryz.func82 Z Z Z fun H w=>?_
 refine gSR<|Eb Z (bx 1 Z) fun v1=>Za Z<|Zb Z<|z0w<|gSR<|Zq (ld 1 Z Z fH zpb Z)<|Zc [] [] Tryz.func117 Z (zf9 _) fun r2 n3=>Zb Z<|gSR<|Zm Z<|Zq (I.neq Z Z)<|Zj Z (fun h4=>?_) (fun h4=>?_)
 ·
  refine gSR<|Zm Z<|Za Z<|Zb Z<|z0m<|z10<|zpm u8R 5 2<|Ze [(.slice none 0 0)] [2] Z
 ·
  refine Zt<|gSR<|Zq (faB 1 Z Z Tryz.underlying40 Z (by exact ti5))<|Zq (ld 1 Z Z (fP (z2j _)) ty5 Z)<|Ef Z (lit (R:=u8R) ([a0.Kind]:List UInt8) 3 (pP Z Z<|pN) Z tu89 ti5 Z Z) fun v5=>Zb Z<|z7m (fun (s6:(List UInt8)) aa ww=>∃ nv:Nat→Value,Sta (ctx 53 H [] w) [(5,.val (nv 0))] [(3,some ((nv 0),.list u8R 5 s6))] aa ww) ?_ (fun s6=>?_)
  ·
   refine gSR<|Zq (faB 1 Z Z Tryz.underlying40 Z (by exact ti5))<|Zq (ld 1 Z Z (fP (z2j _)) ty5 Z)<|Zn<|z58<|gSR<|Zq (B.eql Z Z)<|Zb Z<|gIf Z Z (fun h7=>?_) (fun h7=>?_)
   ·
    refine gKn 20 Z h7<|z2o<|Zm Z<|Zq (faB 1 Z Z Tryz.underlying40 Z (by exact ti2))<|Zq (ld 1 Z Z (fP (z5b _)) ty2 Z)<|Zc [] [(100,4)] Tryz.func120 Z (zk4 _) fun r8 n9=>z0u fun x10 h11=>Ef Z (apn 3 Z Z Z (.own 4 Z) h11 tu89 ti5 Z Z Z) fun v12=>Za Z<|z23<|z3h<|z3s (fun aa ww h=>⟨nvl [v12],Zu h [3]⟩)
   ·
    refine gKn 20 Z h7<|gSR<|Zq (B.eql Z Z)<|Zb Z<|gIf Z Z (fun h13=>?_) (fun h13=>?_)
    ·
     refine gKn 27 Z h13<|gSR<|Zb Z<|z2b (fun (s14:(List UInt8) × Int) aa ww=>∃ nv:Nat→Value,Sta (ctx 53 H [] w) [(1,.val (z05 v1 0)),(5,.val (nv 0)),(6,.rd z07 s14.2)] [(1,some (v1,.box 40 [.rd z1h a0])),(3,some ((nv 0),.list u8R 5 s14.1))] aa ww) (fun aa ww h=>⟨nvl [v5],Zu h [1,3]⟩) (fun s14=>?_)
     refine gEx fun n15=>z0w<|gSR<|Zm Z<|Zq (I.geq Z Z)<|Zj Z (fun h16=>?_) (fun h16=>?_)
     ·
      refine Zt<|z0w<|z58<|z2o<|Zm Z<|Zq (faB 1 Z Z Tryz.underlying40 Z (by exact zse))<|Zq (ld 1 Z Z (fP (z3f _)) zs3 Z)<|Zm Z<|z0u fun u17 h18=>Zq (U.shr Z Z (z4w h18))<|Zq (U.toB Z tu38 tu5)<|Ef Z (lit (R:=u8R) ([(z6k a0.Bits ((s14.2:Int).toNat)).toUInt8]:List UInt8) 5 (pP Z Z<|pN) Z tu89 ti5 Z Z) fun v19=>z0u fun x20 h21=>Ef Z (apn 3 Z Z Z (.own 5 Z) h21 tu89 ti5 Z Z Z) fun v22=>Za Z<|z23<|z3h<|z0n<|z2o<|Zm Z<|Zq (I.sub Z Z)<|Za Z<|z1z 6 Z fun y23=>z23<|z1l (fun aa ww h=>⟨nvl [v22],Zu h [1,3]⟩)
     ·
      refine z24<|z14<|z13<|z3h<|z3s (fun aa ww h=>⟨nvl [(n15 0)],Zu h [3]⟩)
    ·
     refine gKn 27 Z h13<|gSR<|Zq (B.eql Z Z)<|Zb Z<|gIf Z Z (fun h24=>?_) (fun h24=>?_)
     ·
      refine gKn 41 Z h24<|gSR<|Zq (faB 1 Z Z Tryz.underlying40 Z (by exact ti9))<|Zq (ld 1 Z Z (fP (z2z _)) ty9 Z)<|z0u fun u25 h26=>zvv Z Z h26 tu9 tu89 tu5<|Zc [] [(100,6)] Tryz.func81 Z (zgp _) fun r27 n28=>Zm Z<|Zq (ext Z Z)<|Zq (ext Z Z)<|Za Z<|Zb Z<|z2o<|Zm Z<|Zm Z<|z0u fun x29 h30=>Ef Z (apn 3 Z Z Z (.own 6 Z) h30 tu89 ti5 Z Z Z) fun v31=>Za Z<|z23<|z3h<|z3s (fun aa ww h=>⟨nvl [v31],Zu h [3]⟩)
     ·
      refine gKn 41 Z h24<|z3a<|z3h<|z3s (fun aa ww h=>⟨nvl [v5],Zu h [3]⟩)
  ·
   refine gEx fun n32=>gSR<|Zm Z<|Za Z<|Zb Z<|z0m<|Ze [(n32 0)] [3] Z
def z9x (a0:z06):Option ((List UInt8) × Int) :=
 zcw ({ a0 with Sig:=(⟨0,0⟩:z09) }) >>= fun r2 =>
 if r2 != 0 then
  some ([],r2)
 else
  zih (({ a0 with Sig:=(⟨0,0⟩:z09) }).Preds) >>= fun r5 =>
  z5x ((({ a0 with Sig:=(⟨0,0⟩:z09) }).Author).toUInt64) >>= fun r7 =>
  z5x (({ a0 with Sig:=(⟨0,0⟩:z09) }).Stamp) >>= fun r10 =>
  z1p [[111],r7,r5.1,r10,[(({ a0 with Sig:=(⟨0,0⟩:z09) }).Act).Kind]] >>= fun r13 =>
  if ((({ a0 with Sig:=(⟨0,0⟩:z09) }).Act).Kind)==1 then
   some (r13,0)
  else
   chk (((({ a0 with Sig:=(⟨0,0⟩:z09) }).Act).Key).length≤281474976710656) >>= fun u18 =>
   zao ((({ a0 with Sig:=(⟨0,0⟩:z09) }).Act).Key) >>= fun r20 =>
   app 1 r13 r20.1 >>= fun x22 =>
   if ((({ a0 with Sig:=(⟨0,0⟩:z09) }).Act).Kind)==4 then
    zbe ((({ a0 with Sig:=(⟨0,0⟩:z09) }).Act).Value) >>= fun r26 =>
    app 1 x22 r26.1 >>= fun x28 =>
    some (x28,0)
   else
    some (x22,0)
set_option maxHeartbeats 4000000 in
theorem zcs (a0:z06):z1u Tryz.prog 56 [.rd z03 a0] [] (z9x a0) (fun r nv=>⟨[.val (nv 0),.rd z07 r.2],[(100,some (nv 0,.list u8R 5 r.1))]⟩):=by
 refine z2m 71 Tryz.func56 Z Z Z fun H w=>?_
 refine gSR<|Eb Z (bx 1 Z) fun v1=>Za Z<|Zb Z<|gSR<|Zq (bld (x':=(⟨0,0⟩:z09)) [(0,1),(1,1)] Tryz.underlying44 zjy Z zl1 Z (Bld.done Z))<|Zq (faB 1 Z Z Tryz.underlying46 Z (by exact zjy))<|Es (sto 1 Z Z (fP (z35 _)) Z zjy)<|Zn<|z0w<|gSR<|Zq (ld 1 Z Z fH z9q Z)<|Zc [] [] Tryz.func55 Z (zfl _) fun r2 n3=>Zb Z<|gSR<|Zm Z<|Zq (I.neq Z Z)<|Zj Z (fun h4=>?_) (fun h4=>?_)
 ·
  refine gSR<|Zm Z<|Za Z<|Zb Z<|z0m<|z10<|zpm u8R 5 2<|Ze [(.slice none 0 0)] [2] Z
 ·
  refine Zt<|gSR<|Zq (faB 1 Z Z Tryz.underlying46 Z (by exact z8p))<|Zq (ld 1 Z Z (fP (z0x _)) z9o Z)<|Zc [] [(100,3)] Tryz.func78 Z (zof _) fun r5 n6=>Zm Z<|Zq (ext Z Z)<|Zq (ext Z Z)<|Za Z<|Zb Z<|z0w<|gFrz 3 [23,5] Z (fS Z<|fS Z<|fN)<|zrm [(1,.val (z05 v1 0)),(5,.rd (z02 u8R) r5.1)] [(1,some (v1,.box 46 [.rd z03 ({ a0 with Sig:=(⟨0,0⟩:z09) })]))] [1] (sS Z<|sS Z<|sN) (y1 Z)<|z5g fun r7 h9=>z5g fun r10 h12=>z5g fun r13 h15=>gOr [] [⟨4,none,[(0,none)]⟩,⟨1,some ([], fun nv=>(v1,.box 46 [.rd z03 ({ a0 with Sig:=(⟨0,0⟩:z09) })])),[]⟩,⟨5,none,[(4,none)]⟩,⟨6,none,[(8,none)]⟩,⟨7,none,[(12,none)]⟩,⟨8,none,[(13,none)]⟩,⟨9,none,[(14,some ([6], fun nv=>((nv 6),.list u8R 5 r13)))]⟩] [⟨some (25,[], fun nv=>.rd (z02 u8R) [111]),[(0,0,true)],[1],[]⟩,pk 26 (.val (z05 v1 (0+0))) [(1,0,false)],pk 27 (.rd z0i (({ a0 with Sig:=(⟨0,0⟩:z09) }).Author)) [(1,0,false)],pd 28 (.rd z2e ((({ a0 with Sig:=(⟨0,0⟩:z09) }).Author).toUInt64)),⟨some (29,[], fun nv=>.rd (z02 u8R) r7),[(2,0,true)],[2],[]⟩,pd 30 (.rd (z02 u8R) r5.1),pk 31 (.val (z05 v1 (0+2))) [(1,0,false)],pk 32 (.rd z2e (({ a0 with Sig:=(⟨0,0⟩:z09) }).Stamp)) [(1,0,false)],⟨some (33,[], fun nv=>.rd (z02 u8R) r10),[(3,0,true)],[3],[]⟩,pk 34 (.val (z05 v1 (0+3))) [(1,0,false)],pk 35 (.val (z05 v1 (0+3+0))) [(1,0,false)],pk 36 (.rd u8R ((({ a0 with Sig:=(⟨0,0⟩:z09) }).Act).Kind)) [(1,0,false)],⟨some (37,[], fun nv=>.rd (z02 u8R) [(({ a0 with Sig:=(⟨0,0⟩:z09) }).Act).Kind]),[(4,0,true)],[4],[]⟩,⟨some (38,[], fun nv=>.rd (z02 (z02 u8R)) [[111],r7,r5.1,r10,[(({ a0 with Sig:=(⟨0,0⟩:z09) }).Act).Kind]]),[(5,0,true)],[5],[]⟩,⟨some (39,[6], fun nv=>.val (nv 6)),[(6,0,true)],[6],[]⟩,⟨some (7,[6], fun nv=>.val (nv 6)),[],[],[]⟩] mixed (oC (oFz (A1:=fun nv=>[(4,some ((nv 1),.list u8R 5 [111]))]) 4 1 (oEf 4 1 (fun nv E=>lit (R:=u8R) ([111]:List UInt8) 4 (pP Z Z<|pN) Z tu89 ti5 Z Z)))<|oC (oRn (fun nv E=>faB 1 Z Z Tryz.underlying46 Z (by exact z4z)))<|oC (oRn (fun nv E=>ld 1 Z Z (fP (z41 _)) z86 Z))<|oC (oRn (fun nv E=>W.toU Z tu37 tu38))<|oC (oFz (A1:=fun nv=>[(5,some ((nv 2),.list u8R 5 r7))]) 5 2 (oCl [2] [] [(100,5)] h9 Tryz.func80 Z (fun nv=>(z5w _)) (fun nv=>(Y1 Z)) (fun nv E=>rN)))<|oC (oRn (fun nv E=>mv Z))<|oC (oRn (fun nv E=>faB 1 Z Z Tryz.underlying46 Z (by exact zse)))<|oC (oRn (fun nv E=>ld 1 Z Z (fP (z9g _)) zs3 Z))<|oC (oFz (A1:=fun nv=>[(6,some ((nv 3),.list u8R 5 r10))]) 6 3 (oCl [3] [] [(100,6)] h12 Tryz.func80 Z (fun nv=>(z5w _)) (fun nv=>(Y1 Z)) (fun nv E=>rN)))<|oC (oRn (fun nv E=>faB 1 Z Z Tryz.underlying46 Z (by exact zn5)))<|oC (oRn (fun nv E=>faB 1 Z Z Tryz.underlying42 Z (by exact ti5)))<|oC (oRn (fun nv E=>ld 1 Z Z ((fP (z2d _)).part (z34 _)) ty5 Z))<|oC (oFz (A1:=fun nv=>[(7,some ((nv 4),.list u8R 5 [(({ a0 with Sig:=(⟨0,0⟩:z09) }).Act).Kind]))]) 7 4 (oEf 7 4 (fun nv E=>lit (R:=u8R) ([(({ a0 with Sig:=(⟨0,0⟩:z09) }).Act).Kind]:List UInt8) 7 (pP Z Z<|pN) Z tu89 ti5 Z Z)))<|oC (oFz (A1:=fun nv=>[(8,some ((nv 5),.list (z02 u8R) 89 [[111],r7,r5.1,r10,[(({ a0 with Sig:=(⟨0,0⟩:z09) }).Act).Kind]]))]) 8 5 (oEf 8 5 (fun nv E=>lit (R:=(z02 u8R)) ([[111],r7,r5.1,r10,[(({ a0 with Sig:=(⟨0,0⟩:z09) }).Act).Kind]]:List (List UInt8)) 8 (pP Z Z<|pP Z Z<|pP Z Z<|pP Z Z<|pP Z Z<|pN) Z tu124 zqg Z Z)))<|oC (oCl [6] [] [(100,9)] h15 Tryz.func79 Z (fun nv=>(z54 _)) (fun nv=>(Y1 Z)) (fun nv E=>rN))<|oC (oRn (fun nv E=>asg Z))<|oN) fun n16=>z0n<|z0w<|gSR<|Zq (faB 1 Z Z Tryz.underlying46 Z (by exact zn5))<|Zq (faB 1 Z Z Tryz.underlying42 Z (by exact ti5))<|Zq (ld 1 Z Z ((fP (z2d _)).part (z34 _)) ty5 Z)<|Zq (B.eql Z Z)<|Zj Z (fun h17=>?_) (fun h17=>?_)
  ·
   refine gSR<|Zm Z<|Za Z<|Zb Z<|z0m<|z10<|Ze [(n16 6)] [9] Z
  ·
   refine Zt<|gSR<|Zq (faB 1 Z Z Tryz.underlying46 Z (by exact zn5))<|Zq (faB 1 Z Z Tryz.underlying42 Z (by exact ti9))<|Zq (ld 1 Z Z ((fP (z2d _)).part (z4j _)) ty9 Z)<|z0u fun u18 h19=>zvv Z Z h19 tu9 tu89 tu5<|Zc [] [(100,10)] Tryz.func81 Z (zgp _) fun r20 n21=>Zm Z<|Zq (ext Z Z)<|Zq (ext Z Z)<|Za Z<|Zb Z<|gSR<|Zm Z<|Zm Z<|z0u fun x22 h23=>Ef Z (apn 9 Z Z Z (.own 10 Z) h23 tu89 ti5 Z Z Z) fun v24=>Zb Z<|z0w<|gSR<|Zq (faB 1 Z Z Tryz.underlying46 Z (by exact zn5))<|Zq (faB 1 Z Z Tryz.underlying42 Z (by exact ti5))<|Zq (ld 1 Z Z ((fP (z2d _)).part (z34 _)) ty5 Z)<|Zq (B.eql Z Z)<|Zj Z (fun h25=>?_) (fun h25=>?_)
   ·
    refine gSR<|Zq (faB 1 Z Z Tryz.underlying46 Z (by exact zn5))<|Zq (faB 1 Z Z Tryz.underlying42 Z (by exact zh6))<|Zq (ld 1 Z Z ((fP (z2d _)).part (z47 _)) zpb Z)<|Zc [] [(100,11)] Tryz.func82 Z (zjn _) fun r26 n27=>Zm Z<|Zq (ext Z Z)<|Zq (ext Z Z)<|Za Z<|Zb Z<|z2o<|Zm Z<|Zm Z<|z0u fun x28 h29=>Ef Z (apn 9 Z Z Z (.own 11 Z) h29 tu89 ti5 Z Z Z) fun v30=>Zb Z<|gSR<|Zm Z<|Za Z<|Zb Z<|z0m<|Ze [v30] [9] Z
   ·
    refine Zt<|gSR<|Zm Z<|Za Z<|Zb Z<|z0m<|Ze [v24] [9] Z
def zca (a0:z06):Option ((List UInt8) × Int) :=
 zcw a0 >>= fun r2 =>
 if r2 != 0 then
  some ([],r2)
 else
  z9x a0 >>= fun r5 =>
  z5x a0.Sig.E.toUInt64 >>= fun r7 =>
  z5x a0.Sig.S.toUInt64 >>= fun r9 =>
  z1p [r5.1,r7,r9] >>= fun r12 =>
  some (r12,0)
theorem zmy (a0:z06):z1u Tryz.prog 58 [.rd z03 a0] [] (zca a0) (fun r nv=>⟨[.val (nv 0),.rd z07 r.2],[(100,some (nv 0,.list u8R 5 r.1))]⟩):=by
 refine z2m 30 Tryz.func58 Z Z Z fun H w=>?_
 refine gSR<|Eb Z (bx 1 Z) fun v1=>Za Z<|Zb Z<|z0w<|gSR<|Zq (ld 1 Z Z fH z9q Z)<|Zc [] [] Tryz.func55 Z (zfl _) fun r2 n3=>Zb Z<|gSR<|Zm Z<|Zq (I.neq Z Z)<|Zj Z (fun h4=>?_) (fun h4=>?_)
 ·
  refine gSR<|Zm Z<|Za Z<|Zb Z<|z0m<|z10<|zpm u8R 5 2<|Ze [(.slice none 0 0)] [2] Z
 ·
  refine Zt<|gSR<|Zq (ld 1 Z Z fH z9q Z)<|Zc [] [(100,3)] Tryz.func56 Z (zcs _) fun r5 n6=>Zm Z<|Zq (ext Z Z)<|Zq (ext Z Z)<|Za Z<|Zb Z<|z0w<|z89 [19,34,37,40] mixed Z Z<|hTk 0 Z Z (mv Z)<|hTk 1 Z Z (faB 1 Z Z Tryz.underlying46 Z (by exact zjy))<|hTk 2 Z Z (faB 1 Z Z Tryz.underlying44 Z (by exact z4z))<|hTk 3 Z Z (ld 1 Z Z ((fP (z35 _)).part (z3w _)) z86 Z)<|hTk 4 Z Z (W.toU Z tu37 tu38)<|hTk 6 Z Z (faB 1 Z Z Tryz.underlying46 Z (by exact zjy))<|hTk 7 Z Z (faB 1 Z Z Tryz.underlying44 Z (by exact z4z))<|hTk 8 Z Z (ld 1 Z Z ((fP (z35 _)).part (z5c _)) z86 Z)<|hTk 9 Z Z (W.toU Z tu37 tu38)<|z37 5 [] [(100,19)] Z (by kernel_rfl) Z (gd0 Z) Z Tryz.func80 Z Z (z5w _) (Y1 Z) rN Z (fun _ _=>z2s) fun r7 n8=>z37 10 [] [(100,34)] Z (by kernel_rfl) Z (gd0 Z) Z Tryz.func80 Z Z (z5w _) (Y1 Z) rN Z (fun _ _=>z2s) fun r9 n10=>zsw 3 [15,5,17] Z (fS Z<|fS Z<|fS Z<|fN)<|zsw 19 [22] Z (fS Z<|fN)<|zsw 34 [27] Z (fS Z<|fN)<|Zo 11 Z Z Z (lit (R:=(z02 u8R)) ([r5.1,r7,r9]:List (List UInt8)) 37 (pP Z Z<|pP Z Z<|pP Z Z<|pN) Z tu124 zqg Z Z) fun v11=>zsw 37 [28] Z (fS Z<|fN)<|z37 12 [] [(100,40)] Z (by kernel_rfl) Z (gd0 Z) Z Tryz.func79 Z Z (z54 _) (Y1 Z) rN Z (fun _ _=>z2s) fun r12 n13=>Zf 13 Z Z z2s (asg Z)<|hTk 14 Z Z (asg Z)<|z3r (by kernel_rfl)<|z0n<|z0m<|Ze [(n13 0)] [40] Z
def zb1 (a0:List UInt8):Option (Bool) :=
 some (decide (10000<(a0.length:Int))) >>= fun y1 =>
 some y1
theorem zgn (a0:List UInt8):z1u Tryz.prog 125 [.rd (z02 u8R) a0] [] (zb1 a0) (fun r nv=>⟨[.rd z0f r],[]⟩):=by
 refine z2m 6 Tryz.func125 Z Z Z fun H w=>?_
 refine gSR<|Zb Z<|gSR<|Zm Z<|Zq (z3q Z .rd Z tu89)<|Zq (I.gtr Z Z)<|Za Z<|z1z 2 Z fun y1=>Zn<|z0m<|Ze [] [] Z
def zbi  : Option (z1w) :=
 some (⟨(#v[1779033703,3144134277,1013904242,2773480762,1359893119,2600822924,528734635,1541459225]:Vector UInt32 8),[],0⟩:z1w)
theorem zjp  : z1u Tryz.prog 126 [] [] (zbi) (fun r nv=>⟨[.rd z2c r],[]⟩):=by
 refine z2m 3 Tryz.func126 Z Z Z fun H w=>?_
 refine gSR<|Eb Z (z7q 1 zk5 (ZrE.rd (R:=(z2y 8 z0i)) (x:=(Vector.replicate 8 0)) zne (ZrE.nilS (ZrE.rd (R:=z07) (x:=0) (Zr.num Z) ZrE.nil Z)) Z)) fun v1=>Zn<|gSR<|Zq (litA (R:=z0i) [1779033703,3144134277,1013904242,2773480762,1359893119,2600822924,528734635,1541459225] (#v[1779033703,3144134277,1013904242,2773480762,1359893119,2600822924,528734635,1541459225]:Vector UInt32 8) (pP Z Z<|pP Z Z<|pP Z Z<|pP Z Z<|pP Z Z<|pP Z Z<|pP Z Z<|pP Z Z<|pN) Z tu129 zex Z z4z)<|Zq (zve [(0,8),(8,1),(9,1)] Tryz.underlying156 zk5 (ZrE.rd (R:=(z2y 8 z0i)) (x:=(Vector.replicate 8 0)) zne (ZrE.nilS (ZrE.rd (R:=z07) (x:=0) (Zr.num Z) ZrE.nil Z)) Z) Z (zjt.cons Z Z z27 (zai.cast (zai.here z27) Z)<|zjt.done Z))<|Es (zvd 1 Z Z (z0o.cast (z0o.cons z27 (z0o.cons z0a (z0o.cons z27 z0o.nil))) Z) Z (z5u.cons zby (z5u.cons z1v (z5u.cons zby z5u.nil))) (z0o.cast (z0o.cons z27 (z0o.cons z0a (z0o.cons z27 z0o.nil))) Z) zk5)<|Zn<|z0m<|zp4 u8R [.rd (z2y 8 z0i) (#v[1779033703,3144134277,1013904242,2773480762,1359893119,2600822924,528734635,1541459225]:Vector UInt32 8),.rd (z02 u8R) [],.rd z07 0] 1 [.rd (z2y 8 z0i) (#v[1779033703,3144134277,1013904242,2773480762,1359893119,2600822924,528734635,1541459225]:Vector UInt32 8)] [.rd z07 0] Z Z Z<|zwd (R:=z2c) (⟨(#v[1779033703,3144134277,1013904242,2773480762,1359893119,2600822924,528734635,1541459225]:Vector UInt32 8),[],0⟩:z1w) 1 Z (Sp.via (Sp.prod (Sp.prod (Sp.prod Sp.unit))))<|zbf [] [] Z (eC 1 Z Z zny<|eN) (rN)
def z1c (a0:UInt32) (a1:Int):Option (UInt32) :=
 some ((UInt64.ofInt a1) &&& 31) >>= fun y1 =>
 some ((zm8 a0 y1.toNat) ||| (z3o a0 ((32 - y1).toNat))) >>= fun y2 =>
 some y2
theorem z1r (a0:UInt32) (a1:Int):z1u Tryz.prog 174 [.rd z0i a0,.rd z07 a1] [] (z1c a0 a1) (fun r nv=>⟨[.rd z0i r],[]⟩):=by
 refine z2m 17 Tryz.func174 Z Z Z fun H w=>?_
 refine gSR<|Zb Z<|gSR<|Zm Z<|Zq (I.toU Z tu3 Tryz.underlying109)<|Zq (U.and Z Z)<|Za Z<|z1z 5 Z fun y1=>Zn<|gSR<|Zm Z<|Zm Z<|Zq (W.shl Z Z (Int.natCast_nonneg _))<|Zm Z<|Zm Z<|Zq (U.sub Z Z)<|Zq (W.shr Z Z (Int.natCast_nonneg _))<|Zq (W.or Z Z)<|Za Z<|z1z 4 Z fun y2=>Zn<|z0m<|Ze [] [] Z
def z5f (x3:List UInt8) (s5:(Vector UInt32 64) × Int):Option (Sum ((Vector UInt32 64)) ((Vector UInt32 64) × Int)) :=
 if decide (s5.2<(x3.length:Int)) then
  idx x3 s5.2 >>= fun x7 =>
  z6n s5.1 (w64 (Int.tdiv s5.2 4)) >>= fun x9 =>
  z6n s5.1 (w64 (Int.tdiv s5.2 4)) >>= fun x11 =>
  some (.inr (zg5 s5.1 (w64 (Int.tdiv s5.2 4)) ((zm8 x9 8) ||| x7.toUInt32),w64 (s5.2+1)))
 else
  some (.inl s5.1)
def z3z (s14:(Vector UInt32 64) × Int):Option (Sum ((Vector UInt32 64)) ((Vector UInt32 64) × Int)) :=
 if decide (s14.2<64) then
  z6n s14.1 (w64 (s14.2 - 15)) >>= fun x16 =>
  z6n s14.1 (w64 (s14.2 - 2)) >>= fun x18 =>
  z1c x16 (-7) >>= fun r20 =>
  z1c x16 (-18) >>= fun r22 =>
  some ((r20 ^^^ r22) ^^^ (z3o x16 3)) >>= fun y24 =>
  z1c x18 (-17) >>= fun r25 =>
  z1c x18 (-19) >>= fun r27 =>
  some ((r25 ^^^ r27) ^^^ (z3o x18 10)) >>= fun y29 =>
  z6n s14.1 (w64 (s14.2 - 16)) >>= fun x30 =>
  z6n s14.1 (w64 (s14.2 - 7)) >>= fun x32 =>
  z6n s14.1 s14.2 >>= fun x34 =>
  some (w64 (s14.2+1)) >>= fun y37 =>
  some (.inr (zg5 s14.1 s14.2 (((x30+x32)+y24)+y29),y37))
 else
  some (.inl s14.1)
def zb9 (a0:List UInt8):Option ((Vector UInt32 64)) :=
 (cut a0 0 64 >>= fun x3 =>
 iter (z5f x3) ((Vector.replicate 64 0),0)) >>= fun s2 =>
 (iter (z3z) (s2,16)) >>= fun s13 =>
 some s13
set_option maxHeartbeats 4000000 in
theorem zgj (a0:List UInt8):z1u Tryz.prog 170 [.rd (z02 u8R) a0] [] (zb9 a0) (fun r nv=>⟨[.rd (z2y 64 z0i) r],[]⟩):=by
 refine z2m 74 Tryz.func170 Z Z Z fun H w=>?_
 refine gSR<|Eb Z (z7q 1 zu5 (.zr (R:=(z2y 64 z0i)) (x:=(Vector.replicate 64 0)) z11a)) fun v1=>Zn<|z7m (fun (s2:(Vector UInt32 64)) aa ww=>Sta (ctx 74 H [] w) [(2,.val (z05 v1 0))] [(1,some (v1,.box 196 [.rd (z2y 64 z0i) s2]))] aa ww) ?_ (fun s2=>?_)
 ·
  refine gSR<|Zm Z<|z0u fun x3 h4=>Zq (cut' Z .no (.to Z) h4 tu89 ti5)<|Zq (z3q Z .rd Z tu89)<|Zm Z<|Zn<|z2b (fun (s5:(Vector UInt32 64) × Int) aa ww=>Sta (ctx 74 H [] w) [(2,.val (z05 v1 0)),(11,.rd (z02 u8R) x3),(12,.rd z07 (x3.length:Int)),(13,.rd z07 s5.2)] [(1,some (v1,.box 196 [.rd (z2y 64 z0i) s5.1]))] aa ww) (fun aa ww h=>Zu h [1]) (fun s5=>?_)
  refine gSR<|Zq (I.lss Z Z)<|Zn<|z0w<|gIf Z Z (fun h6=>?_) (fun h6=>?_)
  ·
   refine Zt<|z0w<|z58<|gSR<|Zm Z<|z0u fun x7 h8=>Zq (ixR Z Z h8 tu89 ti5 Z)<|Zq (ldR Z ty5)<|Za Z<|Zb Z<|z2o<|Zm Z<|Zq (I.quo Z Z (by decide))<|Zm Z<|Zq (I.quo Z Z (by decide))<|z0u fun x9 h10=>Zq (ixB 1 Z Z Z h10 Tryz.underlying196 z4z)<|Zq (ld 1 Z Z (fP (.el h10)) z86 Z)<|Zq (W.shl Z Z (Int.natCast_nonneg _))<|Zm Z<|Zq (B.toW Z tu5 tu37)<|Zq (W.or Z Z)<|z0u fun x11 h12=>Zq (ixB 1 Z Z Z h12 Tryz.underlying196 z4z)<|Es (sto 1 Z Z (fP (.el h12)) Z z4z)<|z23<|z3h<|z0n<|z2o<|Zq (I.add Z Z)<|Zm Z<|z23<|z1l (fun aa ww h=>Zu h [1])
  ·
   refine z24<|z14<|z13<|z3s (fun aa ww h=>Zu h [1])
 ·
  refine z7m (fun (s13:(Vector UInt32 64)) aa ww=>Sta (ctx 74 H [] w) [(2,.val (z05 v1 0))] [(1,some (v1,.box 196 [.rd (z2y 64 z0i) s13]))] aa ww) ?_ (fun s13=>?_)
  ·
   refine gSR<|Zb Z<|z2b (fun (s14:(Vector UInt32 64) × Int) aa ww=>Sta (ctx 74 H [] w) [(2,.val (z05 v1 0)),(5,.rd z07 s14.2)] [(1,some (v1,.box 196 [.rd (z2y 64 z0i) s14.1]))] aa ww) (fun aa ww h=>Zu h [1]) (fun s14=>?_)
   refine z0w<|gSR<|Zm Z<|Zq (I.lss Z Z)<|Zj Z (fun h15=>?_) (fun h15=>?_)
   ·
    refine Zt<|z0w<|z58<|z0w<|zgl mixed (by kernel_rfl)<|Rq Z (mv Z)<|Rq Z (I.sub Z Z)<|z7c fun x16 h17=>Rq Z (ixB 1 Z Z Z h17 Tryz.underlying196 z4z)<|Rq Z (ld 1 Z Z (fP (.el h17)) z86 Z)<|Rq Z (mv Z)<|Rq Z (I.sub Z Z)<|z7c fun x18 h19=>Rq Z (ixB 1 Z Z Z h19 Tryz.underlying196 z4z)<|Rq Z (ld 1 Z Z (fP (.el h19)) z86 Z)<|Rq Z (asg Z)<|Rq Z (asg Z)<|zq9<|z0n<|gSR<|Zm Z<|Zc [] [] Tryz.func174 Z (z1r _ _) fun r20 n21=>Zm Z<|Zc [] [] Tryz.func174 Z (z1r _ _) fun r22 n23=>Zq (W.xor Z Z)<|Zm Z<|Zq (W.shr Z Z (Int.natCast_nonneg _))<|Zq (W.xor Z Z)<|Za Z<|z1z 8 Z fun y24=>Zn<|gSR<|Zm Z<|Zc [] [] Tryz.func174 Z (z1r _ _) fun r25 n26=>Zm Z<|Zc [] [] Tryz.func174 Z (z1r _ _) fun r27 n28=>Zq (W.xor Z Z)<|Zm Z<|Zq (W.shr Z Z (Int.natCast_nonneg _))<|Zq (W.xor Z Z)<|Za Z<|z1z 9 Z fun y29=>Zn<|zrm [(2,.val (z05 v1 0)),(5,.rd z07 s14.2),(8,.rd z0i y24),(9,.rd z0i y29)] [(1,some (v1,.box 196 [.rd (z2y 64 z0i) s14.1]))] [1] (Zs Z Z Z Z<|sN) (y1 Z)<|z5g fun x30 h31=>z5g fun x32 h33=>z5g fun x34 h35=>gOr [] [⟨1,some ([], fun nv=>(v1,.box 196 [.rd (z2y 64 z0i) s14.1])),[(15,some ([], fun nv=>(v1,.box 196 [.rd (z2y 64 z0i) (zg5 s14.1 s14.2 (((x30+x32)+y24)+y29))])))]⟩] [pd 58 (.rd z07 s14.2),pd 59 (.rd z07 s14.2),pd 60 (.rd z07 (w64 (s14.2 - 16))),pk 61 (.val (z05 v1 (0+(w64 (s14.2 - 16):Int).toNat * 1))) [(0,0,false)],pk 62 (.rd z0i x30) [(0,0,false)],pd 63 (.rd z07 s14.2),pd 64 (.rd z07 (w64 (s14.2 - 7))),pk 65 (.val (z05 v1 (0+(w64 (s14.2 - 7):Int).toNat * 1))) [(0,0,false)],pk 66 (.rd z0i x32) [(0,0,false)],pd 67 (.rd z0i (x30+x32)),pd 68 (.rd z0i y24),pd 69 (.rd z0i ((x30+x32)+y24)),pd 70 (.rd z0i y29),pd 71 (.rd z0i (((x30+x32)+y24)+y29)),pk 72 (.val (z05 v1 (0+(s14.2:Int).toNat * 1))) [(0,0,false)],⟨none,[(0,0,true)],[],[]⟩] mixed (oC (oRn (fun nv E=>mv Z))<|oC (oRn (fun nv E=>mv Z))<|oC (oRn (fun nv E=>I.sub Z Z))<|oC (oRn (fun nv E=>ixB 1 Z Z Z h31 Tryz.underlying196 z4z))<|oC (oRn (fun nv E=>ld 1 Z Z (fP (.el h31)) z86 Z))<|oC (oRn (fun nv E=>mv Z))<|oC (oRn (fun nv E=>I.sub Z Z))<|oC (oRn (fun nv E=>ixB 1 Z Z Z h33 Tryz.underlying196 z4z))<|oC (oRn (fun nv E=>ld 1 Z Z (fP (.el h33)) z86 Z))<|oC (oRn (fun nv E=>W.add Z Z))<|oC (oRn (fun nv E=>mv Z))<|oC (oRn (fun nv E=>W.add Z Z))<|oC (oRn (fun nv E=>mv Z))<|oC (oRn (fun nv E=>W.add Z Z))<|oC (oRn (fun nv E=>ixB 1 Z Z Z h35 Tryz.underlying196 z4z))<|oC (oEs 1 (fun nv E=>sto 1 Z Z (fP (.el h35)) Z z4z))<|oN) fun n36=>z3h<|z0n<|z2o<|Zm Z<|Zq (I.add Z Z)<|Za Z<|z1z 5 Z fun y37=>z23<|z1l (fun aa ww h=>Zu h [1])
   ·
    refine z24<|z14<|z13<|z3s (fun aa ww h=>Zu h [1])
  ·
   refine gSR<|Zq (ld 1 Z Z fH z12j Z)<|Es (sto 1 Z Z fH Z zu5)<|Zn<|z0m<|zbf [] [] Z (eC 1 Z Z z12j<|eN) (rN)
def zcd (a0:UInt32) (a1:Int) (a2:Int) (a3:Int):Option (UInt32) :=
 z1c a0 (w64 (0 - a1)) >>= fun r1 =>
 z1c a0 (w64 (0 - a2)) >>= fun r3 =>
 z1c a0 (w64 (0 - a3)) >>= fun r5 =>
 some ((r1 ^^^ r3) ^^^ r5) >>= fun y7 =>
 some y7
theorem zh0 (a0:UInt32) (a1:Int) (a2:Int) (a3:Int):z1u Tryz.prog 171 [.rd z0i a0,.rd z07 a1,.rd z07 a2,.rd z07 a3] [] (zcd a0 a1 a2 a3) (fun r nv=>⟨[.rd z0i r],[]⟩):=by
 refine z2m 23 Tryz.func171 Z Z Z fun H w=>?_
 refine gSR<|Zb Z<|gSR<|Zm Z<|Zm Z<|Zq (I.neg Z)<|Zc [] [] Tryz.func174 Z (z1r _ _) fun r1 n2=>Zm Z<|Zm Z<|Zq (I.neg Z)<|Zc [] [] Tryz.func174 Z (z1r _ _) fun r3 n4=>Zq (W.xor Z Z)<|Zm Z<|Zm Z<|Zq (I.neg Z)<|Zc [] [] Tryz.func174 Z (z1r _ _) fun r5 n6=>Zq (W.xor Z Z)<|Za Z<|z1z 8 Z fun y7=>Zn<|z0m<|Ze [] [] Z
def z75 (a0:List UInt8):Option ((List UInt8)) :=
 app 1 ([]:List UInt8) a0 >>= fun x3 =>
 some x3
theorem z8h (a0:List UInt8):z1u Tryz.prog 156 [.rd (z02 u8R) a0] [] (z75 a0) (fun r nv=>⟨[.val (nv 0)],[(100,some (nv 0,.list u8R 5 r))]⟩):=by
 refine z2m 8 Tryz.func156 Z Z Z fun H w=>?_
 refine gSR<|Zb Z<|z0w<|gSR<|Zm Z<|z11v Z Z .rd Z tu89 (fun h1=>?_) ?_
 ·
  subst h1
  refine Zn<|zh1 Z<|gSR<|Zb Z<|z0m<|z10<|zpm u8R 5 1<|Ze [(.slice none 0 0)] [1] Z
 ·
  refine Zn<|zf8 Z<|Zt<|gSR<|Ef Z (lit (R:=u8R) (([]:List UInt8):List UInt8) 2 (pN) Z tu89 ti5 Z Z) fun v2=>Zm Z<|z0u fun x3 h4=>Ef Z (apn 2 Z Z Z .rd h4 tu89 ti5 Z Z Z) fun v5=>Zb Z<|z0m<|Ze [v5] [2] Z
def z4s (r1:(Vector UInt32 64)) (s21:UInt32 × UInt32 × UInt32 × UInt32 × UInt32 × UInt32 × UInt32 × UInt32 × Int):Option (Sum (UInt32 × UInt32 × UInt32 × UInt32 × UInt32 × UInt32 × UInt32 × UInt32) (UInt32 × UInt32 × UInt32 × UInt32 × UInt32 × UInt32 × UInt32 × UInt32 × Int)) :=
 if decide (s21.2.2.2.2.2.2.2.2<64) then
  z6n z4q s21.2.2.2.2.2.2.2.2 >>= fun x23 =>
  z6n r1 s21.2.2.2.2.2.2.2.2 >>= fun x25 =>
  zcd s21.2.2.2.2.1 6 11 25 >>= fun r27 =>
  some ((((s21.2.2.2.2.2.2.2.1+r27)+((s21.2.2.2.2.1 &&& s21.2.2.2.2.2.1) ^^^ ((~~~s21.2.2.2.2.1) &&& s21.2.2.2.2.2.2.1)))+x23)+x25) >>= fun y29 =>
  zcd s21.1 2 13 22 >>= fun r30 =>
  some (r30+(((s21.1 &&& s21.2.1) ^^^ (s21.1 &&& s21.2.2.1)) ^^^ (s21.2.1 &&& s21.2.2.1))) >>= fun y32 =>
  some (s21.2.2.2.1+y29) >>= fun y33 =>
  some (.inr (y29+y32,s21.1,s21.2.1,s21.2.2.1,y33,s21.2.2.2.2.1,s21.2.2.2.2.2.1,s21.2.2.2.2.2.2.1,w64 (s21.2.2.2.2.2.2.2.2+1)))
 else
  some (.inl (s21.1,s21.2.1,s21.2.2.1,s21.2.2.2.1,s21.2.2.2.2.1,s21.2.2.2.2.2.1,s21.2.2.2.2.2.2.1,s21.2.2.2.2.2.2.2.1))
def zat (s20:UInt32 × UInt32 × UInt32 × UInt32 × UInt32 × UInt32 × UInt32 × UInt32) (s34:(Vector UInt32 8) × Int):Option (Sum ((Vector UInt32 8)) ((Vector UInt32 8) × Int)) :=
 if decide (s34.2<8) then
  z6n (#v[s20.1,s20.2.1,s20.2.2.1,s20.2.2.2.1,s20.2.2.2.2.1,s20.2.2.2.2.2.1,s20.2.2.2.2.2.2.1,s20.2.2.2.2.2.2.2]:Vector UInt32 8) s34.2 >>= fun x36 =>
  z6n s34.1 s34.2 >>= fun x38 =>
  z6n s34.1 s34.2 >>= fun x40 =>
  some (.inr (zg5 s34.1 s34.2 (x38+x36),w64 (s34.2+1)))
 else
  some (.inl s34.1)
def zbo (c0:Vector UInt32 8) (a1:List UInt8):Option ((Vector UInt32 8)) :=
 zb9 a1 >>= fun r1 =>
 z6n c0 0 >>= fun x4 =>
 z6n c0 1 >>= fun x6 =>
 z6n c0 2 >>= fun x8 =>
 z6n c0 3 >>= fun x10 =>
 z6n c0 4 >>= fun x12 =>
 z6n c0 5 >>= fun x14 =>
 z6n c0 6 >>= fun x16 =>
 z6n c0 7 >>= fun x18 =>
 (iter (z4s r1) (x4,x6,x8,x10,x12,x14,x16,x18,0)) >>= fun s20 =>
 iter (zat s20) (c0,0)
theorem zjq (ph0:Value) (kh0:Nat) (uh0:(Vector UInt32 8)→z4k) (hh0:∀ y,Foc (uh0 y) kh0 (z2y 8 z0i) y uh0) (c0:Vector UInt32 8) (a1:List UInt8):z1u Tryz.prog 155 [.val (z05 ph0 kh0),.rd (z02 u8R) a1] [(1,some (ph0,uh0 c0)),zG1] (zbo c0 a1) (fun r nv=>⟨[],[(1,some (ph0,uh0 r)),(1001,some (.bool true,.glob 1 (z2y 64 z0i) z4q))]⟩):=by
 refine z2m 126 Tryz.func155 Z Z Z fun H w=>?_
 refine gSR<|Zm Z<|Zc [] [] Tryz.func170 Z (zgj _) fun r1 n2=>Eb Z (z7q 2 zu5 (.zr (R:=(z2y 64 z0i)) (x:=(Vector.replicate 64 0)) z11a)) fun v3=>Es (sto 2 Z Z fH Z zu5)<|Zn<|z0w<|zgl mixed (by kernel_rfl)<|Rq Z (mv Z)<|Rq Z (zvm 1 Z Z (hh0 _))<|z7c fun x4 h5=>Rq Z (ixH 1 Z Z (hh0 _) Z h5 tu129 z4z)<|Rq Z (ld 1 Z Z ((hh0 _).part (.el h5)) z86 Z)<|Rq Z (mv Z)<|Rq Z (zvm 1 Z Z (hh0 _))<|z7c fun x6 h7=>Rq Z (ixH 1 Z Z (hh0 _) Z h7 tu129 z4z)<|Rq Z (ld 1 Z Z ((hh0 _).part (.el h7)) z86 Z)<|Rq Z (mv Z)<|Rq Z (zvm 1 Z Z (hh0 _))<|z7c fun x8 h9=>Rq Z (ixH 1 Z Z (hh0 _) Z h9 tu129 z4z)<|Rq Z (ld 1 Z Z ((hh0 _).part (.el h9)) z86 Z)<|Rq Z (mv Z)<|Rq Z (zvm 1 Z Z (hh0 _))<|z7c fun x10 h11=>Rq Z (ixH 1 Z Z (hh0 _) Z h11 tu129 z4z)<|Rq Z (ld 1 Z Z ((hh0 _).part (.el h11)) z86 Z)<|Rq Z (mv Z)<|Rq Z (zvm 1 Z Z (hh0 _))<|z7c fun x12 h13=>Rq Z (ixH 1 Z Z (hh0 _) Z h13 tu129 z4z)<|Rq Z (ld 1 Z Z ((hh0 _).part (.el h13)) z86 Z)<|Rq Z (mv Z)<|Rq Z (zvm 1 Z Z (hh0 _))<|z7c fun x14 h15=>Rq Z (ixH 1 Z Z (hh0 _) Z h15 tu129 z4z)<|Rq Z (ld 1 Z Z ((hh0 _).part (.el h15)) z86 Z)<|Rq Z (mv Z)<|Rq Z (zvm 1 Z Z (hh0 _))<|z7c fun x16 h17=>Rq Z (ixH 1 Z Z (hh0 _) Z h17 tu129 z4z)<|Rq Z (ld 1 Z Z ((hh0 _).part (.el h17)) z86 Z)<|Rq Z (mv Z)<|Rq Z (zvm 1 Z Z (hh0 _))<|z7c fun x18 h19=>Rq Z (ixH 1 Z Z (hh0 _) Z h19 tu129 z4z)<|Rq Z (ld 1 Z Z ((hh0 _).part (.el h19)) z86 Z)<|Rq Z (asg Z)<|Rq Z (asg Z)<|Rq Z (asg Z)<|Rq Z (asg Z)<|Rq Z (asg Z)<|Rq Z (asg Z)<|Rq Z (asg Z)<|Rq Z (asg Z)<|zq9<|z0n<|z7m (fun (s20:UInt32 × UInt32 × UInt32 × UInt32 × UInt32 × UInt32 × UInt32 × UInt32) aa ww=>Sta (ctx 126 H [(1,some (ph0,uh0 c0)),zG1] w) [(0,.val (z05 ph0 kh0)),(5,.rd z0i s20.1),(6,.rd z0i s20.2.1),(7,.rd z0i s20.2.2.1),(8,.rd z0i s20.2.2.2.1),(9,.rd z0i s20.2.2.2.2.1),(10,.rd z0i s20.2.2.2.2.2.1),(11,.rd z0i s20.2.2.2.2.2.2.1),(12,.rd z0i s20.2.2.2.2.2.2.2)] [(1,some (ph0,uh0 c0)),zG1] aa ww) ?_ (fun s20=>?_)
 ·
  refine gSR<|Zm Z<|Zn<|z2b (fun (s21:UInt32 × UInt32 × UInt32 × UInt32 × UInt32 × UInt32 × UInt32 × UInt32 × Int) aa ww=>Sta (ctx 126 H [(1,some (ph0,uh0 c0)),zG1] w) [(0,.val (z05 ph0 kh0)),(4,.val (z05 v3 0)),(5,.rd z0i s21.1),(6,.rd z0i s21.2.1),(7,.rd z0i s21.2.2.1),(8,.rd z0i s21.2.2.2.1),(9,.rd z0i s21.2.2.2.2.1),(10,.rd z0i s21.2.2.2.2.2.1),(11,.rd z0i s21.2.2.2.2.2.2.1),(12,.rd z0i s21.2.2.2.2.2.2.2.1),(52,.rd z07 s21.2.2.2.2.2.2.2.2)] [(1,some (ph0,uh0 c0)),(2,some (v3,.box 196 [.rd (z2y 64 z0i) r1])),zG1] aa ww) (fun aa ww h=>Zu h [1,2,1001]) (fun s21=>?_)
  refine gSR<|Zq (I.lss Z Z)<|Zn<|z0w<|gIf Z Z (fun h22=>?_) (fun h22=>?_)
  ·
   refine Zt<|z0w<|z58<|gSR<|Zm Z<|Zb Z<|z0w<|z89 [] mixed Z Z<|hTk 0 Z Z (mv Z)<|hTk 1 Z Z (mv Z)<|hTk 4 Z Z (mv Z)<|hTk 5 Z Z (mv Z)<|hTk 6 Z Z (W.and Z Z)<|hTk 7 Z Z (mv Z)<|hTk 8 Z Z (W.cpl Z)<|hTk 9 Z Z (mv Z)<|hTk 10 Z Z (W.and Z Z)<|hTk 11 Z Z (W.xor Z Z)<|hTk 13 Z Z (mv Z)<|z51 fun x23 h24=>hTk 14 Z Z (ixG 1001 Z Z h24 Tryz.underlying196 z4z)<|hTk 15 Z Z (ldR Z z86)<|hTk 17 Z Z (mv Z)<|z51 fun x25 h26=>hTk 18 Z Z (ixB 2 Z Z Z h26 Tryz.underlying196 z4z)<|hTk 19 Z Z (ld 2 Z Z (fP (.el h26)) z86 Z)<|z37 2 [] [] Z (by kernel_rfl) Z (gd0 Z) Z Tryz.func171 Z Z (zh0 _ _ _ _) (aQ Z<|aQ Z<|aQ Z<|aQ Z<|aN) rN Z (fun _ _=>z2v) fun r27 n28=>hTk 3 Z Z (W.add Z Z)<|hTk 12 Z Z (W.add Z Z)<|hTk 16 Z Z (W.add Z Z)<|hTk 20 Z Z (W.add Z Z)<|hTk 21 Z Z (asg Z)<|zw7 14 Z Z fun y29=>z3r (by kernel_rfl)<|z0n<|gSR<|Zm Z<|Zc [] [] Tryz.func171 Z (zh0 _ _ _ _) fun r30 n31=>Zm Z<|Zm Z<|Zq (W.and Z Z)<|Zm Z<|Zm Z<|Zq (W.and Z Z)<|Zq (W.xor Z Z)<|Zm Z<|Zm Z<|Zq (W.and Z Z)<|Zq (W.xor Z Z)<|Zq (W.add Z Z)<|Za Z<|z1z 15 Z fun y32=>Zn<|z2o<|Zm Z<|Zm Z<|Zq (W.add Z Z)<|Zm Z<|Zm Z<|Zm Z<|Zm Z<|Zm Z<|Zq (W.add Z Z)<|Zm Z<|Zm Z<|Zm Z<|Za Z<|Za Z<|Za Z<|Za Z<|Za Z<|z1z 9 Z fun y33=>Za Z<|Za Z<|Za Z<|z23<|z3h<|z0n<|z2o<|Zq (I.add Z Z)<|Zm Z<|z23<|z1l (fun aa ww h=>Zu h [1,2,1001])
  ·
   refine z24<|z14<|z13<|z3s (fun aa ww h=>Zu h [1,1001])
 ·
  refine gSR<|Zm Z<|Zm Z<|Zm Z<|Zm Z<|Zm Z<|Zm Z<|Zm Z<|Zm Z<|Zq (litA (R:=z0i) [s20.1,s20.2.1,s20.2.2.1,s20.2.2.2.1,s20.2.2.2.2.1,s20.2.2.2.2.2.1,s20.2.2.2.2.2.2.1,s20.2.2.2.2.2.2.2] (#v[s20.1,s20.2.1,s20.2.2.1,s20.2.2.2.1,s20.2.2.2.2.1,s20.2.2.2.2.2.1,s20.2.2.2.2.2.2.1,s20.2.2.2.2.2.2.2]:Vector UInt32 8) (pP Z Z<|pP Z Z<|pP Z Z<|pP Z Z<|pP Z Z<|pP Z Z<|pP Z Z<|pP Z Z<|pN) Z tu129 zex Z z4z)<|Zm Z<|Zn<|z2b (fun (s34:(Vector UInt32 8) × Int) aa ww=>Sta (ctx 126 H [(1,some (ph0,uh0 c0)),zG1] w) [(0,.val (z05 ph0 kh0)),(111,.rd (z2y 8 z0i) (#v[s20.1,s20.2.1,s20.2.2.1,s20.2.2.2.1,s20.2.2.2.2.1,s20.2.2.2.2.2.1,s20.2.2.2.2.2.2.1,s20.2.2.2.2.2.2.2]:Vector UInt32 8)),(112,.rd z07 s34.2)] [(1,some (ph0,uh0 s34.1)),zG1] aa ww) (fun aa ww h=>Zu h [1,1001]) (fun s34=>?_)
  refine gSR<|Zq (I.lss Z Z)<|Zn<|z0w<|gIf Z Z (fun h35=>?_) (fun h35=>?_)
  ·
   refine Zt<|z0w<|z58<|gSR<|Zm Z<|z0u fun x36 h37=>Zq (idxV Z Z h37 tu129 z4z z86)<|Za Z<|Zb Z<|z89 [1] mixed Z Z<|hTk 0 Z Z (mv Z)<|hTk 1 Z Z (mv Z)<|hTk 2 Z Z (zvm 1 Z Z (hh0 _))<|z51 fun x38 h39=>hTk 3 Z Z (ixH 1 Z Z (hh0 _) Z h39 tu129 z4z)<|hTk 5 Z Z (mv Z)<|hTk 7 Z Z (zvm 1 Z Z (hh0 _))<|hRun 4 Z (by kernel_rfl) (gd0 Z) Z Z z2v (ld 1 Z Z ((hh0 _).part (.el h39)) z86 Z)<|hTk 6 Z Z (W.add Z Z)<|z51 fun x40 h41=>hTk 8 Z Z (ixH 1 Z Z (hh0 _) Z h41 tu129 z4z)<|Zp 9 Z Z Z Z Z (sto 1 Z Z ((hh0 _).part (.el h41)) Z z4z)<|z3r (by kernel_rfl)<|z3h<|z0n<|z2o<|Zq (I.add Z Z)<|Zm Z<|z23<|z1l (fun aa ww h=>Zu h [1,1001])
  ·
   refine z24<|z14<|z13<|Ze [] [1,1001] Z
def z8c (s7:z1w × (List UInt8)):Option (Sum (z1w × (List UInt8)) (z1w × (List UInt8))) :=
 if decide (64≤(s7.2.length:Int)) then
  zbo s7.1.Words s7.2 >>= fun r10 =>
  cut s7.2 64 (s7.2.length:Int) >>= fun x12 =>
  some (.inr ({ s7.1 with Words:=r10 },x12))
 else
  some (.inl (s7.1,s7.2))
def z9w (a0:z1w) (a1:List UInt8):Option (z1w) :=
 z1p [a0.Rest,a1] >>= fun r4 =>
 (iter (z8c) (a0,r4)) >>= fun s6 =>
 z75 s6.2 >>= fun r14 =>
 some (⟨({ s6.1 with N:=w64 (s6.1.N+(a1.length:Int)) }).Words,r14,({ s6.1 with N:=w64 (s6.1.N+(a1.length:Int)) }).N⟩:z1w)
theorem zfa (a0:z1w) (a1:List UInt8):z1u Tryz.prog 127 [.rd z2c a0,.rd (z02 u8R) a1] [zG1] (z9w a0 a1) (fun r nv=>⟨[.rd z2c r],[(1001,some (.bool true,.glob 1 (z2y 64 z0i) z4q))]⟩):=by
 refine z2m 29 Tryz.func127 Z Z Z fun H w=>?_
 refine gSR<|Eb Z (bx 1 Z) fun v1=>Eb Z (z7q 2 zk5 (ZrE.rd (R:=(z2y 8 z0i)) (x:=(Vector.replicate 8 0)) zne (ZrE.nilS (ZrE.rd (R:=z07) (x:=0) (Zr.num Z) ZrE.nil Z)) Z)) fun v2=>Zn<|gSR<|Zq (faB 1 Z Z Tryz.underlying156 Z (by exact zqg))<|Zq (ld 1 Z Z (fP (zi4 _)) ty89 Z)<|Zm Z<|Ef Z (lit (R:=(z02 u8R)) ([a0.Rest,a1]:List (List UInt8)) 3 (pP Z Z<|pP Z Z<|pN) Z tu124 zqg Z Z) fun v3=>zhq 3 [9] Z (fS Z<|fN)<|Zc [] [(100,4)] Tryz.func79 Z (z54 _) fun r4 n5=>Zb Z<|z7m (fun (s6:z1w × (List UInt8)) aa ww=>Sta (ctx 29 H [zG1] w) [(1,.rd (z02 u8R) a1),(2,.val (z05 v1 0)),(4,.val (z05 v2 0)),(5,.rd (z02 u8R) s6.2)] [(1,some (v1,.box 156 [.rd z2c s6.1])),(2,some (v2,.box 156 [.rd (z2y 8 z0i) (Vector.replicate 8 0),.val (.slice none 0 0),.rd z07 0])),zG1] aa ww) ?_ (fun s6=>?_)
 ·
  refine gFrz 4 [10,5] Z (fS Z<|fS Z<|fN)<|z2b (fun (s7:z1w × (List UInt8)) aa ww=>Sta (ctx 29 H [zG1] w) [(1,.rd (z02 u8R) a1),(2,.val (z05 v1 0)),(4,.val (z05 v2 0)),(5,.rd (z02 u8R) s7.2)] [(1,some (v1,.box 156 [.rd z2c s7.1])),(2,some (v2,.box 156 [.rd (z2y 8 z0i) (Vector.replicate 8 0),.val (.slice none 0 0),.rd z07 0])),zG1] aa ww) (fun aa ww h=>Zu h [1,2,1001]) (fun s7=>?_)
  refine z0w<|gSR<|Zm Z<|Zq (z3q Z .rd Z tu89)<|Zq (I.geq Z Z)<|Zj Z (fun h8=>?_) (fun h8=>?_)
  ·
   refine Zt<|z58<|gSR<|Zq (faB 1 Z Z Tryz.underlying156 Z (by exact zex))<|Zm Z<|call [1,1001] [(1,1)] Z Tryz.func155 Z Z (zjq _ _ (fun y9=>.box 156 [.rd z2c ({ s7.1 with Words:=y9 })]) (fun _=>(fP (zc9 _))) _ _) (Y2 Z Z) (Zi Z<|Zi Z<|rN) fun r10 n11=>Zn<|z2o<|Zm Z<|z0u fun x12 h13=>Zq (cut' Z (.to Z) .no h13 tu89 ti5)<|Za Z<|z23<|z3h<|z1l (fun aa ww h=>Zu h [1,2,1001])
  ·
   refine z24<|z14<|z13<|z3s (fun aa ww h=>Zu h [1,2,1001])
 ·
  refine z0w<|z89 [1,1020] mixed Z Z<|hTk 0 Z Z (faB 1 Z Z Tryz.underlying156 Z (by exact ti3))<|hTk 2 Z Z (mv Z)<|hTk 3 Z Z (z3q Z .rd Z tu89)<|hTk 5 Z Z (mv Z)<|hAlt [1,6] (by kernel_rfl) Z ⟨?_,?_,trivial⟩
  ·
   refine oRun 1 Z (gd0 Z) Z Z z2v (ld 1 Z Z (fP (z7n _)) ty3 Z)<|hTk 4 Z Z (I.add Z Z)<|z37 6 [] [(100,1020)] Z (by kernel_rfl) Z (gd0 Z) Z Tryz.func156 Z Z (z8h _) (Y1 Z) rN Z (fun _ _=>z2s) fun r14 n15=>hTk 7 Z Z (faB 1 Z Z Tryz.underlying156 Z (by exact ti3))<|Zp 8 Z Z Z Z Z (sto 1 Z Z (fP (z7n _)) Z ti3)<|Zf 9 Z Z z2s (faB 1 Z Z Tryz.underlying156 Z (by exact zqg))<|hSpl (R:=z2c) 1 Z (Sp.via (Sp.prod (Sp.prod (Sp.prod Sp.unit))))<|Zp 10 Z Z Z Z Z (zo8 1 Z Z (zai.cast (zai.next z27 (zai.here z27)) Z) Z z1v z0a zqg)<|z3r (by kernel_rfl)<|z0n<|gSR<|zyh [.rd (z2y 8 z0i) (({ s6.1 with N:=w64 (s6.1.N+(a1.length:Int)) }).Words),.rd (z02 u8R) r14,.rd z07 (({ s6.1 with N:=w64 (s6.1.N+(a1.length:Int)) }).N)] 1 1020 [.rd (z2y 8 z0i) (({ s6.1 with N:=w64 (s6.1.N+(a1.length:Int)) }).Words)] [.rd z07 (({ s6.1 with N:=w64 (s6.1.N+(a1.length:Int)) }).N)] Z Z Z Z Z<|zgu (R:=z2c) (⟨({ s6.1 with N:=w64 (s6.1.N+(a1.length:Int)) }).Words,r14,({ s6.1 with N:=w64 (s6.1.N+(a1.length:Int)) }).N⟩:z1w) 1 Z (Sp.via (Sp.prod (Sp.prod (Sp.prod Sp.unit))))<|Zq (ld 1 Z Z fH zny Z)<|zhh u8R [.rd (z2y 8 z0i) (Vector.replicate 8 0),.rd (z02 u8R) [],.rd z07 0] 2 [.rd (z2y 8 z0i) (Vector.replicate 8 0)] [.rd z07 0] Z Z Z<|zgu (R:=z2c) (⟨(Vector.replicate 8 0),[],0⟩:z1w) 2 Z (Sp.via (Sp.prod (Sp.prod (Sp.prod Sp.unit))))<|Es (sto 2 Z Z fH Z zk5)<|Zn<|z0m<|zbf [] [1001] Z (eC 2 Z Z zny<|eN) (y1 Z)
  ·
   refine z12b 6 [] [(100,1020)] Z Z (gd0 Z) Z Tryz.func156 Z Z (z8h _) (Y1 Z) rN Z (fun _ _=>z2s) fun r16 n17=>hRun 1 Z (by kernel_rfl) (gd0 Z) Z Z z2v (ld 1 Z Z (fP (z7n _)) ty3 Z)<|hTk 4 Z Z (I.add Z Z)<|hTk 7 Z Z (faB 1 Z Z Tryz.underlying156 Z (by exact ti3))<|Zp 8 Z Z Z Z Z (sto 1 Z Z (fP (z7n _)) Z ti3)<|Zf 9 Z Z z2s (faB 1 Z Z Tryz.underlying156 Z (by exact zqg))<|hSpl (R:=z2c) 1 Z (Sp.via (Sp.prod (Sp.prod (Sp.prod Sp.unit))))<|Zp 10 Z Z Z Z Z (zo8 1 Z Z (zai.cast (zai.next z27 (zai.here z27)) Z) Z z1v z0a zqg)<|z3r (by kernel_rfl)<|z0n<|gSR<|zyh [.rd (z2y 8 z0i) (({ s6.1 with N:=w64 (s6.1.N+(a1.length:Int)) }).Words),.rd (z02 u8R) r16,.rd z07 (({ s6.1 with N:=w64 (s6.1.N+(a1.length:Int)) }).N)] 1 1020 [.rd (z2y 8 z0i) (({ s6.1 with N:=w64 (s6.1.N+(a1.length:Int)) }).Words)] [.rd z07 (({ s6.1 with N:=w64 (s6.1.N+(a1.length:Int)) }).N)] Z Z Z Z Z<|zgu (R:=z2c) (⟨({ s6.1 with N:=w64 (s6.1.N+(a1.length:Int)) }).Words,r16,({ s6.1 with N:=w64 (s6.1.N+(a1.length:Int)) }).N⟩:z1w) 1 Z (Sp.via (Sp.prod (Sp.prod (Sp.prod Sp.unit))))<|Zq (ld 1 Z Z fH zny Z)<|zhh u8R [.rd (z2y 8 z0i) (Vector.replicate 8 0),.rd (z02 u8R) [],.rd z07 0] 2 [.rd (z2y 8 z0i) (Vector.replicate 8 0)] [.rd z07 0] Z Z Z<|zgu (R:=z2c) (⟨(Vector.replicate 8 0),[],0⟩:z1w) 2 Z (Sp.via (Sp.prod (Sp.prod (Sp.prod Sp.unit))))<|Es (sto 2 Z Z fH Z zk5)<|Zn<|z0m<|zbf [] [1001] Z (eC 2 Z Z zny<|eN) (y1 Z)
def z98 (y3:UInt64) (s9:(List UInt8) × Int):Option (Sum ((List UInt8)) ((List UInt8) × Int)) :=
 if decide (0≤s9.2) then
  chk (0≤s9.2) >>= fun u12 =>
  app 1 s9.1 [(z6k y3 ((s9.2:Int).toNat)).toUInt8] >>= fun x15 =>
  some (w64 (s9.2 - 8)) >>= fun y18 =>
  some (.inr (x15,y18))
 else
  some (.inl s9.1)
def z7t (r21:z1w) (s23:V3 × Int):Option (Sum (V3) (V3 × Int)) :=
 if decide (s23.2<8) then
  z6n r21.Words s23.2 >>= fun x25 =>
  z6n s23.1 (w64 (4 * s23.2)) >>= fun x27 =>
  z6n (zg5 s23.1 (w64 (4 * s23.2)) ((z3o x25 24).toUInt8)) (w64 ((w64 (4 * s23.2))+1)) >>= fun x29 =>
  z6n (zg5 (zg5 s23.1 (w64 (4 * s23.2)) ((z3o x25 24).toUInt8)) (w64 ((w64 (4 * s23.2))+1)) ((z3o x25 16).toUInt8)) (w64 ((w64 (4 * s23.2))+2)) >>= fun x31 =>
  z6n (zg5 (zg5 (zg5 s23.1 (w64 (4 * s23.2)) ((z3o x25 24).toUInt8)) (w64 ((w64 (4 * s23.2))+1)) ((z3o x25 16).toUInt8)) (w64 ((w64 (4 * s23.2))+2)) ((z3o x25 8).toUInt8)) (w64 ((w64 (4 * s23.2))+3)) >>= fun x33 =>
  some (.inr (zg5 (zg5 (zg5 (zg5 s23.1 (w64 (4 * s23.2)) ((z3o x25 24).toUInt8)) (w64 ((w64 (4 * s23.2))+1)) ((z3o x25 16).toUInt8)) (w64 ((w64 (4 * s23.2))+2)) ((z3o x25 8).toUInt8)) (w64 ((w64 (4 * s23.2))+3)) x25.toUInt8,w64 (s23.2+1)))
 else
  some (.inl s23.1)
def zem (a0:z1w):Option (V3) :=
 some ((UInt64.ofInt a0.N) * 8) >>= fun y3 =>
 appz 1 [128] 0 (Int.tmod (w64 (119 - (Int.tmod a0.N 64))) 64) >>= fun x5 =>
 (iter (z98 y3) (x5,56)) >>= fun s8 =>
 (z9w a0 s8 >>= fun r21 =>
 iter (z7t r21) ((Vector.replicate 32 0),0)) >>= fun s20 =>
 some s20
theorem zl2 (a0:z1w):z1u Tryz.prog 128 [.rd z2c a0] [zG1] (zem a0) (fun r nv=>⟨[.rd aZ r],[(1001,some (.bool true,.glob 1 (z2y 64 z0i) z4q))]⟩):=by
 refine z2m 66 Tryz.func128 Z Z Z fun H w=>?_
 refine gSR<|Eb Z (bx 1 Z) fun v1=>Eb Z (z7q 2 z36 (.zr (R:=aZ) (x:=(Vector.replicate 32 0)) zhl)) fun v2=>Zn<|gSR<|Zq (faB 1 Z Z Tryz.underlying156 Z (by exact ti3))<|Zq (ld 1 Z Z (fP (z7n _)) ty3 Z)<|Zq (I.toU Z tu3 tu38)<|Zq (U.mul Z Z)<|Za Z<|z1z 3 Z fun y3=>Zn<|gSR<|Ef Z (lit (R:=u8R) ([128]:List UInt8) 3 (pP Z Z<|pN) Z tu89 ti5 Z Z) fun v4=>Zq (faB 1 Z Z Tryz.underlying156 Z (by exact ti3))<|Zq (ld 1 Z Z (fP (z7n _)) ty3 Z)<|Zq (I.rem Z Z (by decide))<|Zq (I.sub Z Z)<|Zq (I.rem Z Z (by decide))<|z0u fun x5 h6=>Ef Z (apZO 3 Z Z Z h6 tu89 tu3 ti5 (Zr.num Z) Z) fun v7=>Zb Z<|z7m (fun (s8:(List UInt8)) aa ww=>∃ nv:Nat→Value,Sta (ctx 66 H [zG1] w) [(1,.val (z05 v1 0)),(2,.val (z05 v2 0)),(4,.val (nv 0))] [(1,some (v1,.box 156 [.rd z2c a0])),(2,some (v2,.box 36 [.rd aZ (Vector.replicate 32 0)])),(3,some ((nv 0),.list u8R 5 s8)),zG1] aa ww) ?_ (fun s8=>?_)
 ·
  refine gSR<|Zb Z<|z2b (fun (s9:(List UInt8) × Int) aa ww=>∃ nv:Nat→Value,Sta (ctx 66 H [zG1] w) [(1,.val (z05 v1 0)),(2,.val (z05 v2 0)),(3,.rd z2e y3),(4,.val (nv 0)),(5,.rd z07 s9.2)] [(1,some (v1,.box 156 [.rd z2c a0])),(2,some (v2,.box 36 [.rd aZ (Vector.replicate 32 0)])),(3,some ((nv 0),.list u8R 5 s9.1)),zG1] aa ww) (fun aa ww h=>⟨nvl [v7],Zu h [1,2,3,1001]⟩) (fun s9=>?_)
  refine gEx fun n10=>z0w<|gSR<|Zm Z<|Zq (I.geq Z Z)<|Zj Z (fun h11=>?_) (fun h11=>?_)
  ·
   refine Zt<|z0w<|z58<|z2o<|Zm Z<|Zm Z<|Zm Z<|z0u fun u12 h13=>Zq (U.shr Z Z (z4w h13))<|Zq (U.toB Z tu38 tu5)<|Ef Z (lit (R:=u8R) ([(z6k y3 ((s9.2:Int).toNat)).toUInt8]:List UInt8) 1100 (pP Z Z<|pN) Z tu89 ti5 Z Z) fun v14=>z0u fun x15 h16=>Ef Z (apn 3 Z Z Z (.own 1100 Z) h16 tu89 ti5 Z Z Z) fun v17=>Za Z<|z23<|z3h<|z0n<|z2o<|Zm Z<|Zq (I.sub Z Z)<|Za Z<|z1z 5 Z fun y18=>z23<|z1l (fun aa ww h=>⟨nvl [v17],Zu h [1,2,3,1001]⟩)
  ·
   refine z24<|z14<|z13<|z3s (fun aa ww h=>⟨nvl [(n10 0)],Zu h [1,2,3,1001]⟩)
 ·
  refine gEx fun n19=>z7m (fun (s20:V3) aa ww=>Sta (ctx 66 H [zG1] w) [(2,.val (z05 v2 0))] [(2,some (v2,.box 36 [.rd aZ s20])),zG1] aa ww) ?_ (fun s20=>?_)
  ·
   refine gSR<|Zq (ld 1 Z Z fH zny Z)<|Zm Z<|zhq 3 [4,31] Z (fS Z<|fS Z<|fN)<|Zc [1001] [] Tryz.func127 Z (zfa _ _) fun r21 n22=>Zq (fldV Z (zc9 _) Z Tryz.underlying156 Z znu)<|Zm Z<|Zn<|z2b (fun (s23:V3 × Int) aa ww=>Sta (ctx 66 H [zG1] w) [(2,.val (z05 v2 0)),(33,.rd (z2y 8 z0i) r21.Words),(34,.rd z07 s23.2)] [(2,some (v2,.box 36 [.rd aZ s23.1])),zG1] aa ww) (fun aa ww h=>Zu h [2,1001]) (fun s23=>?_)
   refine gSR<|Zq (I.lss Z Z)<|Zn<|z0w<|gIf Z Z (fun h24=>?_) (fun h24=>?_)
   ·
    refine Zt<|z0w<|z58<|gSR<|Zm Z<|z0u fun x25 h26=>Zq (idxV Z Z h26 tu129 z4z z86)<|Za Z<|Zb Z<|z2o<|Zm Z<|Zq (I.mul Z Z)<|Zm Z<|Zq (I.mul Z Z)<|Zq (I.add Z Z)<|Zm Z<|Zq (I.mul Z Z)<|Zq (I.add Z Z)<|Zm Z<|Zq (I.mul Z Z)<|Zq (I.add Z Z)<|Zm Z<|Zq (W.shr Z Z (Int.natCast_nonneg _))<|Zq (W.toB Z tu37 tu5)<|Zm Z<|Zq (W.shr Z Z (Int.natCast_nonneg _))<|Zq (W.toB Z tu37 tu5)<|Zm Z<|Zq (W.shr Z Z (Int.natCast_nonneg _))<|Zq (W.toB Z tu37 tu5)<|Zm Z<|Zq (W.toB Z tu37 tu5)<|z0u fun x27 h28=>Zq (ixB 2 Z Z Z h28 tu36 ti5)<|Es (sto 2 Z Z (fP (.el h28)) Z ti5)<|z0u fun x29 h30=>Zq (ixB 2 Z Z Z h30 tu36 ti5)<|Es (sto 2 Z Z (fP (.el h30)) Z ti5)<|z0u fun x31 h32=>Zq (ixB 2 Z Z Z h32 tu36 ti5)<|Es (sto 2 Z Z (fP (.el h32)) Z ti5)<|z0u fun x33 h34=>Zq (ixB 2 Z Z Z h34 tu36 ti5)<|Es (sto 2 Z Z (fP (.el h34)) Z ti5)<|z23<|z3h<|z0n<|z2o<|Zq (I.add Z Z)<|Zm Z<|z23<|z1l (fun aa ww h=>Zu h [2,1001])
   ·
    refine z24<|z14<|z13<|z3s (fun aa ww h=>Zu h [2,1001])
  ·
   refine gSR<|Zq (ld 2 Z Z fH z56 Z)<|Es (sto 2 Z Z fH Z z36)<|Zn<|z0m<|zbf [] [1001] Z (eC 2 Z Z z56<|eN) (y1 Z)
def z12 (a0:List (List UInt8)) (s2:Int):Option (Sum (Sum Int Unit) Int) :=
 if decide (s2<(a0.length:Int)) then
  idx a0 s2 >>= fun x4 =>
  zb1 x4 >>= fun r6 =>
  if r6 then
   some (.inl (.inl s2))
  else
   some (.inr (w64 (s2+1)))
 else
  some (.inl (.inr ()))
def z2h (a0:List (List UInt8)):Option (Int) :=
 z6l (iter (z12 a0) 0) fun s1 =>
 some (-1)
theorem z6h (a0:List (List UInt8)):z1u Tryz.prog 154 [.rd (z02 (z02 u8R)) a0,.val (.func (.func 125) #[] #[])] [] (z2h a0) (fun r nv=>⟨[.rd z07 r],[]⟩):=by
 refine z2m 19 Tryz.func154 Z Z Z fun H w=>?_
 refine gSR<|Zb Z<|z95 (fun (s1:Unit) aa ww=>Sta (ctx 19 H [] w) [] [] aa ww) ?_ (fun s1=>?_)
 ·
  refine gSR<|Zm Z<|Zq (z3q Z .rd Z tu124)<|Zm Z<|Zn<|z2b (fun (s2:Int) aa ww=>Sta (ctx 19 H [] w) [(0,.rd (z02 (z02 u8R)) a0),(1,.val (.func (.func 125) #[] #[])),(7,.rd z07 (a0.length:Int)),(8,.rd z07 s2)] [] aa ww) (fun aa ww h=>Zu h []) (fun s2=>?_)
  refine gSR<|Zq (I.lss Z Z)<|Zn<|z0w<|gIf Z Z (fun h3=>?_) (fun h3=>?_)
  ·
   refine Zt<|z0w<|z58<|gSR<|Zm Z<|Zb Z<|gSR<|Zm Z<|Zm Z<|Zm Z<|z0u fun x4 h5=>Zq (ixR Z Z h5 tu124 zqg Z)<|Zq (ldR Z ty89)<|zj1 [] [] (gd0 Z) Z Z Tryz.func125 Z Z (zgn _) (Y1 Z) (cN) rN fun r6 n7=>Zj Z (fun h8=>?_) (fun h8=>?_)
   ·
    refine gSR<|Zm Z<|Zb Z<|z0m<|z4c<|z10<|z85<|z80<|Ze [] [] Z
   ·
    refine z3a<|z3h<|z0n<|z2o<|Zq (I.add Z Z)<|Zm Z<|z23<|z1l (fun aa ww h=>Zu h [])
  ·
   refine z24<|z14<|z13<|z8b (fun aa ww h=>Zu h [])
 ·
  refine gSR<|Zb Z<|z0m<|Ze [] [] Z
def z1a (a0:List (List UInt8)):Option (Bool) :=
 z2h a0 >>= fun r1 =>
 some (decide (0≤r1)) >>= fun y3 =>
 some y3
theorem z5h (a0:List (List UInt8)):z1u Tryz.prog 124 [.rd (z02 (z02 u8R)) a0,.val (.func (.func 125) #[] #[])] [] (z1a a0) (fun r nv=>⟨[.rd z0f r],[]⟩):=by
 refine z2m 9 Tryz.func124 Z Z Z fun H w=>?_
 refine gSR<|Zb Z<|gSR<|Zm Z<|Zm Z<|Zc [] [] Tryz.func154 Z (z6h _) fun r1 n2=>Zq (I.geq Z Z)<|Za Z<|z1z 4 Z fun y3=>Zn<|z0m<|Ze [] [] Z
def z72 (a0:List (List UInt8)) (s11:z1w × Int):Option (Sum z1w (z1w × Int)) :=
 if decide (s11.2<(a0.length:Int)) then
  idx a0 s11.2 >>= fun x13 =>
  z9w s11.1 x13 >>= fun r15 =>
  some (.inr (r15,w64 (s11.2+1)))
 else
  some (.inl s11.1)
def z9d (a0:List (List UInt8)):Option (V3 × Int) :=
 (if decide (20<(a0.length:Int)) then
  some true
 else
  z1a a0 >>= fun r4 =>
  some r4) >>= fun s2 =>
 if s2 then
  some ((Vector.replicate 32 0),4)
 else
  zbi >>= fun r7 =>
  (iter (z72 a0) (r7,0)) >>= fun s10 =>
  zem s10 >>= fun r17 =>
  some (r17,0)
theorem zdg (a0:List (List UInt8)):z1u Tryz.prog 87 [.rd (z02 (z02 u8R)) a0] [zG1] (z9d a0) (fun r nv=>⟨[.rd aZ r.1,.rd z07 r.2],[(1001,some (.bool true,.glob 1 (z2y 64 z0i) z4q))]⟩):=by
 refine z2m 28 Tryz.func87 Z Z Z fun H w=>?_
 refine gSR<|Eb Z (z7q 1 z36 (.zr (R:=aZ) (x:=(Vector.replicate 32 0)) zhl)) fun v1=>Zb Z<|z0w<|z7m (fun (s2:Bool) aa ww=>Sta (ctx 28 H [zG1] w) [(0,.rd (z02 (z02 u8R)) a0),(2,.val (z05 v1 0)),(13,.rd z0f s2)] [(1,some (v1,.box 36 [.rd aZ (Vector.replicate 32 0)])),zG1] aa ww) ?_ (fun s2=>?_)
 ·
  refine z2o<|Zm Z<|Zq (z3q Z .rd Z tu124)<|Zq (I.gtr Z Z)<|Zm Z<|z2n 10 Z (fun h3=>?_) (fun h3=>?_)
  ·
   refine lKn 9 Z h3<|Zk Z<|Zk Z<|Zq (pkT Z Z)<|z23<|z3s (fun aa ww h=>Zu h [1,1001])
  ·
   refine lKn 9 Z h3<|z1y Zx Z Z (mv Z)<|zew [] [] Zx Z Tryz.func124 Z Z (z5h _) (Y2 Z Z) rN fun r4 n5=>Zq (pkF Z Z)<|z23<|z3s (fun aa ww h=>Zu h [1,1001])
 ·
  refine gIf Z Z (fun h6=>?_) (fun h6=>?_)
  ·
   refine gSR<|Zq (bldG (x':=((Vector.replicate 32 0):V3)) tu36 z36 zhl ti5 (Bld.done Z))<|Es (sto 1 Z Z fH Z z36)<|Zb Z<|z0m<|z10<|zbf [] [1001] Z (eC 1 Z Z z56<|eE Z<|eN) (y1 Z)
  ·
   refine Zt<|gSR<|Zc [] [] Tryz.func126 Z (zjp) fun r7 n8=>Eb Z (z7q 1100 zk5 (ZrE.rd (R:=(z2y 8 z0i)) (x:=(Vector.replicate 8 0)) zne (ZrE.nilS (ZrE.rd (R:=z07) (x:=0) (Zr.num Z) ZrE.nil Z)) Z)) fun v9=>zhh u8R [.rd (z2y 8 z0i) (Vector.replicate 8 0),.rd (z02 u8R) [],.rd z07 0] 1100 [.rd (z2y 8 z0i) (Vector.replicate 8 0)] [.rd z07 0] Z Z Z<|zgu (R:=z2c) (⟨(Vector.replicate 8 0),[],0⟩:z1w) 1100 Z (Sp.via (Sp.prod (Sp.prod (Sp.prod Sp.unit))))<|Es (sto 1100 Z Z fH Z zk5)<|Zn<|z7m (fun (s10:z1w) aa ww=>Sta (ctx 28 H [zG1] w) [(2,.val (z05 v1 0)),(4,.val (z05 v9 0))] [(1,some (v1,.box 36 [.rd aZ (Vector.replicate 32 0)])),(1100,some (v9,.box 156 [.rd z2c s10])),zG1] aa ww) ?_ (fun s10=>?_)
   ·
    refine gSR<|Zm Z<|Zq (z3q Z .rd Z tu124)<|Zm Z<|Zn<|z2b (fun (s11:z1w × Int) aa ww=>Sta (ctx 28 H [zG1] w) [(2,.val (z05 v1 0)),(4,.val (z05 v9 0)),(16,.rd (z02 (z02 u8R)) a0),(17,.rd z07 (a0.length:Int)),(18,.rd z07 s11.2)] [(1,some (v1,.box 36 [.rd aZ (Vector.replicate 32 0)])),(1100,some (v9,.box 156 [.rd z2c s11.1])),zG1] aa ww) (fun aa ww h=>Zu h [1,1100,1001]) (fun s11=>?_)
    refine gSR<|Zq (I.lss Z Z)<|Zn<|z0w<|gIf Z Z (fun h12=>?_) (fun h12=>?_)
    ·
     refine Zt<|z0w<|z58<|gSR<|z0u fun x13 h14=>Zq (ixR Z Z h14 tu124 zqg Z)<|Zq (ldR Z ty89)<|Zb Z<|z2o<|Zq (ld 1100 Z Z fH zny Z)<|Zm Z<|Zc [1001] [] Tryz.func127 Z (zfa _ _) fun r15 n16=>Es (sto 1100 Z Z fH Z zk5)<|z23<|z3h<|z0n<|z2o<|Zq (I.add Z Z)<|Zm Z<|z23<|z1l (fun aa ww h=>Zu h [1,1100,1001])
    ·
     refine z24<|z14<|z13<|z3s (fun aa ww h=>Zu h [1,1100,1001])
   ·
    refine gSR<|Zq (ld 1100 Z Z fH zny Z)<|Zc [1001] [] Tryz.func128 Z (zl2 _) fun r17 n18=>Es (sto 1 Z Z fH Z z36)<|Zb Z<|z0m<|zbf [] [1001] Z (eC 1 Z Z z56<|eE Z<|eN) (y1 Z)
def zel (a0:List UInt8):Option (V3 × Int) :=
 z9d [a0] >>= fun r3 =>
 some (r3.1,r3.2)
theorem zlg (a0:List UInt8):z1u Tryz.prog 59 [.rd (z02 u8R) a0] [zG1] (zel a0) (fun r nv=>⟨[.rd aZ r.1,.rd z07 r.2],[(1001,some (.bool true,.glob 1 (z2y 64 z0i) z4q))]⟩):=by
 refine z2m 9 Tryz.func59 Z Z Z fun H w=>?_
 refine gSR<|Eb Z (z7q 1 z36 (.zr (R:=aZ) (x:=(Vector.replicate 32 0)) zhl)) fun v1=>Zb Z<|gSR<|Zm Z<|Ef Z (lit (R:=(z02 u8R)) ([a0]:List (List UInt8)) 2 (pP Z Z<|pN) Z tu124 zqg Z Z) fun v2=>zhq 2 [5] Z (fS Z<|fN)<|Zc [1001] [] Tryz.func87 Z (zdg _) fun r3 n4=>Zq (ext Z Z)<|Zq (ext Z Z)<|Es (sto 1 Z Z fH Z z36)<|Zb Z<|z0m<|zbf [] [1001] Z (eC 1 Z Z z56<|eE Z<|eN) (y1 Z)
def zqy (a0:z06):Option (V3 × Int) :=
 zca a0 >>= fun r3 =>
 if r3.2 != 0 then
  some ((Vector.replicate 32 0),r3.2)
 else
  zel r3.1 >>= fun r6 =>
  some (r6.1,r6.2)
theorem zll (a0:z06):z1u Tryz.prog 36 [.rd z03 a0] [zG1] (zqy a0) (fun r nv=>⟨[.rd aZ r.1,.rd z07 r.2],[(1001,some (.bool true,.glob 1 (z2y 64 z0i) z4q))]⟩):=by
 refine z2m 19 Tryz.func36 Z Z Z fun H w=>?_
 refine gSR<|Eb Z (bx 1 Z) fun v1=>Eb Z (z7q 2 z36 (.zr (R:=aZ) (x:=(Vector.replicate 32 0)) zhl)) fun v2=>Zb Z<|gSR<|Zq (ld 1 Z Z fH z9q Z)<|Zc [] [(100,3)] Tryz.func58 Z (zmy _) fun r3 n4=>Zm Z<|Zq (ext Z Z)<|Zq (ext Z Z)<|Za Z<|Zb Z<|z0w<|gSR<|Zm Z<|Zq (I.neq Z Z)<|Zj Z (fun h5=>?_) (fun h5=>?_)
 ·
  refine gSR<|Zq (bldG (x':=((Vector.replicate 32 0):V3)) tu36 z36 zhl ti5 (Bld.done Z))<|Zm Z<|Es (sto 2 Z Z fH Z z36)<|Zb Z<|z0m<|z10<|zbf [] [1001] Z (eC 2 Z Z z56<|eE Z<|eN) (y1 Z)
 ·
  refine Zt<|gSR<|Zm Z<|zhq 3 [9,4,15] Z (fS Z<|fS Z<|fS Z<|fN)<|Zc [1001] [] Tryz.func59 Z (zlg _) fun r6 n7=>Zq (ext Z Z)<|Zq (ext Z Z)<|Es (sto 2 Z Z fH Z z36)<|Zb Z<|z0m<|zbf [] [1001] Z (eC 2 Z Z z56<|eE Z<|eN) (y1 Z)
def z3x (a0:List UInt32) (s2:Int):Option (Sum (Sum Bool Unit) Int) :=
 if decide (s2<(a0.length:Int)) then
  idx a0 s2 >>= fun x4 =>
  zeq x4 >>= fun r6 =>
  if !r6 then
   some (.inl (.inl false))
  else
   some (.inr (w64 (s2+1)))
 else
  some (.inl (.inr ()))
def zb4 (a0:List UInt32):Option (Bool) :=
 z6l (iter (z3x a0) 0) fun s1 =>
 some true
theorem zhv (a0:List UInt32):z1u Tryz.prog 121 [.rd (z02 z0i) a0] [] (zb4 a0) (fun r nv=>⟨[.rd z0f r],[]⟩):=by
 refine z2m 15 Tryz.func121 Z Z Z fun H w=>?_
 refine gSR<|Zb Z<|z95 (fun (s1:Unit) aa ww=>Sta (ctx 15 H [] w) [] [] aa ww) ?_ (fun s1=>?_)
 ·
  refine gSR<|Zm Z<|Zq (z3q Z .rd Z tu182)<|Zm Z<|Zn<|z2b (fun (s2:Int) aa ww=>Sta (ctx 15 H [] w) [(5,.rd (z02 z0i) a0),(6,.rd z07 (a0.length:Int)),(7,.rd z07 s2)] [] aa ww) (fun aa ww h=>Zu h []) (fun s2=>?_)
  refine gSR<|Zq (I.lss Z Z)<|Zn<|z0w<|gIf Z Z (fun h3=>?_) (fun h3=>?_)
  ·
   refine Zt<|z0w<|z58<|gSR<|z0u fun x4 h5=>Zq (ixR Z Z h5 tu182 z4z Z)<|Zq (ldR Z z86)<|Zb Z<|gSR<|Zm Z<|Zc [] [] Tryz.func76 Z (zfo _) fun r6 n7=>Zq (zd9 Z)<|Zj Z (fun h8=>?_) (fun h8=>?_)
   ·
    refine gSR<|Zb Z<|z0m<|z4c<|z10<|z85<|z80<|Ze [] [] Z
   ·
    refine z3a<|z3h<|z0n<|z2o<|Zq (I.add Z Z)<|Zm Z<|z23<|z1l (fun aa ww h=>Zu h [])
  ·
   refine z24<|z14<|z13<|z8b (fun aa ww h=>Zu h [])
 ·
  refine gSR<|Zb Z<|z0m<|Ze [] [] Z
def zjb (a0:UInt32) (a1:UInt64):Option (UInt32 × Int) :=
 zb4 [a0] >>= fun r2 =>
 if !r2 then
  some (0,2)
 else
  zce a0 a1 >>= fun r5 =>
  some (r5,0)
end
section
open Go Go.RowKit
set_option maxRecDepth 100000
theorem zns (a0:UInt32) (a1:UInt64):z1u Tryz.prog 83 [.rd z0i a0,.rd z2e a1] [] (zjb a0 a1) (fun r nv=>⟨[.rd z0i r.1,.rd z07 r.2],[]⟩):=by
 refine z2m 13 Tryz.func83 Z Z Z fun H w=>?_
 refine gSR<|Za Z<|Zb Z<|z0w<|gSR<|Zm Z<|Ef Z (lit (R:=z0i) ([a0]:List UInt32) 1 (pP Z Z<|pN) Z tu182 z4z Z Z) fun v1=>zhq 1 [7] Z (fS Z<|fN)<|Zc [] [] Tryz.func121 Z (zhv _) fun r2 n3=>Zq (zd9 Z)<|Zj Z (fun h4=>?_) (fun h4=>?_)
 ·
  refine gSR<|Za Z<|Zb Z<|z0m<|z10<|Ze [] [] Z
 ·
  refine Zt<|gSR<|Zm Z<|Zm Z<|Zc [] [] Tryz.func115 Z (zdq _ _) fun r5 n6=>Za Z<|Zb Z<|z0m<|Ze [] [] Z
def z9t (a0:UInt64):Option (UInt32) :=
 zce 4 a0 >>= fun r1 =>
 some r1
theorem zcy (a0:UInt64):z1u Tryz.prog 85 [.rd z2e a0] [] (z9t a0) (fun r nv=>⟨[.rd z0i r],[]⟩):=by
 refine z2m 5 Tryz.func85 Z Z Z fun H w=>?_
 refine gSR<|Zb Z<|gSR<|Zm Z<|Zc [] [] Tryz.func115 Z (zdq _ _) fun r1 n2=>Zb Z<|z0m<|Ze [] [] Z
def ziq (a0:UInt32) (a1:UInt32):Option (UInt32 × Int) :=
 zb4 [a0,a1] >>= fun r2 =>
 if !r2 then
  some (0,2)
 else
  z9k 1000000007 [a0,a1] >>= fun r6 =>
  some (r6,0)
theorem zmq (a0:UInt32) (a1:UInt32):z1u Tryz.prog 84 [.rd z0i a0,.rd z0i a1] [] (ziq a0 a1) (fun r nv=>⟨[.rd z0i r.1,.rd z07 r.2],[]⟩):=by
 refine z2m 15 Tryz.func84 Z Z Z fun H w=>?_
 refine gSR<|Za Z<|Zb Z<|z0w<|gSR<|Zm Z<|Zm Z<|Ef Z (lit (R:=z0i) ([a0,a1]:List UInt32) 1 (pP Z Z<|pP Z Z<|pN) Z tu182 z4z Z Z) fun v1=>zhq 1 [8] Z (fS Z<|fN)<|Zc [] [] Tryz.func121 Z (zhv _) fun r2 n3=>Zq (zd9 Z)<|Zj Z (fun h4=>?_) (fun h4=>?_)
 ·
  refine gSR<|Za Z<|Zb Z<|z0m<|z10<|Ze [] [] Z
 ·
  refine Zt<|gSR<|Zm Z<|Zm Z<|Ef Z (lit (R:=z0i) ([a0,a1]:List UInt32) 2 (pP Z Z<|pP Z Z<|pN) Z tu182 z4z Z Z) fun v5=>zhq 2 [13] Z (fS Z<|fN)<|Zc [] [] Tryz.func122 Z (zbl _ _) fun r6 n7=>Za Z<|Zb Z<|z0m<|Ze [] [] Z
def z3c (a2:List UInt32) (s4:(List UInt8) × Int):Option (Sum ((List UInt8)) ((List UInt8) × Int)) :=
 if decide (s4.2<(a2.length:Int)) then
  idx a2 s4.2 >>= fun x7 =>
  app 1 s4.1 [(z3o x7 24).toUInt8,(z3o x7 16).toUInt8,(z3o x7 8).toUInt8,x7.toUInt8] >>= fun x10 =>
  some (.inr (x10,w64 (s4.2+1)))
 else
  some (.inl s4.1)
def za3 (r15:V3 × Int) (s19:UInt64 × Int):Option (Sum UInt64 (UInt64 × Int)) :=
 if decide (s19.2<(((r15.1.toList.drop 0).take 8).length:Int)) then
  idx ((r15.1.toList.drop 0).take 8) s19.2 >>= fun x21 =>
  some ((zlr s19.1 8) ||| x21.toUInt64) >>= fun y23 =>
  some (.inr (y23,w64 (s19.2+1)))
 else
  some (.inl s19.1)
def zaz (a0:UInt8) (a1:List UInt8) (a2:List UInt32):Option (UInt64 × Int) :=
 if decide (9991<(a1.length:Int)) then
  some (0,4)
 else
  (iter (z3c a2) ([a0],0)) >>= fun s3 =>
  z9d [s3,a1] >>= fun r15 =>
  (iter (za3 r15) (0,0)) >>= fun s18 =>
  some (s18,r15.2)
theorem zhm (a0:UInt8) (a1:List UInt8) (a2:List UInt32):z1u Tryz.prog 123 [.rd u8R a0,.rd (z02 u8R) a1,.rd (z02 z0i) a2] [zG1] (zaz a0 a1 a2) (fun r nv=>⟨[.rd z2e r.1,.rd z07 r.2],[(1001,some (.bool true,.glob 1 (z2y 64 z0i) z4q))]⟩):=by
 refine z2m 63 Tryz.func123 Z Z Z fun H w=>?_
 refine gSR<|Za Z<|Zb Z<|z0w<|gSR<|Zm Z<|Zq (z3q Z .rd Z tu89)<|Zq (I.gtr Z Z)<|Zj Z (fun h1=>?_) (fun h1=>?_)
 ·
  refine gSR<|Za Z<|Zb Z<|z0m<|z10<|Ze [] [1001] Z
 ·
  refine Zt<|gSR<|Zm Z<|Ef Z (lit (R:=u8R) ([a0]:List UInt8) 1 (pP Z Z<|pN) Z tu89 ti5 Z Z) fun v2=>Zb Z<|z7m (fun (s3:(List UInt8)) aa ww=>∃ nv:Nat→Value,Sta (ctx 63 H [zG1] w) [(1,.rd (z02 u8R) a1),(8,.val (nv 0))] [(1,some ((nv 0),.list u8R 5 s3)),zG1] aa ww) ?_ (fun s3=>?_)
  ·
   refine gSR<|Zm Z<|Zq (z3q Z .rd Z tu182)<|Zm Z<|Zn<|z2b (fun (s4:(List UInt8) × Int) aa ww=>∃ nv:Nat→Value,Sta (ctx 63 H [zG1] w) [(1,.rd (z02 u8R) a1),(8,.val (nv 0)),(21,.rd (z02 z0i) a2),(22,.rd z07 (a2.length:Int)),(23,.rd z07 s4.2)] [(1,some ((nv 0),.list u8R 5 s4.1)),zG1] aa ww) (fun aa ww h=>⟨nvl [v2],Zu h [1,1001]⟩) (fun s4=>?_)
   refine gEx fun n5=>gSR<|Zq (I.lss Z Z)<|Zn<|z0w<|gIf Z Z (fun h6=>?_) (fun h6=>?_)
   ·
    refine Zt<|z0w<|z58<|gSR<|z0u fun x7 h8=>Zq (ixR Z Z h8 tu182 z4z Z)<|Zq (ldR Z z86)<|Zb Z<|z2o<|Zm Z<|Zm Z<|Zq (W.shr Z Z (Int.natCast_nonneg _))<|Zq (W.toB Z tu37 tu5)<|Zm Z<|Zq (W.shr Z Z (Int.natCast_nonneg _))<|Zq (W.toB Z tu37 tu5)<|Zm Z<|Zq (W.shr Z Z (Int.natCast_nonneg _))<|Zq (W.toB Z tu37 tu5)<|Zm Z<|Zq (W.toB Z tu37 tu5)<|Ef Z (lit (R:=u8R) ([(z3o x7 24).toUInt8,(z3o x7 16).toUInt8,(z3o x7 8).toUInt8,x7.toUInt8]:List UInt8) 1100 (pP Z Z<|pP Z Z<|pP Z Z<|pP Z Z<|pN) Z tu89 ti5 Z Z) fun v9=>z0u fun x10 h11=>Ef Z (apn 1 Z Z Z (.own 1100 Z) h11 tu89 ti5 Z Z Z) fun v12=>Za Z<|z23<|z3h<|z0n<|z2o<|Zq (I.add Z Z)<|Zm Z<|z23<|z1l (fun aa ww h=>⟨nvl [v12],Zu h [1,1001]⟩)
   ·
    refine z24<|z14<|z13<|z3s (fun aa ww h=>⟨nvl [(n5 0)],Zu h [1,1001]⟩)
  ·
   refine gEx fun n13=>gSR<|Zm Z<|Zm Z<|zhq 1 [8,43] Z (fS Z<|fS Z<|fN)<|Ef Z (lit (R:=(z02 u8R)) ([s3,a1]:List (List UInt8)) 1101 (pP Z Z<|pP Z Z<|pN) Z tu124 zqg Z Z) fun v14=>zhq 1101 [45] Z (fS Z<|fN)<|Zc [1001] [] Tryz.func87 Z (zdg _) fun r15 n16=>Zm Z<|Zq (ext Z Z)<|Zq (ext Z Z)<|Eb Z (z7q 1102 z36 (.zr (R:=aZ) (x:=(Vector.replicate 32 0)) zhl)) fun v17=>Es (sto 1102 Z Z fH Z z36)<|Zb Z<|gSR<|Zb Z<|z7m (fun (s18:UInt64) aa ww=>Sta (ctx 63 H [zG1] w) [(12,.rd z07 r15.2),(13,.rd z2e s18)] [zG1] aa ww) ?_ (fun s18=>?_)
   ·
    refine gSR<|z115 1102 11 Z Z<|Zq (z134 (i:=0) (j:=8) Z .no (.to Z) tu36 ti5 (by decide) Z Z Z)<|Zq (z3q Z .rd Z tu89)<|Zm Z<|Zn<|z2b (fun (s19:UInt64 × Int) aa ww=>Sta (ctx 63 H [zG1] w) [(12,.rd z07 r15.2),(13,.rd z2e s19.1),(49,.rd (z02 u8R) ((r15.1.toList.drop 0).take 8)),(50,.rd z07 (((r15.1.toList.drop 0).take 8).length:Int)),(51,.rd z07 s19.2)] [zG1] aa ww) (fun aa ww h=>Zu h [1001]) (fun s19=>?_)
    refine gSR<|Zq (I.lss Z Z)<|Zn<|z0w<|gIf Z Z (fun h20=>?_) (fun h20=>?_)
    ·
     refine Zt<|z0w<|z58<|gSR<|z0u fun x21 h22=>Zq (ixR Z Z h22 tu89 ti5 Z)<|Zq (ldR Z ty5)<|Zb Z<|z2o<|Zm Z<|Zq (U.shl Z Z (Int.natCast_nonneg _))<|Zm Z<|Zq (B.toU Z tu5 tu38)<|Zq (U.or Z Z)<|Za Z<|z1z 13 Z fun y23=>z23<|z3h<|z0n<|z2o<|Zq (I.add Z Z)<|Zm Z<|z23<|z1l (fun aa ww h=>Zu h [1001])
    ·
     refine z24<|z14<|z13<|z3s (fun aa ww h=>Zu h [1001])
   ·
    refine gSR<|Zm Z<|Zm Z<|Za Z<|Zb Z<|z0m<|Ze [] [1001] Z
def z8j (a0:UInt32) (a1:UInt32) (a2:List UInt8):Option (UInt32 × Int) :=
 zaz 99 a2 [a0,a1] >>= fun r2 =>
 if r2.2 != 0 then
  some (0,r2.2)
 else
  some ((r2.1 % 500000003).toUInt32) >>= fun y5 =>
  some (y5,0)
theorem zc7 (a0:UInt32) (a1:UInt32) (a2:List UInt8):z1u Tryz.prog 86 [.rd z0i a0,.rd z0i a1,.rd (z02 u8R) a2] [zG1] (z8j a0 a1 a2) (fun r nv=>⟨[.rd z0i r.1,.rd z07 r.2],[(1001,some (.bool true,.glob 1 (z2y 64 z0i) z4q))]⟩):=by
 refine z2m 24 Tryz.func86 Z Z Z fun H w=>?_
 refine gSR<|Za Z<|Zb Z<|gSR<|Zm Z<|Zm Z<|Zm Z<|Ef Z (lit (R:=z0i) ([a0,a1]:List UInt32) 1 (pP Z Z<|pP Z Z<|pN) Z tu182 z4z Z Z) fun v1=>zhq 1 [14] Z (fS Z<|fN)<|Zc [1001] [] Tryz.func123 Z (zhm _ _ _) fun r2 n3=>Zm Z<|Zq (ext Z Z)<|Zq (ext Z Z)<|Za Z<|Zb Z<|z0w<|gSR<|Zm Z<|Zq (I.neq Z Z)<|Zj Z (fun h4=>?_) (fun h4=>?_)
 ·
  refine gSR<|Zm Z<|Za Z<|Zb Z<|z0m<|z10<|Ze [] [1001] Z
 ·
  refine Zt<|gSR<|Zm Z<|Zq (U.rem Z Z (by decide))<|Zq (U.toW Z tu38 tu37)<|Za Z<|z1z 6 Z fun y5=>Zb Z<|z0m<|Ze [] [1001] Z
def zcr (a0:UInt32) (a1:List UInt8) (a2:z09):Option (Int) :=
 zeq a0 >>= fun r2 =>
 if !r2 then
  some 2
 else
  if decide (9991<(a1.length:Int)) then
   some 4
  else
   if decide (500000003≤(max a2.E a2.S)) then
    some 22
   else
    zjb a0 (500000003 - a2.E.toUInt64) >>= fun r7 =>
    z9t a2.S.toUInt64 >>= fun r9 =>
    ziq r9 r7.1 >>= fun r11 =>
    z8j r11.1 a0 a1 >>= fun r13 =>
    if r13.2 != 0 then
     some 22
    else
     if r13.1 != a2.E then
      some 22
     else
      some 0
theorem zk0 (a0:UInt32) (a1:List UInt8) (a2:z09):z1u Tryz.prog 57 [.rd z0i a0,.rd (z02 u8R) a1,.rd z0l a2] [zG1] (zcr a0 a1 a2) (fun r nv=>⟨[.rd z07 r],[(1001,some (.bool true,.glob 1 (z2y 64 z0i) z4q))]⟩):=by
 refine z2m 58 Tryz.func57 Z Z Z fun H w=>?_
 refine gSR<|Eb Z (bx 1 Z) fun v1=>Zb Z<|z0w<|gSR<|Zm Z<|Zc [] [] Tryz.func76 Z (zfo _) fun r2 n3=>Zq (zd9 Z)<|Zj Z (fun h4=>?_) (fun h4=>?_)
 ·
  refine gSR<|Zb Z<|z0m<|z10<|Ze [] [1001] Z
 ·
  refine Zt<|z0w<|gSR<|Zm Z<|Zq (z3q Z .rd Z tu89)<|Zq (I.gtr Z Z)<|Zj Z (fun h5=>?_) (fun h5=>?_)
  ·
   refine gSR<|Zb Z<|z0m<|z10<|Ze [] [1001] Z
  ·
   refine Zt<|z0w<|gSR<|Zq (faB 1 Z Z Tryz.underlying44 Z (by exact z4z))<|Zq (ld 1 Z Z (fP (z3w _)) z86 Z)<|Zq (faB 1 Z Z Tryz.underlying44 Z (by exact z4z))<|Zq (ld 1 Z Z (fP (z5c _)) z86 Z)<|Zq (W.max Z Z)<|Zq (W.geq Z Z)<|Zj Z (fun h6=>?_) (fun h6=>?_)
   ·
    refine gSR<|Zb Z<|z0m<|z10<|Ze [] [1001] Z
   ·
    refine Zt<|gSR<|Zm Z<|Zq (faB 1 Z Z Tryz.underlying44 Z (by exact z4z))<|Zq (ld 1 Z Z (fP (z3w _)) z86 Z)<|Zq (W.toU Z tu37 tu38)<|Zq (U.sub Z Z)<|Zc [] [] Tryz.func83 Z (zns _ _) fun r7 n8=>Zm Z<|Zq (ext Z Z)<|Zq (ext Z Z)<|Za Z<|Zb Z<|gSR<|Zq (faB 1 Z Z Tryz.underlying44 Z (by exact z4z))<|Zq (ld 1 Z Z (fP (z5c _)) z86 Z)<|Zq (W.toU Z tu37 tu38)<|Zc [] [] Tryz.func85 Z (zcy _) fun r9 n10=>Zm Z<|Zc [] [] Tryz.func84 Z (zmq _ _) fun r11 n12=>Zm Z<|Zq (ext Z Z)<|Zq (ext Z Z)<|Za Z<|Zb Z<|z0w<|gSR<|Zm Z<|Zm Z<|Zm Z<|Zc [1001] [] Tryz.func86 Z (zc7 _ _ _) fun r13 n14=>Zm Z<|Zq (ext Z Z)<|Zq (ext Z Z)<|Za Z<|Zb Z<|gSR<|Zm Z<|Zq (I.neq Z Z)<|Zm Z<|z2n 52 Z (fun h15=>?_) (fun h15=>?_)
    ·
     refine lKn 51 Z h15<|Zk Z<|Zk Z<|Zk Z<|Zk Z<|Zq (pkT Z Z)<|Zn<|zh1 Z<|gSR<|Zb Z<|z0m<|z10<|Ze [] [1001] Z
    ·
     refine lKn 51 Z h15<|z1y Zx Z Z (mv Z)<|z1y Zx Z Z (faB 1 Z Z Tryz.underlying44 Z (by exact z4z))<|z1y Zx Z Z (ld 1 Z Z (fP (z3w _)) z86 Z)<|z1y Zx Z Z (W.neq Z Z)<|Zq (pkF Z Z)<|Zj Z (fun h16=>?_) (fun h16=>?_)
     ·
      refine gKn 56 Z h16<|gSR<|Zb Z<|z0m<|z10<|Ze [] [1001] Z
     ·
      refine gKn 56 Z h16<|Zt<|gSR<|Zb Z<|z0m<|Ze [] [1001] Z
def zdr (a0:z06):Option (Int) :=
 zcw a0 >>= fun r2 =>
 if r2 != 0 then
  some r2
 else
  z9x a0 >>= fun r5 =>
  zcr a0.Author r5.1 a0.Sig >>= fun r7 =>
  some r7
theorem zhs (a0:z06):z1u Tryz.prog 35 [.rd z03 a0] [zG1] (zdr a0) (fun r nv=>⟨[.rd z07 r],[(1001,some (.bool true,.glob 1 (z2y 64 z0i) z4q))]⟩):=by
 refine z2m 22 Tryz.func35 Z Z Z fun H w=>?_
 refine gSR<|Eb Z (bx 1 Z) fun v1=>Zb Z<|z0w<|gSR<|Zq (ld 1 Z Z fH z9q Z)<|Zc [] [] Tryz.func55 Z (zfl _) fun r2 n3=>Zb Z<|gSR<|Zm Z<|Zq (I.neq Z Z)<|Zj Z (fun h4=>?_) (fun h4=>?_)
 ·
  refine gSR<|Zm Z<|Zb Z<|z0m<|z10<|Ze [] [1001] Z
 ·
  refine Zt<|gSR<|Zq (ld 1 Z Z fH z9q Z)<|Zc [] [(100,2)] Tryz.func56 Z (zcs _) fun r5 n6=>Zm Z<|Zq (ext Z Z)<|Zq (ext Z Z)<|Za Z<|Zb Z<|gSR<|Zq (faB 1 Z Z Tryz.underlying46 Z (by exact z4z))<|Zq (ld 1 Z Z (fP (z41 _)) z86 Z)<|Zm Z<|Zq (faB 1 Z Z Tryz.underlying46 Z (by exact zjy))<|Zq (ld 1 Z Z (fP (z35 _)) ty44 Z)<|zhq 2 [14,4,18] Z (fS Z<|fS Z<|fS Z<|fN)<|Zc [1001] [] Tryz.func57 Z (zk0 _ _ _) fun r7 n8=>Zb Z<|z0m<|Ze [] [1001] Z
def z4a (s4:UInt64 × (List UInt8)):Option (Sum ((List UInt8)) (UInt64 × (List UInt8))) :=
 if decide (0<s4.1) then
  app 1 s4.2 [(s4.1 % 256).toUInt8] >>= fun x8 =>
  some (.inr (s4.1 / 256,x8))
 else
  some (.inl s4.2)
def z4b (s3:(List UInt8)) (s15:(List UInt8) × Int):Option (Sum ((List UInt8)) ((List UInt8) × Int)) :=
 if decide (0≤s15.2) then
  idx s3 s15.2 >>= fun x18 =>
  app 1 s15.1 [x18] >>= fun x21 =>
  some (w64 (s15.2 - 1)) >>= fun y24 =>
  some (.inr (x21,y24))
 else
  some (.inl s15.1)
def z21 (a0:UInt64):Option ((List UInt8)) :=
 if decide (a0≤247) then
  some [a0.toUInt8]
 else
  (iter (z4a) (a0,[])) >>= fun s3 =>
  (some (w64 ((s3.length:Int) - 1)) >>= fun y14 =>
  iter (z4b s3) ([UInt8.ofInt (w64 (247+(s3.length:Int)))],y14)) >>= fun s13 =>
  some s13
theorem z2l (a0:UInt64):z1u Tryz.prog 99 [.rd z2e a0] [] (z21 a0) (fun r nv=>⟨[.val (nv 0)],[(100,some (nv 0,.list u8R 5 r))]⟩):=by
 refine z2m 41 Tryz.func99 Z Z Z fun H w=>?_
 refine gSR<|Zb Z<|z0w<|gSR<|Zm Z<|Zq (U.leq Z Z)<|Zj Z (fun h1=>?_) (fun h1=>?_)
 ·
  refine gSR<|Zm Z<|Zq (U.toB Z tu38 tu5)<|Ef Z (lit (R:=u8R) ([a0.toUInt8]:List UInt8) 1 (pP Z Z<|pN) Z tu89 ti5 Z Z) fun v2=>Zb Z<|z0m<|z10<|Ze [v2] [1] Z
 ·
  refine Zt<|gSR<|Zb Z<|z7m (fun (s3:(List UInt8)) aa ww=>∃ nv:Nat→Value,Sta (ctx 41 H [] w) [(3,.val (nv 0))] [(3,some ((nv 0),.list u8R 5 s3))] aa ww) ?_ (fun s3=>?_)
  ·
   refine zvl u8R 5 6<|z2b (fun (s4:UInt64 × (List UInt8)) aa ww=>∃ nv:Nat→Value,Sta (ctx 41 H [] w) [(0,.rd z2e s4.1),(3,.val (nv 0))] [(5,some ((nv 0),.list u8R 5 s4.2))] aa ww) (fun aa ww h=>⟨nvl [(.slice none 0 0)],Zu h [6]⟩) (fun s4=>?_)
   refine gEx fun n5=>z0w<|gSR<|Zm Z<|Zq (U.gtr Z Z)<|Zj Z (fun h6=>?_) (fun h6=>?_)
   ·
    refine Zt<|z58<|gSR<|Zm Z<|Zm Z<|Zq (U.rem Z Z (by decide))<|Zq (U.toB Z tu38 tu5)<|Ef Z (lit (R:=u8R) ([(s4.1 % 256).toUInt8]:List UInt8) 7 (pP Z Z<|pN) Z tu89 ti5 Z Z) fun v7=>z0u fun x8 h9=>Ef Z (apn 5 Z Z Z (.own 7 Z) h9 tu89 ti5 Z Z Z) fun v10=>Zb Z<|z2o<|Zm Z<|Zq (U.quo Z Z (by decide))<|Za Z<|z23<|z3h<|z1l (fun aa ww h=>⟨nvl [v10],Zu h [5]⟩)
   ·
    refine z24<|z14<|z13<|z3s (fun aa ww h=>⟨nvl [(n5 0)],Zu h [5]⟩)
  ·
   refine gEx fun n11=>gSR<|Zm Z<|Zq (z3q Z (.own 3 Z) Z tu89)<|Zq (I.add Z Z)<|Zq (I.toB Z tu3 tu5)<|Ef Z (lit (R:=u8R) ([UInt8.ofInt (w64 (247+(s3.length:Int)))]:List UInt8) 8 (pP Z Z<|pN) Z tu89 ti5 Z Z) fun v12=>Zb Z<|z7m (fun (s13:(List UInt8)) aa ww=>∃ nv:Nat→Value,Sta (ctx 41 H [] w) [(4,.val (nv 0))] [(8,some ((nv 0),.list u8R 5 s13))] aa ww) ?_ (fun s13=>?_)
   ·
    refine gSR<|Zm Z<|Zq (z3q Z (.own 3 Z) Z tu89)<|Zq (I.sub Z Z)<|Za Z<|z1z 5 Z fun y14=>Zn<|z2b (fun (s15:(List UInt8) × Int) aa ww=>∃ nv:Nat→Value,Sta (ctx 41 H [] w) [(3,.val (n11 0)),(4,.val (nv 0)),(5,.rd z07 s15.2)] [(3,some ((n11 0),.list u8R 5 s3)),(8,some ((nv 0),.list u8R 5 s15.1))] aa ww) (fun aa ww h=>⟨nvl [v12],Zu h [3,8]⟩) (fun s15=>?_)
    refine gEx fun n16=>z0w<|gSR<|Zm Z<|Zq (I.geq Z Z)<|Zj Z (fun h17=>?_) (fun h17=>?_)
    ·
     refine Zt<|z0w<|z58<|z2o<|Zm Z<|Zm Z<|Zm Z<|z0u fun x18 h19=>Zq (ixO 3 Z Z Z h19 tu89 ti5)<|Zq (ld 3 Z Z (Foc.el h19) ty5 Z)<|Ef Z (lit (R:=u8R) ([x18]:List UInt8) 9 (pP Z Z<|pN) Z tu89 ti5 Z Z) fun v20=>z0u fun x21 h22=>Ef Z (apn 8 Z Z Z (.own 9 Z) h22 tu89 ti5 Z Z Z) fun v23=>Za Z<|z23<|z3h<|z0n<|z2o<|Zm Z<|Zq (I.sub Z Z)<|Za Z<|z1z 5 Z fun y24=>z23<|z1l (fun aa ww h=>⟨nvl [v23],Zu h [3,8]⟩)
    ·
     refine z24<|z14<|z13<|z3s (fun aa ww h=>⟨nvl [(n16 0)],Zu h [8]⟩)
   ·
    refine gEx fun n25=>gSR<|Zm Z<|Zb Z<|z0m<|Ze [(n25 0)] [8] Z
def z5i (a0:List V3) (s4:(List UInt8) × Int):Option (Sum ((List UInt8)) ((List UInt8) × Int)) :=
 if decide (s4.2<(a0.length:Int)) then
  idx a0 s4.2 >>= fun x7 =>
  app 1 s4.1 x7.toList >>= fun x9 =>
  some (w64 (s4.2+1)) >>= fun y12 =>
  some (.inr (x9,y12))
 else
  some (.inl s4.1)
def z9h (a0:List V3):Option ((List UInt8)) :=
 z21 (UInt64.ofInt (a0.length:Int)) >>= fun r1 =>
 (iter (z5i a0) (r1,0)) >>= fun s3 =>
 some s3
theorem zgr (a0:List V3):z1u Tryz.prog 138 [.rd (z02 aZ) a0] [] (z9h a0) (fun r nv=>⟨[.val (nv 0)],[(100,some (nv 0,.list u8R 5 r))]⟩):=by
 refine z2m 22 Tryz.func138 Z Z Z fun H w=>?_
 refine gSR<|Zb Z<|gSR<|Zm Z<|Zq (z3q Z .rd Z tu22)<|Zq (I.toU Z tu3 tu38)<|Zc [] [(100,1)] Tryz.func99 Z (z2l _) fun r1 n2=>Zb Z<|z7m (fun (s3:(List UInt8)) aa ww=>∃ nv:Nat→Value,Sta (ctx 22 H [] w) [(3,.val (nv 0))] [(1,some ((nv 0),.list u8R 5 s3))] aa ww) ?_ (fun s3=>?_)
 ·
  refine gSR<|Zb Z<|z2b (fun (s4:(List UInt8) × Int) aa ww=>∃ nv:Nat→Value,Sta (ctx 22 H [] w) [(0,.rd (z02 aZ) a0),(3,.val (nv 0)),(4,.rd z07 s4.2)] [(1,some ((nv 0),.list u8R 5 s4.1))] aa ww) (fun aa ww h=>⟨nvl [(n2 0)],Zu h [1]⟩) (fun s4=>?_)
  refine gEx fun n5=>z0w<|gSR<|Zm Z<|Zm Z<|Zq (z3q Z .rd Z tu22)<|Zq (I.lss Z Z)<|Zj Z (fun h6=>?_) (fun h6=>?_)
  ·
   refine Zt<|z0w<|z58<|z2o<|Zm Z<|Zm Z<|Zm Z<|z0u fun x7 h8=>Zq (ixR Z Z h8 tu22 z36 Z)<|Zq (cutV Z tu36 ti5 Z Z Z)<|z0u fun x9 h10=>Ef Z (apn 1 Z Z Z .rd h10 tu89 ti5 Z Z Z) fun v11=>Za Z<|z23<|z3h<|z0n<|z2o<|Zm Z<|Zq (I.add Z Z)<|Za Z<|z1z 4 Z fun y12=>z23<|z1l (fun aa ww h=>⟨nvl [v11],Zu h [1]⟩)
  ·
   refine z24<|z14<|z13<|z3s (fun aa ww h=>⟨nvl [(n5 0)],Zu h [1]⟩)
 ·
  refine gEx fun n13=>gSR<|Zm Z<|Zb Z<|z0m<|Ze [(n13 0)] [1] Z
def z6f (a0:List UInt8):Option ((List UInt8)) :=
 z21 (UInt64.ofInt (a0.length:Int)) >>= fun r1 =>
 app 1 r1 a0 >>= fun x3 =>
 some x3
theorem zbk (a0:List UInt8):z1u Tryz.prog 139 [.rd (z02 u8R) a0] [] (z6f a0) (fun r nv=>⟨[.val (nv 0)],[(100,some (nv 0,.list u8R 5 r))]⟩):=by
 refine z2m 9 Tryz.func139 Z Z Z fun H w=>?_
 refine gSR<|Zb Z<|gSR<|Zm Z<|Zq (z3q Z .rd Z tu89)<|Zq (I.toU Z tu3 tu38)<|Zc [] [(100,1)] Tryz.func99 Z (z2l _) fun r1 n2=>Zm Z<|z0u fun x3 h4=>Ef Z (apn 1 Z Z Z .rd h4 tu89 ti5 Z Z Z) fun v5=>Zb Z<|z0m<|Ze [v5] [1] Z
def z7r (a0:Int):Option ((List UInt8)) :=
 if decide (0≤a0) then
  z21 (2 * (UInt64.ofInt a0)) >>= fun r2 =>
  some r2
 else
  z21 ((2 * (UInt64.ofInt (w64 (0 - (w64 (a0+1))))))+1) >>= fun r4 =>
  some r4
theorem zez (a0:Int):z1u Tryz.prog 163 [.rd z07 a0] [] (z7r a0) (fun r nv=>⟨[.val (nv 0)],[(100,some (nv 0,.list u8R 5 r))]⟩):=by
 refine z2m 16 Tryz.func163 Z Z Z fun H w=>?_
 refine gSR<|Zb Z<|z0w<|gSR<|Zm Z<|Zq (I.geq Z Z)<|Zj Z (fun h1=>?_) (fun h1=>?_)
 ·
  refine gSR<|Zm Z<|Zq (I.toU Z Tryz.underlying2 tu38)<|Zq (U.mul Z Z)<|Zc [] [(100,1)] Tryz.func99 Z (z2l _) fun r2 n3=>Zb Z<|z0m<|z10<|Ze [(n3 0)] [1] Z
 ·
  refine Zt<|gSR<|Zm Z<|Zq (I.add Z Z)<|Zq (I.neg Z)<|Zq (I.toU Z Tryz.underlying2 tu38)<|Zq (U.mul Z Z)<|Zq (U.add Z Z)<|Zc [] [(100,2)] Tryz.func99 Z (z2l _) fun r4 n5=>Zb Z<|z0m<|Ze [(n5 0)] [2] Z
def z4o (a0:z04) (s11:(List UInt8) × Int):Option (Sum ((List UInt8)) ((List UInt8) × Int)) :=
 if decide (0≤s11.2) then
  chk (0≤w64 (8 * s11.2)) >>= fun u14 =>
  app 1 s11.1 [(z6k a0.Bits ((w64 (8 * s11.2):Int).toNat)).toUInt8] >>= fun x17 =>
  some (w64 (s11.2 - 1)) >>= fun y20 =>
  some (.inr (x17,y20))
 else
  some (.inl s11.1)
def z8u (a0:z04):Option ((List UInt8)) :=
 if a0.Kind==1 then
  z7r a0.Num >>= fun r4 =>
  app 1 [a0.Kind] r4 >>= fun x6 =>
  some x6
 else
  if a0.Kind==2 then
   (iter (z4o a0) ([a0.Kind],7)) >>= fun s10 =>
   some s10
  else
   chk (a0.Text.length≤281474976710656) >>= fun u22 =>
   z6f a0.Text >>= fun r24 =>
   app 1 [a0.Kind] r24 >>= fun x26 =>
   some x26
theorem zg2 (a0:z04):z1u Tryz.prog 140 [.rd z1h a0] [] (z8u a0) (fun r nv=>⟨[.val (nv 0)],[(100,some (nv 0,.list u8R 5 r))]⟩):=by
 refine z2m 39 Tryz.func140 Z Z Z fun H w=>?_
 refine gSR<|Eb Z (bx 1 Z) fun v1=>Zb Z<|gSR<|Zq (faB 1 Z Z Tryz.underlying40 Z (by exact ti5))<|Zq (ld 1 Z Z (fP (z2j _)) ty5 Z)<|Ef Z (lit (R:=u8R) ([a0.Kind]:List UInt8) 2 (pP Z Z<|pN) Z tu89 ti5 Z Z) fun v2=>Zb Z<|z0w<|gSR<|Zq (faB 1 Z Z Tryz.underlying40 Z (by exact ti5))<|Zq (ld 1 Z Z (fP (z2j _)) ty5 Z)<|Zn<|z58<|gSR<|Zq (B.eql Z Z)<|Zb Z<|gIf Z Z (fun h3=>?_) (fun h3=>?_)
 ·
  refine gKn 11 Z h3<|gSR<|Zm Z<|Zq (faB 1 Z Z Tryz.underlying40 Z (by exact ti2))<|Zq (ld 1 Z Z (fP (z5b _)) ty2 Z)<|Zc [] [(100,3)] Tryz.func163 Z (zez _) fun r4 n5=>z0u fun x6 h7=>Ef Z (apn 2 Z Z Z (.own 3 Z) h7 tu89 ti5 Z Z Z) fun v8=>Zb Z<|z0m<|z4c<|z10<|Ze [v8] [2] Z
 ·
  refine gKn 11 Z h3<|gSR<|Zq (B.eql Z Z)<|Zb Z<|gIf Z Z (fun h9=>?_) (fun h9=>?_)
  ·
   refine gKn 18 Z h9<|z7m (fun (s10:(List UInt8)) aa ww=>∃ nv:Nat→Value,Sta (ctx 39 H [] w) [(3,.val (nv 0))] [(2,some ((nv 0),.list u8R 5 s10))] aa ww) ?_ (fun s10=>?_)
   ·
    refine gSR<|Zb Z<|z2b (fun (s11:(List UInt8) × Int) aa ww=>∃ nv:Nat→Value,Sta (ctx 39 H [] w) [(1,.val (z05 v1 0)),(3,.val (nv 0)),(4,.rd z07 s11.2)] [(1,some (v1,.box 40 [.rd z1h a0])),(2,some ((nv 0),.list u8R 5 s11.1))] aa ww) (fun aa ww h=>⟨nvl [v2],Zu h [1,2]⟩) (fun s11=>?_)
    refine gEx fun n12=>z0w<|gSR<|Zm Z<|Zq (I.geq Z Z)<|Zj Z (fun h13=>?_) (fun h13=>?_)
    ·
     refine Zt<|z0w<|z58<|z2o<|Zm Z<|Zq (faB 1 Z Z Tryz.underlying40 Z (by exact zse))<|Zq (ld 1 Z Z (fP (z3f _)) zs3 Z)<|Zm Z<|Zq (I.mul Z Z)<|z0u fun u14 h15=>Zq (U.shr Z Z (z4w h15))<|Zq (U.toB Z tu38 tu5)<|Ef Z (lit (R:=u8R) ([(z6k a0.Bits ((w64 (8 * s11.2):Int).toNat)).toUInt8]:List UInt8) 4 (pP Z Z<|pN) Z tu89 ti5 Z Z) fun v16=>z0u fun x17 h18=>Ef Z (apn 2 Z Z Z (.own 4 Z) h18 tu89 ti5 Z Z Z) fun v19=>Za Z<|z23<|z3h<|z0n<|z2o<|Zm Z<|Zq (I.sub Z Z)<|Za Z<|z1z 4 Z fun y20=>z23<|z1l (fun aa ww h=>⟨nvl [v19],Zu h [1,2]⟩)
    ·
     refine z24<|z14<|z13<|z3s (fun aa ww h=>⟨nvl [(n12 0)],Zu h [2]⟩)
   ·
    refine gEx fun n21=>gSR<|Zm Z<|Zb Z<|z0m<|z4c<|z10<|Ze [(n21 0)] [2] Z
  ·
   refine gKn 18 Z h9<|z3a<|z3h<|z0n<|gSR<|Zm Z<|Zq (faB 1 Z Z Tryz.underlying40 Z (by exact ti9))<|Zq (ld 1 Z Z (fP (z2z _)) ty9 Z)<|z0u fun u22 h23=>zvv Z Z h23 tu9 tu89 tu5<|Zc [] [(100,5)] Tryz.func139 Z (zbk _) fun r24 n25=>z0u fun x26 h27=>Ef Z (apn 2 Z Z Z (.own 5 Z) h27 tu89 ti5 Z Z Z) fun v28=>Zb Z<|z0m<|Ze [v28] [2] Z
def z7i (a0:z06):Option ((List UInt8)) :=
 z21 a0.Author.toUInt64 >>= fun r3 =>
 app 1 [111] r3 >>= fun x5 =>
 z9h a0.Preds >>= fun r8 =>
 app 1 x5 r8 >>= fun x10 =>
 z21 a0.Stamp >>= fun r13 =>
 app 1 x10 r13 >>= fun x15 =>
 app 1 x15 [a0.Act.Kind] >>= fun x19 =>
 (if a0.Act.Kind != 1 then
  chk (a0.Act.Key.length≤281474976710656) >>= fun u24 =>
  z6f a0.Act.Key >>= fun r26 =>
  app 1 x19 r26 >>= fun x28 =>
  some x28
 else
  some x19) >>= fun s22 =>
 if a0.Act.Kind==4 then
  z8u a0.Act.Value >>= fun r33 =>
  app 1 s22 r33 >>= fun x35 =>
  some x35
 else
  some s22
theorem zbs (a0:z06):z1u Tryz.prog 94 [.rd z03 a0] [] (z7i a0) (fun r nv=>⟨[.val (nv 0)],[(100,some (nv 0,.list u8R 5 r))]⟩):=by
 refine z2m 47 Tryz.func94 Z Z Z fun H w=>?_
 refine gSR<|Eb Z (bx 1 Z) fun v1=>Zb Z<|gSR<|Ef Z (lit (R:=u8R) ([111]:List UInt8) 2 (pP Z Z<|pN) Z tu89 ti5 Z Z) fun v2=>Zq (faB 1 Z Z Tryz.underlying46 Z (by exact z4z))<|Zq (ld 1 Z Z (fP (z41 _)) z86 Z)<|Zq (W.toU Z tu37 tu38)<|Zc [] [(100,3)] Tryz.func99 Z (z2l _) fun r3 n4=>z0u fun x5 h6=>Ef Z (apn 2 Z Z Z (.own 3 Z) h6 tu89 ti5 Z Z Z) fun v7=>Zb Z<|z0w<|z89 [2,13,25] mixed Z Z<|hTk 0 Z Z (mv Z)<|hTk 1 Z Z (faB 1 Z Z Tryz.underlying46 Z (by exact z8p))<|hTk 2 Z Z (ld 1 Z Z (fP (z0x _)) z9o Z)<|hTk 5 Z Z (faB 1 Z Z Tryz.underlying46 Z (by exact zse))<|hTk 6 Z Z (ld 1 Z Z (fP (z9g _)) zs3 Z)<|z37 3 [] [(100,13)] Z (by kernel_rfl) Z (gd0 Z) Z Tryz.func138 Z Z (zgr _) (Y1 Z) rN Z (fun _ _=>z2s) fun r8 n9=>z51 fun x10 h11=>Zo 4 Z Z Z (apn 2 Z Z Z (.own 13 Z) h11 tu89 ti5 Z Z Z) fun v12=>z37 7 [] [(100,25)] Z (by kernel_rfl) Z (gd0 Z) Z Tryz.func99 Z Z (z2l _) (Y1 Z) rN Z (fun _ _=>z2s) fun r13 n14=>z51 fun x15 h16=>Zo 8 Z Z Z (apn 2 Z Z Z (.own 25 Z) h16 tu89 ti5 Z Z Z) fun v17=>Zf 9 Z Z z2s (asg Z)<|z3r (by kernel_rfl)<|z0n<|gSR<|Zm Z<|Zq (faB 1 Z Z Tryz.underlying46 Z (by exact zn5))<|Zq (faB 1 Z Z Tryz.underlying42 Z (by exact ti5))<|Zq (ld 1 Z Z ((fP (z2d _)).part (z34 _)) ty5 Z)<|Ef Z (lit (R:=u8R) ([a0.Act.Kind]:List UInt8) 37 (pP Z Z<|pN) Z tu89 ti5 Z Z) fun v18=>z0u fun x19 h20=>Ef Z (apn 2 Z Z Z (.own 37 Z) h20 tu89 ti5 Z Z Z) fun v21=>Zb Z<|z7m (fun (s22:(List UInt8)) aa ww=>∃ nv:Nat→Value,Sta (ctx 47 H [] w) [(1,.val (z05 v1 0)),(3,.val (nv 0))] [(1,some (v1,.box 46 [.rd z03 a0])),(2,some ((nv 0),.list u8R 5 s22))] aa ww) ?_ (fun s22=>?_)
 ·
  refine gSR<|Zq (faB 1 Z Z Tryz.underlying46 Z (by exact zn5))<|Zq (faB 1 Z Z Tryz.underlying42 Z (by exact ti5))<|Zq (ld 1 Z Z ((fP (z2d _)).part (z34 _)) ty5 Z)<|Zq (B.neq Z Z)<|Zj Z (fun h23=>?_) (fun h23=>?_)
  ·
   refine z2o<|Zm Z<|Zq (faB 1 Z Z Tryz.underlying46 Z (by exact zn5))<|Zq (faB 1 Z Z Tryz.underlying42 Z (by exact ti9))<|Zq (ld 1 Z Z ((fP (z2d _)).part (z4j _)) ty9 Z)<|z0u fun u24 h25=>zvv Z Z h25 tu9 tu89 tu5<|Zc [] [(100,38)] Tryz.func139 Z (zbk _) fun r26 n27=>z0u fun x28 h29=>Ef Z (apn 2 Z Z Z (.own 38 Z) h29 tu89 ti5 Z Z Z) fun v30=>Za Z<|z23<|z3s (fun aa ww h=>⟨nvl [v30],Zu h [1,2]⟩)
  ·
   refine z3a<|z3s (fun aa ww h=>⟨nvl [v21],Zu h [1,2]⟩)
 ·
  refine gEx fun n31=>z0w<|gSR<|Zq (faB 1 Z Z Tryz.underlying46 Z (by exact zn5))<|Zq (faB 1 Z Z Tryz.underlying42 Z (by exact ti5))<|Zq (ld 1 Z Z ((fP (z2d _)).part (z34 _)) ty5 Z)<|Zq (B.eql Z Z)<|Zj Z (fun h32=>?_) (fun h32=>?_)
  ·
   refine z2o<|Zm Z<|Zq (faB 1 Z Z Tryz.underlying46 Z (by exact zn5))<|Zq (faB 1 Z Z Tryz.underlying42 Z (by exact zh6))<|Zq (ld 1 Z Z ((fP (z2d _)).part (z47 _)) zpb Z)<|Zc [] [(100,39)] Tryz.func140 Z (zg2 _) fun r33 n34=>z0u fun x35 h36=>Ef Z (apn 2 Z Z Z (.own 39 Z) h36 tu89 ti5 Z Z Z) fun v37=>Zb Z<|gSR<|Zm Z<|Zb Z<|z0m<|Ze [v37] [2] Z
  ·
   refine Zt<|gSR<|Zm Z<|Zb Z<|z0m<|Ze [(n31 0)] [2] Z
def z8n (a0:z06):Option ((List UInt8)) :=
 z7i a0 >>= fun r2 =>
 z21 a0.Sig.E.toUInt64 >>= fun r4 =>
 app 1 r2 r4 >>= fun x6 =>
 z21 a0.Sig.S.toUInt64 >>= fun r9 =>
 app 1 x6 r9 >>= fun x11 =>
 some x11
theorem zfp (a0:z06):z1u Tryz.prog 68 [.rd z03 a0] [] (z8n a0) (fun r nv=>⟨[.val (nv 0)],[(100,some (nv 0,.list u8R 5 r))]⟩):=by
 refine z2m 17 Tryz.func68 Z Z Z fun H w=>?_
 refine gSR<|Eb Z (bx 1 Z) fun v1=>Zb Z<|z0w<|z89 [5,20,38] mixed Z Z<|hTk 0 Z Z (ld 1 Z Z fH z9q Z)<|hTk 2 Z Z (faB 1 Z Z Tryz.underlying46 Z (by exact zjy))<|hTk 3 Z Z (faB 1 Z Z Tryz.underlying44 Z (by exact z4z))<|hTk 4 Z Z (ld 1 Z Z ((fP (z35 _)).part (z3w _)) z86 Z)<|hTk 5 Z Z (W.toU Z tu37 tu38)<|hTk 8 Z Z (faB 1 Z Z Tryz.underlying46 Z (by exact zjy))<|hTk 9 Z Z (faB 1 Z Z Tryz.underlying44 Z (by exact z4z))<|hTk 10 Z Z (ld 1 Z Z ((fP (z35 _)).part (z5c _)) z86 Z)<|hTk 11 Z Z (W.toU Z tu37 tu38)<|z37 1 [] [(100,5)] Z (by kernel_rfl) Z (gd0 Z) Z Tryz.func94 Z Z (zbs _) (Y1 Z) rN Z (fun _ _=>z2s) fun r2 n3=>z37 6 [] [(100,20)] Z (by kernel_rfl) Z (gd0 Z) Z Tryz.func99 Z Z (z2l _) (Y1 Z) rN Z (fun _ _=>z2s) fun r4 n5=>z51 fun x6 h7=>Zo 7 Z Z Z (apn 5 Z Z Z (.own 20 Z) h7 tu89 ti5 Z Z Z) fun v8=>z37 12 [] [(100,38)] Z (by kernel_rfl) Z (gd0 Z) Z Tryz.func99 Z Z (z2l _) (Y1 Z) rN Z (fun _ _=>z2s) fun r9 n10=>z51 fun x11 h12=>Zo 13 Z Z Z (apn 5 Z Z Z (.own 38 Z) h12 tu89 ti5 Z Z Z) fun v13=>Zf 14 Z Z z2s (asg Z)<|z3r (by kernel_rfl)<|z0n<|z0m<|Ze [v13] [5] Z
def zag  : Option ((Vector UInt32 8)) :=
 some (#v[1779033703,3144134277,1013904242,2773480762,1359893119,2600822924,528734635,1541459225]:Vector UInt32 8)
theorem zff  : z1u Tryz.prog 97 [] [] (zag) (fun r nv=>⟨[.rd (z2y 8 z0i) r],[]⟩):=by
 refine z2m 2 Tryz.func97 Z Z Z fun H w=>?_
 refine gSR<|Eb Z (z7q 1 zex (.zr (R:=(z2y 8 z0i)) (x:=(Vector.replicate 8 0)) zne)) fun v1=>Zn<|gSR<|Zq (litA (R:=z0i) [1779033703,3144134277,1013904242,2773480762,1359893119,2600822924,528734635,1541459225] (#v[1779033703,3144134277,1013904242,2773480762,1359893119,2600822924,528734635,1541459225]:Vector UInt32 8) (pP Z Z<|pP Z Z<|pP Z Z<|pP Z Z<|pP Z Z<|pP Z Z<|pP Z Z<|pP Z Z<|pN) Z tu129 zex Z z4z)<|Es (sto 1 Z Z fH Z zex)<|Zn<|z0m<|zbf [] [] Z (eC 1 Z Z znu<|eN) (rN)
def z5n (a0:Int) (s3:(List UInt8)):Option (Sum ((List UInt8)) ((List UInt8))) :=
 if (Int.tmod (w64 ((w64 (a0+(s3.length:Int)))+8)) 64) != 0 then
  app 1 s3 [0] >>= fun x7 =>
  some (.inr x7)
 else
  some (.inl s3)
def z5d (a0:Int) (s12:(List UInt8) × Int):Option (Sum ((List UInt8)) ((List UInt8) × Int)) :=
 if decide (0≤s12.2) then
  chk (0≤w64 (8 * s12.2)) >>= fun u15 =>
  app 1 s12.1 [(z6k (8 * (UInt64.ofInt a0)) ((w64 (8 * s12.2):Int).toNat)).toUInt8] >>= fun x18 =>
  some (w64 (s12.2 - 1)) >>= fun y21 =>
  some (.inr (x18,y21))
 else
  some (.inl s12.1)
def z99 (a0:Int):Option ((List UInt8)) :=
 (iter (z5n a0) [128]) >>= fun s2 =>
 (iter (z5d a0) (s2,7)) >>= fun s11 =>
 some s11
theorem zgq (a0:Int):z1u Tryz.prog 98 [.rd z07 a0] [] (z99 a0) (fun r nv=>⟨[.val (nv 0)],[(100,some (nv 0,.list u8R 5 r))]⟩):=by
 refine z2m 31 Tryz.func98 Z Z Z fun H w=>?_
 refine gSR<|Zb Z<|gSR<|Ef Z (lit (R:=u8R) ([128]:List UInt8) 1 (pP Z Z<|pN) Z tu89 ti5 Z Z) fun v1=>Zb Z<|z7m (fun (s2:(List UInt8)) aa ww=>∃ nv:Nat→Value,Sta (ctx 31 H [] w) [(0,.rd z07 a0),(3,.val (nv 0))] [(1,some ((nv 0),.list u8R 5 s2))] aa ww) ?_ (fun s2=>?_)
 ·
  refine z2b (fun (s3:(List UInt8)) aa ww=>∃ nv:Nat→Value,Sta (ctx 31 H [] w) [(0,.rd z07 a0),(3,.val (nv 0))] [(1,some ((nv 0),.list u8R 5 s3))] aa ww) (fun aa ww h=>⟨nvl [v1],Zu h [1]⟩) (fun s3=>?_)
  refine gEx fun n4=>z0w<|gSR<|Zm Z<|Zm Z<|Zq (z3q Z (.own 1 Z) Z tu89)<|Zq (I.add Z Z)<|Zq (I.add Z Z)<|Zq (I.rem Z Z (by decide))<|Zq (I.neq Z Z)<|Zj Z (fun h5=>?_) (fun h5=>?_)
  ·
   refine Zt<|z58<|z2o<|Zm Z<|Ef Z (lit (R:=u8R) ([0]:List UInt8) 2 (pP Z Z<|pN) Z tu89 ti5 Z Z) fun v6=>z0u fun x7 h8=>Ef Z (apn 1 Z Z Z (.own 2 Z) h8 tu89 ti5 Z Z Z) fun v9=>Za Z<|z23<|z3h<|z1l (fun aa ww h=>⟨nvl [v9],Zu h [1]⟩)
  ·
   refine z24<|z14<|z13<|z3s (fun aa ww h=>⟨nvl [(n4 0)],Zu h [1]⟩)
 ·
  refine gEx fun n10=>z7m (fun (s11:(List UInt8)) aa ww=>∃ nv:Nat→Value,Sta (ctx 31 H [] w) [(3,.val (nv 0))] [(1,some ((nv 0),.list u8R 5 s11))] aa ww) ?_ (fun s11=>?_)
  ·
   refine gSR<|Zb Z<|z2b (fun (s12:(List UInt8) × Int) aa ww=>∃ nv:Nat→Value,Sta (ctx 31 H [] w) [(0,.rd z07 a0),(3,.val (nv 0)),(4,.rd z07 s12.2)] [(1,some ((nv 0),.list u8R 5 s12.1))] aa ww) (fun aa ww h=>⟨nvl [(n10 0)],Zu h [1]⟩) (fun s12=>?_)
   refine gEx fun n13=>z0w<|gSR<|Zm Z<|Zq (I.geq Z Z)<|Zj Z (fun h14=>?_) (fun h14=>?_)
   ·
    refine Zt<|z0w<|z58<|z2o<|Zm Z<|Zm Z<|Zq (I.toU Z tu3 tu38)<|Zq (U.mul Z Z)<|Zm Z<|Zq (I.mul Z Z)<|z0u fun u15 h16=>Zq (U.shr Z Z (z4w h16))<|Zq (U.toB Z tu38 tu5)<|Ef Z (lit (R:=u8R) ([(z6k (8 * (UInt64.ofInt a0)) ((w64 (8 * s12.2):Int).toNat)).toUInt8]:List UInt8) 3 (pP Z Z<|pN) Z tu89 ti5 Z Z) fun v17=>z0u fun x18 h19=>Ef Z (apn 1 Z Z Z (.own 3 Z) h19 tu89 ti5 Z Z Z) fun v20=>Za Z<|z23<|z3h<|z0n<|z2o<|Zm Z<|Zq (I.sub Z Z)<|Za Z<|z1z 4 Z fun y21=>z23<|z1l (fun aa ww h=>⟨nvl [v20],Zu h [1]⟩)
   ·
    refine z24<|z14<|z13<|z3s (fun aa ww h=>⟨nvl [(n13 0)],Zu h [1]⟩)
  ·
   refine gEx fun n22=>gSR<|Zm Z<|Zb Z<|z0m<|Ze [(n22 0)] [1] Z
def z20 (a0:UInt32) (a1:Int):Option (UInt32) :=
 chk (0≤a1) >>= fun u1 =>
 chk (0≤w64 (32 - a1)) >>= fun u3 =>
 some ((z3o a0 ((a1:Int).toNat)) ||| (zm8 a0 ((w64 (32 - a1):Int).toNat))) >>= fun y5 =>
 some y5
theorem z26 (a0:UInt32) (a1:Int):z1u Tryz.prog 164 [.rd z0i a0,.rd z07 a1] [] (z20 a0 a1) (fun r nv=>⟨[.rd z0i r],[]⟩):=by
 refine z2m 13 Tryz.func164 Z Z Z fun H w=>?_
 refine gSR<|Zb Z<|z0w<|zgl mixed (by kernel_rfl)<|Rq Z (mv Z)<|Rq Z (mv Z)<|z7c fun u1 h2=>Rq Z (W.shr Z Z (z4w h2))<|Rq Z (mv Z)<|Rq Z (mv Z)<|Rq Z (I.sub Z Z)<|z7c fun u3 h4=>Rq Z (W.shl Z Z (z4w h4))<|Rq Z (W.or Z Z)<|Rq Z (asg Z)<|z133 4 Z fun y5=>zq9<|z0n<|z0m<|Ze [] [] Z
def z83  : Option ((List UInt32)) :=
 some [1116352408,1899447441,3049323471,3921009573,961987163,1508970993,2453635748,2870763221,3624381080,310598401,607225278,1426881987,1925078388,2162078206,2614888103,3248222580,3835390401,4022224774,264347078,604807628,770255983,1249150122,1555081692,1996064986,2554220882,2821834349,2952996808,3210313671,3336571891,3584528711,113926993,338241895,666307205,773529912,1294757372,1396182291,1695183700,1986661051,2177026350,2456956037,2730485921,2820302411,3259730800,3345764771,3516065817,3600352804,4094571909,275423344,430227734,506948616,659060556,883997877,958139571,1322822218,1537002063,1747873779,1955562222,2024104815,2227730452,2361852424,2428436474,2756734187,3204031479,3329325298]
theorem zcz  : z1u Tryz.prog 165 [] [] (z83) (fun r nv=>⟨[.val (nv 0)],[(100,some (nv 0,.list z0i 37 r))]⟩):=by
 refine z2m 2 Tryz.func165 Z Z Z fun H w=>?_
 refine gSR<|Zb Z<|gSR<|Ef Z (lit (R:=z0i) ([1116352408,1899447441,3049323471,3921009573,961987163,1508970993,2453635748,2870763221,3624381080,310598401,607225278,1426881987,1925078388,2162078206,2614888103,3248222580,3835390401,4022224774,264347078,604807628,770255983,1249150122,1555081692,1996064986,2554220882,2821834349,2952996808,3210313671,3336571891,3584528711,113926993,338241895,666307205,773529912,1294757372,1396182291,1695183700,1986661051,2177026350,2456956037,2730485921,2820302411,3259730800,3345764771,3516065817,3600352804,4094571909,275423344,430227734,506948616,659060556,883997877,958139571,1322822218,1537002063,1747873779,1955562222,2024104815,2227730452,2361852424,2428436474,2756734187,3204031479,3329325298]:List UInt32) 1 (pP Z Z<|pP Z Z<|pP Z Z<|pP Z Z<|pP Z Z<|pP Z Z<|pP Z Z<|pP Z Z<|pP Z Z<|pP Z Z<|pP Z Z<|pP Z Z<|pP Z Z<|pP Z Z<|pP Z Z<|pP Z Z<|pP Z Z<|pP Z Z<|pP Z Z<|pP Z Z<|pP Z Z<|pP Z Z<|pP Z Z<|pP Z Z<|pP Z Z<|pP Z Z<|pP Z Z<|pP Z Z<|pP Z Z<|pP Z Z<|pP Z Z<|pP Z Z<|pP Z Z<|pP Z Z<|pP Z Z<|pP Z Z<|pP Z Z<|pP Z Z<|pP Z Z<|pP Z Z<|pP Z Z<|pP Z Z<|pP Z Z<|pP Z Z<|pP Z Z<|pP Z Z<|pP Z Z<|pP Z Z<|pP Z Z<|pP Z Z<|pP Z Z<|pP Z Z<|pP Z Z<|pP Z Z<|pP Z Z<|pP Z Z<|pP Z Z<|pP Z Z<|pP Z Z<|pP Z Z<|pP Z Z<|pP Z Z<|pP Z Z<|pP Z Z<|pN) Z tu182 z4z Z Z) fun v1=>Zb Z<|z0m<|Ze [v1] [1] Z
def z4d (a1:List UInt8) (s4:(List UInt32) × Int):Option (Sum ((List UInt32)) ((List UInt32) × Int)) :=
 if decide (s4.2<16) then
  idx a1 (w64 (4 * s4.2)) >>= fun x7 =>
  idx a1 (w64 ((w64 (4 * s4.2))+1)) >>= fun x9 =>
  idx a1 (w64 ((w64 (4 * s4.2))+2)) >>= fun x11 =>
  idx a1 (w64 ((w64 (4 * s4.2))+3)) >>= fun x13 =>
  app 4 s4.1 [(((((x7.toUInt32 * 256)+x9.toUInt32) * 256)+x11.toUInt32) * 256)+x13.toUInt32] >>= fun x16 =>
  some (w64 (s4.2+1)) >>= fun y19 =>
  some (.inr (x16,y19))
 else
  some (.inl s4.1)
def z48 (s22:(List UInt32) × Int):Option (Sum ((List UInt32)) ((List UInt32) × Int)) :=
 if decide (s22.2<64) then
  idx s22.1 (w64 (s22.2 - 15)) >>= fun x25 =>
  idx s22.1 (w64 (s22.2 - 2)) >>= fun x27 =>
  idx s22.1 (w64 (s22.2 - 16)) >>= fun x29 =>
  idx s22.1 (w64 (s22.2 - 7)) >>= fun x31 =>
  z20 x25 7 >>= fun r33 =>
  z20 x25 18 >>= fun r36 =>
  z20 x27 17 >>= fun r39 =>
  z20 x27 19 >>= fun r42 =>
  app 4 s22.1 [((x29+x31)+((r33 ^^^ r36) ^^^ (z3o x25 3)))+((r39 ^^^ r42) ^^^ (z3o x27 10))] >>= fun x45 =>
  some (w64 (s22.2+1)) >>= fun y48 =>
  some (.inr (x45,y48))
 else
  some (.inl s22.1)
def z30 (s21:(List UInt32)) (r50:(List UInt32)) (s54:(Vector UInt32 8) × Int):Option (Sum ((Vector UInt32 8)) ((Vector UInt32 8) × Int)) :=
 if decide (s54.2<64) then
  z6n s54.1 0 >>= fun x56 =>
  z6n s54.1 1 >>= fun x58 =>
  z6n s54.1 2 >>= fun x60 =>
  z6n s54.1 4 >>= fun x62 =>
  z6n s54.1 5 >>= fun x64 =>
  z6n s54.1 6 >>= fun x66 =>
  z6n s54.1 7 >>= fun x68 =>
  idx r50 s54.2 >>= fun x70 =>
  idx s21 s54.2 >>= fun x72 =>
  z20 x62 6 >>= fun r74 =>
  z20 x62 11 >>= fun r76 =>
  z20 x62 25 >>= fun r78 =>
  some ((((x68+((r74 ^^^ r76) ^^^ r78))+((x62 &&& x64) ^^^ ((~~~x62) &&& x66)))+x70)+x72) >>= fun y80 =>
  z20 x56 2 >>= fun r81 =>
  z20 x56 13 >>= fun r83 =>
  z20 x56 22 >>= fun r85 =>
  some (((r81 ^^^ r83) ^^^ r85)+(((x56 &&& x58) ^^^ (x56 &&& x60)) ^^^ (x58 &&& x60))) >>= fun y87 =>
  z6n s54.1 3 >>= fun x88 =>
  some (w64 (s54.2+1)) >>= fun y90 =>
  some (.inr ((#v[y80+y87,x56,x58,x60,x88+y80,x62,x64,x66]:Vector UInt32 8),y90))
 else
  some (.inl s54.1)
def z1d (s53:(Vector UInt32 8)) (s92:(Vector UInt32 8) × Int):Option (Sum ((Vector UInt32 8)) ((Vector UInt32 8) × Int)) :=
 if decide (s92.2<8) then
  z6n s92.1 s92.2 >>= fun x94 =>
  z6n s53 s92.2 >>= fun x96 =>
  z6n s92.1 s92.2 >>= fun x98 =>
  some (w64 (s92.2+1)) >>= fun y100 =>
  some (.inr (zg5 s92.1 s92.2 (x94+x96),y100))
 else
  some (.inl s92.1)
def z7z (a0:Vector UInt32 8) (a1:List UInt8):Option ((Vector UInt32 8)) :=
 (iter (z4d a1) ([],0)) >>= fun s3 =>
 (iter (z48) (s3,16)) >>= fun s21 =>
 z83 >>= fun r50 =>
 (iter (z30 s21 r50) (a0,0)) >>= fun s53 =>
 (iter (z1d s53) (a0,0)) >>= fun s91 =>
 some s91
set_option maxHeartbeats 4000000 in
theorem zf0 (a0:Vector UInt32 8) (a1:List UInt8):z1u Tryz.prog 141 [.rd (z2y 8 z0i) a0,.rd (z02 u8R) a1] [] (z7z a0 a1) (fun r nv=>⟨[.rd (z2y 8 z0i) r],[]⟩):=by
 refine z2m 203 Tryz.func141 Z Z Z fun H w=>?_
 refine gSR<|Eb Z (bx 1 Z) fun v1=>Eb Z (z7q 2 zex (.zr (R:=(z2y 8 z0i)) (x:=(Vector.replicate 8 0)) zne)) fun v2=>Zn<|gSR<|Zb Z<|z7m (fun (s3:(List UInt32)) aa ww=>∃ nv:Nat→Value,Sta (ctx 203 H [] w) [(2,.val (z05 v1 0)),(4,.val (z05 v2 0)),(5,.val (nv 0))] [(1,some (v1,.box 129 [.rd (z2y 8 z0i) a0])),(2,some (v2,.box 129 [.rd (z2y 8 z0i) (Vector.replicate 8 0)])),(108,some ((nv 0),.list z0i 37 s3))] aa ww) ?_ (fun s3=>?_)
 ·
  refine gSR<|Zb Z<|zvl z0i 37 215<|z2b (fun (s4:(List UInt32) × Int) aa ww=>∃ nv:Nat→Value,Sta (ctx 203 H [] w) [(1,.rd (z02 u8R) a1),(2,.val (z05 v1 0)),(4,.val (z05 v2 0)),(5,.val (nv 0)),(6,.rd z07 s4.2)] [(1,some (v1,.box 129 [.rd (z2y 8 z0i) a0])),(2,some (v2,.box 129 [.rd (z2y 8 z0i) (Vector.replicate 8 0)])),(214,some ((nv 0),.list z0i 37 s4.1))] aa ww) (fun aa ww h=>⟨nvl [(.slice none 0 0)],Zu h [1,2,215]⟩) (fun s4=>?_)
  refine gEx fun n5=>z0w<|gSR<|Zm Z<|Zq (I.lss Z Z)<|Zj Z (fun h6=>?_) (fun h6=>?_)
  ·
   refine Zt<|z0w<|z58<|z89 [214,318] mixed Z Z<|hTk 0 Z Z (mv Z)<|hTk 1 Z Z (mv Z)<|hTk 2 Z Z (mv Z)<|hTk 3 Z Z (I.mul Z Z)<|z51 fun x7 h8=>hTk 4 Z Z (ixR Z Z h8 tu89 ti5 Z)<|hTk 5 Z Z (ldR Z ty5)<|hTk 6 Z Z (B.toW Z tu5 tu37)<|hTk 7 Z Z (W.mul Z Z)<|hTk 8 Z Z (mv Z)<|hTk 9 Z Z (mv Z)<|hTk 10 Z Z (I.mul Z Z)<|hTk 11 Z Z (I.add Z Z)<|z51 fun x9 h10=>hTk 12 Z Z (ixR Z Z h10 tu89 ti5 Z)<|hTk 13 Z Z (ldR Z ty5)<|hTk 14 Z Z (B.toW Z tu5 tu37)<|hTk 15 Z Z (W.add Z Z)<|hTk 16 Z Z (W.mul Z Z)<|hTk 17 Z Z (mv Z)<|hTk 18 Z Z (mv Z)<|hTk 19 Z Z (I.mul Z Z)<|hTk 20 Z Z (I.add Z Z)<|z51 fun x11 h12=>hTk 21 Z Z (ixR Z Z h12 tu89 ti5 Z)<|hTk 22 Z Z (ldR Z ty5)<|hTk 23 Z Z (B.toW Z tu5 tu37)<|hTk 24 Z Z (W.add Z Z)<|hTk 25 Z Z (W.mul Z Z)<|hTk 26 Z Z (mv Z)<|hTk 27 Z Z (mv Z)<|hTk 28 Z Z (I.mul Z Z)<|hTk 29 Z Z (I.add Z Z)<|z51 fun x13 h14=>hTk 30 Z Z (ixR Z Z h14 tu89 ti5 Z)<|hTk 31 Z Z (ldR Z ty5)<|hTk 32 Z Z (B.toW Z tu5 tu37)<|hTk 33 Z Z (W.add Z Z)<|Zo 34 Z Z Z (lit (R:=z0i) ([(((((x7.toUInt32 * 256)+x9.toUInt32) * 256)+x11.toUInt32) * 256)+x13.toUInt32]:List UInt32) 318 (pP Z Z<|pN) Z tu182 z4z Z Z) fun v15=>z51 fun x16 h17=>Zo 35 Z Z Z (apn 214 Z Z Z (.own 318 Z) h17 tu182 z4z Z Z Z) fun v18=>Zf 36 Z Z z2s (asg Z)<|z3r (by kernel_rfl)<|z3h<|z0n<|z2o<|Zm Z<|Zq (I.add Z Z)<|Za Z<|z1z 6 Z fun y19=>z23<|z1l (fun aa ww h=>⟨nvl [v18],Zu h [1,2,214]⟩)
  ·
   refine z24<|z14<|z13<|z3s (fun aa ww h=>⟨nvl [(n5 0)],Zu h [1,2,214]⟩)
 ·
  refine gEx fun n20=>z7m (fun (s21:(List UInt32)) aa ww=>∃ nv:Nat→Value,Sta (ctx 203 H [] w) [(2,.val (z05 v1 0)),(4,.val (z05 v2 0)),(5,.val (nv 0))] [(1,some (v1,.box 129 [.rd (z2y 8 z0i) a0])),(2,some (v2,.box 129 [.rd (z2y 8 z0i) (Vector.replicate 8 0)])),(108,some ((nv 0),.list z0i 37 s21))] aa ww) ?_ (fun s21=>?_)
  ·
   refine gSR<|Zb Z<|z2b (fun (s22:(List UInt32) × Int) aa ww=>∃ nv:Nat→Value,Sta (ctx 203 H [] w) [(2,.val (z05 v1 0)),(4,.val (z05 v2 0)),(5,.val (nv 0)),(7,.rd z07 s22.2)] [(1,some (v1,.box 129 [.rd (z2y 8 z0i) a0])),(2,some (v2,.box 129 [.rd (z2y 8 z0i) (Vector.replicate 8 0)])),(108,some ((nv 0),.list z0i 37 s22.1))] aa ww) (fun aa ww h=>⟨nvl [(n20 0)],Zu h [1,2,108]⟩) (fun s22=>?_)
   refine gEx fun n23=>z0w<|gSR<|Zm Z<|Zq (I.lss Z Z)<|Zj Z (fun h24=>?_) (fun h24=>?_)
   ·
    refine Zt<|z0w<|z58<|z0w<|zgl mixed (by kernel_rfl)<|Rq Z (mv Z)<|Rq Z (mv Z)<|Rq Z (I.sub Z Z)<|z7c fun x25 h26=>Rq Z (ixO 108 Z Z Z h26 tu182 z4z)<|Rq Z (ld 108 Z Z (Foc.el h26) z86 Z)<|Rq Z (mv Z)<|Rq Z (mv Z)<|Rq Z (I.sub Z Z)<|z7c fun x27 h28=>Rq Z (ixO 108 Z Z Z h28 tu182 z4z)<|Rq Z (ld 108 Z Z (Foc.el h28) z86 Z)<|Rq Z (asg Z)<|Rq Z (asg Z)<|zq9<|z0n<|zrm [(5,.val (n23 0)),(2,.val (z05 v1 0)),(4,.val (z05 v2 0)),(7,.rd z07 s22.2),(8,.rd z0i x25),(9,.rd z0i x27)] [(1,some (v1,.box 129 [.rd (z2y 8 z0i) a0])),(2,some (v2,.box 129 [.rd (z2y 8 z0i) (Vector.replicate 8 0)])),(108,some ((n23 0),.list z0i 37 s22.1))] [1,2,108] (Zs Z Z Z Z<|sS Z<|sS Z<|sN) (Zi Z<|Zi Z<|Zi Z<|rN)<|z5g fun x29 h30=>z5g fun x31 h32=>z5g fun r33 h35=>z5g fun r36 h38=>z5g fun r39 h41=>z5g fun r42 h44=>z5g fun x45 h46=>gOr [(5,.val (n23 0),32)] [⟨108,some ([], fun nv=>((n23 0),.list z0i 37 s22.1)),[(31,some ([2], fun nv=>((nv 2),.list z0i 37 x45)))]⟩,⟨330,none,[(30,some ([1], fun nv=>((nv 1),.list z0i 37 [((x29+x31)+((r33 ^^^ r36) ^^^ (z3o x25 3)))+((r39 ^^^ r42) ^^^ (z3o x27 10))])))]⟩] [⟨some (76,[], fun nv=>.val (n23 0)),[],[],[0]⟩,⟨some (77,[], fun nv=>.val (n23 0)),[],[],[0]⟩,pd 78 (.rd z07 s22.2),pd 79 (.rd z07 (w64 (s22.2 - 16))),pk 80 (.val (z05 (n23 0) ((w64 (s22.2 - 16):Int).toNat * 1))) [(0,0,false)],pk 81 (.rd z0i x29) [(0,0,false)],⟨some (82,[], fun nv=>.val (n23 0)),[],[],[0]⟩,pd 83 (.rd z07 s22.2),pd 84 (.rd z07 (w64 (s22.2 - 7))),pk 85 (.val (z05 (n23 0) ((w64 (s22.2 - 7):Int).toNat * 1))) [(0,0,false)],pk 86 (.rd z0i x31) [(0,0,false)],pd 87 (.rd z0i (x29+x31)),pd 88 (.rd z0i x25),pd 89 (.rd z0i r33),pd 90 (.rd z0i x25),pd 91 (.rd z0i r36),pd 92 (.rd z0i (r33 ^^^ r36)),pd 93 (.rd z0i x25),pd 94 (.rd z0i (z3o x25 3)),pd 95 (.rd z0i ((r33 ^^^ r36) ^^^ (z3o x25 3))),pd 96 (.rd z0i ((x29+x31)+((r33 ^^^ r36) ^^^ (z3o x25 3)))),pd 97 (.rd z0i x27),pd 98 (.rd z0i r39),pd 99 (.rd z0i x27),pd 100 (.rd z0i r42),pd 101 (.rd z0i (r39 ^^^ r42)),pd 102 (.rd z0i x27),pd 103 (.rd z0i (z3o x27 10)),pd 104 (.rd z0i ((r39 ^^^ r42) ^^^ (z3o x27 10))),pd 105 (.rd z0i (((x29+x31)+((r33 ^^^ r36) ^^^ (z3o x25 3)))+((r39 ^^^ r42) ^^^ (z3o x27 10)))),⟨some (106,[1], fun nv=>.val (nv 1)),[(1,0,true)],[1],[]⟩,⟨some (107,[2], fun nv=>.val (nv 2)),[(1,1,false),(0,0,true)],[2],[]⟩,⟨some (5,[2], fun nv=>.val (nv 2)),[],[],[]⟩] mixed (oC (oRn (fun nv E=>mv Z))<|oC (oRn (fun nv E=>mv Z))<|oC (oRn (fun nv E=>mv Z))<|oC (oRn (fun nv E=>I.sub Z Z))<|oC (oRn (fun nv E=>ixO 108 Z Z Z h30 tu182 z4z))<|oC (oRn (fun nv E=>ld 108 Z Z (Foc.el h30) z86 Z))<|oC (oRn (fun nv E=>mv Z))<|oC (oRn (fun nv E=>mv Z))<|oC (oRn (fun nv E=>I.sub Z Z))<|oC (oRn (fun nv E=>ixO 108 Z Z Z h32 tu182 z4z))<|oC (oRn (fun nv E=>ld 108 Z Z (Foc.el h32) z86 Z))<|oC (oRn (fun nv E=>W.add Z Z))<|oC (oRn (fun nv E=>mv Z))<|oC (oCl [] [] [] h35 Tryz.func164 Z (fun nv=>(z26 _ _)) (fun nv=>(Y2 Z Z)) (fun nv E=>rN))<|oC (oRn (fun nv E=>mv Z))<|oC (oCl [] [] [] h38 Tryz.func164 Z (fun nv=>(z26 _ _)) (fun nv=>(Y2 Z Z)) (fun nv E=>rN))<|oC (oRn (fun nv E=>W.xor Z Z))<|oC (oRn (fun nv E=>mv Z))<|oC (oRn (fun nv E=>W.shr Z Z (Int.natCast_nonneg _)))<|oC (oRn (fun nv E=>W.xor Z Z))<|oC (oRn (fun nv E=>W.add Z Z))<|oC (oRn (fun nv E=>mv Z))<|oC (oCl [] [] [] h41 Tryz.func164 Z (fun nv=>(z26 _ _)) (fun nv=>(Y2 Z Z)) (fun nv E=>rN))<|oC (oRn (fun nv E=>mv Z))<|oC (oCl [] [] [] h44 Tryz.func164 Z (fun nv=>(z26 _ _)) (fun nv=>(Y2 Z Z)) (fun nv E=>rN))<|oC (oRn (fun nv E=>W.xor Z Z))<|oC (oRn (fun nv E=>mv Z))<|oC (oRn (fun nv E=>W.shr Z Z (Int.natCast_nonneg _)))<|oC (oRn (fun nv E=>W.xor Z Z))<|oC (oRn (fun nv E=>W.add Z Z))<|oC (oEf 330 1 (fun nv E=>lit (R:=z0i) ([((x29+x31)+((r33 ^^^ r36) ^^^ (z3o x25 3)))+((r39 ^^^ r42) ^^^ (z3o x27 10))]:List UInt32) 330 (pP Z Z<|pN) Z tu182 z4z Z Z))<|oC (oEf 108 2 (fun nv E=>apn 108 Z Z Z (.own 330 Z) h46 tu182 z4z Z Z Z))<|oC (oRn (fun nv E=>asg Z))<|oN) fun n47=>z3h<|z0n<|z2o<|Zm Z<|Zq (I.add Z Z)<|Za Z<|z1z 7 Z fun y48=>z23<|z1l (fun aa ww h=>⟨nvl [(n47 2)],Zu h [1,2,108]⟩)
   ·
    refine z24<|z14<|z13<|z3s (fun aa ww h=>⟨nvl [(n23 0)],Zu h [1,2,108]⟩)
  ·
   refine gEx fun n49=>gSR<|Zc [] [(100,331)] Tryz.func165 Z (zcz) fun r50 n51=>Zb Z<|gSR<|Zq (ld 1 Z Z fH znu Z)<|Eb Z (z7q 332 zex (.zr (R:=(z2y 8 z0i)) (x:=(Vector.replicate 8 0)) zne)) fun v52=>Es (sto 332 Z Z fH Z zex)<|Zn<|z7m (fun (s53:(Vector UInt32 8)) aa ww=>Sta (ctx 203 H [] w) [(2,.val (z05 v1 0)),(4,.val (z05 v2 0)),(11,.val (z05 v52 0))] [(1,some (v1,.box 129 [.rd (z2y 8 z0i) a0])),(2,some (v2,.box 129 [.rd (z2y 8 z0i) (Vector.replicate 8 0)])),(332,some (v52,.box 129 [.rd (z2y 8 z0i) s53]))] aa ww) ?_ (fun s53=>?_)
   ·
    refine gSR<|Zb Z<|z2b (fun (s54:(Vector UInt32 8) × Int) aa ww=>Sta (ctx 203 H [] w) [(2,.val (z05 v1 0)),(4,.val (z05 v2 0)),(5,.val (n49 0)),(10,.val (n51 0)),(11,.val (z05 v52 0)),(12,.rd z07 s54.2)] [(1,some (v1,.box 129 [.rd (z2y 8 z0i) a0])),(2,some (v2,.box 129 [.rd (z2y 8 z0i) (Vector.replicate 8 0)])),(108,some ((n49 0),.list z0i 37 s21)),(331,some ((n51 0),.list z0i 37 r50)),(332,some (v52,.box 129 [.rd (z2y 8 z0i) s54.1]))] aa ww) (fun aa ww h=>Zu h [1,2,108,331,332]) (fun s54=>?_)
    refine z0w<|gSR<|Zm Z<|Zq (I.lss Z Z)<|Zj Z (fun h55=>?_) (fun h55=>?_)
    ·
     refine Zt<|z0w<|z58<|z0w<|zgl mixed (by kernel_rfl)<|z7c fun x56 h57=>Rq Z (ixB 332 Z Z Z h57 tu129 z4z)<|Rq Z (ld 332 Z Z (fP (.el h57)) z86 Z)<|z7c fun x58 h59=>Rq Z (ixB 332 Z Z Z h59 tu129 z4z)<|Rq Z (ld 332 Z Z (fP (.el h59)) z86 Z)<|z7c fun x60 h61=>Rq Z (ixB 332 Z Z Z h61 tu129 z4z)<|Rq Z (ld 332 Z Z (fP (.el h61)) z86 Z)<|z7c fun x62 h63=>Rq Z (ixB 332 Z Z Z h63 tu129 z4z)<|Rq Z (ld 332 Z Z (fP (.el h63)) z86 Z)<|z7c fun x64 h65=>Rq Z (ixB 332 Z Z Z h65 tu129 z4z)<|Rq Z (ld 332 Z Z (fP (.el h65)) z86 Z)<|z7c fun x66 h67=>Rq Z (ixB 332 Z Z Z h67 tu129 z4z)<|Rq Z (ld 332 Z Z (fP (.el h67)) z86 Z)<|Rq Z (asg Z)<|Rq Z (asg Z)<|Rq Z (asg Z)<|Rq Z (asg Z)<|Rq Z (asg Z)<|Rq Z (asg Z)<|zq9<|z0n<|z0w<|z89 [] mixed Z Z<|z51 fun x68 h69=>hTk 0 Z Z (ixB 332 Z Z Z h69 tu129 z4z)<|hTk 1 Z Z (ld 332 Z Z (fP (.el h69)) z86 Z)<|hTk 2 Z Z (mv Z)<|hTk 4 Z Z (mv Z)<|hTk 7 Z Z (mv Z)<|hTk 11 Z Z (mv Z)<|hTk 12 Z Z (mv Z)<|hTk 13 Z Z (W.and Z Z)<|hTk 14 Z Z (mv Z)<|hTk 15 Z Z (W.cpl Z)<|hTk 16 Z Z (mv Z)<|hTk 17 Z Z (W.and Z Z)<|hTk 18 Z Z (W.xor Z Z)<|hTk 20 Z Z (mv Z)<|hTk 21 Z Z (mv Z)<|z51 fun x70 h71=>hTk 22 Z Z (ixO 331 Z Z Z h71 tu182 z4z)<|hTk 23 Z Z (ld 331 Z Z (Foc.el h71) z86 Z)<|hTk 25 Z Z (mv Z)<|hTk 26 Z Z (mv Z)<|z51 fun x72 h73=>hTk 27 Z Z (ixO 108 Z Z Z h73 tu182 z4z)<|hTk 28 Z Z (ld 108 Z Z (Foc.el h73) z86 Z)<|z37 3 [] [] Z (by kernel_rfl) Z (gd0 Z) Z Tryz.func164 Z Z (z26 _ _) (Y2 Z Z) rN Z (fun _ _=>z2v) fun r74 n75=>z37 5 [] [] Z (by kernel_rfl) Z (gd0 Z) Z Tryz.func164 Z Z (z26 _ _) (Y2 Z Z) rN Z (fun _ _=>z2v) fun r76 n77=>hTk 6 Z Z (W.xor Z Z)<|z37 8 [] [] Z (by kernel_rfl) Z (gd0 Z) Z Tryz.func164 Z Z (z26 _ _) (Y2 Z Z) rN Z (fun _ _=>z2v) fun r78 n79=>hTk 9 Z Z (W.xor Z Z)<|hTk 10 Z Z (W.add Z Z)<|hTk 19 Z Z (W.add Z Z)<|hTk 24 Z Z (W.add Z Z)<|hTk 29 Z Z (W.add Z Z)<|hTk 30 Z Z (asg Z)<|zw7 19 Z Z fun y80=>z3r (by kernel_rfl)<|z0n<|gSR<|Zm Z<|Zc [] [] Tryz.func164 Z (z26 _ _) fun r81 n82=>Zm Z<|Zc [] [] Tryz.func164 Z (z26 _ _) fun r83 n84=>Zq (W.xor Z Z)<|Zm Z<|Zc [] [] Tryz.func164 Z (z26 _ _) fun r85 n86=>Zq (W.xor Z Z)<|Zm Z<|Zm Z<|Zq (W.and Z Z)<|Zm Z<|Zm Z<|Zq (W.and Z Z)<|Zq (W.xor Z Z)<|Zm Z<|Zm Z<|Zq (W.and Z Z)<|Zq (W.xor Z Z)<|Zq (W.add Z Z)<|Za Z<|z1z 20 Z fun y87=>Zn<|z2o<|Zm Z<|Zm Z<|Zq (W.add Z Z)<|Zm Z<|Zm Z<|Zm Z<|z0u fun x88 h89=>Zq (ixB 332 Z Z Z h89 tu129 z4z)<|Zq (ld 332 Z Z (fP (.el h89)) z86 Z)<|Zm Z<|Zq (W.add Z Z)<|Zm Z<|Zm Z<|Zm Z<|Zq (litA (R:=z0i) [y80+y87,x56,x58,x60,x88+y80,x62,x64,x66] (#v[y80+y87,x56,x58,x60,x88+y80,x62,x64,x66]:Vector UInt32 8) (pP Z Z<|pP Z Z<|pP Z Z<|pP Z Z<|pP Z Z<|pP Z Z<|pP Z Z<|pP Z Z<|pN) Z tu129 zex Z z4z)<|Es (sto 332 Z Z fH Z zex)<|z23<|z3h<|z0n<|z2o<|Zm Z<|Zq (I.add Z Z)<|Za Z<|z1z 12 Z fun y90=>z23<|z1l (fun aa ww h=>Zu h [1,2,108,331,332])
    ·
     refine z24<|z14<|z13<|z3s (fun aa ww h=>Zu h [1,2,332])
   ·
    refine z7m (fun (s91:(Vector UInt32 8)) aa ww=>Sta (ctx 203 H [] w) [(2,.val (z05 v1 0)),(4,.val (z05 v2 0))] [(1,some (v1,.box 129 [.rd (z2y 8 z0i) s91])),(2,some (v2,.box 129 [.rd (z2y 8 z0i) (Vector.replicate 8 0)]))] aa ww) ?_ (fun s91=>?_)
    ·
     refine gSR<|Zb Z<|z2b (fun (s92:(Vector UInt32 8) × Int) aa ww=>Sta (ctx 203 H [] w) [(2,.val (z05 v1 0)),(4,.val (z05 v2 0)),(11,.val (z05 v52 0)),(21,.rd z07 s92.2)] [(1,some (v1,.box 129 [.rd (z2y 8 z0i) s92.1])),(2,some (v2,.box 129 [.rd (z2y 8 z0i) (Vector.replicate 8 0)])),(332,some (v52,.box 129 [.rd (z2y 8 z0i) s53]))] aa ww) (fun aa ww h=>Zu h [1,2,332]) (fun s92=>?_)
     refine z0w<|gSR<|Zm Z<|Zq (I.lss Z Z)<|Zj Z (fun h93=>?_) (fun h93=>?_)
     ·
      refine Zt<|z0w<|z58<|z89 [1] mixed Z Z<|hTk 0 Z Z (mv Z)<|z51 fun x94 h95=>hTk 1 Z Z (ixB 1 Z Z Z h95 tu129 z4z)<|hTk 3 Z Z (mv Z)<|z51 fun x96 h97=>hTk 4 Z Z (ixB 332 Z Z Z h97 tu129 z4z)<|hTk 5 Z Z (ld 332 Z Z (fP (.el h97)) z86 Z)<|hRun 2 Z (by kernel_rfl) (gd0 Z) Z Z z2v (ld 1 Z Z (fP (.el h95)) z86 Z)<|hTk 6 Z Z (W.add Z Z)<|z51 fun x98 h99=>hTk 7 Z Z (ixB 1 Z Z Z h99 tu129 z4z)<|Zp 8 Z Z Z Z Z (sto 1 Z Z (fP (.el h99)) Z z4z)<|z3r (by kernel_rfl)<|z3h<|z0n<|z2o<|Zm Z<|Zq (I.add Z Z)<|Za Z<|z1z 21 Z fun y100=>z23<|z1l (fun aa ww h=>Zu h [1,2,332])
     ·
      refine z24<|z14<|z13<|z3s (fun aa ww h=>Zu h [1,2])
    ·
     refine gSR<|Zq (ld 1 Z Z fH znu Z)<|Es (sto 2 Z Z fH Z zex)<|Zn<|z0m<|zbf [] [] Z (eC 2 Z Z znu<|eN) (rN)
def z4f (a1:List UInt8) (s4:(Vector UInt32 8) × Int):Option (Sum ((Vector UInt32 8)) ((Vector UInt32 8) × Int)) :=
 if decide ((w64 (s4.2+64))≤(a1.length:Int)) then
  cut a1 s4.2 (w64 (s4.2+64)) >>= fun x6 =>
  z7z s4.1 x6 >>= fun r8 =>
  some (w64 (s4.2+64)) >>= fun y10 =>
  some (.inr (r8,y10))
 else
  some (.inl s4.1)
def z7u (a0:Vector UInt32 8) (a1:List UInt8):Option ((Vector UInt32 8)) :=
 (iter (z4f a1) (a0,0)) >>= fun s3 =>
 some s3
theorem zf1 (a0:Vector UInt32 8) (a1:List UInt8):z1u Tryz.prog 96 [.rd (z2y 8 z0i) a0,.rd (z02 u8R) a1] [] (z7u a0 a1) (fun r nv=>⟨[.rd (z2y 8 z0i) r],[]⟩):=by
 refine z2m 21 Tryz.func96 Z Z Z fun H w=>?_
 refine gSR<|Eb Z (bx 1 Z) fun v1=>Eb Z (z7q 2 zex (.zr (R:=(z2y 8 z0i)) (x:=(Vector.replicate 8 0)) zne)) fun v2=>Zn<|z7m (fun (s3:(Vector UInt32 8)) aa ww=>Sta (ctx 21 H [] w) [(2,.val (z05 v1 0)),(4,.val (z05 v2 0))] [(1,some (v1,.box 129 [.rd (z2y 8 z0i) s3])),(2,some (v2,.box 129 [.rd (z2y 8 z0i) (Vector.replicate 8 0)]))] aa ww) ?_ (fun s3=>?_)
 ·
  refine gSR<|Zb Z<|z2b (fun (s4:(Vector UInt32 8) × Int) aa ww=>Sta (ctx 21 H [] w) [(1,.rd (z02 u8R) a1),(2,.val (z05 v1 0)),(4,.val (z05 v2 0)),(5,.rd z07 s4.2)] [(1,some (v1,.box 129 [.rd (z2y 8 z0i) s4.1])),(2,some (v2,.box 129 [.rd (z2y 8 z0i) (Vector.replicate 8 0)]))] aa ww) (fun aa ww h=>Zu h [1,2]) (fun s4=>?_)
  refine z0w<|gSR<|Zm Z<|Zq (I.add Z Z)<|Zm Z<|Zq (z3q Z .rd Z tu89)<|Zq (I.leq Z Z)<|Zj Z (fun h5=>?_) (fun h5=>?_)
  ·
   refine Zt<|z0w<|z58<|z89 [1] mixed Z Z<|hTk 1 Z Z (mv Z)<|hTk 2 Z Z (mv Z)<|hTk 3 Z Z (mv Z)<|hTk 4 Z Z (I.add Z Z)<|z51 fun x6 h7=>hTk 5 Z Z (cut' Z (.to Z) (.to Z) h7 tu89 ti5)<|hRun 0 Z (by kernel_rfl) (gd0 Z) Z Z anyJ (ld 1 Z Z fH znu Z)<|zdv 6 [] [] Z (by kernel_rfl) Z (gd0 Z) Z Tryz.func141 Z Z (zf0 _ _) (Y2 Z Z) rN Z fun r8 n9=>Zp 7 Z Z Z Z Z (sto 1 Z Z fH Z zex)<|z3r (by kernel_rfl)<|z3h<|z0n<|z2o<|Zm Z<|Zq (I.add Z Z)<|Za Z<|z1z 5 Z fun y10=>z23<|z1l (fun aa ww h=>Zu h [1,2])
  ·
   refine z24<|z14<|z13<|z3s (fun aa ww h=>Zu h [1,2])
 ·
  refine gSR<|Zq (ld 1 Z Z fH znu Z)<|Es (sto 2 Z Z fH Z zex)<|Zn<|z0m<|zbf [] [] Z (eC 2 Z Z znu<|eN) (rN)
def z3v (a0:Vector UInt32 8) (s5:V3 × Int):Option (Sum (V3) (V3 × Int)) :=
 if decide (s5.2<32) then
  z6n a0 (w64 (Int.tdiv s5.2 4)) >>= fun x7 =>
  chk (0≤w64 (24 - (w64 (8 * (Int.tmod s5.2 4))))) >>= fun u9 =>
  z6n s5.1 s5.2 >>= fun x11 =>
  some (w64 (s5.2+1)) >>= fun y13 =>
  some (.inr (zg5 s5.1 s5.2 ((z3o x7 ((w64 (24 - (w64 (8 * (Int.tmod s5.2 4)))):Int).toNat)).toUInt8),y13))
 else
  some (.inl s5.1)
def z7b (a0:Vector UInt32 8):Option (V3) :=
 (iter (z3v a0) ((Vector.replicate 32 0),0)) >>= fun s4 =>
 some s4
theorem ze4 (a0:Vector UInt32 8):z1u Tryz.prog 95 [.rd (z2y 8 z0i) a0] [] (z7b a0) (fun r nv=>⟨[.rd aZ r],[]⟩):=by
 refine z2m 22 Tryz.func95 Z Z Z fun H w=>?_
 refine gSR<|Eb Z (bx 1 Z) fun v1=>Eb Z (z7q 2 z36 (.zr (R:=aZ) (x:=(Vector.replicate 32 0)) zhl)) fun v2=>Zn<|gSR<|Eb Z (z7q 3 z36 (.zr (R:=aZ) (x:=(Vector.replicate 32 0)) zhl)) fun v3=>Zn<|z7m (fun (s4:V3) aa ww=>Sta (ctx 22 H [] w) [(2,.val (z05 v2 0)),(3,.val (z05 v3 0))] [(2,some (v2,.box 36 [.rd aZ (Vector.replicate 32 0)])),(3,some (v3,.box 36 [.rd aZ s4]))] aa ww) ?_ (fun s4=>?_)
 ·
  refine gSR<|Zb Z<|z2b (fun (s5:V3 × Int) aa ww=>Sta (ctx 22 H [] w) [(1,.val (z05 v1 0)),(2,.val (z05 v2 0)),(3,.val (z05 v3 0)),(4,.rd z07 s5.2)] [(1,some (v1,.box 129 [.rd (z2y 8 z0i) a0])),(2,some (v2,.box 36 [.rd aZ (Vector.replicate 32 0)])),(3,some (v3,.box 36 [.rd aZ s5.1]))] aa ww) (fun aa ww h=>Zu h [1,2,3]) (fun s5=>?_)
  refine z0w<|gSR<|Zm Z<|Zq (I.lss Z Z)<|Zj Z (fun h6=>?_) (fun h6=>?_)
  ·
   refine Zt<|z0w<|z58<|z2o<|Zm Z<|Zm Z<|Zq (I.quo Z Z (by decide))<|z0u fun x7 h8=>Zq (ixB 1 Z Z Z h8 tu129 z4z)<|Zq (ld 1 Z Z (fP (.el h8)) z86 Z)<|Zm Z<|Zq (I.rem Z Z (by decide))<|Zq (I.mul Z Z)<|Zq (I.sub Z Z)<|z0u fun u9 h10=>Zq (W.shr Z Z (z4w h10))<|Zq (W.toB Z tu37 tu5)<|z0u fun x11 h12=>Zq (ixB 3 Z Z Z h12 tu36 ti5)<|Es (sto 3 Z Z (fP (.el h12)) Z ti5)<|z23<|z3h<|z0n<|z2o<|Zm Z<|Zq (I.add Z Z)<|Za Z<|z1z 4 Z fun y13=>z23<|z1l (fun aa ww h=>Zu h [1,2,3])
  ·
   refine z24<|z14<|z13<|z3s (fun aa ww h=>Zu h [2,3])
 ·
  refine gSR<|Zq (ld 3 Z Z fH z56 Z)<|Es (sto 2 Z Z fH Z z36)<|Zn<|z0m<|zbf [] [] Z (eC 2 Z Z z56<|eN) (rN)
def z9e (a0:List UInt8):Option (V3) :=
 zag >>= fun r2 =>
 app 1 ([]:List UInt8) a0 >>= fun x5 =>
 z99 (a0.length:Int) >>= fun r8 =>
 app 1 x5 r8 >>= fun x10 =>
 z7u r2 x10 >>= fun r13 =>
 z7b r13 >>= fun r15 =>
 some r15
end
section
open Go Go.RowKit
set_option maxRecDepth 100000
theorem zde (a0:List UInt8):z1u Tryz.prog 67 [.rd (z02 u8R) a0] [] (z9e a0) (fun r nv=>⟨[.rd aZ r],[]⟩):=by
 refine z2m 13 Tryz.func67 Z Z Z fun H w=>?_
 refine gSR<|Eb Z (z7q 1 z36 (.zr (R:=aZ) (x:=(Vector.replicate 32 0)) zhl)) fun v1=>Zn<|gSR<|Zc [] [] Tryz.func97 Z (zff) fun r2 n3=>Ef Z (lit (R:=u8R) (([]:List UInt8):List UInt8) 2 (pN) Z tu89 ti5 Z Z) fun v4=>Zm Z<|z0u fun x5 h6=>Ef Z (apn 2 Z Z Z .rd h6 tu89 ti5 Z Z Z) fun v7=>Zm Z<|Zq (z3q Z .rd Z tu89)<|Zc [] [(100,3)] Tryz.func98 Z (zgq _) fun r8 n9=>z0u fun x10 h11=>Ef Z (apn 2 Z Z Z (.own 3 Z) h11 tu89 ti5 Z Z Z) fun v12=>zhq 2 [10] Z (fS Z<|fN)<|Zc [] [] Tryz.func96 Z (zf1 _ _) fun r13 n14=>Zc [] [] Tryz.func95 Z (ze4 _) fun r15 n16=>Es (sto 1 Z Z fH Z z36)<|Zn<|z0m<|zbf [] [] Z (eC 1 Z Z z56<|eN) (rN)
def zan (a0:z06):Option (V3) :=
 z8n a0 >>= fun r3 =>
 z9e r3 >>= fun r5 =>
 some r5
theorem zi5 (a0:z06):z1u Tryz.prog 45 [.rd z03 a0] [] (zan a0) (fun r nv=>⟨[.rd aZ r],[]⟩):=by
 refine z2m 6 Tryz.func45 Z Z Z fun H w=>?_
 refine gSR<|Eb Z (bx 1 Z) fun v1=>Eb Z (z7q 2 z36 (.zr (R:=aZ) (x:=(Vector.replicate 32 0)) zhl)) fun v2=>Zn<|gSR<|Zq (ld 1 Z Z fH z9q Z)<|Zc [] [(100,3)] Tryz.func68 Z (zfp _) fun r3 n4=>zhq 3 [4] Z (fS Z<|fN)<|Zc [] [] Tryz.func67 Z (zde _) fun r5 n6=>Es (sto 2 Z Z fH Z z36)<|Zn<|z0m<|zbf [] [] Z (eC 2 Z Z z56<|eN) (rN)
def z6d (a0:V3) (a1:V3) (s4:Int):Option (Sum (Sum Int Unit) Int) :=
 if decide (s4<32) then
  z6n a0 s4 >>= fun x6 =>
  z6n a1 s4 >>= fun x8 =>
  if decide (x6<x8) then
   some (.inl (.inl (-1)))
  else
   z6n a0 s4 >>= fun x11 =>
   z6n a1 s4 >>= fun x13 =>
   if decide (x13<x11) then
    some (.inl (.inl 1))
   else
    some (.inr (w64 (s4+1)))
 else
  some (.inl (.inr ()))
def z5r (a0:V3) (a1:V3):Option (Int) :=
 z6l (iter (z6d a0 a1) 0) fun s3 =>
 some 0
theorem z9y (a0:V3) (a1:V3):z1u Tryz.prog 15 [.rd aZ a0,.rd aZ a1] [] (z5r a0 a1) (fun r nv=>⟨[.rd z07 r],[]⟩):=by
 refine z2m 24 Tryz.func15 Z Z Z fun H w=>?_
 refine gSR<|Eb Z (bx 1 Z) fun v1=>Eb Z (bx 2 Z) fun v2=>Zb Z<|z95 (fun (s3:Unit) aa ww=>Sta (ctx 24 H [] w) [] [] aa ww) ?_ (fun s3=>?_)
 ·
  refine gSR<|Zb Z<|z2b (fun (s4:Int) aa ww=>Sta (ctx 24 H [] w) [(2,.val (z05 v1 0)),(3,.val (z05 v2 0)),(5,.rd z07 s4)] [(1,some (v1,.box 36 [.rd aZ a0])),(2,some (v2,.box 36 [.rd aZ a1]))] aa ww) (fun aa ww h=>Zu h [1,2]) (fun s4=>?_)
  refine z0w<|gSR<|Zm Z<|Zq (I.lss Z Z)<|Zj Z (fun h5=>?_) (fun h5=>?_)
  ·
   refine Zt<|z0w<|z58<|z0w<|z0w<|zgl mixed (by kernel_rfl)<|Rq Z (mv Z)<|z7c fun x6 h7=>Rq Z (ixB 1 Z Z Z h7 tu36 ti5)<|Rq Z (ld 1 Z Z (fP (.el h7)) ty5 Z)<|Rq Z (mv Z)<|z7c fun x8 h9=>Rq Z (ixB 2 Z Z Z h9 tu36 ti5)<|Rq Z (ld 2 Z Z (fP (.el h9)) ty5 Z)<|Rq Z (B.lss Z Z)<|zq9<|z0n<|gIf Z Z (fun h10=>?_) (fun h10=>?_)
   ·
    refine gSR<|Zb Z<|z0m<|z10<|z4c<|z10<|z85<|z80<|Ze [] [] Z
   ·
    refine Zt<|z0w<|zgl mixed (by kernel_rfl)<|Rq Z (mv Z)<|z7c fun x11 h12=>Rq Z (ixB 1 Z Z Z h12 tu36 ti5)<|Rq Z (ld 1 Z Z (fP (.el h12)) ty5 Z)<|Rq Z (mv Z)<|z7c fun x13 h14=>Rq Z (ixB 2 Z Z Z h14 tu36 ti5)<|Rq Z (ld 2 Z Z (fP (.el h14)) ty5 Z)<|Rq Z (B.gtr Z Z)<|zq9<|z0n<|gIf Z Z (fun h15=>?_) (fun h15=>?_)
    ·
     refine gSR<|Zb Z<|z0m<|z4c<|z10<|z85<|z80<|Ze [] [] Z
    ·
     refine z3a<|z3h<|z0n<|z2o<|Zm Z<|Zq (I.add Z Z)<|Za Z<|z23<|z1l (fun aa ww h=>Zu h [1,2])
  ·
   refine z24<|z14<|z13<|z8b (fun aa ww h=>Zu h [])
 ·
  refine gSR<|Zb Z<|z0m<|Ze [] [] Z
def z3m (a0:List V3) (s2:Int):Option (Sum (Sum Bool Unit) Int) :=
 if decide (s2<(a0.length:Int)) then
  idx a0 (w64 (s2 - 1)) >>= fun x4 =>
  idx a0 s2 >>= fun x6 =>
  z5r x4 x6 >>= fun r8 =>
  if decide (0≤r8) then
   some (.inl (.inl false))
  else
   some (.inr (w64 (s2+1)))
 else
  some (.inl (.inr ()))
def z65 (a0:List V3):Option (Bool) :=
 z6l (iter (z3m a0) 1) fun s1 =>
 some true
theorem zah (a0:List V3):z1u Tryz.prog 18 [.rd (z02 aZ) a0] [] (z65 a0) (fun r nv=>⟨[.rd z0f r],[]⟩):=by
 refine z2m 21 Tryz.func18 Z Z Z fun H w=>?_
 refine gSR<|Zb Z<|z95 (fun (s1:Unit) aa ww=>Sta (ctx 21 H [] w) [] [] aa ww) ?_ (fun s1=>?_)
 ·
  refine gSR<|Zb Z<|z2b (fun (s2:Int) aa ww=>Sta (ctx 21 H [] w) [(0,.rd (z02 aZ) a0),(3,.rd z07 s2)] [] aa ww) (fun aa ww h=>Zu h []) (fun s2=>?_)
  refine z0w<|gSR<|Zm Z<|Zm Z<|Zq (z3q Z .rd Z tu22)<|Zq (I.lss Z Z)<|Zj Z (fun h3=>?_) (fun h3=>?_)
  ·
   refine Zt<|z0w<|z58<|z0w<|z89 [] mixed Z Z<|hTk 0 Z Z (mv Z)<|hTk 1 Z Z (mv Z)<|hTk 2 Z Z (I.sub Z Z)<|z51 fun x4 h5=>hTk 3 Z Z (ixR Z Z h5 tu22 z36 Z)<|hTk 4 Z Z (ldR Z z56)<|hTk 5 Z Z (mv Z)<|hTk 6 Z Z (mv Z)<|z51 fun x6 h7=>hTk 7 Z Z (ixR Z Z h7 tu22 z36 Z)<|hTk 8 Z Z (ldR Z z56)<|z37 9 [] [] Z (by kernel_rfl) Z (gd0 Z) Z Tryz.func15 Z Z (z9y _ _) (Y2 Z Z) rN Z (fun _ _=>z2v) fun r8 n9=>hTk 10 Z Z (I.geq Z Z)<|z3r (by kernel_rfl)<|z0n<|gIf Z Z (fun h10=>?_) (fun h10=>?_)
   ·
    refine gSR<|Zb Z<|z0m<|z4c<|z10<|z85<|z80<|Ze [] [] Z
   ·
    refine z3a<|z3h<|z0n<|z2o<|Zm Z<|Zq (I.add Z Z)<|Za Z<|z23<|z1l (fun aa ww h=>Zu h [])
  ·
   refine z24<|z14<|z13<|z8b (fun aa ww h=>Zu h [])
 ·
  refine gSR<|Zb Z<|z0m<|Ze [] [] Z
def z4p (a2:UInt64) (s2:UInt64 × UInt64 × UInt64):Option (Sum UInt64 (UInt64 × UInt64 × UInt64)) :=
 if decide (0<s2.2.1) then
  (if (s2.2.1 % 2)==1 then
   chk (a2≠0) >>= fun u6 =>
   some ((s2.2.2 * s2.1) % a2) >>= fun y8 =>
   some y8
  else
   some s2.2.2) >>= fun s4 =>
  chk (a2≠0) >>= fun u9 =>
  some ((s2.1 * s2.1) % a2) >>= fun y11 =>
  some (.inr (y11,s2.2.1 / 2,s4))
 else
  some (.inl s2.2.2)
def z6x (a0:UInt64) (a1:UInt64) (a2:UInt64):Option (UInt64) :=
 (iter (z4p a2) (a0,a1,1)) >>= fun s1 =>
 some s1
theorem zba (a0:UInt64) (a1:UInt64) (a2:UInt64):z1u Tryz.prog 130 [.rd z2e a0,.rd z2e a1,.rd z2e a2] [] (z6x a0 a1 a2) (fun r nv=>⟨[.rd z2e r],[]⟩):=by
 refine z2m 26 Tryz.func130 Z Z Z fun H w=>?_
 refine gSR<|Zb Z<|gSR<|Zb Z<|z7m (fun (s1:UInt64) aa ww=>Sta (ctx 26 H [] w) [(7,.rd z2e s1)] [] aa ww) ?_ (fun s1=>?_)
 ·
  refine z2b (fun (s2:UInt64 × UInt64 × UInt64) aa ww=>Sta (ctx 26 H [] w) [(0,.rd z2e s2.1),(1,.rd z2e s2.2.1),(2,.rd z2e a2),(7,.rd z2e s2.2.2)] [] aa ww) (fun aa ww h=>Zu h []) (fun s2=>?_)
  refine z0w<|gSR<|Zm Z<|Zq (U.gtr Z Z)<|Zj Z (fun h3=>?_) (fun h3=>?_)
  ·
   refine Zt<|z58<|z7m (fun (s4:UInt64) aa ww=>Sta (ctx 26 H [] w) [(0,.rd z2e s2.1),(1,.rd z2e s2.2.1),(2,.rd z2e a2),(7,.rd z2e s4)] [] aa ww) ?_ (fun s4=>?_)
   ·
    refine gSR<|Zm Z<|Zq (U.rem Z Z (by decide))<|Zq (U.eql Z Z)<|Zj Z (fun h5=>?_) (fun h5=>?_)
    ·
     refine z2o<|Zm Z<|Zm Z<|Zq (U.mul Z Z)<|Zm Z<|z0u fun u6 h7=>Zq (U.rem Z Z (z4w h7))<|Za Z<|z1z 7 Z fun y8=>z23<|z3s (fun aa ww h=>Zu h [])
    ·
     refine z3a<|z3s (fun aa ww h=>Zu h [])
   ·
    refine gSR<|Zm Z<|Zm Z<|Zq (U.mul Z Z)<|Zm Z<|z0u fun u9 h10=>Zq (U.rem Z Z (z4w h10))<|Za Z<|z1z 0 Z fun y11=>Zn<|z2o<|Zm Z<|Zq (U.quo Z Z (by decide))<|Za Z<|z23<|z3h<|z1l (fun aa ww h=>Zu h [])
  ·
   refine z24<|z14<|z13<|z3s (fun aa ww h=>Zu h [])
 ·
  refine gSR<|Zm Z<|Zb Z<|z0m<|Ze [] [] Z
def z9m (a0:UInt32):Option (Bool) :=
 if decide (1≤a0) then
  if decide (a0<1000000007) then
   z6x a0.toUInt64 500000003 1000000007 >>= fun r3 =>
   some (r3==1)
  else
   some false
 else
  some false
theorem zdc (a0:UInt32):z1u Tryz.prog 90 [.rd z0i a0] [] (z9m a0) (fun r nv=>⟨[.rd z0f r],[]⟩):=by
 refine z2m 15 Tryz.func90 Z Z Z fun H w=>?_
 refine gSR<|Zb Z<|gSR<|Zm Z<|Zq (W.geq Z Z)<|Zm Z<|z2n 5 Z (fun h1=>?_) (fun h1=>?_)
 ·
  refine lKn 4 Z h1<|z1y Zx Z Z (mv Z)<|z1y Zx Z Z (W.lss Z Z)<|Zq (pkT Z Z)<|Zm Z<|z2n 9 Z (fun h2=>?_) (fun h2=>?_)
  ·
   refine lKn 7 Z h2<|lKn 8 Z h2<|z1y Zx Z Z (mv Z)<|z1y Zx Z Z (W.toU Z tu37 tu38)<|zew [] [] Zx Z Tryz.func130 Z Z (zba _ _ _) (aQ Z<|aQ Z<|aQ Z<|aN) rN fun r3 n4=>z1y Zx Z Z (U.eql Z Z)<|Zq (pkT Z Z)<|Zb Z<|z0m<|Ze [] [] Z
  ·
   refine lKn 7 Z h2<|lKn 8 Z h2<|Zk Z<|Zk Z<|Zk Z<|Zk Z<|Zq (pkF Z Z)<|Zb Z<|z0m<|Ze [] [] Z
 ·
  refine lKn 4 Z h1<|Zk Z<|Zk Z<|Zq (pkF Z Z)<|Zm Z<|Zk Z<|Zk Z<|Zk Z<|Zk Z<|Zq (pkF Z Z)<|Zb Z<|z0m<|Ze [] [] Z
def z5m (a0:List UInt8) (s4:Int):Option (Sum (Sum Bool Unit) Int) :=
 if decide (s4<(a0.length:Int)) then
  idx a0 s4 >>= fun x6 =>
  if decide (x6<33) then
   some (.inl (.inl false))
  else
   idx a0 s4 >>= fun x9 =>
   if decide (126<x9) then
    some (.inl (.inl false))
   else
    some (.inr (w64 (s4+1)))
 else
  some (.inl (.inr ()))
def z7g (a0:List UInt8):Option (Bool) :=
 if decide ((a0.length:Int)<1) then
  some false
 else
  if decide (20<(a0.length:Int)) then
   some false
  else
   z6l (iter (z5m a0) 0) fun s3 =>
   some true
theorem zbg (a0:List UInt8):z1u Tryz.prog 131 [.rd zh7 a0] [] (z7g a0) (fun r nv=>⟨[.rd z0f r],[]⟩):=by
 refine z2m 28 Tryz.func131 Z Z Z fun H w=>?_
 refine gSR<|Zb Z<|z0w<|gSR<|Zm Z<|Zq (zvi Z Z tu9)<|Zq (I.lss Z Z)<|Zm Z<|z2n 7 Z (fun h1=>?_) (fun h1=>?_)
 ·
  refine lKn 6 Z h1<|Zk Z<|Zk Z<|Zk Z<|Zq (pkT Z Z)<|Zn<|zh1 Z<|gSR<|Zb Z<|z0m<|z10<|Ze [] [] Z
 ·
  refine lKn 6 Z h1<|z1y Zx Z Z (mv Z)<|z1y Zx Z Z (zvi Z Z tu9)<|z1y Zx Z Z (I.gtr Z Z)<|Zq (pkF Z Z)<|Zj Z (fun h2=>?_) (fun h2=>?_)
  ·
   refine gKn 10 Z h2<|gSR<|Zb Z<|z0m<|z10<|Ze [] [] Z
  ·
   refine gKn 10 Z h2<|Zt<|z95 (fun (s3:Unit) aa ww=>Sta (ctx 28 H [] w) [] [] aa ww) ?_ (fun s3=>?_)
   ·
    refine gSR<|Zb Z<|z2b (fun (s4:Int) aa ww=>Sta (ctx 28 H [] w) [(0,.rd zh7 a0),(3,.rd z07 s4)] [] aa ww) (fun aa ww h=>Zu h []) (fun s4=>?_)
    refine z0w<|gSR<|Zm Z<|Zm Z<|Zq (zvi Z Z tu9)<|Zq (I.lss Z Z)<|Zj Z (fun h5=>?_) (fun h5=>?_)
    ·
     refine Zt<|z0w<|z58<|gSR<|Zm Z<|Zm Z<|z0u fun x6 h7=>Zq (idxT Z Z tu9 (z4x h7).1 (z4x h7).2.1)<|Zq (B.lss Z Z)<|Zm Z<|z2n 22 Z (fun h8=>?_) (fun h8=>?_)
     ·
      refine lKn 21 Z h8<|Zk Z<|Zk Z<|Zk Z<|Zk Z<|Zq (pkT Z Z)<|Zn<|zh1 Z<|gSR<|Zb Z<|z0m<|z4c<|z10<|z85<|z80<|Ze [] [] Z
     ·
      refine lKn 21 Z h8<|z1y Zx Z Z (mv Z)<|z1y Zx Z Z (mv Z)<|z0u fun x9 h10=>z1y Zx Z Z (idxT Z Z tu9 (z4x h10).1 (z4x h10).2.1)<|z1y Zx Z Z (B.gtr Z Z)<|Zq (pkF Z Z)<|Zj Z (fun h11=>?_) (fun h11=>?_)
      ·
       refine gKn 26 Z h11<|gSR<|Zb Z<|z0m<|z4c<|z10<|z85<|z80<|Ze [] [] Z
      ·
       refine gKn 26 Z h11<|z3a<|z3h<|z0n<|z2o<|Zm Z<|Zq (I.add Z Z)<|Za Z<|z23<|z1l (fun aa ww h=>Zu h [])
    ·
     refine z24<|z14<|z13<|z8b (fun aa ww h=>Zu h [])
   ·
    refine gSR<|Zb Z<|z0m<|Ze [] [] Z
def z6s (a0:UInt64):Option (Int) :=
 some (w64 (((a0 % 9223372036854775808) / 4503599627370496).toNat:Int)) >>= fun y1 =>
 some y1
theorem zdh (a0:UInt64):z1u Tryz.prog 175 [.rd z2e a0] [] (z6s a0) (fun r nv=>⟨[.rd z07 r],[]⟩):=by
 refine z2m 7 Tryz.func175 Z Z Z fun H w=>?_
 refine gSR<|Zb Z<|gSR<|Zm Z<|Zq (U.rem Z Z (by decide))<|Zq (U.quo Z Z (by decide))<|Zq (U.toI Z tu38 tu3)<|Za Z<|z1z 2 Z fun y1=>Zn<|z0m<|Ze [] [] Z
def z8y (a0:UInt64):Option (UInt64) :=
 some (a0 % 4503599627370496) >>= fun y1 =>
 some y1
theorem zdj (a0:UInt64):z1u Tryz.prog 176 [.rd z2e a0] [] (z8y a0) (fun r nv=>⟨[.rd z2e r],[]⟩):=by
 refine z2m 5 Tryz.func176 Z Z Z fun H w=>?_
 refine gSR<|Zb Z<|gSR<|Zm Z<|Zq (U.rem Z Z (by decide))<|Za Z<|z1z 2 Z fun y1=>Zn<|z0m<|Ze [] [] Z
def z8w (a0:UInt64):Option (UInt8) :=
 z6s a0 >>= fun r1 =>
 z8y a0 >>= fun r3 =>
 z6l (if r1==0 then
  if r3==0 then
   some (.inl 1)
  else
   some (.inr ())
 else
  some (.inr ())) fun s5 =>
 if r1==0 then
  some 2
 else
  if decide (r1<2047) then
   some 3
  else
   if r3==0 then
    some 4
   else
    some 5
theorem zg1 (a0:UInt64):z1u Tryz.prog 172 [.rd z2e a0] [] (z8w a0) (fun r nv=>⟨[.rd u8R r],[]⟩):=by
 refine z2m 21 Tryz.func172 Z Z Z fun H w=>?_
 refine gSR<|Zb Z<|gSR<|Zm Z<|Zc [] [] Tryz.func175 Z (zdh _) fun r1 n2=>Zm Z<|Zc [] [] Tryz.func176 Z (zdj _) fun r3 n4=>Za Z<|Zb Z<|z95 (fun (s5:Unit) aa ww=>Sta (ctx 21 H [] w) [(3,.rd z07 r1),(4,.rd z2e r3)] [] aa ww) ?_ (fun s5=>?_)
 ·
  refine gSR<|Zm Z<|Zq (I.eql Z Z)<|Zm Z<|z2n 11 Z (fun h6=>?_) (fun h6=>?_)
  ·
   refine lKn 10 Z h6<|z1y Zx Z Z (mv Z)<|z1y Zx Z Z (U.eql Z Z)<|Zq (pkT Z Z)<|Zj Z (fun h7=>?_) (fun h7=>?_)
   ·
    refine gKn 13 Z h7<|gSR<|Zb Z<|z0m<|z80<|Ze [] [] Z
   ·
    refine gKn 13 Z h7<|z3a<|z8b (fun aa ww h=>Zu h [])
  ·
   refine lKn 10 Z h6<|Zk Z<|Zk Z<|Zq (pkF Z Z)<|Zn<|zf8 Z<|z3a<|z8b (fun aa ww h=>Zu h [])
 ·
  refine z0w<|gSR<|Zm Z<|Zq (I.eql Z Z)<|Zj Z (fun h8=>?_) (fun h8=>?_)
  ·
   refine gSR<|Zb Z<|z0m<|z10<|Ze [] [] Z
  ·
   refine Zt<|z0w<|gSR<|Zm Z<|Zq (I.lss Z Z)<|Zj Z (fun h9=>?_) (fun h9=>?_)
   ·
    refine gSR<|Zb Z<|z0m<|z10<|Ze [] [] Z
   ·
    refine Zt<|z0w<|gSR<|Zm Z<|Zq (U.eql Z Z)<|Zj Z (fun h10=>?_) (fun h10=>?_)
    ·
     refine gSR<|Zb Z<|z0m<|z10<|Ze [] [] Z
    ·
     refine Zt<|gSR<|Zb Z<|z0m<|Ze [] [] Z
def z8m (a0:UInt64):Option (UInt64) :=
 z8w a0 >>= fun r1 =>
 if r1==5 then
  some 9221120237041090560
 else
  some a0
theorem zfn (a0:UInt64):z1u Tryz.prog 158 [.rd z2e a0] [] (z8m a0) (fun r nv=>⟨[.rd z2e r],[]⟩):=by
 refine z2m 7 Tryz.func158 Z Z Z fun H w=>?_
 refine gSR<|Zb Z<|z0w<|gSR<|Zm Z<|Zc [] [] Tryz.func172 Z (zg1 _) fun r1 n2=>Zq (B.eql Z Z)<|Zj Z (fun h3=>?_) (fun h3=>?_)
 ·
  refine gSR<|Zb Z<|z0m<|z10<|Ze [] [] Z
 ·
  refine Zt<|gSR<|Zm Z<|Zb Z<|z0m<|Ze [] [] Z
def z3k (a0:List UInt8) (s2:Int):Option (Sum (Sum Bool Unit) Int) :=
 if decide (s2<(a0.length:Int)) then
  idx a0 s2 >>= fun x4 =>
  if decide (x4<32) then
   some (.inl (.inl false))
  else
   idx a0 s2 >>= fun x7 =>
   if decide (126<x7) then
    some (.inl (.inl false))
   else
    some (.inr (w64 (s2+1)))
 else
  some (.inl (.inr ()))
def z62 (a0:List UInt8):Option (Bool) :=
 z6l (iter (z3k a0) 0) fun s1 =>
 some true
theorem zcm (a0:List UInt8):z1u Tryz.prog 159 [.rd zh7 a0] [] (z62 a0) (fun r nv=>⟨[.rd z0f r],[]⟩):=by
 refine z2m 20 Tryz.func159 Z Z Z fun H w=>?_
 refine gSR<|Zb Z<|z95 (fun (s1:Unit) aa ww=>Sta (ctx 20 H [] w) [] [] aa ww) ?_ (fun s1=>?_)
 ·
  refine gSR<|Zb Z<|z2b (fun (s2:Int) aa ww=>Sta (ctx 20 H [] w) [(0,.rd zh7 a0),(3,.rd z07 s2)] [] aa ww) (fun aa ww h=>Zu h []) (fun s2=>?_)
  refine z0w<|gSR<|Zm Z<|Zm Z<|Zq (zvi Z Z tu9)<|Zq (I.lss Z Z)<|Zj Z (fun h3=>?_) (fun h3=>?_)
  ·
   refine Zt<|z0w<|z58<|gSR<|Zm Z<|Zm Z<|z0u fun x4 h5=>Zq (idxT Z Z tu9 (z4x h5).1 (z4x h5).2.1)<|Zq (B.lss Z Z)<|Zm Z<|z2n 14 Z (fun h6=>?_) (fun h6=>?_)
   ·
    refine lKn 13 Z h6<|Zk Z<|Zk Z<|Zk Z<|Zk Z<|Zq (pkT Z Z)<|Zn<|zh1 Z<|gSR<|Zb Z<|z0m<|z4c<|z10<|z85<|z80<|Ze [] [] Z
   ·
    refine lKn 13 Z h6<|z1y Zx Z Z (mv Z)<|z1y Zx Z Z (mv Z)<|z0u fun x7 h8=>z1y Zx Z Z (idxT Z Z tu9 (z4x h8).1 (z4x h8).2.1)<|z1y Zx Z Z (B.gtr Z Z)<|Zq (pkF Z Z)<|Zj Z (fun h9=>?_) (fun h9=>?_)
    ·
     refine gKn 18 Z h9<|gSR<|Zb Z<|z0m<|z4c<|z10<|z85<|z80<|Ze [] [] Z
    ·
     refine gKn 18 Z h9<|z3a<|z3h<|z0n<|z2o<|Zm Z<|Zq (I.add Z Z)<|Za Z<|z23<|z1l (fun aa ww h=>Zu h [])
  ·
   refine z24<|z14<|z13<|z8b (fun aa ww h=>Zu h [])
 ·
  refine gSR<|Zb Z<|z0m<|Ze [] [] Z
def z8r (a0:z04):Option (Int) :=
 if a0.Kind==1 then
  if a0.Bits==0 then
   if a0.Text==[] then
    some 0
   else
    some 8
  else
   some 8
 else
  if a0.Kind==2 then
   (if a0.Num==0 then
    if a0.Text==[] then
     z8m a0.Bits >>= fun r9 =>
     some (r9==a0.Bits)
    else
     some false
   else
    some false) >>= fun s6 =>
   if s6 then
    some 0
   else
    some 8
  else
   if a0.Kind==3 then
    (if a0.Num==0 then
     if a0.Bits==0 then
      if decide ((a0.Text.length:Int)≤30) then
       z62 a0.Text >>= fun r17 =>
       some r17
      else
       some false
     else
      some false
    else
     some false) >>= fun s13 =>
    if s13 then
     some 0
    else
     some 8
   else
    some 8
theorem zfw (a0:z04):z1u Tryz.prog 132 [.rd z1h a0] [] (z8r a0) (fun r nv=>⟨[.rd z07 r],[]⟩):=by
 refine z2m 54 Tryz.func132 Z Z Z fun H w=>?_
 refine gSR<|Eb Z (bx 1 Z) fun v1=>Zb Z<|z0w<|gSR<|Zq (faB 1 Z Z Tryz.underlying40 Z (by exact ti5))<|Zq (ld 1 Z Z (fP (z2j _)) ty5 Z)<|Zn<|z58<|gSR<|Zq (B.eql Z Z)<|Zb Z<|gIf Z Z (fun h2=>?_) (fun h2=>?_)
 ·
  refine gKn 6 Z h2<|gSR<|Zq (faB 1 Z Z Tryz.underlying40 Z (by exact zse))<|Zq (ld 1 Z Z (fP (z3f _)) zs3 Z)<|Zq (U.eql Z Z)<|Zm Z<|z2n 10 Z (fun h3=>?_) (fun h3=>?_)
  ·
   refine lKn 9 Z h3<|z1y Zx Z Z (faB 1 Z Z Tryz.underlying40 Z (by exact ti9))<|z1y Zx Z Z (ld 1 Z Z (fP (z2z _)) ty9 Z)<|z1y Zx Z Z (eqS Z Z)<|Zq (pkT Z Z)<|Zj Z (fun h4=>?_) (fun h4=>?_)
   ·
    refine gKn 13 Z h4<|gSR<|Zb Z<|z0m<|z4c<|z10<|Ze [] [] Z
   ·
    refine gKn 13 Z h4<|z3a<|z3h<|z0n<|gSR<|Zb Z<|z0m<|Ze [] [] Z
  ·
   refine lKn 9 Z h3<|Zk Z<|Zk Z<|Zk Z<|Zq (pkF Z Z)<|Zn<|zf8 Z<|z3a<|z3h<|z0n<|gSR<|Zb Z<|z0m<|Ze [] [] Z
 ·
  refine gKn 6 Z h2<|gSR<|Zq (B.eql Z Z)<|Zb Z<|gIf Z Z (fun h5=>?_) (fun h5=>?_)
  ·
   refine gKn 16 Z h5<|z7m (fun (s6:Bool) aa ww=>Sta (ctx 54 H [] w) [(32,.rd z0f s6)] [] aa ww) ?_ (fun s6=>?_)
   ·
    refine z89 [] mixed Z Z<|hTk 0 Z Z (faB 1 Z Z Tryz.underlying40 Z (by exact ti2))<|hTk 1 Z Z (ld 1 Z Z (fP (z5b _)) ty2 Z)<|hTk 2 Z Z (I.eql Z Z)<|hTk 3 Z Z (mv Z)<|hIf 20 Z Z (fun h7=>?_) (fun h7=>?_)
    ·
     refine hKn 19 Z Z h7<|Zg 4 Z Z (faB 1 Z Z Tryz.underlying40 Z (by exact ti9))<|Zg 5 Z Z (ld 1 Z Z (fP (z2z _)) ty9 Z)<|Zg 6 Z Z (eqS Z Z)<|hTk 7 Z Z (pkT Z Z)<|hTk 8 Z Z (mv Z)<|hIf 25 Z Z (fun h8=>?_) (fun h8=>?_)
     ·
      refine hKn 23 Z Z h8<|hKn 24 Z Z h8<|Zg 9 Z Z (faB 1 Z Z Tryz.underlying40 Z (by exact zse))<|Zg 10 Z Z (ld 1 Z Z (fP (z3f _)) zs3 Z)<|Zg 12 Z Z (faB 1 Z Z Tryz.underlying40 Z (by exact zse))<|Zg 13 Z Z (ld 1 Z Z (fP (z3f _)) zs3 Z)<|z37 11 [] [] Z (by kernel_rfl) Z Zx Z Tryz.func158 Z Z (zfn _) (Y1 Z) rN Z (fun _ _=>z2v) fun r9 n10=>Zg 14 Z Z (U.eql Z Z)<|hTk 15 Z Z (pkT Z Z)<|z3r (by kernel_rfl)<|z3s (fun aa ww h=>Zu h [])
     ·
      refine hKn 23 Z Z h8<|hKn 24 Z Z h8<|hSk 9 Z Z<|hSk 10 Z Z<|hSk 11 Z Z<|hSk 12 Z Z<|hSk 13 Z Z<|hSk 14 Z Z<|hTk 15 Z Z (pkF Z Z)<|z3r (by kernel_rfl)<|z3s (fun aa ww h=>Zu h [])
    ·
     refine hKn 19 Z Z h7<|hSk 4 Z Z<|hSk 5 Z Z<|hSk 6 Z Z<|hTk 7 Z Z (pkF Z Z)<|hTk 8 Z Z (mv Z)<|hSk 9 Z Z<|hSk 10 Z Z<|hSk 11 Z Z<|hSk 12 Z Z<|hSk 13 Z Z<|hSk 14 Z Z<|hTk 15 Z Z (pkF Z Z)<|z3r (by kernel_rfl)<|z3s (fun aa ww h=>Zu h [])
   ·
    refine gIf Z Z (fun h11=>?_) (fun h11=>?_)
    ·
     refine gSR<|Zb Z<|z0m<|z4c<|z10<|Ze [] [] Z
    ·
     refine z3a<|z3h<|z0n<|gSR<|Zb Z<|z0m<|Ze [] [] Z
  ·
   refine gKn 16 Z h5<|gSR<|Zq (B.eql Z Z)<|Zb Z<|gIf Z Z (fun h12=>?_) (fun h12=>?_)
   ·
    refine gKn 34 Z h12<|z7m (fun (s13:Bool) aa ww=>Sta (ctx 54 H [] w) [(53,.rd z0f s13)] [] aa ww) ?_ (fun s13=>?_)
    ·
     refine z2o<|Zq (faB 1 Z Z Tryz.underlying40 Z (by exact ti2))<|Zq (ld 1 Z Z (fP (z5b _)) ty2 Z)<|Zq (I.eql Z Z)<|Zm Z<|z2n 38 Z (fun h14=>?_) (fun h14=>?_)
     ·
      refine lKn 37 Z h14<|z1y Zx Z Z (faB 1 Z Z Tryz.underlying40 Z (by exact zse))<|z1y Zx Z Z (ld 1 Z Z (fP (z3f _)) zs3 Z)<|z1y Zx Z Z (U.eql Z Z)<|Zq (pkT Z Z)<|Zm Z<|z2n 43 Z (fun h15=>?_) (fun h15=>?_)
      ·
       refine lKn 41 Z h15<|lKn 42 Z h15<|z1y Zx Z Z (faB 1 Z Z Tryz.underlying40 Z (by exact ti9))<|z1y Zx Z Z (ld 1 Z Z (fP (z2z _)) ty9 Z)<|z1y Zx Z Z (zvi Z Z tu9)<|z1y Zx Z Z (I.leq Z Z)<|Zq (pkT Z Z)<|Zm Z<|z2n 49 Z (fun h16=>?_) (fun h16=>?_)
       ·
        refine lKn 47 Z h16<|lKn 48 Z h16<|z1y Zx Z Z (faB 1 Z Z Tryz.underlying40 Z (by exact ti9))<|z1y Zx Z Z (ld 1 Z Z (fP (z2z _)) ty9 Z)<|zew [] [] Zx Z Tryz.func159 Z Z (zcm _) (Y1 Z) rN fun r17 n18=>Zq (pkT Z Z)<|z23<|z3s (fun aa ww h=>Zu h [])
       ·
        refine lKn 47 Z h16<|lKn 48 Z h16<|Zk Z<|Zk Z<|Zk Z<|Zq (pkF Z Z)<|z23<|z3s (fun aa ww h=>Zu h [])
      ·
       refine lKn 41 Z h15<|lKn 42 Z h15<|Zk Z<|Zk Z<|Zk Z<|Zk Z<|Zq (pkF Z Z)<|Zm Z<|Zk Z<|Zk Z<|Zk Z<|Zq (pkF Z Z)<|z23<|z3s (fun aa ww h=>Zu h [])
     ·
      refine lKn 37 Z h14<|Zk Z<|Zk Z<|Zk Z<|Zq (pkF Z Z)<|Zm Z<|Zk Z<|Zk Z<|Zk Z<|Zk Z<|Zq (pkF Z Z)<|Zm Z<|Zk Z<|Zk Z<|Zk Z<|Zq (pkF Z Z)<|z23<|z3s (fun aa ww h=>Zu h [])
    ·
     refine gIf Z Z (fun h19=>?_) (fun h19=>?_)
     ·
      refine gSR<|Zb Z<|z0m<|z4c<|z10<|Ze [] [] Z
     ·
      refine z3a<|z3h<|z0n<|gSR<|Zb Z<|z0m<|Ze [] [] Z
   ·
    refine gKn 34 Z h12<|z3a<|z3h<|z0n<|gSR<|Zb Z<|z0m<|Ze [] [] Z
def z6v (a0:z0k):Option (Int) :=
 some (decide (a0.Value=(⟨0,0,0,[]⟩:z04))) >>= fun y2 =>
 if a0.Kind==1 then
  if a0.Key==[] then
   if y2 then
    some 0
   else
    some 8
  else
   some 8
 else
  (if a0.Kind==2 then
   some true
  else
   some (a0.Kind==3)) >>= fun s6 =>
  if s6 then
   z7g a0.Key >>= fun r9 =>
   if r9 then
    if y2 then
     some 0
    else
     some 8
   else
    some 8
  else
   if a0.Kind==4 then
    z7g a0.Key >>= fun r14 =>
    if r14 then
     z8r a0.Value >>= fun r17 =>
     if r17==0 then
      some 0
     else
      some 8
    else
     some 8
   else
    some 8
theorem zdi (a0:z0k):z1u Tryz.prog 91 [.rd z0g a0] [] (z6v a0) (fun r nv=>⟨[.rd z07 r],[]⟩):=by
 refine z2m 38 Tryz.func91 Z Z Z fun H w=>?_
 refine gSR<|Eb Z (bx 1 Z) fun v1=>Zb Z<|gSR<|Zq (faB 1 Z Z Tryz.underlying42 Z (by exact zh6))<|Zq (ld 1 Z Z (fP (z47 _)) zpb Z)<|Zq (bld (x':=(⟨0,0,0,[]⟩:z04)) [(0,1),(1,1),(2,1),(3,1)] Tryz.underlying40 zh6 Z zs2 Z (Bld.done Z))<|Zq (eqA Z Z eq40 Z Z gq40)<|Za Z<|z1z 3 Z fun y2=>Zn<|z0w<|gSR<|Zq (faB 1 Z Z Tryz.underlying42 Z (by exact ti5))<|Zq (ld 1 Z Z (fP (z34 _)) ty5 Z)<|Zn<|z58<|gSR<|Zq (B.eql Z Z)<|Zb Z<|gIf Z Z (fun h3=>?_) (fun h3=>?_)
 ·
  refine gKn 11 Z h3<|gSR<|Zq (faB 1 Z Z Tryz.underlying42 Z (by exact ti9))<|Zq (ld 1 Z Z (fP (z4j _)) ty9 Z)<|Zq (eqS Z Z)<|Zm Z<|z2n 15 Z (fun h4=>?_) (fun h4=>?_)
  ·
   refine lKn 14 Z h4<|z1y Zx Z Z (mv Z)<|Zq (pkT Z Z)<|Zj Z (fun h5=>?_) (fun h5=>?_)
   ·
    refine gKn 3 Z h5<|gKn 16 Z h5<|gSR<|Zb Z<|z0m<|z4c<|z10<|Ze [] [] Z
   ·
    refine gKn 3 Z h5<|gKn 16 Z h5<|z3a<|z3h<|z0n<|gSR<|Zb Z<|z0m<|Ze [] [] Z
  ·
   refine lKn 14 Z h4<|Zk Z<|Zq (pkF Z Z)<|Zn<|zf8 Z<|z3a<|z3h<|z0n<|gSR<|Zb Z<|z0m<|Ze [] [] Z
 ·
  refine gKn 11 Z h3<|z7m (fun (s6:Bool) aa ww=>Sta (ctx 38 H [] w) [(1,.val (z05 v1 0)),(3,.rd z0f y2),(9,.rd u8R a0.Kind),(18,.rd z0f s6)] [(1,some (v1,.box 42 [.rd z0g a0]))] aa ww) ?_ (fun s6=>?_)
  ·
   refine gSR<|Zq (B.eql Z Z)<|Zb Z<|gIf Z Z (fun h7=>?_) (fun h7=>?_)
   ·
    refine gKn 19 Z h7<|z3a<|z3s (fun aa ww h=>Zu h [1])
   ·
    refine gKn 19 Z h7<|z2o<|Zq (B.eql Z Z)<|Za Z<|z23<|z3s (fun aa ww h=>Zu h [1])
  ·
   refine gIf Z Z (fun h8=>?_) (fun h8=>?_)
   ·
    refine gSR<|Zq (faB 1 Z Z Tryz.underlying42 Z (by exact ti9))<|Zq (ld 1 Z Z (fP (z4j _)) ty9 Z)<|Zc [] [] Tryz.func131 Z (zbg _) fun r9 n10=>Zm Z<|z2n 24 Z (fun h11=>?_) (fun h11=>?_)
    ·
     refine lKn 23 Z h11<|z1y Zx Z Z (mv Z)<|Zq (pkT Z Z)<|Zj Z (fun h12=>?_) (fun h12=>?_)
     ·
      refine gKn 3 Z h12<|gKn 25 Z h12<|gSR<|Zb Z<|z0m<|z4c<|z10<|Ze [] [] Z
     ·
      refine gKn 3 Z h12<|gKn 25 Z h12<|z3a<|z3h<|z0n<|gSR<|Zb Z<|z0m<|Ze [] [] Z
    ·
     refine lKn 23 Z h11<|Zk Z<|Zq (pkF Z Z)<|Zn<|zf8 Z<|z3a<|z3h<|z0n<|gSR<|Zb Z<|z0m<|Ze [] [] Z
   ·
    refine gSR<|Zq (B.eql Z Z)<|Zb Z<|gIf Z Z (fun h13=>?_) (fun h13=>?_)
    ·
     refine gKn 28 Z h13<|gSR<|Zq (faB 1 Z Z Tryz.underlying42 Z (by exact ti9))<|Zq (ld 1 Z Z (fP (z4j _)) ty9 Z)<|Zc [] [] Tryz.func131 Z (zbg _) fun r14 n15=>Zm Z<|z2n 32 Z (fun h16=>?_) (fun h16=>?_)
     ·
      refine lKn 31 Z h16<|z1y Zx Z Z (faB 1 Z Z Tryz.underlying42 Z (by exact zh6))<|z1y Zx Z Z (ld 1 Z Z (fP (z47 _)) zpb Z)<|zew [] [] Zx Z Tryz.func132 Z Z (zfw _) (Y1 Z) rN fun r17 n18=>z1y Zx Z Z (I.eql Z Z)<|Zq (pkT Z Z)<|Zj Z (fun h19=>?_) (fun h19=>?_)
      ·
       refine gKn 36 Z h19<|gSR<|Zb Z<|z0m<|z4c<|z10<|Ze [] [] Z
      ·
       refine gKn 36 Z h19<|z3a<|z3h<|z0n<|gSR<|Zb Z<|z0m<|Ze [] [] Z
     ·
      refine lKn 31 Z h16<|Zk Z<|Zk Z<|Zk Z<|Zk Z<|Zq (pkF Z Z)<|Zn<|zf8 Z<|z3a<|z3h<|z0n<|gSR<|Zb Z<|z0m<|Ze [] [] Z
    ·
     refine gKn 28 Z h13<|z3a<|z3h<|z0n<|gSR<|Zb Z<|z0m<|Ze [] [] Z
def z3b (a0:UInt32):Option (Bool) :=
 some (decide (a0.toUInt64<500000003)) >>= fun y1 =>
 some y1
theorem z4u (a0:UInt32):z1u Tryz.prog 92 [.rd z0i a0] [] (z3b a0) (fun r nv=>⟨[.rd z0f r],[]⟩):=by
 refine z2m 6 Tryz.func92 Z Z Z fun H w=>?_
 refine gSR<|Zb Z<|gSR<|Zm Z<|Zq (W.toU Z tu37 tu38)<|Zq (U.lss Z Z)<|Za Z<|z1z 2 Z fun y1=>Zn<|z0m<|Ze [] [] Z
def z71 (a0:z06):Option (Int) :=
 if decide (4<(a0.Preds.length:Int)) then
  some 4
 else
  z65 a0.Preds >>= fun r3 =>
  if !r3 then
   some 32
  else
   (z9m a0.Author >>= fun r7 =>
   if !r7 then
    some true
   else
    if decide (1000000000000<a0.Stamp) then
     some true
    else
     z6v a0.Act >>= fun r11 =>
     if r11 != 0 then
      some true
     else
      z3b a0.Sig.E >>= fun r14 =>
      if !r14 then
       some true
      else
       z3b a0.Sig.S >>= fun r17 =>
       some (!r17)) >>= fun s6 =>
   if s6 then
    some 8
   else
    some 0
theorem zb2 (a0:z06):z1u Tryz.prog 65 [.rd z03 a0] [] (z71 a0) (fun r nv=>⟨[.rd z07 r],[]⟩):=by
 refine z2m 40 Tryz.func65 Z Z Z fun H w=>?_
 refine gSR<|Eb Z (bx 1 Z) fun v1=>Zb Z<|z0w<|gSR<|Zq (faB 1 Z Z Tryz.underlying46 Z (by exact z8p))<|Zq (ld 1 Z Z (fP (z0x _)) z9o Z)<|Zq (z3q Z .rd Z tu22)<|Zq (I.gtr Z Z)<|Zj Z (fun h2=>?_) (fun h2=>?_)
 ·
  refine gSR<|Zb Z<|z0m<|z10<|Ze [] [] Z
 ·
  refine Zt<|z0w<|gSR<|Zq (faB 1 Z Z Tryz.underlying46 Z (by exact z8p))<|Zq (ld 1 Z Z (fP (z0x _)) z9o Z)<|Zc [] [] Tryz.func18 Z (zah _) fun r3 n4=>Zq (zd9 Z)<|Zj Z (fun h5=>?_) (fun h5=>?_)
  ·
   refine gSR<|Zb Z<|z0m<|z10<|Ze [] [] Z
  ·
   refine Zt<|z0w<|z7m (fun (s6:Bool) aa ww=>Sta (ctx 40 H [] w) [(39,.rd z0f s6)] [] aa ww) ?_ (fun s6=>?_)
   ·
    refine z2o<|Zq (faB 1 Z Z Tryz.underlying46 Z (by exact z4z))<|Zq (ld 1 Z Z (fP (z41 _)) z86 Z)<|Zc [] [] Tryz.func90 Z (zdc _) fun r7 n8=>Zq (zd9 Z)<|Zm Z<|z2n 15 Z (fun h9=>?_) (fun h9=>?_)
    ·
     refine lKn 14 Z h9<|Zk Z<|Zk Z<|Zk Z<|Zq (pkT Z Z)<|Zm Z<|Zk Z<|Zk Z<|Zk Z<|Zk Z<|Zq (pkT Z Z)<|Zm Z<|Zk Z<|Zk Z<|Zk Z<|Zk Z<|Zk Z<|Zq (pkT Z Z)<|Zm Z<|Zk Z<|Zk Z<|Zk Z<|Zk Z<|Zk Z<|Zq (pkT Z Z)<|z23<|z3s (fun aa ww h=>Zu h [])
    ·
     refine lKn 14 Z h9<|z1y Zx Z Z (faB 1 Z Z Tryz.underlying46 Z (by exact zse))<|z1y Zx Z Z (ld 1 Z Z (fP (z9g _)) zs3 Z)<|z1y Zx Z Z (U.gtr Z Z)<|Zq (pkF Z Z)<|Zm Z<|z2n 20 Z (fun h10=>?_) (fun h10=>?_)
     ·
      refine lKn 18 Z h10<|lKn 19 Z h10<|Zk Z<|Zk Z<|Zk Z<|Zk Z<|Zq (pkT Z Z)<|Zm Z<|Zk Z<|Zk Z<|Zk Z<|Zk Z<|Zk Z<|Zq (pkT Z Z)<|Zm Z<|Zk Z<|Zk Z<|Zk Z<|Zk Z<|Zk Z<|Zq (pkT Z Z)<|z23<|z3s (fun aa ww h=>Zu h [])
     ·
      refine lKn 18 Z h10<|lKn 19 Z h10<|z1y Zx Z Z (faB 1 Z Z Tryz.underlying46 Z (by exact zn5))<|z1y Zx Z Z (ld 1 Z Z (fP (z2d _)) ty42 Z)<|zew [] [] Zx Z Tryz.func91 Z Z (zdi _) (Y1 Z) rN fun r11 n12=>z1y Zx Z Z (I.neq Z Z)<|Zq (pkF Z Z)<|Zm Z<|z2n 26 Z (fun h13=>?_) (fun h13=>?_)
      ·
       refine lKn 24 Z h13<|lKn 25 Z h13<|Zk Z<|Zk Z<|Zk Z<|Zk Z<|Zk Z<|Zq (pkT Z Z)<|Zm Z<|Zk Z<|Zk Z<|Zk Z<|Zk Z<|Zk Z<|Zq (pkT Z Z)<|z23<|z3s (fun aa ww h=>Zu h [])
      ·
       refine lKn 24 Z h13<|lKn 25 Z h13<|z1y Zx Z Z (faB 1 Z Z Tryz.underlying46 Z (by exact zjy))<|z1y Zx Z Z (faB 1 Z Z Tryz.underlying44 Z (by exact z4z))<|z1y Zx Z Z (ld 1 Z Z ((fP (z35 _)).part (z3w _)) z86 Z)<|zew [] [] Zx Z Tryz.func92 Z Z (z4u _) (Y1 Z) rN fun r14 n15=>z1y Zx Z Z (zd9 Z)<|Zq (pkF Z Z)<|Zm Z<|z2n 33 Z (fun h16=>?_) (fun h16=>?_)
       ·
        refine lKn 31 Z h16<|lKn 32 Z h16<|Zk Z<|Zk Z<|Zk Z<|Zk Z<|Zk Z<|Zq (pkT Z Z)<|z23<|z3s (fun aa ww h=>Zu h [])
       ·
        refine lKn 31 Z h16<|lKn 32 Z h16<|z1y Zx Z Z (faB 1 Z Z Tryz.underlying46 Z (by exact zjy))<|z1y Zx Z Z (faB 1 Z Z Tryz.underlying44 Z (by exact z4z))<|z1y Zx Z Z (ld 1 Z Z ((fP (z35 _)).part (z5c _)) z86 Z)<|zew [] [] Zx Z Tryz.func92 Z Z (z4u _) (Y1 Z) rN fun r17 n18=>z1y Zx Z Z (zd9 Z)<|Zq (pkF Z Z)<|z23<|z3s (fun aa ww h=>Zu h [])
   ·
    refine gIf Z Z (fun h19=>?_) (fun h19=>?_)
    ·
     refine gSR<|Zb Z<|z0m<|z10<|Ze [] [] Z
    ·
     refine Zt<|gSR<|Zb Z<|z0m<|Ze [] [] Z
def z4l (a0:UInt32) (a1:UInt64):Option (UInt32) :=
 z6x a0.toUInt64 a1 1000000007 >>= fun r1 =>
 some r1.toUInt32
theorem z84 (a0:UInt32) (a1:UInt64):z1u Tryz.prog 134 [.rd z0i a0,.rd z2e a1] [] (z4l a0 a1) (fun r nv=>⟨[.rd z0i r],[]⟩):=by
 refine z2m 10 Tryz.func134 Z Z Z fun H w=>?_
 refine gSR<|Zb Z<|gSR<|Zm Z<|Zq (W.toU Z tu37 tu38)<|Zm Z<|Zc [] [] Tryz.func130 Z (zba _ _ _) fun r1 n2=>Zq (U.toW Z tu38 tu37)<|Zb Z<|z0m<|Ze [] [] Z
def zc5 (a0:UInt32):Option (UInt32 × Int) :=
 z9m a0 >>= fun r1 =>
 if !r1 then
  some (0,2)
 else
  z4l a0 500000002 >>= fun r4 =>
  some (r4,0)
theorem zhi (a0:UInt32):z1u Tryz.prog 133 [.rd z0i a0] [] (zc5 a0) (fun r nv=>⟨[.rd z0i r.1,.rd z07 r.2],[]⟩):=by
 refine z2m 9 Tryz.func133 Z Z Z fun H w=>?_
 refine gSR<|Za Z<|Zb Z<|z0w<|gSR<|Zm Z<|Zc [] [] Tryz.func90 Z (zdc _) fun r1 n2=>Zq (zd9 Z)<|Zj Z (fun h3=>?_) (fun h3=>?_)
 ·
  refine gSR<|Za Z<|Zb Z<|z0m<|z10<|Ze [] [] Z
 ·
  refine Zt<|gSR<|Zm Z<|Zc [] [] Tryz.func134 Z (z84 _ _) fun r4 n5=>Za Z<|Zb Z<|z0m<|Ze [] [] Z
def zav (a0:UInt64):Option (UInt32) :=
 z4l 4 a0 >>= fun r1 =>
 some r1
theorem zg9 (a0:UInt64):z1u Tryz.prog 162 [.rd z2e a0] [] (zav a0) (fun r nv=>⟨[.rd z0i r],[]⟩):=by
 refine z2m 5 Tryz.func162 Z Z Z fun H w=>?_
 refine gSR<|Zb Z<|gSR<|Zm Z<|Zc [] [] Tryz.func134 Z (z84 _ _) fun r1 n2=>Zb Z<|z0m<|Ze [] [] Z
def zbz (a0:UInt32):Option (UInt32) :=
 zav a0.toUInt64 >>= fun r1 =>
 some r1
theorem zh8 (a0:UInt32):z1u Tryz.prog 137 [.rd z0i a0] [] (zbz a0) (fun r nv=>⟨[.rd z0i r],[]⟩):=by
 refine z2m 6 Tryz.func137 Z Z Z fun H w=>?_
 refine gSR<|Zb Z<|gSR<|Zm Z<|Zq (W.toU Z tu37 tu38)<|Zc [] [] Tryz.func162 Z (zg9 _) fun r1 n2=>Zb Z<|z0m<|Ze [] [] Z
def z9l (a0:UInt32) (a1:UInt32):Option (UInt32) :=
 some (((a0.toUInt64 * a1.toUInt64) % 1000000007).toUInt32) >>= fun y1 =>
 some y1
theorem zea (a0:UInt32) (a1:UInt32):z1u Tryz.prog 136 [.rd z0i a0,.rd z0i a1] [] (z9l a0 a1) (fun r nv=>⟨[.rd z0i r],[]⟩):=by
 refine z2m 12 Tryz.func136 Z Z Z fun H w=>?_
 refine gSR<|Zb Z<|gSR<|Zm Z<|Zq (W.toU Z tu37 tu38)<|Zm Z<|Zq (W.toU Z tu37 tu38)<|Zq (U.mul Z Z)<|Zq (U.rem Z Z (by decide))<|Zq (U.toW Z tu38 tu37)<|Za Z<|z1z 4 Z fun y1=>Zn<|z0m<|Ze [] [] Z
def z7l (a0:UInt32):Option ((List UInt8)) :=
 some [(a0 / 16777216).toUInt8,((a0 / 65536) % 256).toUInt8,((a0 / 256) % 256).toUInt8,(a0 % 256).toUInt8]
theorem zbh (a0:UInt32):z1u Tryz.prog 160 [.rd z0i a0] [] (z7l a0) (fun r nv=>⟨[.val (nv 0)],[(100,some (nv 0,.list u8R 5 r))]⟩):=by
 refine z2m 18 Tryz.func160 Z Z Z fun H w=>?_
 refine gSR<|Zb Z<|gSR<|Zm Z<|Zq (W.quo Z Z (by decide))<|Zq (W.toB Z tu37 tu5)<|Zm Z<|Zq (W.quo Z Z (by decide))<|Zq (W.rem Z Z (by decide))<|Zq (W.toB Z tu37 tu5)<|Zm Z<|Zq (W.quo Z Z (by decide))<|Zq (W.rem Z Z (by decide))<|Zq (W.toB Z tu37 tu5)<|Zm Z<|Zq (W.rem Z Z (by decide))<|Zq (W.toB Z tu37 tu5)<|Ef Z (lit (R:=u8R) ([(a0 / 16777216).toUInt8,((a0 / 65536) % 256).toUInt8,((a0 / 256) % 256).toUInt8,(a0 % 256).toUInt8]:List UInt8) 1 (pP Z Z<|pP Z Z<|pP Z Z<|pP Z Z<|pN) Z tu89 ti5 Z Z) fun v1=>Zb Z<|z0m<|Ze [v1] [1] Z
def z4e (r1:V3) (s5:UInt64 × Int):Option (Sum UInt64 (UInt64 × Int)) :=
 if decide (s5.2<8) then
  z6n r1 s5.2 >>= fun x7 =>
  some ((256 * s5.1)+x7.toUInt64) >>= fun y9 =>
  some (w64 (s5.2+1)) >>= fun y10 =>
  some (.inr (y9,y10))
 else
  some (.inl s5.1)
def z7w (a0:List UInt8):Option (UInt64) :=
 z9e a0 >>= fun r1 =>
 (iter (z4e r1) (0,0)) >>= fun s4 =>
 some s4
theorem zev (a0:List UInt8):z1u Tryz.prog 161 [.rd (z02 u8R) a0] [] (z7w a0) (fun r nv=>⟨[.rd z2e r],[]⟩):=by
 refine z2m 20 Tryz.func161 Z Z Z fun H w=>?_
 refine gSR<|Zb Z<|gSR<|Zm Z<|Zc [] [] Tryz.func67 Z (zde _) fun r1 n2=>Eb Z (z7q 1 z36 (.zr (R:=aZ) (x:=(Vector.replicate 32 0)) zhl)) fun v3=>Es (sto 1 Z Z fH Z z36)<|Zn<|gSR<|Zb Z<|z7m (fun (s4:UInt64) aa ww=>Sta (ctx 20 H [] w) [(4,.rd z2e s4)] [] aa ww) ?_ (fun s4=>?_)
 ·
  refine gSR<|Zb Z<|z2b (fun (s5:UInt64 × Int) aa ww=>Sta (ctx 20 H [] w) [(3,.val (z05 v3 0)),(4,.rd z2e s5.1),(5,.rd z07 s5.2)] [(1,some (v3,.box 36 [.rd aZ r1]))] aa ww) (fun aa ww h=>Zu h [1]) (fun s5=>?_)
  refine z0w<|gSR<|Zm Z<|Zq (I.lss Z Z)<|Zj Z (fun h6=>?_) (fun h6=>?_)
  ·
   refine Zt<|z0w<|z58<|z2o<|Zm Z<|Zq (U.mul Z Z)<|Zm Z<|z0u fun x7 h8=>Zq (ixB 1 Z Z Z h8 tu36 ti5)<|Zq (ld 1 Z Z (fP (.el h8)) ty5 Z)<|Zq (B.toU Z tu5 tu38)<|Zq (U.add Z Z)<|Za Z<|z1z 4 Z fun y9=>z23<|z3h<|z0n<|z2o<|Zm Z<|Zq (I.add Z Z)<|Za Z<|z1z 5 Z fun y10=>z23<|z1l (fun aa ww h=>Zu h [1])
  ·
   refine z24<|z14<|z13<|z3s (fun aa ww h=>Zu h [])
 ·
  refine gSR<|Zm Z<|Zb Z<|z0m<|Ze [] [] Z
def z61 (a0:UInt32) (a1:UInt32) (a2:List UInt8):Option (UInt32) :=
 z7l a0 >>= fun r2 =>
 app 1 [99] r2 >>= fun x4 =>
 z7l a1 >>= fun r7 =>
 app 1 x4 r7 >>= fun x9 =>
 app 1 x9 a2 >>= fun x12 =>
 z7w x12 >>= fun r15 =>
 some ((r15 % 500000003).toUInt32) >>= fun y17 =>
 some y17
theorem zd4 (a0:UInt32) (a1:UInt32) (a2:List UInt8):z1u Tryz.prog 135 [.rd z0i a0,.rd z0i a1,.rd (z02 u8R) a2] [] (z61 a0 a1 a2) (fun r nv=>⟨[.rd z0i r],[]⟩):=by
 refine z2m 21 Tryz.func135 Z Z Z fun H w=>?_
 refine gSR<|Zb Z<|gSR<|Ef Z (lit (R:=u8R) ([99]:List UInt8) 1 (pP Z Z<|pN) Z tu89 ti5 Z Z) fun v1=>Zm Z<|Zc [] [(100,2)] Tryz.func160 Z (zbh _) fun r2 n3=>z0u fun x4 h5=>Ef Z (apn 1 Z Z Z (.own 2 Z) h5 tu89 ti5 Z Z Z) fun v6=>Zm Z<|Zc [] [(100,3)] Tryz.func160 Z (zbh _) fun r7 n8=>z0u fun x9 h10=>Ef Z (apn 1 Z Z Z (.own 3 Z) h10 tu89 ti5 Z Z Z) fun v11=>Zb Z<|gSR<|Zm Z<|Zm Z<|z0u fun x12 h13=>Ef Z (apn 1 Z Z Z .rd h13 tu89 ti5 Z Z Z) fun v14=>zhq 1 [17] Z (fS Z<|fN)<|Zc [] [] Tryz.func161 Z (zev _) fun r15 n16=>Zq (U.rem Z Z (by decide))<|Zq (U.toW Z tu38 tu37)<|Za Z<|z1z 6 Z fun y17=>Zn<|z0m<|Ze [] [] Z
def z8q (a0:UInt32) (a1:List UInt8) (a2:z09):Option (Bool) :=
 z3b a2.E >>= fun r2 =>
 if !r2 then
  some false
 else
  z3b a2.S >>= fun r5 =>
  if !r5 then
   some false
  else
   z4l a0 a2.E.toUInt64 >>= fun r8 =>
   zc5 r8 >>= fun r10 =>
   zbz a2.S >>= fun r12 =>
   z9l r12 r10.1 >>= fun r14 =>
   z61 r14 a0 a1 >>= fun r16 =>
   some (r16==a2.E)
theorem zfm (a0:UInt32) (a1:List UInt8) (a2:z09):z1u Tryz.prog 93 [.rd z0i a0,.rd (z02 u8R) a1,.rd z0l a2] [] (z8q a0 a1 a2) (fun r nv=>⟨[.rd z0f r],[]⟩):=by
 refine z2m 39 Tryz.func93 Z Z Z fun H w=>?_
 refine gSR<|Eb Z (bx 1 Z) fun v1=>Zb Z<|z0w<|gSR<|Zq (faB 1 Z Z Tryz.underlying44 Z (by exact z4z))<|Zq (ld 1 Z Z (fP (z3w _)) z86 Z)<|Zc [] [] Tryz.func92 Z (z4u _) fun r2 n3=>Zq (zd9 Z)<|Zm Z<|z2n 13 Z (fun h4=>?_) (fun h4=>?_)
 ·
  refine lKn 12 Z h4<|Zk Z<|Zk Z<|Zk Z<|Zk Z<|Zq (pkT Z Z)<|Zn<|zh1 Z<|gSR<|Zb Z<|z0m<|z10<|Ze [] [] Z
 ·
  refine lKn 12 Z h4<|z1y Zx Z Z (faB 1 Z Z Tryz.underlying44 Z (by exact z4z))<|z1y Zx Z Z (ld 1 Z Z (fP (z5c _)) z86 Z)<|zew [] [] Zx Z Tryz.func92 Z Z (z4u _) (Y1 Z) rN fun r5 n6=>z1y Zx Z Z (zd9 Z)<|Zq (pkF Z Z)<|Zj Z (fun h7=>?_) (fun h7=>?_)
  ·
   refine gKn 17 Z h7<|gSR<|Zb Z<|z0m<|z10<|Ze [] [] Z
  ·
   refine gKn 17 Z h7<|Zt<|gSR<|Zm Z<|Zq (faB 1 Z Z Tryz.underlying44 Z (by exact z4z))<|Zq (ld 1 Z Z (fP (z3w _)) z86 Z)<|Zq (W.toU Z tu37 tu38)<|Zc [] [] Tryz.func134 Z (z84 _ _) fun r8 n9=>Zc [] [] Tryz.func133 Z (zhi _) fun r10 n11=>Zm Z<|Zq (ext Z Z)<|Zq (ext Z Z)<|Za Z<|Zb Z<|z0w<|z89 [] mixed Z Z<|hTk 0 Z Z (faB 1 Z Z Tryz.underlying44 Z (by exact z4z))<|hTk 1 Z Z (ld 1 Z Z (fP (z5c _)) z86 Z)<|hTk 3 Z Z (mv Z)<|hTk 5 Z Z (mv Z)<|hTk 6 Z Z (mv Z)<|hTk 8 Z Z (faB 1 Z Z Tryz.underlying44 Z (by exact z4z))<|hTk 9 Z Z (ld 1 Z Z (fP (z3w _)) z86 Z)<|z37 2 [] [] Z (by kernel_rfl) Z (gd0 Z) Z Tryz.func137 Z Z (zh8 _) (Y1 Z) rN Z (fun _ _=>z2v) fun r12 n13=>z37 4 [] [] Z (by kernel_rfl) Z (gd0 Z) Z Tryz.func136 Z Z (zea _ _) (Y2 Z Z) rN Z (fun _ _=>z2v) fun r14 n15=>z37 7 [] [] Z (by kernel_rfl) Z (gd0 Z) Z Tryz.func135 Z Z (zd4 _ _ _) (aQ Z<|aQ Z<|aQ Z<|aN) rN Z (fun _ _=>z2v) fun r16 n17=>hTk 10 Z Z (W.eql Z Z)<|hTk 11 Z Z (asg Z)<|z3r (by kernel_rfl)<|z0n<|z0m<|Ze [] [] Z
def z9r (a0:z06):Option (Bool) :=
 z7i a0 >>= fun r2 =>
 z8q a0.Author r2 a0.Sig >>= fun r4 =>
 some r4
theorem zey (a0:z06):z1u Tryz.prog 66 [.rd z03 a0] [] (z9r a0) (fun r nv=>⟨[.rd z0f r],[]⟩):=by
 refine z2m 10 Tryz.func66 Z Z Z fun H w=>?_
 refine gSR<|Eb Z (bx 1 Z) fun v1=>Zb Z<|z0w<|z89 [11] mixed Z Z<|hTk 0 Z Z (faB 1 Z Z Tryz.underlying46 Z (by exact z4z))<|hTk 1 Z Z (ld 1 Z Z (fP (z41 _)) z86 Z)<|hTk 2 Z Z (ld 1 Z Z fH z9q Z)<|hTk 4 Z Z (faB 1 Z Z Tryz.underlying46 Z (by exact zjy))<|hTk 5 Z Z (ld 1 Z Z (fP (z35 _)) ty44 Z)<|z37 3 [] [(100,11)] Z (by kernel_rfl) Z (gd0 Z) Z Tryz.func94 Z Z (zbs _) (Y1 Z) rN Z (fun _ _=>z2s) fun r2 n3=>zsw 11 [6] Z (fS Z<|fN)<|z37 6 [] [] Z (by kernel_rfl) Z (gd0 Z) Z Tryz.func93 Z Z (zfm _ _ _) (aQ Z<|aQ Z<|aQ Z<|aN) rN Z (fun _ _=>za8) fun r4 n5=>hTk 7 Z Z (asg Z)<|z3r (by kernel_rfl)<|z0n<|z0m<|Ze [] [] Z
def z7y (a0:z06):Option (Int) :=
 z71 a0 >>= fun r2 =>
 if r2 != 0 then
  z71 a0 >>= fun r5 =>
  some r5
 else
  z9r a0 >>= fun r7 =>
  if !r7 then
   some 22
  else
   some 0
theorem zf2 (a0:z06):z1u Tryz.prog 44 [.rd z03 a0] [] (z7y a0) (fun r nv=>⟨[.rd z07 r],[]⟩):=by
 refine z2m 11 Tryz.func44 Z Z Z fun H w=>?_
 refine gSR<|Eb Z (bx 1 Z) fun v1=>Zb Z<|z0w<|gSR<|Zq (ld 1 Z Z fH z9q Z)<|Zc [] [] Tryz.func65 Z (zb2 _) fun r2 n3=>Zq (I.neq Z Z)<|Zj Z (fun h4=>?_) (fun h4=>?_)
 ·
  refine gSR<|Zq (ld 1 Z Z fH z9q Z)<|Zc [] [] Tryz.func65 Z (zb2 _) fun r5 n6=>Zb Z<|z0m<|z10<|Ze [] [] Z
 ·
  refine Zt<|z0w<|gSR<|Zq (ld 1 Z Z fH z9q Z)<|Zc [] [] Tryz.func66 Z (zey _) fun r7 n8=>Zq (zd9 Z)<|Zj Z (fun h9=>?_) (fun h9=>?_)
  ·
   refine gSR<|Zb Z<|z0m<|z10<|Ze [] [] Z
  ·
   refine Zt<|gSR<|Zb Z<|z0m<|Ze [] [] Z
end
section
open Go Go.RowKit
set_option maxRecDepth 100000
def z0e (a0:List V3) (a1:V3) (s4:Int × Int):Option (Sum Int (Int × Int)) :=
 if decide (s4.1<s4.2) then
  some (w64 ((z6k (UInt64.ofInt (w64 (s4.1+s4.2))) 1).toNat:Int)) >>= fun y6 =>
  idx a0 y6 >>= fun x7 =>
  z7s x7 a1 >>= fun r9 =>
  if decide (r9<0) then
   some (.inr (w64 (y6+1),s4.2))
  else
   some (.inr (s4.1,y6))
 else
  some (.inl s4.1)
def z0c (a0:List V3) (a1:V3):Option (Int × Bool) :=
 some (a0.length:Int) >>= fun y2 =>
 (iter (z0e a0 a1) (0,y2)) >>= fun s3 =>
 if decide (s3<y2) then
  idx a0 s3 >>= fun x13 =>
  z7s x13 a1 >>= fun r15 =>
  some (s3,r15==0)
 else
  some (s3,false)
theorem z28 (a0:List V3) (a1:V3):z1u Tryz.prog 64 [.rd (z02 aZ) a0,.rd aZ a1,.val (.func (.func 51) #[] #[])] [] (z0c a0 a1) (fun r nv=>⟨[.rd z07 r.1,.rd z0f r.2],[]⟩):=by
 refine z2m 49 Tryz.func64 Z Z Z fun H w=>?_
 refine gSR<|Eb Z (bx 1 Z) fun v1=>Za Z<|Zb Z<|gSR<|Zm Z<|Zq (z3q Z .rd Z tu22)<|Za Z<|z1z 8 Z fun y2=>Zn<|gSR<|Zm Z<|Za Z<|Zb Z<|z7m (fun (s3:Int) aa ww=>Sta (ctx 49 H [] w) [(0,.rd (z02 aZ) a0),(2,.val (.func (.func 51) #[] #[])),(4,.val (z05 v1 0)),(8,.rd z07 y2),(9,.rd z07 s3)] [(1,some (v1,.box 36 [.rd aZ a1]))] aa ww) ?_ (fun s3=>?_)
 ·
  refine z2b (fun (s4:Int × Int) aa ww=>Sta (ctx 49 H [] w) [(0,.rd (z02 aZ) a0),(2,.val (.func (.func 51) #[] #[])),(4,.val (z05 v1 0)),(8,.rd z07 y2),(9,.rd z07 s4.1),(10,.rd z07 s4.2)] [(1,some (v1,.box 36 [.rd aZ a1]))] aa ww) (fun aa ww h=>Zu h [1]) (fun s4=>?_)
  refine z0w<|gSR<|Zm Z<|Zm Z<|Zq (I.lss Z Z)<|Zj Z (fun h5=>?_) (fun h5=>?_)
  ·
   refine Zt<|z58<|gSR<|Zm Z<|Zm Z<|Zq (I.add Z Z)<|Zq (I.toU Z tu3 Tryz.underlying109)<|Zq (U.shr Z Z (Int.natCast_nonneg _))<|Zq (U.toI Z Tryz.underlying109 tu3)<|Za Z<|z1z 11 Z fun y6=>Zn<|z0w<|z89 [] mixed Z Z<|hTk 0 Z Z (mv Z)<|hTk 1 Z Z (mv Z)<|hTk 2 Z Z (mv Z)<|z51 fun x7 h8=>hTk 3 Z Z (ixR Z Z h8 tu22 z36 Z)<|hTk 4 Z Z (ldR Z z56)<|hTk 5 Z Z (ld 1 Z Z fH z56 Z)<|zp1 6 [] [] Z (by kernel_rfl) Z (gd0 Z) Z Tryz.func51 Z Z Z (z9b _ _) (Y2 Z Z) (cN) Z rN Z (fun _ _=>z2v) fun r9 n10=>hTk 7 Z Z (I.lss Z Z)<|z3r (by kernel_rfl)<|z0n<|gIf Z Z (fun h11=>?_) (fun h11=>?_)
   ·
    refine z2o<|Zm Z<|Zq (I.add Z Z)<|Za Z<|z23<|z3h<|z1l (fun aa ww h=>Zu h [1])
   ·
    refine z2o<|Zm Z<|Za Z<|z23<|z3h<|z1l (fun aa ww h=>Zu h [1])
  ·
   refine z24<|z14<|z13<|z3s (fun aa ww h=>Zu h [1])
 ·
  refine z0w<|z89 [] mixed Z Z<|hTk 0 Z Z (mv Z)<|hTk 1 Z Z (mv Z)<|hTk 2 Z Z (mv Z)<|hTk 3 Z Z (I.lss Z Z)<|hTk 4 Z Z (mv Z)<|hIf 39 Z Z (fun h12=>?_) (fun h12=>?_)
  ·
   refine hKn 38 Z Z h12<|Zg 5 Z Z (mv Z)<|Zg 6 Z Z (mv Z)<|Zg 7 Z Z (mv Z)<|z51 fun x13 h14=>Zg 8 Z Z (ixR Z Z h14 tu22 z36 Z)<|Zg 9 Z Z (ldR Z z56)<|Zg 10 Z Z (ld 1 Z Z fH z56 Z)<|zp1 11 [] [] Z (by kernel_rfl) Z Zx Z Tryz.func51 Z Z Z (z9b _ _) (Y2 Z Z) (cN) Z rN Z (fun _ _=>z2v) fun r15 n16=>Zg 12 Z Z (I.eql Z Z)<|hTk 13 Z Z (pkT Z Z)<|hTk 14 Z Z (asg Z)<|hTk 15 Z Z (asg Z)<|z3r (by kernel_rfl)<|z0n<|z0m<|Ze [] [] Z
  ·
   refine hKn 38 Z Z h12<|hSk 5 Z Z<|hSk 6 Z Z<|hSk 7 Z Z<|hSk 8 Z Z<|hSk 9 Z Z<|hSk 10 Z Z<|hSk 11 Z Z<|hSk 12 Z Z<|hTk 13 Z Z (pkF Z Z)<|hTk 14 Z Z (asg Z)<|hTk 15 Z Z (asg Z)<|z3r (by kernel_rfl)<|z0n<|z0m<|Ze [] [] Z
def zd0 (a0:z00) (a1:V3):Option (Int × Bool) :=
 z0c a0.IDs a1 >>= fun r3 =>
 some (r3.1,r3.2)
theorem zje (a0:z00) (a1:V3):z1u Tryz.prog 60 [.rd z01 a0,.rd aZ a1] [] (zd0 a0 a1) (fun r nv=>⟨[.rd z07 r.1,.rd z0f r.2],[]⟩):=by
 refine z2m 12 Tryz.func60 Z Z Z fun H w=>?_
 refine gSR<|Eb Z (bx 1 Z) fun v1=>Eb Z (bx 2 Z) fun v2=>Za Z<|Zb Z<|gSR<|Zq (faB 1 Z Z Tryz.underlying25 Z (by exact z8p))<|Zq (ld 1 Z Z (fP (z0b _)) z9o Z)<|Zq (ld 2 Z Z fH z56 Z)<|Zc [] [] Tryz.func64 Z (z28 _ _) fun r3 n4=>Zq (ext Z Z)<|Zq (ext Z Z)<|Za Z<|Zb Z<|z0m<|Ze [] [] Z
def z7f (a0:z00) (s3:Int):Option (Sum (Sum Int Unit) Int) :=
 if decide (s3<(a0.IDs.length:Int)) then
  idx a0.IDs (w64 (s3 - 1)) >>= fun x5 =>
  idx a0.IDs s3 >>= fun x7 =>
  z7s x5 x7 >>= fun r9 =>
  if decide (0≤r9) then
   some (.inl (.inl 32))
  else
   some (.inr (w64 (s3+1)))
 else
  some (.inl (.inr ()))
def z93 (a0:z00) (s19:(List Int) × (List (List Int)) × (List Int) × Int) (x22:z06) (s26:(List (List Int)) × Int):Option (Sum (Sum (Sum (Sum Int ((List Int) × (List (List Int)) × (List Int))) ((List Int) × (List (List Int)) × (List Int) × Int)) ((List (List Int)))) ((List (List Int)) × Int)) :=
 if decide (s26.2<(x22.Preds.length:Int)) then
  idx x22.Preds s26.2 >>= fun x29 =>
  zd0 a0 x29 >>= fun r32 =>
  if !r32.2 then
   some (.inl (.inl (.inl (.inl 40))))
  else
   idx s26.1 r32.1 >>= fun x35 =>
   app 8 x35 [s19.2.2.2] >>= fun x38 =>
   some (.inr (s26.1.set (r32.1:Int).toNat x38,w64 (s26.2+1)))
 else
  some (.inl (.inr s26.1))
def z94 (a0:z00) (s19:(List Int) × (List (List Int)) × (List Int) × Int):Option (Sum (Sum Int ((List Int) × (List (List Int)) × (List Int))) ((List Int) × (List (List Int)) × (List Int) × Int)) :=
 if decide (s19.2.2.2<(a0.Ops.length:Int)) then
  idx a0.Ops s19.2.2.2 >>= fun x22 =>
  z6l (iter (z93 a0 s19 x22) (s19.2.1,0)) fun s25 =>
  idx s19.1 s19.2.2.2 >>= fun x42 =>
  idx (s19.1.set (s19.2.2.2:Int).toNat (x22.Preds.length:Int)) s19.2.2.2 >>= fun x44 =>
  if x44==0 then
   app 8 s19.2.2.1 [s19.2.2.2] >>= fun x48 =>
   some (.inr (s19.1.set (s19.2.2.2:Int).toNat (x22.Preds.length:Int),s25,x48,w64 (s19.2.2.2+1)))
  else
   some (.inr (s19.1.set (s19.2.2.2:Int).toNat (x22.Preds.length:Int),s25,s19.2.2.1,w64 (s19.2.2.2+1)))
 else
  some (.inl (.inr (s19.1,s19.2.1,s19.2.2.1)))
def z92 (x59:List Int) (s61:(List Int) × (List Int) × Int):Option (Sum ((List Int) × (List Int)) ((List Int) × (List Int) × Int)) :=
 if decide (s61.2.2<(x59.length:Int)) then
  idx x59 s61.2.2 >>= fun x64 =>
  idx s61.1 x64 >>= fun x66 =>
  idx s61.1 x64 >>= fun x68 =>
  idx (s61.1.set (x64:Int).toNat (w64 (x66 - 1))) x64 >>= fun x70 =>
  if x70==0 then
   app 8 s61.2.1 [x64] >>= fun x74 =>
   some (.inr (s61.1.set (x64:Int).toNat (w64 (x66 - 1)),x74,w64 (s61.2.2+1)))
  else
   some (.inr (s61.1.set (x64:Int).toNat (w64 (x66 - 1)),s61.2.1,w64 (s61.2.2+1)))
 else
  some (.inl (s61.1,s61.2.1))
def za7 (s18:(List Int) × (List (List Int)) × (List Int)) (s53:(List Int) × (List Int) × Int):Option (Sum Int ((List Int) × (List Int) × Int)) :=
 if decide (s53.2.2<(s53.2.1.length:Int)) then
  (idx s53.2.1 s53.2.2 >>= fun x57 =>
  idx s18.2.1 x57 >>= fun x59 =>
  iter (z92 x59) (s53.1,s53.2.1,0)) >>= fun s56 =>
  some (w64 (s53.2.2+1)) >>= fun y78 =>
  some (.inr (s56.1,s56.2,y78))
 else
  some (.inl s53.2.2)
def ze1 (a0:z00):Option (Int) :=
 z6l (iter (z7f a0) 1) fun s2 =>
 mkn 8 0 (a0.Ops.length:Int) >>= fun x12 =>
 mkn 24 ([]:List Int) (a0.Ops.length:Int) >>= fun x15 =>
 z6l (iter (z94 a0) (x12,x15,[],0)) fun s18 =>
 (iter (za7 s18) (s18.1,s18.2.2,0)) >>= fun s52 =>
 if decide (s52<(a0.Ops.length:Int)) then
  some 36
 else
  some 0
theorem zhn (a0:z00):z1u Tryz.prog 38 [.rd z01 a0] [] (ze1 a0) (fun r nv=>⟨[.rd z07 r],[]⟩):=by
 refine z2m 133 Tryz.func38 Z Z Z fun H w=>?_
 refine gSR<|Eb Z (bx 1 Z) fun v1=>Zb Z<|z95 (fun (s2:Unit) aa ww=>Sta (ctx 133 H [] w) [(1,.val (z05 v1 0))] [(1,some (v1,.box 25 [.rd z01 a0]))] aa ww) ?_ (fun s2=>?_)
 ·
  refine gSR<|Zb Z<|z2b (fun (s3:Int) aa ww=>Sta (ctx 133 H [] w) [(1,.val (z05 v1 0)),(3,.rd z07 s3)] [(1,some (v1,.box 25 [.rd z01 a0]))] aa ww) (fun aa ww h=>h.sub [1] (sS Z<|sS Z<|sN) (y1 Z)) (fun s3=>?_)
  refine z0w<|gSR<|Zm Z<|Zq (faB 1 Z Z Tryz.underlying25 Z (by exact z8p))<|Zq (ld 1 Z Z (fP (z0b _)) z9o Z)<|Zq (z3q Z .rd Z tu22)<|Zq (I.lss Z Z)<|Zj Z (fun h4=>?_) (fun h4=>?_)
  ·
   refine Zt<|z0w<|z58<|z0w<|z89 [] mixed Z Z<|hTk 0 Z Z (faB 1 Z Z Tryz.underlying25 Z (by exact z8p))<|hTk 1 Z Z (ld 1 Z Z (fP (z0b _)) z9o Z)<|hTk 2 Z Z (mv Z)<|hTk 3 Z Z (I.sub Z Z)<|z51 fun x5 h6=>hTk 4 Z Z (ixR Z Z h6 tu22 z36 Z)<|hTk 5 Z Z (ldR Z z56)<|hTk 6 Z Z (faB 1 Z Z Tryz.underlying25 Z (by exact z8p))<|hTk 7 Z Z (ld 1 Z Z (fP (z0b _)) z9o Z)<|hTk 8 Z Z (mv Z)<|z51 fun x7 h8=>hTk 9 Z Z (ixR Z Z h8 tu22 z36 Z)<|hTk 10 Z Z (ldR Z z56)<|z37 11 [] [] Z (by kernel_rfl) Z (gd0 Z) Z Tryz.func51 Z Z (z9b _ _) (Y2 Z Z) rN Z (fun _ _=>z2v) fun r9 n10=>hTk 12 Z Z (I.geq Z Z)<|z3r (by kernel_rfl)<|z0n<|gIf Z Z (fun h11=>?_) (fun h11=>?_)
   ·
    refine gSR<|Zb Z<|z0m<|z4c<|z10<|z85<|z80<|zbf [] [] Z (eE Z<|eN) (rN)
   ·
    refine z3a<|z3h<|z0n<|z2o<|Zm Z<|Zq (I.add Z Z)<|Za Z<|z23<|z1l (fun aa ww h=>h.sub [1] (sS Z<|sS Z<|sN) (y1 Z))
  ·
   refine z24<|z14<|z13<|z8b (fun aa ww h=>h.sub [1] (sS Z<|sN) (y1 Z))
 ·
  refine gSR<|Zq (faB 1 Z Z Tryz.underlying25 Z (by exact zap))<|Zq (ld 1 Z Z (fP (z08 _)) zdk Z)<|Zq (z3q Z .rd Z tu23)<|z0u fun x12 h13=>Ef Z (mks (R:=z07) 44 Z Z h13 tu80 ti3 (Zr.num Z) Z) fun v14=>Zb Z<|gSR<|Zq (faB 1 Z Z Tryz.underlying25 Z (by exact zap))<|Zq (ld 1 Z Z (fP (z08 _)) zdk Z)<|Zq (z3q Z .rd Z tu23)<|z0u fun x15 h16=>Ef Z (mksF 45 Z Z h16 Tryz.underlying97 ti80 Z) fun v17=>z12s (base:=100000) (lits:=[(1,some (v1,.box 25 [.rd z01 a0])),(44,some (v14,.list z07 3 x12)),(45,some (v17,.list zf6 80 (z9i (fun _=>Value.slice none 0 0) x15)))]) z07 3 [1,44,45] (zz8 h16) (Zi Z<|Zi Z<|Zi Z<|rN)<|Zb Z<|gSR<|Zb Z<|z95 (fun (s18:(List Int) × (List (List Int)) × (List Int)) aa ww=>∃ nv:Nat→Value,Sta (ctx 133 H [] w) [(1,.val (z05 v1 0)),(4,.val v14),(5,.val v17),(6,.val (nv 0))] ([(1,some (v1,.box 25 [.rd z01 a0])),(44,some (v14,.list z07 3 s18.1)),(45,some (v17,.list zf6 80 (z9i (fun j=>nv (j+1)) s18.2.1))),(50,some ((nv 0),.list z07 3 s18.2.2))]++zma 100000 z07 3 (fun j=>nv (j+1)) s18.2.1 0) aa ww) ?_ (fun s18=>?_)
  ·
   refine gSR<|Zq (faB 1 Z Z Tryz.underlying25 Z (by exact zap))<|Zq (ld 1 Z Z (fP (z08 _)) zdk Z)<|Zq (z3q Z .rd Z tu23)<|Zm Z<|Zn<|zvl z07 3 56<|z2b (fun (s19:(List Int) × (List (List Int)) × (List Int) × Int) aa ww=>∃ nv:Nat→Value,Sta (ctx 133 H [] w) [(1,.val (z05 v1 0)),(4,.val v14),(5,.val v17),(6,.val (nv 0)),(45,.rd (z02 z03) a0.Ops),(46,.rd z07 (a0.Ops.length:Int)),(47,.rd z07 s19.2.2.2)] ([(1,some (v1,.box 25 [.rd z01 a0])),(44,some (v14,.list z07 3 s19.1)),(45,some (v17,.list zf6 80 (z9i (fun j=>nv (j+1)) s19.2.1))),(55,some ((nv 0),.list z07 3 s19.2.2.1))]++zma 100000 z07 3 (fun j=>nv (j+1)) s19.2.1 0) aa ww) (fun aa ww h=>⟨zyg [(.slice none 0 0)] (fun _=>Value.slice none 0 0),h.subF (by repeat (first | refine z5y.cons Z ?_ | exact z5y.tail)) [1,44,45,56] (Zs Z Z Z Z<|sS Z<|sS Z<|sS Z<|sN) (Zi Z<|Zi Z<|Zi Z<|Zi Z<|rN) rfl⟩) (fun s19=>?_)
   refine gEx fun n20=>gSR<|Zq (I.lss Z Z)<|Zn<|z0w<|gIf Z Z (fun h21=>?_) (fun h21=>?_)
   ·
    refine Zt<|z0w<|z58<|gSR<|Zm Z<|z0u fun x22 h23=>Zq (ixR Z Z h23 tu23 z88 Z)<|Zq (ldR Z z9q)<|Eb Z (z7q 57 z88 (ZrE.rd (R:=z0i) (x:=0) (Zr.num Z) (ZrE.nilS (ZrE.rd (R:=z2e) (x:=0) (Zr.num Z) (ZrE.rd (R:=z0g) (x:=(⟨0,[],(⟨0,0,0,[]⟩:z04)⟩:z0k)) zn0 (ZrE.rd (R:=z0l) (x:=(⟨0,0⟩:z09)) zl1 ZrE.nil Z) Z) Z)) Z)) fun v24=>Za Z<|zhh aZ [.rd z0i 0,.rd (z02 aZ) [],.rd z2e 0,.rd z0g (⟨0,[],(⟨0,0,0,[]⟩:z04)⟩:z0k),.rd z0l (⟨0,0⟩:z09)] 57 [.rd z0i 0] [.rd z2e 0,.rd z0g (⟨0,[],(⟨0,0,0,[]⟩:z04)⟩:z0k),.rd z0l (⟨0,0⟩:z09)] Z Z Z<|zgu (R:=z03) (⟨0,[],0,(⟨0,[],(⟨0,0,0,[]⟩:z04)⟩:z0k),(⟨0,0⟩:z09)⟩:z06) 57 Z (Sp.via (Sp.prod (Sp.prod (Sp.prod (Sp.prod (Sp.prod Sp.unit))))))<|Es (sto 57 Z Z fH Z z88)<|Zn<|z95 (fun (s25:(List (List Int))) aa ww=>∃ nv:Nat→Value,Sta (ctx 133 H [] w) [(1,.val (z05 v1 0)),(4,.val v14),(5,.val v17),(6,.val (n20 0)),(7,.rd z07 s19.2.2.2),(8,.val (z05 v24 0)),(45,.rd (z02 z03) a0.Ops),(46,.rd z07 (a0.Ops.length:Int)),(47,.rd z07 s19.2.2.2)] ([(1,some (v1,.box 25 [.rd z01 a0])),(44,some (v14,.list z07 3 s19.1)),(45,some (v17,.list zf6 80 (z9i (fun j=>nv (j+0)) s25))),(55,some ((n20 0),.list z07 3 s19.2.2.1)),(57,some (v24,.box 46 [.rd z03 x22]))]++zma 100000 z07 3 (fun j=>nv (j+0)) s25 0) aa ww) ?_ (fun s25=>?_)
    ·
     refine gSR<|Zq (faB 57 Z Z Tryz.underlying46 Z (by exact z8p))<|Zq (ld 57 Z Z (fP (z0x _)) z9o Z)<|Zq (z3q Z .rd Z tu22)<|Zm Z<|Zn<|z2b (fun (s26:(List (List Int)) × Int) aa ww=>∃ nv:Nat→Value,Sta (ctx 133 H [] w) [(1,.val (z05 v1 0)),(4,.val v14),(5,.val v17),(6,.val (n20 0)),(7,.rd z07 s19.2.2.2),(8,.val (z05 v24 0)),(45,.rd (z02 z03) a0.Ops),(46,.rd z07 (a0.Ops.length:Int)),(47,.rd z07 s19.2.2.2),(53,.rd (z02 aZ) x22.Preds),(54,.rd z07 (x22.Preds.length:Int)),(55,.rd z07 s26.2)] ([(1,some (v1,.box 25 [.rd z01 a0])),(44,some (v14,.list z07 3 s19.1)),(45,some (v17,.list zf6 80 (z9i (fun j=>nv (j+0)) s26.1))),(55,some ((n20 0),.list z07 3 s19.2.2.1)),(57,some (v24,.box 46 [.rd z03 x22]))]++zma 100000 z07 3 (fun j=>nv (j+0)) s26.1 0) aa ww) (fun aa ww h=>⟨zyg [] (fun j=>n20 (j+1)),h.subF (by repeat (first | refine z5y.cons Z ?_ | exact z5y.tail)) [1,44,45,55,57] (Zs Z Z Z Z<|Zs Z Z Z Z<|Zs Z Z Z Z<|sN) (Zi Z<|Zi Z<|Zi Z<|Zi Z<|Zi Z<|rN) rfl⟩) (fun s26=>?_)
     refine gEx fun n27=>gSR<|Zq (I.lss Z Z)<|Zn<|z0w<|gIf Z Z (fun h28=>?_) (fun h28=>?_)
     ·
      refine Zt<|z0w<|z58<|gSR<|z0u fun x29 h30=>Zq (ixR Z Z h30 tu22 z36 Z)<|Zq (ldR Z z56)<|Eb Z (z7q 58 z36 (.zr (R:=aZ) (x:=(Vector.replicate 32 0)) zhl)) fun v31=>Es (sto 58 Z Z fH Z z36)<|Zn<|gSR<|Zq (ld 1 Z Z fH zal Z)<|Zq (ld 58 Z Z fH z56 Z)<|call [] [] Z Tryz.func60 Z Z (zje _ _) (Y2 Z Z) rN fun r32 n33=>Zm Z<|Zq (ext Z Z)<|Zq (ext Z Z)<|Za Z<|Zb Z<|z0w<|gSR<|Zm Z<|Zq (zd9 Z)<|Zj Z (fun h34=>?_) (fun h34=>?_)
      ·
       refine gSR<|Zb Z<|z0m<|z10<|z4c<|z10<|z85<|z80<|z4c<|z10<|z85<|z80<|zbf [] [] Z (eE Z<|eN) (rN)
      ·
       refine Zt<|z2o<|Zm Z<|Zm Z<|Zm Z<|Zm Z<|z0u fun x35 h36=>Zq (ixO 45 Z Z Z (zle h36) Tryz.underlying97 ti80)<|Zq (ldF 45 Z Z h36 ty80 Z)<|Zm Z<|Ef Z (lit (R:=z07) ([s19.2.2.2]:List Int) 59 (pP Z Z<|pN) Z tu80 ti3 Z Z) fun v37=>z0u fun x38 h39=>lApF (base:=100000) (lits:=[(1,some (v1,.box 25 [.rd z01 a0])),(44,some (v14,.list z07 3 s19.1)),(55,some ((n20 0),.list z07 3 s19.2.2.1)),(57,some (v24,.box 46 [.rd z03 x22])),(58,some (v31,.box 36 [.rd aZ x29])),(59,some (v37,.list z07 3 [s19.2.2.2]))]) 45 [1,44,55,57,58,59] (by repeat (first | refine z5y.cons Z ?_ | exact z5y.tail)) Z Z Z h36 Z Z Z Z (.own 59 Z) h39 Z (fun _ h=>by cases h; rfl) (fun _ h=>by cases h; rfl) Z Z tu80 ti3 Z Z Z Tryz.underlying97 ti80 ty80 (Zi Z<|Zi Z<|Zi Z<|Zi Z<|Zi Z<|Zi Z<|rN) Z fun v40=>z23<|z3h<|z0n<|z2o<|Zq (I.add Z Z)<|Zm Z<|z23<|z1l (fun aa ww h=>⟨zyg [] (zvf (fun j=>n27 (j+0)) (r32.1:Int).toNat v40),h.subF (by repeat (first | refine z5y.cons Z ?_ | exact z5y.tail)) [1,44,45,55,57] (Zs Z Z Z Z<|Zs Z Z Z Z<|Zs Z Z Z Z<|sN) (Zi Z<|Zi Z<|Zi Z<|Zi Z<|Zi Z<|rN) rfl⟩)
     ·
      refine z24<|z14<|z13<|z8b (fun aa ww h=>⟨zyg [] (fun j=>n27 (j+0)),h.subF (by repeat (first | refine z5y.cons Z ?_ | exact z5y.tail)) [1,44,45,55,57] (Zs Z Z Z Z<|Zs Z Z Z Z<|sS Z<|sN) (Zi Z<|Zi Z<|Zi Z<|Zi Z<|Zi Z<|rN) rfl⟩)
    ·
     refine gEx fun n41=>gSR<|Zm Z<|Zm Z<|Zq (faB 57 Z Z Tryz.underlying46 Z (by exact z8p))<|Zq (ld 57 Z Z (fP (z0x _)) z9o Z)<|Zq (z3q Z .rd Z tu22)<|z0u fun x42 h43=>Zq (ixO 44 Z Z Z h43 tu80 ti3)<|Es (sto 44 Z Z (Foc.el h43) Z ti3)<|Zn<|gSR<|Zm Z<|Zm Z<|z0u fun x44 h45=>Zq (ixO 44 Z Z Z h45 tu80 ti3)<|Zq (ld 44 Z Z (Foc.el h45) ty3 Z)<|Zq (I.eql Z Z)<|Zj Z (fun h46=>?_) (fun h46=>?_)
     ·
      refine z2o<|Zm Z<|Zm Z<|Ef Z (lit (R:=z07) ([s19.2.2.2]:List Int) 60 (pP Z Z<|pN) Z tu80 ti3 Z Z) fun v47=>z0u fun x48 h49=>Ef Z (apn 55 Z Z Z (.own 60 Z) h49 tu80 ti3 Z Z Z) fun v50=>Za Z<|z23<|z3h<|z0n<|z2o<|Zq (I.add Z Z)<|Zm Z<|z23<|z1l (fun aa ww h=>⟨zyg [v50] (fun j=>n41 (j+0)),h.subF (by repeat (first | refine z5y.cons Z ?_ | exact z5y.tail)) [1,44,45,55] (Zs Z Z Z Z<|sS Z<|sS Z<|sS Z<|sN) (Zi Z<|Zi Z<|Zi Z<|Zi Z<|rN) rfl⟩)
     ·
      refine z3a<|z3h<|z0n<|z2o<|Zq (I.add Z Z)<|Zm Z<|z23<|z1l (fun aa ww h=>⟨zyg [(n20 0)] (fun j=>n41 (j+0)),h.subF (by repeat (first | refine z5y.cons Z ?_ | exact z5y.tail)) [1,44,45,55] (Zs Z Z Z Z<|sS Z<|sS Z<|sS Z<|sN) (Zi Z<|Zi Z<|Zi Z<|Zi Z<|rN) rfl⟩)
   ·
    refine z24<|z14<|z13<|z8b (fun aa ww h=>⟨zyg [(n20 0)] (fun j=>n20 (j+1)),h.subF (by repeat (first | refine z5y.cons Z ?_ | exact z5y.tail)) [1,44,45,55] (Zs Z Z Z Z<|sN) (Zi Z<|Zi Z<|Zi Z<|Zi Z<|rN) rfl⟩)
  ·
   refine gEx fun n51=>gSR<|Zb Z<|z7m (fun (s52:Int) aa ww=>Sta (ctx 133 H [] w) [(1,.val (z05 v1 0)),(13,.rd z07 s52)] [(1,some (v1,.box 25 [.rd z01 a0]))] aa ww) ?_ (fun s52=>?_)
   ·
    refine z12w (base:=100000) (T:=3) (lits:=[(1,some (v1,.box 25 [.rd z01 a0])),(44,some (v14,.list z07 3 s18.1)),(50,some ((n51 0),.list z07 3 s18.2.2))]) (by repeat (first | refine z5y.cons Z ?_ | exact z5y.tail)) 45 Z [1,44,50] (Zi Z<|Zi Z<|Zi Z<|rN) Z Z<|z2b (fun (s53:(List Int) × (List Int) × Int) aa ww=>∃ nv:Nat→Value,Sta (ctx 133 H [] w) [(1,.val (z05 v1 0)),(4,.val v14),(5,.val v17),(6,.val (nv 0)),(13,.rd z07 s53.2.2)] [(1,some (v1,.box 25 [.rd z01 a0])),(44,some (v14,.list z07 3 s53.1)),(45,some (v17,.list (z02 z07) 80 s18.2.1)),(50,some ((nv 0),.list z07 3 s53.2.1))] aa ww) (fun aa ww h=>⟨nvl [(n51 0)],h.sub [1,44,45,50] (Zs Z Z Z Z<|sS Z<|sN) (Zi Z<|Zi Z<|Zi Z<|Zi Z<|rN)⟩) (fun s53=>?_)
    refine gEx fun n54=>z0w<|gSR<|Zm Z<|Zm Z<|Zq (z3q Z (.own 50 Z) Z tu80)<|Zq (I.lss Z Z)<|Zj Z (fun h55=>?_) (fun h55=>?_)
    ·
     refine Zt<|z7m (fun (s56:(List Int) × (List Int)) aa ww=>∃ nv:Nat→Value,Sta (ctx 133 H [] w) [(1,.val (z05 v1 0)),(4,.val v14),(5,.val v17),(6,.val (nv 0)),(13,.rd z07 s53.2.2)] [(1,some (v1,.box 25 [.rd z01 a0])),(44,some (v14,.list z07 3 s56.1)),(45,some (v17,.list (z02 z07) 80 s18.2.1)),(50,some ((nv 0),.list z07 3 s56.2))] aa ww) ?_ (fun s56=>?_)
     ·
      refine z58<|gSR<|Zm Z<|Zm Z<|Zm Z<|z0u fun x57 h58=>Zq (ixO 50 Z Z Z h58 tu80 ti3)<|Zq (ld 50 Z Z (Foc.el h58) ty3 Z)<|z0u fun x59 h60=>Zq (ixO 45 Z Z Z h60 Tryz.underlying97 ti80)<|Zq (ld 45 Z Z (Foc.el h60) ty80 Z)<|Zq (z3q Z .rd Z tu80)<|Zm Z<|Zn<|z2b (fun (s61:(List Int) × (List Int) × Int) aa ww=>∃ nv:Nat→Value,Sta (ctx 133 H [] w) [(1,.val (z05 v1 0)),(4,.val v14),(5,.val v17),(6,.val (nv 0)),(13,.rd z07 s53.2.2),(106,.rd (z02 z07) x59),(107,.rd z07 (x59.length:Int)),(108,.rd z07 s61.2.2)] [(1,some (v1,.box 25 [.rd z01 a0])),(44,some (v14,.list z07 3 s61.1)),(45,some (v17,.list (z02 z07) 80 s18.2.1)),(50,some ((nv 0),.list z07 3 s61.2.1))] aa ww) (fun aa ww h=>⟨nvl [(n54 0)],h.sub [1,44,45,50] (Zs Z Z Z Z<|Zs Z Z Z Z<|sN) (Zi Z<|Zi Z<|Zi Z<|Zi Z<|rN)⟩) (fun s61=>?_)
      refine gEx fun n62=>gSR<|Zq (I.lss Z Z)<|Zn<|z0w<|gIf Z Z (fun h63=>?_) (fun h63=>?_)
      ·
       refine Zt<|z0w<|z58<|gSR<|z0u fun x64 h65=>Zq (ixR Z Z h65 tu80 ti3 Z)<|Zq (ldR Z ty3)<|Zb Z<|gSR<|Zm Z<|Zm Z<|z0u fun x66 h67=>Zq (ixO 44 Z Z Z h67 tu80 ti3)<|Zq (ld 44 Z Z (Foc.el h67) ty3 Z)<|Zq (I.sub Z Z)<|z0u fun x68 h69=>Zq (ixO 44 Z Z Z h69 tu80 ti3)<|Es (sto 44 Z Z (Foc.el h69) Z ti3)<|Zn<|gSR<|Zm Z<|Zm Z<|z0u fun x70 h71=>Zq (ixO 44 Z Z Z h71 tu80 ti3)<|Zq (ld 44 Z Z (Foc.el h71) ty3 Z)<|Zq (I.eql Z Z)<|Zj Z (fun h72=>?_) (fun h72=>?_)
       ·
        refine z2o<|Zm Z<|Zm Z<|Ef Z (lit (R:=z07) ([x64]:List Int) 61 (pP Z Z<|pN) Z tu80 ti3 Z Z) fun v73=>z0u fun x74 h75=>Ef Z (apn 50 Z Z Z (.own 61 Z) h75 tu80 ti3 Z Z Z) fun v76=>Za Z<|z23<|z3h<|z0n<|z2o<|Zq (I.add Z Z)<|Zm Z<|z23<|z1l (fun aa ww h=>⟨nvl [v76],h.sub [1,44,45,50] (Zs Z Z Z Z<|Zs Z Z Z Z<|sN) (Zi Z<|Zi Z<|Zi Z<|Zi Z<|rN)⟩)
       ·
        refine z3a<|z3h<|z0n<|z2o<|Zq (I.add Z Z)<|Zm Z<|z23<|z1l (fun aa ww h=>⟨nvl [(n62 0)],h.sub [1,44,45,50] (Zs Z Z Z Z<|Zs Z Z Z Z<|sN) (Zi Z<|Zi Z<|Zi Z<|Zi Z<|rN)⟩)
      ·
       refine z24<|z14<|z13<|z3h<|z3s (fun aa ww h=>⟨nvl [(n62 0)],h.sub [1,44,45,50] (Zs Z Z Z Z<|sS Z<|sN) (Zi Z<|Zi Z<|Zi Z<|Zi Z<|rN)⟩)
     ·
      refine gEx fun n77=>z2o<|Zm Z<|Zq (I.add Z Z)<|Za Z<|z1z 13 Z fun y78=>z23<|z1l (fun aa ww h=>⟨nvl [(n77 0)],h.sub [1,44,45,50] (Zs Z Z Z Z<|sS Z<|sN) (Zi Z<|Zi Z<|Zi Z<|Zi Z<|rN)⟩)
    ·
     refine z24<|z14<|z13<|z3s (fun aa ww h=>h.sub [1] (sS Z<|sS Z<|sN) (y1 Z))
   ·
    refine z0w<|gSR<|Zm Z<|Zq (faB 1 Z Z Tryz.underlying25 Z (by exact zap))<|Zq (ld 1 Z Z (fP (z08 _)) zdk Z)<|Zq (z3q Z .rd Z tu23)<|Zq (I.lss Z Z)<|Zj Z (fun h79=>?_) (fun h79=>?_)
    ·
     refine gSR<|Zb Z<|z0m<|z10<|zbf [] [] Z (eE Z<|eN) (rN)
    ·
     refine Zt<|gSR<|Zb Z<|z0m<|zbf [] [] Z (eE Z<|eN) (rN)
def za6 (a0:z00) (s5:Int):Option (Sum (Sum Int Unit) Int) :=
 if decide (s5<(a0.Ops.length:Int)) then
  idx a0.Ops s5 >>= fun x7 =>
  zqy x7 >>= fun r10 =>
  (if r10.2 != 0 then
   some true
  else
   idx a0.IDs s5 >>= fun x15 =>
   if !decide (r10.1=x15) then
    some true
   else
    zdr x7 >>= fun r18 =>
    some (r18 != 0)) >>= fun s13 =>
  if s13 then
   some (.inl (.inl 8))
  else
   some (.inr (w64 (s5+1)))
 else
  some (.inl (.inr ()))
def z49 (a0:z00):Option (Int) :=
 if decide (60<(a0.Ops.length:Int)) then
  some 4
 else
  if (a0.IDs.length:Int) != (a0.Ops.length:Int) then
   some 8
  else
   z6l (iter (za6 a0) 0) fun s4 =>
   ze1 a0 >>= fun r21 =>
   some r21
theorem zbu (a0:z00):z1u Tryz.prog 23 [.rd z01 a0] [zG1] (z49 a0) (fun r nv=>⟨[.rd z07 r],[(1001,some (.bool true,.glob 1 (z2y 64 z0i) z4q))]⟩):=by
 refine z2m 50 Tryz.func23 Z Z Z fun H w=>?_
 refine gSR<|Eb Z (bx 1 Z) fun v1=>Zb Z<|z0w<|gSR<|Zq (faB 1 Z Z Tryz.underlying25 Z (by exact zap))<|Zq (ld 1 Z Z (fP (z08 _)) zdk Z)<|Zq (z3q Z .rd Z tu23)<|Zq (I.gtr Z Z)<|Zj Z (fun h2=>?_) (fun h2=>?_)
 ·
  refine gSR<|Zb Z<|z0m<|z10<|Ze [] [1001] Z
 ·
  refine Zt<|z0w<|gSR<|Zq (faB 1 Z Z Tryz.underlying25 Z (by exact z8p))<|Zq (ld 1 Z Z (fP (z0b _)) z9o Z)<|Zq (z3q Z .rd Z tu22)<|Zq (faB 1 Z Z Tryz.underlying25 Z (by exact zap))<|Zq (ld 1 Z Z (fP (z08 _)) zdk Z)<|Zq (z3q Z .rd Z tu23)<|Zq (I.neq Z Z)<|Zj Z (fun h3=>?_) (fun h3=>?_)
  ·
   refine gSR<|Zb Z<|z0m<|z10<|Ze [] [1001] Z
  ·
   refine Zt<|z95 (fun (s4:Unit) aa ww=>Sta (ctx 50 H [zG1] w) [(1,.val (z05 v1 0))] [(1,some (v1,.box 25 [.rd z01 a0])),zG1] aa ww) ?_ (fun s4=>?_)
   ·
    refine gSR<|Zq (faB 1 Z Z Tryz.underlying25 Z (by exact zap))<|Zq (ld 1 Z Z (fP (z08 _)) zdk Z)<|Zq (z3q Z .rd Z tu23)<|Zm Z<|Zn<|z2b (fun (s5:Int) aa ww=>Sta (ctx 50 H [zG1] w) [(1,.val (z05 v1 0)),(19,.rd (z02 z03) a0.Ops),(20,.rd z07 (a0.Ops.length:Int)),(21,.rd z07 s5)] [(1,some (v1,.box 25 [.rd z01 a0])),zG1] aa ww) (fun aa ww h=>Zu h [1,1001]) (fun s5=>?_)
    refine gSR<|Zq (I.lss Z Z)<|Zn<|z0w<|gIf Z Z (fun h6=>?_) (fun h6=>?_)
    ·
     refine Zt<|z0w<|z58<|gSR<|Zm Z<|z0u fun x7 h8=>Zq (ixR Z Z h8 tu23 z88 Z)<|Zq (ldR Z z9q)<|Eb Z (z7q 1100 z88 (ZrE.rd (R:=z0i) (x:=0) (Zr.num Z) (ZrE.nilS (ZrE.rd (R:=z2e) (x:=0) (Zr.num Z) (ZrE.rd (R:=z0g) (x:=(⟨0,[],(⟨0,0,0,[]⟩:z04)⟩:z0k)) zn0 (ZrE.rd (R:=z0l) (x:=(⟨0,0⟩:z09)) zl1 ZrE.nil Z) Z) Z)) Z)) fun v9=>Za Z<|zhh aZ [.rd z0i 0,.rd (z02 aZ) [],.rd z2e 0,.rd z0g (⟨0,[],(⟨0,0,0,[]⟩:z04)⟩:z0k),.rd z0l (⟨0,0⟩:z09)] 1100 [.rd z0i 0] [.rd z2e 0,.rd z0g (⟨0,[],(⟨0,0,0,[]⟩:z04)⟩:z0k),.rd z0l (⟨0,0⟩:z09)] Z Z Z<|zgu (R:=z03) (⟨0,[],0,(⟨0,[],(⟨0,0,0,[]⟩:z04)⟩:z0k),(⟨0,0⟩:z09)⟩:z06) 1100 Z (Sp.via (Sp.prod (Sp.prod (Sp.prod (Sp.prod (Sp.prod Sp.unit))))))<|Es (sto 1100 Z Z fH Z z88)<|Zn<|gSR<|Zq (ld 1100 Z Z fH z9q Z)<|Zc [1001] [] Tryz.func36 Z (zll _) fun r10 n11=>Zm Z<|Zq (ext Z Z)<|Zq (ext Z Z)<|Eb Z (z7q 1101 z36 (.zr (R:=aZ) (x:=(Vector.replicate 32 0)) zhl)) fun v12=>Es (sto 1101 Z Z fH Z z36)<|Zb Z<|z7m (fun (s13:Bool) aa ww=>Sta (ctx 50 H [zG1] w) [(1,.val (z05 v1 0)),(19,.rd (z02 z03) a0.Ops),(20,.rd z07 (a0.Ops.length:Int)),(21,.rd z07 s5),(46,.rd z0f s13)] [(1,some (v1,.box 25 [.rd z01 a0])),zG1] aa ww) ?_ (fun s13=>?_)
     ·
      refine z89 [1001] mixed Z Z<|hTk 0 Z Z (mv Z)<|hTk 1 Z Z (I.neq Z Z)<|hTk 2 Z Z (mv Z)<|hIf 33 Z Z (fun h14=>?_) (fun h14=>?_)
      ·
       refine hKn 32 Z Z h14<|hSk 3 Z Z<|hSk 4 Z Z<|hSk 5 Z Z<|hSk 6 Z Z<|hSk 7 Z Z<|hSk 8 Z Z<|hSk 9 Z Z<|hTk 10 Z Z (pkT Z Z)<|hTk 11 Z Z (mv Z)<|hSk 12 Z Z<|hSk 13 Z Z<|hSk 14 Z Z<|hTk 15 Z Z (pkT Z Z)<|z3r (by kernel_rfl)<|z3s (fun aa ww h=>Zu h [1,1001])
      ·
       refine hKn 32 Z Z h14<|Zg 3 Z Z (ld 1101 Z Z fH z56 Z)<|Zg 4 Z Z (faB 1 Z Z Tryz.underlying25 Z (by exact z8p))<|Zg 5 Z Z (ld 1 Z Z (fP (z0b _)) z9o Z)<|Zg 6 Z Z (mv Z)<|z51 fun x15 h16=>Zg 7 Z Z (ixR Z Z h16 tu22 z36 Z)<|Zg 8 Z Z (ldR Z z56)<|Zg 9 Z Z (neA Z Z zxp Z Z zy2)<|hTk 10 Z Z (pkF Z Z)<|hTk 11 Z Z (mv Z)<|hIf 42 Z Z (fun h17=>?_) (fun h17=>?_)
       ·
        refine hKn 40 Z Z h17<|hKn 41 Z Z h17<|hSk 12 Z Z<|hSk 13 Z Z<|hSk 14 Z Z<|hTk 15 Z Z (pkT Z Z)<|z3r (by kernel_rfl)<|z3s (fun aa ww h=>Zu h [1,1001])
       ·
        refine hKn 40 Z Z h17<|hKn 41 Z Z h17<|Zg 12 Z Z (ld 1100 Z Z fH z9q Z)<|z37 13 [1001] [] Z (by kernel_rfl) Z Zx Z Tryz.func35 Z Z (zhs _) (Y1 Z) (y1 Z) Z (fun _ _=>z2v) fun r18 n19=>Zg 14 Z Z (I.neq Z Z)<|hTk 15 Z Z (pkF Z Z)<|z3r (by kernel_rfl)<|z3s (fun aa ww h=>Zu h [1,1001])
     ·
      refine gIf Z Z (fun h20=>?_) (fun h20=>?_)
      ·
       refine gSR<|Zb Z<|z0m<|z4c<|z10<|z85<|z80<|Ze [] [1001] Z
      ·
       refine z3a<|z3h<|z0n<|z2o<|Zq (I.add Z Z)<|Zm Z<|z23<|z1l (fun aa ww h=>Zu h [1,1001])
    ·
     refine z24<|z14<|z13<|z8b (fun aa ww h=>Zu h [1,1001])
   ·
    refine gSR<|Zq (ld 1 Z Z fH zal Z)<|Zc [] [] Tryz.func38 Z (zhn _) fun r21 n22=>Zb Z<|z0m<|Ze [] [1001] Z
def z6z (a0:List V3) (a1:V3) (s3:Int):Option (Sum (Sum Int Unit) Int) :=
 if decide (s3<(a0.length:Int)) then
  idx a0 s3 >>= fun x5 =>
  if decide (x5=a1) then
   some (.inl (.inl s3))
  else
   some (.inr (w64 (s3+1)))
 else
  some (.inl (.inr ()))
def z6r (a0:List V3) (a1:V3):Option (Int) :=
 z6l (iter (z6z a0 a1) 0) fun s2 =>
 some (-1)
theorem zdb (a0:List V3) (a1:V3):z1u Tryz.prog 14 [.rd (z02 aZ) a0,.rd aZ a1] [] (z6r a0 a1) (fun r nv=>⟨[.rd z07 r],[]⟩):=by
 refine z2m 19 Tryz.func14 Z Z Z fun H w=>?_
 refine gSR<|Eb Z (bx 1 Z) fun v1=>Zb Z<|z95 (fun (s2:Unit) aa ww=>Sta (ctx 19 H [] w) [] [] aa ww) ?_ (fun s2=>?_)
 ·
  refine gSR<|Zb Z<|z2b (fun (s3:Int) aa ww=>Sta (ctx 19 H [] w) [(0,.rd (z02 aZ) a0),(3,.val (z05 v1 0)),(5,.rd z07 s3)] [(1,some (v1,.box 36 [.rd aZ a1]))] aa ww) (fun aa ww h=>Zu h [1]) (fun s3=>?_)
  refine z0w<|gSR<|Zm Z<|Zm Z<|Zq (z3q Z .rd Z tu22)<|Zq (I.lss Z Z)<|Zj Z (fun h4=>?_) (fun h4=>?_)
  ·
   refine Zt<|z0w<|z58<|z0w<|zgl mixed (by kernel_rfl)<|Rq Z (mv Z)<|Rq Z (mv Z)<|z7c fun x5 h6=>Rq Z (ixR Z Z h6 tu22 z36 Z)<|Rq Z (ldR Z z56)<|Rq Z (ld 1 Z Z fH z56 Z)<|Rq Z (eqA Z Z zxp Z Z zy2)<|zq9<|z0n<|gIf Z Z (fun h7=>?_) (fun h7=>?_)
   ·
    refine gSR<|Zm Z<|Zb Z<|z0m<|z4c<|z10<|z85<|z80<|Ze [] [] Z
   ·
    refine z3a<|z3h<|z0n<|z2o<|Zm Z<|Zq (I.add Z Z)<|Za Z<|z23<|z1l (fun aa ww h=>Zu h [1])
  ·
   refine z24<|z14<|z13<|z8b (fun aa ww h=>Zu h [])
 ·
  refine gSR<|Zb Z<|z0m<|Ze [] [] Z
def z6e (a0:List V3) (a1:List V3) (s2:Int):Option (Sum (Sum Bool Unit) Int) :=
 if decide (s2<(a1.length:Int)) then
  idx a1 s2 >>= fun x4 =>
  z6r a0 x4 >>= fun r6 =>
  if decide (r6<0) then
   some (.inl (.inl false))
  else
   some (.inr (w64 (s2+1)))
 else
  some (.inl (.inr ()))
def z2i (a0:List V3) (a1:List V3):Option (Bool) :=
 z6l (iter (z6e a0 a1) 0) fun s1 =>
 some true
theorem z9s (a0:List V3) (a1:List V3):z1u Tryz.prog 13 [.rd (z02 aZ) a0,.rd (z02 aZ) a1] [] (z2i a0 a1) (fun r nv=>⟨[.rd z0f r],[]⟩):=by
 refine z2m 19 Tryz.func13 Z Z Z fun H w=>?_
 refine gSR<|Zb Z<|z95 (fun (s1:Unit) aa ww=>Sta (ctx 19 H [] w) [] [] aa ww) ?_ (fun s1=>?_)
 ·
  refine gSR<|Zb Z<|z2b (fun (s2:Int) aa ww=>Sta (ctx 19 H [] w) [(0,.rd (z02 aZ) a0),(1,.rd (z02 aZ) a1),(5,.rd z07 s2)] [] aa ww) (fun aa ww h=>Zu h []) (fun s2=>?_)
  refine z0w<|gSR<|Zm Z<|Zm Z<|Zq (z3q Z .rd Z tu22)<|Zq (I.lss Z Z)<|Zj Z (fun h3=>?_) (fun h3=>?_)
  ·
   refine Zt<|z0w<|z58<|gSR<|Zm Z<|Zm Z<|Zm Z<|z0u fun x4 h5=>Zq (ixR Z Z h5 tu22 z36 Z)<|Zq (ldR Z z56)<|Zc [] [] Tryz.func14 Z (zdb _ _) fun r6 n7=>Zq (I.lss Z Z)<|Zj Z (fun h8=>?_) (fun h8=>?_)
   ·
    refine gSR<|Zb Z<|z0m<|z4c<|z10<|z85<|z80<|Ze [] [] Z
   ·
    refine z3a<|z3h<|z0n<|z2o<|Zm Z<|Zq (I.add Z Z)<|Za Z<|z23<|z1l (fun aa ww h=>Zu h [])
  ·
   refine z24<|z14<|z13<|z8b (fun aa ww h=>Zu h [])
 ·
  refine gSR<|Zb Z<|z0m<|Ze [] [] Z
theorem zfk (a0:List V3) (q0:Value) (l0:List V3) (a1:V3):z1u Tryz.prog 14 [.vw aZ q0 l0 a0,.rd aZ a1] [(1,some (q0,.list aZ 36 l0))] (z6r a0 a1) (fun r nv=>⟨[.rd z07 r],[(1,some (q0,.list aZ 36 l0))]⟩):=by
 refine z2m 19 Tryz.func14 Z Z Z fun H w=>?_
 refine gSR<|Eb Z (bx 2 Z) fun v1=>Zb Z<|z95 (fun (s2:Unit) aa ww=>Sta (ctx 19 H [(1,some (q0,.list aZ 36 l0))] w) [] [(1,some (q0,.list aZ 36 l0))] aa ww) ?_ (fun s2=>?_)
 ·
  refine gSR<|Zb Z<|z2b (fun (s3:Int) aa ww=>Sta (ctx 19 H [(1,some (q0,.list aZ 36 l0))] w) [(0,.vw aZ q0 l0 a0),(3,.val (z05 v1 0)),(5,.rd z07 s3)] [(1,some (q0,.list aZ 36 l0)),(2,some (v1,.box 36 [.rd aZ a1]))] aa ww) (fun aa ww h=>Zu h [1,2]) (fun s3=>?_)
  refine z0w<|gSR<|Zm Z<|Zm Z<|Zq (z3q Z (.vw 1 Z) Z tu22)<|Zq (I.lss Z Z)<|Zj Z (fun h4=>?_) (fun h4=>?_)
  ·
   refine Zt<|z0w<|z58<|z0w<|zgl mixed (by kernel_rfl)<|Rq Z (mv Z)<|Rq Z (mv Z)<|z7c fun x5 h6=>Rq Z (ixQ 1 Z Z Z h6 tu22 z36)<|Rq Z (ldQ 1 Z Z z56 Z)<|Rq Z (ld 2 Z Z fH z56 Z)<|Rq Z (eqA Z Z zxp Z Z zy2)<|zq9<|z0n<|gIf Z Z (fun h7=>?_) (fun h7=>?_)
   ·
    refine gSR<|Zm Z<|Zb Z<|z0m<|z4c<|z10<|z85<|z80<|Ze [] [1] Z
   ·
    refine z3a<|z3h<|z0n<|z2o<|Zm Z<|Zq (I.add Z Z)<|Za Z<|z23<|z1l (fun aa ww h=>Zu h [1,2])
  ·
   refine z24<|z14<|z13<|z8b (fun aa ww h=>Zu h [1])
 ·
  refine gSR<|Zb Z<|z0m<|Ze [] [1] Z
theorem zet (a0:List V3) (q0:Value) (l0:List V3) (a1:List V3):z1u Tryz.prog 13 [.vw aZ q0 l0 a0,.rd (z02 aZ) a1] [(1,some (q0,.list aZ 36 l0))] (z2i a0 a1) (fun r nv=>⟨[.rd z0f r],[(1,some (q0,.list aZ 36 l0))]⟩):=by
 refine z2m 19 Tryz.func13 Z Z Z fun H w=>?_
 refine gSR<|Zb Z<|z95 (fun (s1:Unit) aa ww=>Sta (ctx 19 H [(1,some (q0,.list aZ 36 l0))] w) [] [(1,some (q0,.list aZ 36 l0))] aa ww) ?_ (fun s1=>?_)
 ·
  refine gSR<|Zb Z<|z2b (fun (s2:Int) aa ww=>Sta (ctx 19 H [(1,some (q0,.list aZ 36 l0))] w) [(0,.vw aZ q0 l0 a0),(1,.rd (z02 aZ) a1),(5,.rd z07 s2)] [(1,some (q0,.list aZ 36 l0))] aa ww) (fun aa ww h=>Zu h [1]) (fun s2=>?_)
  refine z0w<|gSR<|Zm Z<|Zm Z<|Zq (z3q Z .rd Z tu22)<|Zq (I.lss Z Z)<|Zj Z (fun h3=>?_) (fun h3=>?_)
  ·
   refine Zt<|z0w<|z58<|gSR<|Zm Z<|Zm Z<|Zm Z<|z0u fun x4 h5=>Zq (ixR Z Z h5 tu22 z36 Z)<|Zq (ldR Z z56)<|Zc [1] [(1,1)] Tryz.func14 Z (zfk _ _ _ _) fun r6 n7=>Zq (I.lss Z Z)<|Zj Z (fun h8=>?_) (fun h8=>?_)
   ·
    refine gSR<|Zb Z<|z0m<|z4c<|z10<|z85<|z80<|Ze [] [1] Z
   ·
    refine z3a<|z3h<|z0n<|z2o<|Zm Z<|Zq (I.add Z Z)<|Za Z<|z23<|z1l (fun aa ww h=>Zu h [1])
  ·
   refine z24<|z14<|z13<|z8b (fun aa ww h=>Zu h [1])
 ·
  refine gSR<|Zb Z<|z0m<|Ze [] [1] Z
def z38 (a0:z00) (s6:(List Int) × (List V3) × (List Bool) × Bool) (s9:Int):Option (Sum (Sum ((List Int)) ((List Int) × (List V3) × (List Bool) × Bool)) Int) :=
 if decide (s9<(a0.Ops.length:Int)) then
  (idx s6.2.2.1 s9 >>= fun x12 =>
  if !x12 then
   idx a0.Ops s9 >>= fun x15 =>
   z2i s6.2.1 x15.Preds >>= fun r17 =>
   some r17
  else
   some false) >>= fun s11 =>
  if s11 then
   app 8 s6.1 [s9] >>= fun x20 =>
   idx a0.IDs s9 >>= fun x22 =>
   app 32 s6.2.1 [x22] >>= fun x24 =>
   idx s6.2.2.1 s9 >>= fun x26 =>
   some (.inl (.inr (x20,x24,s6.2.2.1.set (s9:Int).toNat true,true)))
  else
   some (.inr (w64 (s9+1)))
 else
  some (.inl (.inr (s6.1,s6.2.1,s6.2.2.1,false)))
def z6w (a0:z00) (s6:(List Int) × (List V3) × (List Bool) × Bool):Option (Sum ((List Int)) ((List Int) × (List V3) × (List Bool) × Bool)) :=
 if s6.2.2.2 then
  iter (z38 a0 s6) 0
 else
  some (.inl s6.1)
def z8l (a0:z00):Option ((List Int)) :=
 mkn 1 false (a0.Ops.length:Int) >>= fun x2 =>
 (iter (z6w a0) ([],[],x2,true)) >>= fun s5 =>
 some s5
set_option maxHeartbeats 4000000 in
theorem zfy (a0:z00):z1u Tryz.prog 69 [.rd z01 a0] [] (z8l a0) (fun r nv=>⟨[.val (nv 0)],[(100,some (nv 0,.list z07 3 r))]⟩):=by
 refine z2m 51 Tryz.func69 Z Z Z fun H w=>?_
 refine gSR<|Eb Z (bx 1 Z) fun v1=>Zb Z<|gSR<|Zb Z<|gSR<|Zb Z<|gSR<|Zq (faB 1 Z Z Tryz.underlying25 Z (by exact zap))<|Zq (ld 1 Z Z (fP (z08 _)) zdk Z)<|Zq (z3q Z .rd Z tu23)<|z0u fun x2 h3=>Ef Z (mks (R:=z0f) 2 Z Z h3 tu67 ti4 Zr.bool Z) fun v4=>Zb Z<|z7m (fun (s5:(List Int)) aa ww=>∃ nv:Nat→Value,Sta (ctx 51 H [] w) [(3,.val (nv 0))] [(3,some ((nv 0),.list z07 3 s5))] aa ww) ?_ (fun s5=>?_)
 ·
  refine gSR<|Zb Z<|zvl z07 3 6<|zvl aZ 36 7<|z2b (fun (s6:(List Int) × (List V3) × (List Bool) × Bool) aa ww=>∃ nv:Nat→Value,Sta (ctx 51 H [] w) [(1,.val (z05 v1 0)),(3,.val (nv 0)),(4,.val (nv 1)),(5,.val v4),(6,.rd z0f s6.2.2.2)] [(1,some (v1,.box 25 [.rd z01 a0])),(4,some ((nv 0),.list z07 3 s6.1)),(5,some ((nv 1),.list aZ 36 s6.2.1)),(2,some (v4,.list z0f 4 s6.2.2.1))] aa ww) (fun aa ww h=>⟨nvl [(.slice none 0 0),(.slice none 0 0)],Zu h [1,6,7,2]⟩) (fun s6=>?_)
  refine gEx fun n7=>z0w<|gSR<|Zm Z<|Zj Z (fun h8=>?_) (fun h8=>?_)
  ·
   refine gKn 6 Z h8<|Zt<|z58<|gSR<|Zb Z<|gSR<|Zb Z<|z2b (fun (s9:Int) aa ww=>Sta (ctx 51 H [] w) [(1,.val (z05 v1 0)),(3,.val (n7 0)),(4,.val (n7 1)),(5,.val v4),(6,.rd z0f false),(7,.rd z07 s9)] [(1,some (v1,.box 25 [.rd z01 a0])),(4,some ((n7 0),.list z07 3 s6.1)),(5,some ((n7 1),.list aZ 36 s6.2.1)),(2,some (v4,.list z0f 4 s6.2.2.1))] aa ww) (fun aa ww h=>Zu h [1,4,5,2]) (fun s9=>?_)
   refine z0w<|gSR<|Zm Z<|Zq (faB 1 Z Z Tryz.underlying25 Z (by exact zap))<|Zq (ld 1 Z Z (fP (z08 _)) zdk Z)<|Zq (z3q Z .rd Z tu23)<|Zq (I.lss Z Z)<|Zj Z (fun h10=>?_) (fun h10=>?_)
   ·
    refine Zt<|z0w<|z58<|z7m (fun (s11:Bool) aa ww=>Sta (ctx 51 H [] w) [(1,.val (z05 v1 0)),(3,.val (n7 0)),(4,.val (n7 1)),(5,.val v4),(6,.rd z0f false),(7,.rd z07 s9),(34,.rd z0f s11)] [(1,some (v1,.box 25 [.rd z01 a0])),(4,some ((n7 0),.list z07 3 s6.1)),(5,some ((n7 1),.list aZ 36 s6.2.1)),(2,some (v4,.list z0f 4 s6.2.2.1))] aa ww) ?_ (fun s11=>?_)
    ·
     refine z2o<|Zm Z<|Zm Z<|z0u fun x12 h13=>Zq (ixO 2 Z Z Z h13 tu67 ti4)<|Zq (ld 2 Z Z (Foc.el h13) ty4 Z)<|Zq (zd9 Z)<|Zm Z<|z2n 25 Z (fun h14=>?_) (fun h14=>?_)
     ·
      refine lKn 24 Z h14<|z1y Zx Z Z (mv Z)<|z1y Zx Z Z (faB 1 Z Z Tryz.underlying25 Z (by exact zap))<|z1y Zx Z Z (ld 1 Z Z (fP (z08 _)) zdk Z)<|z1y Zx Z Z (mv Z)<|z0u fun x15 h16=>z1y Zx Z Z (ixR Z Z h16 tu23 z88 Z)<|z1y Zx Z Z (faR Z (z0x _) Tryz.underlying46 Z Z (by exact z8p))<|z1y Zx Z Z (ldR Z z9o)<|zew [5] [(1,5)] Zx Z Tryz.func13 Z Z (zet _ _ _ _) (aW Z<|aQ Z<|aN) (y1 Z) fun r17 n18=>Zq (pkT Z Z)<|z23<|z3s (fun aa ww h=>Zu h [1,4,5,2])
     ·
      refine lKn 24 Z h14<|Zk Z<|Zk Z<|Zk Z<|Zk Z<|Zk Z<|Zk Z<|Zk Z<|Zk Z<|Zq (pkF Z Z)<|z23<|z3s (fun aa ww h=>Zu h [1,4,5,2])
    ·
     refine gIf Z Z (fun h19=>?_) (fun h19=>?_)
     ·
      refine z0w<|zrm [(3,.val (n7 0)),(4,.val (n7 1)),(1,.val (z05 v1 0)),(5,.val v4),(7,.rd z07 s9)] [(1,some (v1,.box 25 [.rd z01 a0])),(4,some ((n7 0),.list z07 3 s6.1)),(5,some ((n7 1),.list aZ 36 s6.2.1)),(2,some (v4,.list z0f 4 s6.2.2.1))] [1,4,5,2] (Zs Z Z Z Z<|sS Z<|sN) (Zi Z<|Zi Z<|Zi Z<|Zi Z<|rN)<|z5g fun x20 h21=>z5g fun x22 h23=>z5g fun x24 h25=>z5g fun x26 h27=>gOr [(3,.val (n7 0),14),(4,.val (n7 1),15)] [⟨8,none,[(4,some ([1], fun nv=>((nv 1),.list z07 3 [s9])))]⟩,⟨4,some ([], fun nv=>((n7 0),.list z07 3 s6.1)),[(5,some ([2], fun nv=>((nv 2),.list z07 3 x20)))]⟩,⟨1,some ([], fun nv=>(v1,.box 25 [.rd z01 a0])),[]⟩,⟨9,none,[(12,none)]⟩,⟨5,some ([], fun nv=>((n7 1),.list aZ 36 s6.2.1)),[(13,some ([4], fun nv=>((nv 4),.list aZ 36 x24)))]⟩,⟨2,some ([], fun nv=>(v4,.list z0f 4 s6.2.2.1)),[(17,some ([], fun nv=>(v4,.list z0f 4 (s6.2.2.1.set (s9:Int).toNat true))))]⟩] [pd 35 (.val v4),pd 36 (.rd z07 s9),⟨some (37,[], fun nv=>.val (n7 0)),[],[],[0]⟩,pd 38 (.rd z07 s9),⟨some (39,[1], fun nv=>.val (nv 1)),[(0,0,true)],[1],[]⟩,⟨some (40,[2], fun nv=>.val (nv 2)),[(1,0,true),(0,1,false)],[2],[]⟩,⟨some (41,[], fun nv=>.val (n7 1)),[],[],[1]⟩,pk 42 (.val (z05 v1 (0+0))) [(2,0,false)],pk 43 (.rd (z02 aZ) a0.IDs) [(2,0,false)],pd 44 (.rd z07 s9),pd 45 (.rp aZ x22),pd 46 (.rd aZ x22),⟨some (47,[], fun nv=>.rd (z02 aZ) [x22]),[(3,0,true)],[3],[]⟩,⟨some (48,[4], fun nv=>.val (nv 4)),[(4,0,true)],[4],[]⟩,⟨some (3,[2], fun nv=>.val (nv 2)),[],[],[]⟩,⟨some (4,[4], fun nv=>.val (nv 4)),[],[],[]⟩,pk 49 (.val (z05 v4 ((s9:Int).toNat * 1))) [(5,0,false)],⟨none,[(5,0,true)],[],[]⟩,pd 6 (.rd z0f true)] mixed (oC (oRn (fun nv E=>mv Z))<|oC (oRn (fun nv E=>mv Z))<|oC (oRn (fun nv E=>mv Z))<|oC (oRn (fun nv E=>mv Z))<|oC (oEf 8 1 (fun nv E=>lit (R:=z07) ([s9]:List Int) 8 (pP Z Z<|pN) Z tu80 ti3 Z Z))<|oC (oEf 4 2 (fun nv E=>apn 4 Z Z Z (.own 8 Z) h21 tu80 ti3 Z Z Z))<|oC (oRn (fun nv E=>mv Z))<|oC (oRn (fun nv E=>faB 1 Z Z Tryz.underlying25 Z (by exact z8p)))<|oC (oRn (fun nv E=>ld 1 Z Z (fP (z0b _)) z9o Z))<|oC (oRn (fun nv E=>mv Z))<|oC (oRn (fun nv E=>ixR Z Z h23 tu22 z36 Z))<|oC (oRn (fun nv E=>ldR Z z56))<|oC (oFz (A1:=fun nv=>[(9,some ((nv 3),.list aZ 36 [x22]))]) 9 3 (oEf 9 3 (fun nv E=>lit (R:=aZ) ([x22]:List V3) 9 (pP Z Z<|pN) Z tu22 z36 Z Z)))<|oC (oEf 5 4 (fun nv E=>apn 5 Z Z Z .rd h25 tu22 z36 Z Z Z))<|oC (oRn (fun nv E=>asg Z))<|oC (oRn (fun nv E=>asg Z))<|oC (oRn (fun nv E=>ixO 2 Z Z Z h27 tu67 ti4))<|oC (oEs 2 (fun nv E=>sto 2 Z Z (Foc.el h27) Z ti4))<|oC (oRn (fun nv E=>asg Z))<|oN) fun n28=>z0n<|z24<|z10h Z<|z14<|z13<|z3h<|z1l (fun aa ww h=>⟨nvl [(n28 2),(n28 4)],Zu h [1,4,5,2]⟩)
     ·
      refine z3a<|z3h<|z0n<|z2o<|Zm Z<|Zq (I.add Z Z)<|Za Z<|z23<|z1l (fun aa ww h=>Zu h [1,4,5,2])
   ·
    refine z24<|z14<|z13<|z3h<|z1l (fun aa ww h=>⟨nvl [(n7 0),(n7 1)],Zu h [1,4,5,2]⟩)
  ·
   refine gKn 6 Z h8<|z24<|z14<|z13<|z3s (fun aa ww h=>⟨nvl [(n7 0)],Zu h [4]⟩)
 ·
  refine gEx fun n29=>gSR<|Zm Z<|Zb Z<|z0m<|Ze [(n29 0)] [3] Z
def z4r (a0:z00) (s6:Int):Option (Sum (Sum Int Unit) Int) :=
 if decide (s6<(a0.Ops.length:Int)) then
  idx a0.Ops s6 >>= fun x8 =>
  z2i a0.IDs x8.Preds >>= fun r10 =>
  if !r10 then
   some (.inl (.inl 40))
  else
   some (.inr (w64 (s6+1)))
 else
  some (.inl (.inr ()))
def z8s (a0:z00):Option (Int) :=
 z65 a0.IDs >>= fun r2 =>
 if !r2 then
  some 32
 else
  z6l (iter (z4r a0) 0) fun s5 =>
  z8l a0 >>= fun r13 =>
  if decide ((r13.length:Int)<(a0.Ops.length:Int)) then
   some 36
  else
   some 0
theorem zg4 (a0:z00):z1u Tryz.prog 46 [.rd z01 a0] [] (z8s a0) (fun r nv=>⟨[.rd z07 r],[]⟩):=by
 refine z2m 32 Tryz.func46 Z Z Z fun H w=>?_
 refine gSR<|Eb Z (bx 1 Z) fun v1=>Zb Z<|z0w<|gSR<|Zq (faB 1 Z Z Tryz.underlying25 Z (by exact z8p))<|Zq (ld 1 Z Z (fP (z0b _)) z9o Z)<|Zc [] [] Tryz.func18 Z (zah _) fun r2 n3=>Zq (zd9 Z)<|Zj Z (fun h4=>?_) (fun h4=>?_)
 ·
  refine gSR<|Zb Z<|z0m<|z10<|Ze [] [] Z
 ·
  refine Zt<|z95 (fun (s5:Unit) aa ww=>Sta (ctx 32 H [] w) [(1,.val (z05 v1 0))] [(1,some (v1,.box 25 [.rd z01 a0]))] aa ww) ?_ (fun s5=>?_)
  ·
   refine gSR<|Zb Z<|z2b (fun (s6:Int) aa ww=>Sta (ctx 32 H [] w) [(1,.val (z05 v1 0)),(3,.rd z07 s6)] [(1,some (v1,.box 25 [.rd z01 a0]))] aa ww) (fun aa ww h=>Zu h [1]) (fun s6=>?_)
   refine z0w<|gSR<|Zm Z<|Zq (faB 1 Z Z Tryz.underlying25 Z (by exact zap))<|Zq (ld 1 Z Z (fP (z08 _)) zdk Z)<|Zq (z3q Z .rd Z tu23)<|Zq (I.lss Z Z)<|Zj Z (fun h7=>?_) (fun h7=>?_)
   ·
    refine Zt<|z0w<|z58<|z0w<|z89 [] mixed Z Z<|hTk 0 Z Z (faB 1 Z Z Tryz.underlying25 Z (by exact z8p))<|hTk 1 Z Z (ld 1 Z Z (fP (z0b _)) z9o Z)<|hTk 2 Z Z (faB 1 Z Z Tryz.underlying25 Z (by exact zap))<|hTk 3 Z Z (ld 1 Z Z (fP (z08 _)) zdk Z)<|hTk 4 Z Z (mv Z)<|z51 fun x8 h9=>hTk 5 Z Z (ixR Z Z h9 tu23 z88 Z)<|hTk 6 Z Z (faR Z (z0x _) Tryz.underlying46 Z Z (by exact z8p))<|hTk 7 Z Z (ldR Z z9o)<|z37 8 [] [] Z (by kernel_rfl) Z (gd0 Z) Z Tryz.func13 Z Z (z9s _ _) (Y2 Z Z) rN Z (fun _ _=>za8) fun r10 n11=>hTk 9 Z Z (zd9 Z)<|z3r (by kernel_rfl)<|z0n<|gIf Z Z (fun h12=>?_) (fun h12=>?_)
    ·
     refine gSR<|Zb Z<|z0m<|z4c<|z10<|z85<|z80<|Ze [] [] Z
    ·
     refine z3a<|z3h<|z0n<|z2o<|Zm Z<|Zq (I.add Z Z)<|Za Z<|z23<|z1l (fun aa ww h=>Zu h [1])
   ·
    refine z24<|z14<|z13<|z8b (fun aa ww h=>Zu h [1])
  ·
   refine z0w<|z0w<|z89 [38] mixed Z Z<|hTk 0 Z Z (ld 1 Z Z fH zal Z)<|hTk 3 Z Z (faB 1 Z Z Tryz.underlying25 Z (by exact zap))<|hTk 4 Z Z (ld 1 Z Z (fP (z08 _)) zdk Z)<|hTk 5 Z Z (z3q Z .rd Z tu23)<|z37 1 [] [(100,38)] Z (by kernel_rfl) Z (gd0 Z) Z Tryz.func69 Z Z (zfy _) (Y1 Z) rN Z (fun _ _=>z2s) fun r13 n14=>Zf 2 Z Z z2v (z3q Z (.own 38 Z) Z tu80)<|hTk 6 Z Z (I.lss Z Z)<|z3r (by kernel_rfl)<|z0n<|gIf Z Z (fun h15=>?_) (fun h15=>?_)
   ·
    refine gSR<|Zb Z<|z0m<|z10<|Ze [] [] Z
   ·
    refine Zt<|gSR<|Zb Z<|z0m<|Ze [] [] Z
def z4t (a0:z00) (s5:Int):Option (Sum (Sum Int Unit) Int) :=
 if decide (s5<(a0.Ops.length:Int)) then
  idx a0.Ops s5 >>= fun x7 =>
  z7y x7 >>= fun r9 =>
  if r9 != 0 then
   some (.inl (.inl 8))
  else
   idx a0.Ops s5 >>= fun x12 =>
   idx a0.IDs s5 >>= fun x14 =>
   zan x12 >>= fun r16 =>
   if !decide (r16=x14) then
    some (.inl (.inl 8))
   else
    some (.inr (w64 (s5+1)))
 else
  some (.inl (.inr ()))
def z73 (a0:z00):Option (Int) :=
 if decide (60<(a0.Ops.length:Int)) then
  some 4
 else
  if (a0.IDs.length:Int) != (a0.Ops.length:Int) then
   some 8
  else
   z6l (iter (z4t a0) 0) fun s4 =>
   z8s a0 >>= fun r19 =>
   some r19
theorem zg3 (a0:z00):z1u Tryz.prog 24 [.rd z01 a0] [] (z73 a0) (fun r nv=>⟨[.rd z07 r],[]⟩):=by
 refine z2m 45 Tryz.func24 Z Z Z fun H w=>?_
 refine gSR<|Eb Z (bx 1 Z) fun v1=>Zb Z<|z0w<|gSR<|Zq (faB 1 Z Z Tryz.underlying25 Z (by exact zap))<|Zq (ld 1 Z Z (fP (z08 _)) zdk Z)<|Zq (z3q Z .rd Z tu23)<|Zq (I.gtr Z Z)<|Zj Z (fun h2=>?_) (fun h2=>?_)
 ·
  refine gSR<|Zb Z<|z0m<|z10<|Ze [] [] Z
 ·
  refine Zt<|z0w<|gSR<|Zq (faB 1 Z Z Tryz.underlying25 Z (by exact z8p))<|Zq (ld 1 Z Z (fP (z0b _)) z9o Z)<|Zq (z3q Z .rd Z tu22)<|Zq (faB 1 Z Z Tryz.underlying25 Z (by exact zap))<|Zq (ld 1 Z Z (fP (z08 _)) zdk Z)<|Zq (z3q Z .rd Z tu23)<|Zq (I.neq Z Z)<|Zj Z (fun h3=>?_) (fun h3=>?_)
  ·
   refine gSR<|Zb Z<|z0m<|z10<|Ze [] [] Z
  ·
   refine Zt<|z95 (fun (s4:Unit) aa ww=>Sta (ctx 45 H [] w) [(1,.val (z05 v1 0))] [(1,some (v1,.box 25 [.rd z01 a0]))] aa ww) ?_ (fun s4=>?_)
   ·
    refine gSR<|Zb Z<|z2b (fun (s5:Int) aa ww=>Sta (ctx 45 H [] w) [(1,.val (z05 v1 0)),(3,.rd z07 s5)] [(1,some (v1,.box 25 [.rd z01 a0]))] aa ww) (fun aa ww h=>Zu h [1]) (fun s5=>?_)
    refine z0w<|gSR<|Zm Z<|Zq (faB 1 Z Z Tryz.underlying25 Z (by exact zap))<|Zq (ld 1 Z Z (fP (z08 _)) zdk Z)<|Zq (z3q Z .rd Z tu23)<|Zq (I.lss Z Z)<|Zj Z (fun h6=>?_) (fun h6=>?_)
    ·
     refine Zt<|z0w<|z58<|z0w<|z89 [] mixed Z Z<|hTk 0 Z Z (faB 1 Z Z Tryz.underlying25 Z (by exact zap))<|hTk 1 Z Z (ld 1 Z Z (fP (z08 _)) zdk Z)<|hTk 2 Z Z (mv Z)<|z51 fun x7 h8=>hTk 3 Z Z (ixR Z Z h8 tu23 z88 Z)<|hTk 4 Z Z (ldR Z z9q)<|z37 5 [] [] Z (by kernel_rfl) Z (gd0 Z) Z Tryz.func44 Z Z (zf2 _) (Y1 Z) rN Z (fun _ _=>z2v) fun r9 n10=>hTk 6 Z Z (I.neq Z Z)<|hTk 7 Z Z (mv Z)<|hIf 29 Z Z (fun h11=>?_) (fun h11=>?_)
     ·
      refine hKn 28 Z Z h11<|hSk 8 Z Z<|hSk 9 Z Z<|hSk 10 Z Z<|hSk 11 Z Z<|hSk 12 Z Z<|hSk 13 Z Z<|hSk 14 Z Z<|hSk 15 Z Z<|hSk 16 Z Z<|hSk 17 Z Z<|hSk 18 Z Z<|hSk 19 Z Z<|hTk 20 Z Z (pkT Z Z)<|z3r (by kernel_rfl)<|z0n<|zh1 Z<|gSR<|Zb Z<|z0m<|z4c<|z10<|z85<|z80<|Ze [] [] Z
     ·
      refine hKn 28 Z Z h11<|Zg 8 Z Z (faB 1 Z Z Tryz.underlying25 Z (by exact zap))<|Zg 9 Z Z (ld 1 Z Z (fP (z08 _)) zdk Z)<|Zg 10 Z Z (mv Z)<|z51 fun x12 h13=>Zg 11 Z Z (ixR Z Z h13 tu23 z88 Z)<|Zg 12 Z Z (ldR Z z9q)<|Zg 14 Z Z (faB 1 Z Z Tryz.underlying25 Z (by exact z8p))<|Zg 15 Z Z (ld 1 Z Z (fP (z0b _)) z9o Z)<|Zg 16 Z Z (mv Z)<|z51 fun x14 h15=>Zg 17 Z Z (ixR Z Z h15 tu22 z36 Z)<|Zg 18 Z Z (ldR Z z56)<|zdv 13 [] [] Z (by kernel_rfl) Z Zx Z Tryz.func45 Z Z (zi5 _) (Y1 Z) rN Z fun r16 n17=>zup 19 Z (by kernel_rfl) (by kernel_rfl) (by kernel_rfl) Zx Z Z za8 (neA Z Z zxp Z Z zy2)<|hTk 20 Z Z (pkF Z Z)<|z3r (by kernel_rfl)<|z0n<|gIf Z Z (fun h18=>?_) (fun h18=>?_)
      ·
       refine gKn 41 Z h18<|gSR<|Zb Z<|z0m<|z4c<|z10<|z85<|z80<|Ze [] [] Z
      ·
       refine gKn 41 Z h18<|z3a<|z3h<|z0n<|z2o<|Zm Z<|Zq (I.add Z Z)<|Za Z<|z23<|z1l (fun aa ww h=>Zu h [1])
    ·
     refine z24<|z14<|z13<|z8b (fun aa ww h=>Zu h [1])
   ·
    refine gSR<|Zq (ld 1 Z Z fH zal Z)<|Zc [] [] Tryz.func46 Z (zg4 _) fun r19 n20=>Zb Z<|z0m<|Ze [] [] Z
end
section
open Go Go.RowKit
set_option maxRecDepth 100000
def z3j (a0:z00) (s4:(List (V3 × Int)) × Int):Option (Sum ((List (V3 × Int))) ((List (V3 × Int)) × Int)) :=
 if decide (s4.2<(a0.IDs.length:Int)) then
  idx a0.IDs s4.2 >>= fun x6 =>
  some (.inr (zos s4.1 x6 s4.2,w64 (s4.2+1)))
 else
  some (.inl s4.1)
def z33 (a0:z00):Option ((List (V3 × Int))) :=
 (iter (z3j a0) (([]:List (V3 × Int)),0)) >>= fun s3 =>
 some s3
theorem z5e (a0:z00):z1u Tryz.prog 31 [.rd z01 a0] [] (z33 a0) (fun r nv=>⟨[.val (nv 0)],[(100,some (nv 0,.map aZ z07 r))]⟩):=by
 refine z2m 23 Tryz.func31 Z Z Z fun H w=>?_
 refine gSR<|Eb Z (bx 1 Z) fun v1=>Zb Z<|gSR<|Zq (faB 1 Z Z Tryz.underlying25 Z (by exact z8p))<|Zq (ld 1 Z Z (fP (z0b _)) z9o Z)<|Zq (z3q Z .rd Z tu22)<|Ef Z (mkm aZ z07 2 (Or.inr ⟨_,_,Z,rfl⟩) Tryz.underlying65) fun v2=>Zb Z<|z7m (fun (s3:(List (V3 × Int))) aa ww=>Sta (ctx 23 H [] w) [(3,.val v2)] [(2,some (v2,.map aZ z07 s3))] aa ww) ?_ (fun s3=>?_)
 ·
  refine gSR<|Zq (faB 1 Z Z Tryz.underlying25 Z (by exact z8p))<|Zq (ld 1 Z Z (fP (z0b _)) z9o Z)<|Zq (z3q Z .rd Z tu22)<|Zm Z<|Zn<|z2b (fun (s4:(List (V3 × Int)) × Int) aa ww=>Sta (ctx 23 H [] w) [(3,.val v2),(11,.rd (z02 aZ) a0.IDs),(12,.rd z07 (a0.IDs.length:Int)),(13,.rd z07 s4.2)] [(2,some (v2,.map aZ z07 s4.1))] aa ww) (fun aa ww h=>Zu h [2]) (fun s4=>?_)
  refine gSR<|Zq (I.lss Z Z)<|Zn<|z0w<|gIf Z Z (fun h5=>?_) (fun h5=>?_)
  ·
   refine Zt<|z0w<|z58<|gSR<|Zm Z<|z0u fun x6 h7=>Zq (ixR Z Z h7 tu22 z36 Z)<|Zq (ldR Z z56)<|Eb Z (z7q 3 z36 (.zr (R:=aZ) (x:=(Vector.replicate 32 0)) zhl)) fun v8=>Za Z<|Es (sto 3 Z Z fH Z z36)<|Zn<|z2o<|Zm Z<|Zq (ld 3 Z Z fH z56 Z)<|Zm Z<|Es (mup 2 Z Z Z Z zwa Tryz.underlying65)<|z23<|z3h<|z0n<|z2o<|Zq (I.add Z Z)<|Zm Z<|z23<|z1l (fun aa ww h=>Zu h [2])
  ·
   refine z24<|z14<|z13<|z3s (fun aa ww h=>Zu h [2])
 ·
  refine gSR<|Zm Z<|Zb Z<|z0m<|Ze [v2] [2] Z
def z5j (a0:z00) (a1:List Bool) (s3:(List V3) × Int):Option (Sum ((List V3)) ((List V3) × Int)) :=
 if decide (s3.2<(a1.length:Int)) then
  idx a1 s3.2 >>= fun x6 =>
  if x6 then
   idx a0.IDs s3.2 >>= fun x9 =>
   app 32 s3.1 [x9] >>= fun x12 =>
   some (.inr (x12,w64 (s3.2+1)))
  else
   some (.inr (s3.1,w64 (s3.2+1)))
 else
  some (.inl s3.1)
def z7h (a0:z00) (a1:List Bool):Option ((List V3)) :=
 (iter (z5j a0 a1) ([],0)) >>= fun s2 =>
 some s2
theorem zbx (a0:z00) (a1:List Bool):z1u Tryz.prog 39 [.rd z01 a0,.rd (z02 z0f) a1] [] (z7h a0 a1) (fun r nv=>⟨[.val (nv 0)],[(100,some (nv 0,.list aZ 36 r))]⟩):=by
 refine z2m 26 Tryz.func39 Z Z Z fun H w=>?_
 refine gSR<|Eb Z (bx 1 Z) fun v1=>Zb Z<|gSR<|Zb Z<|z7m (fun (s2:(List V3)) aa ww=>∃ nv:Nat→Value,Sta (ctx 26 H [] w) [(5,.val (nv 0))] [(3,some ((nv 0),.list aZ 36 s2))] aa ww) ?_ (fun s2=>?_)
 ·
  refine gSR<|Zm Z<|Zq (z3q Z .rd Z tu67)<|Zm Z<|Zn<|zvl aZ 36 6<|z2b (fun (s3:(List V3) × Int) aa ww=>∃ nv:Nat→Value,Sta (ctx 26 H [] w) [(1,.rd (z02 z0f) a1),(2,.val (z05 v1 0)),(5,.val (nv 0)),(8,.rd z07 (a1.length:Int)),(9,.rd z07 s3.2)] [(1,some (v1,.box 25 [.rd z01 a0])),(5,some ((nv 0),.list aZ 36 s3.1))] aa ww) (fun aa ww h=>⟨nvl [(.slice none 0 0)],Zu h [1,6]⟩) (fun s3=>?_)
  refine gEx fun n4=>gSR<|Zq (I.lss Z Z)<|Zn<|z0w<|gIf Z Z (fun h5=>?_) (fun h5=>?_)
  ·
   refine Zt<|z0w<|z58<|gSR<|Zm Z<|Zb Z<|gSR<|Zm Z<|Zm Z<|z0u fun x6 h7=>Zq (ixR Z Z h7 tu67 ti4 Z)<|Zq (ldR Z ty4)<|Zj Z (fun h8=>?_) (fun h8=>?_)
   ·
    refine z2o<|Zm Z<|Zq (faB 1 Z Z Tryz.underlying25 Z (by exact z8p))<|Zq (ld 1 Z Z (fP (z0b _)) z9o Z)<|Zm Z<|z0u fun x9 h10=>Zq (ixR Z Z h10 tu22 z36 Z)<|Zq (ldR Z z56)<|Ef Z (lit (R:=aZ) ([x9]:List V3) 7 (pP Z Z<|pN) Z tu22 z36 Z Z) fun v11=>zhq 7 [22] Z (fS Z<|fN)<|z0u fun x12 h13=>Ef Z (apn 5 Z Z Z .rd h13 tu22 z36 Z Z Z) fun v14=>Za Z<|z23<|z3h<|z0n<|z2o<|Zq (I.add Z Z)<|Zm Z<|z23<|z1l (fun aa ww h=>⟨nvl [v14],Zu h [1,5]⟩)
   ·
    refine z3a<|z3h<|z0n<|z2o<|Zq (I.add Z Z)<|Zm Z<|z23<|z1l (fun aa ww h=>⟨nvl [(n4 0)],Zu h [1,5]⟩)
  ·
   refine z24<|z14<|z13<|z3s (fun aa ww h=>⟨nvl [(n4 0)],Zu h [5]⟩)
 ·
  refine gEx fun n15=>gSR<|Zm Z<|Zb Z<|z0m<|Ze [(n15 0)] [3] Z
def z6b (x7:List Bool) (s11:(List Bool) × Int):Option (Sum ((List Bool)) ((List Bool) × Int)) :=
 if decide (s11.2<(x7.length:Int)) then
  idx s11.1 s11.2 >>= fun x13 =>
  some (.inr (s11.1.set (s11.2:Int).toNat true,w64 (s11.2+1)))
 else
  some (.inl s11.1)
def z68 (r5:(List (V3 × Int))) (x19:z06) (s22:(List Bool) × Int):Option (Sum ((List Bool)) ((List Bool) × Int)) :=
 if decide (s22.2<(x19.Preds.length:Int)) then
  idx x19.Preds s22.2 >>= fun x24 =>
  idx s22.1 ((zc3 r5 x24).getD 0) >>= fun x27 =>
  some (.inr (s22.1.set ((zc3 r5 x24).getD 0:Int).toNat false,w64 (s22.2+1)))
 else
  some (.inl s22.1)
def z63 (a0:z00) (r5:(List (V3 × Int))) (s16:(List Bool) × Int):Option (Sum ((List Bool)) ((List Bool) × Int)) :=
 if decide (s16.2<(a0.Ops.length:Int)) then
  (idx a0.Ops s16.2 >>= fun x19 =>
  iter (z68 r5 x19) (s16.1,0)) >>= fun s18 =>
  some (.inr (s18,w64 (s16.2+1)))
 else
  some (.inl s16.1)
def z8k (a0:z00):Option ((List V3) × Int) :=
 z49 a0 >>= fun r2 =>
 if r2 != 0 then
  some ([],r2)
 else
  z33 a0 >>= fun r5 =>
  mkn 1 false (a0.IDs.length:Int) >>= fun x7 =>
  (iter (z6b x7) (x7,0)) >>= fun s10 =>
  (iter (z63 a0 r5) (s10,0)) >>= fun s15 =>
  z7h a0 s15 >>= fun r29 =>
  some (r29,0)
theorem zha (a0:z00):z1u Tryz.prog 16 [.rd z01 a0] [zG1] (z8k a0) (fun r nv=>⟨[.val (nv 0),.rd z07 r.2],[(1001,some (.bool true,.glob 1 (z2y 64 z0i) z4q)),(100,some (nv 0,.list aZ 36 r.1))]⟩):=by
 refine z2m 56 Tryz.func16 Z Z Z fun H w=>?_
 refine gSR<|Eb Z (bx 1 Z) fun v1=>Za Z<|Zb Z<|z0w<|gSR<|Zq (ld 1 Z Z fH zal Z)<|Zc [1001] [] Tryz.func23 Z (zbu _) fun r2 n3=>Zb Z<|gSR<|Zm Z<|Zq (I.neq Z Z)<|Zj Z (fun h4=>?_) (fun h4=>?_)
 ·
  refine gSR<|Zm Z<|Za Z<|Zb Z<|z0m<|z10<|zpm aZ 36 2<|Ze [(.slice none 0 0)] [1001,2] Z
 ·
  refine Zt<|gSR<|Zq (ld 1 Z Z fH zal Z)<|Zc [] [(100,3)] Tryz.func31 Z (z5e _) fun r5 n6=>Zb Z<|gSR<|Zq (faB 1 Z Z Tryz.underlying25 Z (by exact z8p))<|Zq (ld 1 Z Z (fP (z0b _)) z9o Z)<|Zq (z3q Z .rd Z tu22)<|z0u fun x7 h8=>Ef Z (mks (R:=z0f) 4 Z Z h8 tu67 ti4 Zr.bool Z) fun v9=>Zb Z<|z7m (fun (s10:(List Bool)) aa ww=>Sta (ctx 56 H [zG1] w) [(1,.val (z05 v1 0)),(5,.val (n6 0)),(6,.val v9)] [(1,some (v1,.box 25 [.rd z01 a0])),(3,some ((n6 0),.map aZ z07 r5)),(4,some (v9,.list z0f 4 s10)),zG1] aa ww) ?_ (fun s10=>?_)
  ·
   refine gSR<|Zm Z<|Zq (z3q Z (.own 4 Z) Z tu67)<|Zm Z<|Zn<|z2b (fun (s11:(List Bool) × Int) aa ww=>Sta (ctx 56 H [zG1] w) [(1,.val (z05 v1 0)),(5,.val (n6 0)),(6,.val v9),(24,.rd z07 (x7.length:Int)),(25,.rd z07 s11.2)] [(1,some (v1,.box 25 [.rd z01 a0])),(3,some ((n6 0),.map aZ z07 r5)),(4,some (v9,.list z0f 4 s11.1)),zG1] aa ww) (fun aa ww h=>Zu h [1,3,4,1001]) (fun s11=>?_)
   refine gSR<|Zq (I.lss Z Z)<|Zn<|z0w<|gIf Z Z (fun h12=>?_) (fun h12=>?_)
   ·
    refine Zt<|z0w<|z58<|gSR<|Zm Z<|Zb Z<|z2o<|Zm Z<|Zm Z<|z0u fun x13 h14=>Zq (ixO 4 Z Z Z h14 tu67 ti4)<|Es (sto 4 Z Z (Foc.el h14) Z ti4)<|z23<|z3h<|z0n<|z2o<|Zq (I.add Z Z)<|Zm Z<|z23<|z1l (fun aa ww h=>Zu h [1,3,4,1001])
   ·
    refine z24<|z14<|z13<|z3s (fun aa ww h=>Zu h [1,3,4,1001])
  ·
   refine z7m (fun (s15:(List Bool)) aa ww=>Sta (ctx 56 H [zG1] w) [(1,.val (z05 v1 0)),(6,.val v9)] [(1,some (v1,.box 25 [.rd z01 a0])),(4,some (v9,.list z0f 4 s15)),zG1] aa ww) ?_ (fun s15=>?_)
   ·
    refine gSR<|Zq (faB 1 Z Z Tryz.underlying25 Z (by exact zap))<|Zq (ld 1 Z Z (fP (z08 _)) zdk Z)<|Zq (z3q Z .rd Z tu23)<|Zm Z<|Zn<|z2b (fun (s16:(List Bool) × Int) aa ww=>Sta (ctx 56 H [zG1] w) [(1,.val (z05 v1 0)),(5,.val (n6 0)),(6,.val v9),(33,.rd (z02 z03) a0.Ops),(34,.rd z07 (a0.Ops.length:Int)),(35,.rd z07 s16.2)] [(1,some (v1,.box 25 [.rd z01 a0])),(3,some ((n6 0),.map aZ z07 r5)),(4,some (v9,.list z0f 4 s16.1)),zG1] aa ww) (fun aa ww h=>Zu h [1,3,4,1001]) (fun s16=>?_)
    refine gSR<|Zq (I.lss Z Z)<|Zn<|z0w<|gIf Z Z (fun h17=>?_) (fun h17=>?_)
    ·
     refine Zt<|z7m (fun (s18:(List Bool)) aa ww=>Sta (ctx 56 H [zG1] w) [(1,.val (z05 v1 0)),(5,.val (n6 0)),(6,.val v9),(33,.rd (z02 z03) a0.Ops),(34,.rd z07 (a0.Ops.length:Int)),(35,.rd z07 s16.2)] [(1,some (v1,.box 25 [.rd z01 a0])),(3,some ((n6 0),.map aZ z07 r5)),(4,some (v9,.list z0f 4 s18)),zG1] aa ww) ?_ (fun s18=>?_)
     ·
      refine z58<|gSR<|z0u fun x19 h20=>Zq (ixR Z Z h20 tu23 z88 Z)<|Zq (ldR Z z9q)<|Eb Z (z7q 1100 z88 (ZrE.rd (R:=z0i) (x:=0) (Zr.num Z) (ZrE.nilS (ZrE.rd (R:=z2e) (x:=0) (Zr.num Z) (ZrE.rd (R:=z0g) (x:=(⟨0,[],(⟨0,0,0,[]⟩:z04)⟩:z0k)) zn0 (ZrE.rd (R:=z0l) (x:=(⟨0,0⟩:z09)) zl1 ZrE.nil Z) Z) Z)) Z)) fun v21=>zhh aZ [.rd z0i 0,.rd (z02 aZ) [],.rd z2e 0,.rd z0g (⟨0,[],(⟨0,0,0,[]⟩:z04)⟩:z0k),.rd z0l (⟨0,0⟩:z09)] 1100 [.rd z0i 0] [.rd z2e 0,.rd z0g (⟨0,[],(⟨0,0,0,[]⟩:z04)⟩:z0k),.rd z0l (⟨0,0⟩:z09)] Z Z Z<|zgu (R:=z03) (⟨0,[],0,(⟨0,[],(⟨0,0,0,[]⟩:z04)⟩:z0k),(⟨0,0⟩:z09)⟩:z06) 1100 Z (Sp.via (Sp.prod (Sp.prod (Sp.prod (Sp.prod (Sp.prod Sp.unit))))))<|Es (sto 1100 Z Z fH Z z88)<|Zn<|gSR<|Zq (faB 1100 Z Z Tryz.underlying46 Z (by exact z8p))<|Zq (ld 1100 Z Z (fP (z0x _)) z9o Z)<|Zq (z3q Z .rd Z tu22)<|Zm Z<|Zn<|z2b (fun (s22:(List Bool) × Int) aa ww=>Sta (ctx 56 H [zG1] w) [(1,.val (z05 v1 0)),(5,.val (n6 0)),(6,.val v9),(33,.rd (z02 z03) a0.Ops),(34,.rd z07 (a0.Ops.length:Int)),(35,.rd z07 s16.2),(40,.rd (z02 aZ) x19.Preds),(41,.rd z07 (x19.Preds.length:Int)),(42,.rd z07 s22.2)] [(1,some (v1,.box 25 [.rd z01 a0])),(3,some ((n6 0),.map aZ z07 r5)),(4,some (v9,.list z0f 4 s22.1)),zG1] aa ww) (fun aa ww h=>Zu h [1,3,4,1001]) (fun s22=>?_)
      refine gSR<|Zq (I.lss Z Z)<|Zn<|z0w<|gIf Z Z (fun h23=>?_) (fun h23=>?_)
      ·
       refine Zt<|z0w<|z58<|gSR<|z0u fun x24 h25=>Zq (ixR Z Z h25 tu22 z36 Z)<|Zq (ldR Z z56)<|Eb Z (z7q 1101 z36 (.zr (R:=aZ) (x:=(Vector.replicate 32 0)) zhl)) fun v26=>Es (sto 1101 Z Z fH Z z36)<|Zn<|z2o<|Zm Z<|Zm Z<|Zq (ld 1101 Z Z fH z56 Z)<|Zq (mlk Z (.own 3 Z Z) Z zwa Tryz.underlying65 ti3 (Zr.num Z) Z)<|z0u fun x27 h28=>Zq (ixO 4 Z Z Z h28 tu67 ti4)<|Es (sto 4 Z Z (Foc.el h28) Z ti4)<|z23<|z3h<|z0n<|z2o<|Zq (I.add Z Z)<|Zm Z<|z23<|z1l (fun aa ww h=>Zu h [1,3,4,1001])
      ·
       refine z24<|z14<|z13<|z3h<|z3s (fun aa ww h=>Zu h [1,3,4,1001])
     ·
      refine z2o<|Zq (I.add Z Z)<|Zm Z<|z23<|z1l (fun aa ww h=>Zu h [1,3,4,1001])
    ·
     refine z24<|z14<|z13<|z3s (fun aa ww h=>Zu h [1,4,1001])
   ·
    refine gSR<|Zq (ld 1 Z Z fH zal Z)<|Zm Z<|zhq 4 [6,54] Z (fS Z<|fS Z<|fN)<|Zc [] [(100,1102)] Tryz.func39 Z (zbx _ _) fun r29 n30=>Za Z<|Zb Z<|z0m<|Ze [(n30 0)] [1001,1102] Z
def z9j (a0:V3) (c1_0:List Bool) (c2_0:List (V3 × Int)):Option (Bool) :=
 idx c1_0 ((zc3 c2_0 a0).getD 0) >>= fun x2 =>
 some (!x2)
theorem zdo (a0:V3) (p1_0:Value) (q1_0:Value) (c1_0:List Bool) (p2_0:Value) (q2_0:Value) (c2_0:List (V3 × Int)):z1u Tryz.prog 34 [.rd aZ a0,.val (z05 p1_0 0),.val (z05 p2_0 0)] [(1,some (p1_0,.box 67 [.val q1_0])),(2,some (q1_0,.list z0f 4 c1_0)),(3,some (p2_0,.box 65 [.val q2_0])),(4,some (q2_0,.map aZ z07 c2_0))] (z9j a0 c1_0 c2_0) (fun r nv=>⟨[.rd z0f r],[(1,some (p1_0,.box 67 [.val q1_0])),(2,some (q1_0,.list z0f 4 c1_0)),(3,some (p2_0,.box 65 [.val q2_0])),(4,some (q2_0,.map aZ z07 c2_0))]⟩):=by
 refine z2m 12 Tryz.func34 Z Z Z fun H w=>?_
 refine gSR<|Eb Z (bx 5 Z) fun v1=>Zb Z<|z0w<|zgl mixed (by kernel_rfl)<|Rq Z (ldV 1 Z Z .here sc67 Z)<|Rq Z (ldV 3 Z Z .here sc65 Z)<|Rq Z (ld 5 Z Z fH z56 Z)<|Rq Z (mlk Z (.own 4 Z Z) Z zwa Tryz.underlying65 ti3 (Zr.num Z) Z)<|z7c fun x2 h3=>Rq Z (ixO 2 Z Z Z h3 tu67 ti4)<|Rq Z (ld 2 Z Z (Foc.el h3) ty4 Z)<|Rq Z (zd9 Z)<|Rq Z (asg Z)<|zq9<|z0n<|z0m<|Ze [] [1,2,3,4] Z
def z0v (a0:List V3) (c1_0:List Bool) (c1_1:List (V3 × Int)) (s2:Int):Option (Sum (Sum Int Unit) Int) :=
 if decide (s2<(a0.length:Int)) then
  idx a0 s2 >>= fun x4 =>
  z9j x4 c1_0 c1_1 >>= fun r6 =>
  if r6 then
   some (.inl (.inl s2))
  else
   some (.inr (w64 (s2+1)))
 else
  some (.inl (.inr ()))
def z1m (a0:List V3) (c1_0:List Bool) (c1_1:List (V3 × Int)):Option (Int) :=
 z6l (iter (z0v a0 c1_0 c1_1) 0) fun s1 =>
 some (-1)
theorem z4m (a0:List V3) (p1_0:Value) (q1_0:Value) (c1_0:List Bool) (p1_1:Value) (q1_1:Value) (c1_1:List (V3 × Int)):z1u Tryz.prog 54 [.rd (z02 aZ) a0,.val (.func (.func 34) #[] #[z05 p1_0 0,z05 p1_1 0])] [(1,some (p1_0,.box 67 [.val q1_0])),(2,some (q1_0,.list z0f 4 c1_0)),(3,some (p1_1,.box 65 [.val q1_1])),(4,some (q1_1,.map aZ z07 c1_1))] (z1m a0 c1_0 c1_1) (fun r nv=>⟨[.rd z07 r],[(1,some (p1_0,.box 67 [.val q1_0])),(2,some (q1_0,.list z0f 4 c1_0)),(3,some (p1_1,.box 65 [.val q1_1])),(4,some (q1_1,.map aZ z07 c1_1))]⟩):=by
 refine z2m 19 Tryz.func54 Z Z Z fun H w=>?_
 refine gSR<|Zb Z<|z95 (fun (s1:Unit) aa ww=>Sta (ctx 19 H [(1,some (p1_0,.box 67 [.val q1_0])),(2,some (q1_0,.list z0f 4 c1_0)),(3,some (p1_1,.box 65 [.val q1_1])),(4,some (q1_1,.map aZ z07 c1_1))] w) [] [(2,some (q1_0,.list z0f 4 c1_0)),(1,some (p1_0,.box 67 [.val q1_0])),(4,some (q1_1,.map aZ z07 c1_1)),(3,some (p1_1,.box 65 [.val q1_1]))] aa ww) ?_ (fun s1=>?_)
 ·
  refine gSR<|Zm Z<|Zq (z3q Z .rd Z tu22)<|Zm Z<|Zn<|z2b (fun (s2:Int) aa ww=>Sta (ctx 19 H [(1,some (p1_0,.box 67 [.val q1_0])),(2,some (q1_0,.list z0f 4 c1_0)),(3,some (p1_1,.box 65 [.val q1_1])),(4,some (q1_1,.map aZ z07 c1_1))] w) [(0,.rd (z02 aZ) a0),(1,.val (.func (.func 34) #[] #[z05 p1_0 0,z05 p1_1 0])),(7,.rd z07 (a0.length:Int)),(8,.rd z07 s2)] [(2,some (q1_0,.list z0f 4 c1_0)),(1,some (p1_0,.box 67 [.val q1_0])),(4,some (q1_1,.map aZ z07 c1_1)),(3,some (p1_1,.box 65 [.val q1_1]))] aa ww) (fun aa ww h=>Zu h [2,1,4,3]) (fun s2=>?_)
  refine gSR<|Zq (I.lss Z Z)<|Zn<|z0w<|gIf Z Z (fun h3=>?_) (fun h3=>?_)
  ·
   refine Zt<|z0w<|z58<|gSR<|Zm Z<|Zb Z<|gSR<|Zm Z<|Zm Z<|Zm Z<|z0u fun x4 h5=>Zq (ixR Z Z h5 tu22 z36 Z)<|Zq (ldR Z z56)<|zj1 [1,2,3,4] [(1,1),(2,2),(3,3),(4,4)] (gd0 Z) Z Z Tryz.func34 Z Z (zdo _ _ _ _ _ _ _) (Y1 Z) (cQ 1 Z<|cQ 3 Z<|cN) (Zi Z<|Zi Z<|Zi Z<|Zi Z<|rN) fun r6 n7=>Zj Z (fun h8=>?_) (fun h8=>?_)
   ·
    refine gSR<|Zm Z<|Zb Z<|z0m<|z4c<|z10<|z85<|z80<|Ze [] [1,2,3,4] Z
   ·
    refine z3a<|z3h<|z0n<|z2o<|Zq (I.add Z Z)<|Zm Z<|z23<|z1l (fun aa ww h=>Zu h [2,1,4,3])
  ·
   refine z24<|z14<|z13<|z8b (fun aa ww h=>Zu h [2,1,4,3])
 ·
  refine gSR<|Zb Z<|z0m<|Ze [] [1,2,3,4] Z
def z16 (a0:List V3) (c1_0:List Bool) (c1_1:List (V3 × Int)):Option (Bool) :=
 z1m a0 c1_0 c1_1 >>= fun r1 =>
 some (decide (0≤r1)) >>= fun y3 =>
 some y3
theorem z44 (a0:List V3) (p1_0:Value) (q1_0:Value) (c1_0:List Bool) (p1_1:Value) (q1_1:Value) (c1_1:List (V3 × Int)):z1u Tryz.prog 33 [.rd (z02 aZ) a0,.val (.func (.func 34) #[] #[z05 p1_0 0,z05 p1_1 0])] [(1,some (p1_0,.box 67 [.val q1_0])),(2,some (q1_0,.list z0f 4 c1_0)),(3,some (p1_1,.box 65 [.val q1_1])),(4,some (q1_1,.map aZ z07 c1_1))] (z16 a0 c1_0 c1_1) (fun r nv=>⟨[.rd z0f r],[(1,some (p1_0,.box 67 [.val q1_0])),(2,some (q1_0,.list z0f 4 c1_0)),(3,some (p1_1,.box 65 [.val q1_1])),(4,some (q1_1,.map aZ z07 c1_1))]⟩):=by
 refine z2m 9 Tryz.func33 Z Z Z fun H w=>?_
 refine gSR<|Zb Z<|gSR<|Zm Z<|Zm Z<|Zc [1,2,3,4] [(1,1),(2,2),(3,3),(4,4)] Tryz.func54 Z (z4m _ _ _ _ _ _ _) fun r1 n2=>Zq (I.geq Z Z)<|Za Z<|z1z 4 Z fun y3=>Zn<|z0m<|Ze [] [1,2,3,4] Z
def z8t (a0:Int) (c1_0:List Bool) (c2_0:z00) (c3_0:List (V3 × Int)):Option (Bool) :=
 idx c1_0 a0 >>= fun x1 =>
 if !x1 then
  idx c2_0.Ops a0 >>= fun x4 =>
  z16 x4.Preds c1_0 c3_0 >>= fun r6 =>
  some (!r6)
 else
  some false
theorem zfi (a0:Int) (p1_0:Value) (q1_0:Value) (c1_0:List Bool) (p2_0:Value) (c2_0:z00) (p3_0:Value) (q3_0:Value) (c3_0:List (V3 × Int)):z1u Tryz.prog 32 [.rd z07 a0,.val (z05 p1_0 0),.val (z05 p2_0 0),.val (z05 p3_0 0)] [(1,some (p1_0,.box 67 [.val q1_0])),(2,some (q1_0,.list z0f 4 c1_0)),(3,some (p2_0,.box 25 [.rd z01 c2_0])),(4,some (p3_0,.box 65 [.val q3_0])),(5,some (q3_0,.map aZ z07 c3_0))] (z8t a0 c1_0 c2_0 c3_0) (fun r nv=>⟨[.rd z0f r],[(1,some (p1_0,.box 67 [.val q1_0])),(2,some (q1_0,.list z0f 4 c1_0)),(3,some (p2_0,.box 25 [.rd z01 c2_0])),(4,some (p3_0,.box 65 [.val q3_0])),(5,some (q3_0,.map aZ z07 c3_0))]⟩):=by
 refine z2m 22 Tryz.func32 Z Z Z fun H w=>?_
 refine gSR<|Zb Z<|gSR<|Zq (ldV 1 Z Z .here sc67 Z)<|Zm Z<|z0u fun x1 h2=>Zq (ixO 2 Z Z Z h2 tu67 ti4)<|Zq (ld 2 Z Z (Foc.el h2) ty4 Z)<|Zq (zd9 Z)<|Zm Z<|z2n 11 Z (fun h3=>?_) (fun h3=>?_)
 ·
  refine lKn 10 Z h3<|z1y Zx Z Z (faB 3 Z Z Tryz.underlying25 Z (by exact zap))<|z1y Zx Z Z (ld 3 Z Z (fP (z08 _)) zdk Z)<|z1y Zx Z Z (mv Z)<|z0u fun x4 h5=>z1y Zx Z Z (ixR Z Z h5 tu23 z88 Z)<|z1y Zx Z Z (faR Z (z0x _) Tryz.underlying46 Z Z (by exact z8p))<|z1y Zx Z Z (ldR Z z9o)<|z1y Zx Z Z (mkf mp0 (mp2 Z Z))<|zew [1,2,4,5] [(1,1),(2,2),(3,4),(4,5)] Zx Z Tryz.func33 Z Z (z44 _ _ _ _ _ _ _) (Y2 Z Z) (Zi Z<|Zi Z<|Zi Z<|Zi Z<|rN) fun r6 n7=>z1y Zx Z Z (zd9 Z)<|Zq (pkT Z Z)<|Zb Z<|z0m<|Ze [] [1,2,3,4,5] Z
 ·
  refine lKn 10 Z h3<|Zk Z<|Zk Z<|Zk Z<|Zk Z<|Zk Z<|Zk Z<|Zk Z<|Zk Z<|Zk Z<|Zq (pkF Z Z)<|Zb Z<|z0m<|Ze [] [1,2,3,4,5] Z
def z64 (a0:z00) (r5:(List (V3 × Int))) (s13:(List Bool) × (List V3) × Int) (s17:Int):Option (Sum Int Int) :=
 z8t s17 s13.1 a0 r5 >>= fun r18 =>
 if !r18 then
  some (w64 (s17+1)) >>= fun y21 =>
  some (.inr y21)
 else
  some (.inl s17)
def z7x (a0:z00) (r5:(List (V3 × Int))) (s13:(List Bool) × (List V3) × Int):Option (Sum ((List V3)) ((List Bool) × (List V3) × Int)) :=
 if decide (s13.2.2<(a0.IDs.length:Int)) then
  (iter (z64 a0 r5 s13) 0) >>= fun s16 =>
  idx s13.1 s16 >>= fun x22 =>
  idx a0.IDs s16 >>= fun x24 =>
  app 32 s13.2.1 [x24] >>= fun x27 =>
  some (.inr (s13.1.set (s16:Int).toNat true,x27,w64 (s13.2.2+1)))
 else
  some (.inl s13.2.1)
def z4i (a0:z00):Option ((List V3) × Int) :=
 z49 a0 >>= fun r2 =>
 if r2 != 0 then
  some ([],r2)
 else
  z33 a0 >>= fun r5 =>
  mkn 1 false (a0.IDs.length:Int) >>= fun x8 =>
  (iter (z7x a0 r5) (x8,[],0)) >>= fun s12 =>
  some (s12,0)
theorem z7p (a0:z00):z1u Tryz.prog 10 [.rd z01 a0] [zG1] (z4i a0) (fun r nv=>⟨[.val (nv 0),.rd z07 r.2],[(1001,some (.bool true,.glob 1 (z2y 64 z0i) z4q)),(100,some (nv 0,.list aZ 36 r.1))]⟩):=by
 refine z2m 46 Tryz.func10 Z Z Z fun H w=>?_
 refine gSR<|Eb Z (bx 1 Z) fun v1=>Za Z<|Zb Z<|z0w<|gSR<|Zq (ld 1 Z Z fH zal Z)<|Zc [1001] [] Tryz.func23 Z (zbu _) fun r2 n3=>Zb Z<|gSR<|Zm Z<|Zq (I.neq Z Z)<|Zj Z (fun h4=>?_) (fun h4=>?_)
 ·
  refine gSR<|Zm Z<|Za Z<|Zb Z<|z0m<|z10<|zpm aZ 36 2<|Ze [(.slice none 0 0)] [1001,2] Z
 ·
  refine Zt<|gSR<|Zq (ld 1 Z Z fH zal Z)<|Zc [] [(100,3)] Tryz.func31 Z (z5e _) fun r5 n6=>Eb Z (z7q 4 ti65 (.val Z)) fun v7=>Es (zo8 4 Z Z (.here z0a) Z z1v z0a ti65)<|Zn<|gSR<|Zq (faB 1 Z Z Tryz.underlying25 Z (by exact z8p))<|Zq (ld 1 Z Z (fP (z0b _)) z9o Z)<|Zq (z3q Z .rd Z tu22)<|z0u fun x8 h9=>Ef Z (mks (R:=z0f) 5 Z Z h9 tu67 ti4 Zr.bool Z) fun v10=>Eb Z (z7q 6 ti67 (.val Z)) fun v11=>Es (zo8 6 Z Z (.here z0a) Z z1v z0a ti67)<|Zn<|gSR<|Zq (mkf mp0 (mp3 Z Z Z))<|Zb Z<|gSR<|Zb Z<|z7m (fun (s12:(List V3)) aa ww=>∃ nv:Nat→Value,Sta (ctx 46 H [zG1] w) [(8,.val (nv 0))] [(1101,some ((nv 0),.list aZ 36 s12)),zG1] aa ww) ?_ (fun s12=>?_)
  ·
   refine gSR<|Zq (faB 1 Z Z Tryz.underlying25 Z (by exact z8p))<|Zq (ld 1 Z Z (fP (z0b _)) z9o Z)<|Zq (z3q Z .rd Z tu22)<|Zm Z<|Zn<|zvl aZ 36 1104<|z2b (fun (s13:(List Bool) × (List V3) × Int) aa ww=>∃ nv:Nat→Value,Sta (ctx 46 H [zG1] w) [(1,.val (z05 v1 0)),(6,.val (z05 v11 0)),(7,.val (.func (.func 32) #[] #[z05 v11 0,z05 v1 0,z05 v7 0])),(8,.val (nv 0)),(24,.rd z07 (a0.IDs.length:Int)),(25,.rd z07 s13.2.2)] [(1,some (v1,.box 25 [.rd z01 a0])),(5,some (v10,.list z0f 4 s13.1)),(6,some (v11,.box 67 [.val v10])),(3,some ((n6 0),.map aZ z07 r5)),(4,some (v7,.box 65 [.val (n6 0)])),(1103,some ((nv 0),.list aZ 36 s13.2.1)),zG1] aa ww) (fun aa ww h=>⟨nvl [(.slice none 0 0)],Zu h [1,5,6,3,4,1104,1001]⟩) (fun s13=>?_)
   refine gEx fun n14=>gSR<|Zq (I.lss Z Z)<|Zn<|z0w<|gIf Z Z (fun h15=>?_) (fun h15=>?_)
   ·
    refine Zt<|z0w<|z58<|gSR<|Zb Z<|z7m (fun (s16:Int) aa ww=>Sta (ctx 46 H [zG1] w) [(1,.val (z05 v1 0)),(6,.val (z05 v11 0)),(7,.val (.func (.func 32) #[] #[z05 v11 0,z05 v1 0,z05 v7 0])),(8,.val (n14 0)),(9,.rd z07 s16),(24,.rd z07 (a0.IDs.length:Int)),(25,.rd z07 s13.2.2)] [(1,some (v1,.box 25 [.rd z01 a0])),(5,some (v10,.list z0f 4 s13.1)),(6,some (v11,.box 67 [.val v10])),(3,some ((n6 0),.map aZ z07 r5)),(4,some (v7,.box 65 [.val (n6 0)])),(1103,some ((n14 0),.list aZ 36 s13.2.1)),zG1] aa ww) ?_ (fun s16=>?_)
    ·
     refine z2b (fun (s17:Int) aa ww=>Sta (ctx 46 H [zG1] w) [(1,.val (z05 v1 0)),(6,.val (z05 v11 0)),(7,.val (.func (.func 32) #[] #[z05 v11 0,z05 v1 0,z05 v7 0])),(8,.val (n14 0)),(9,.rd z07 s17),(24,.rd z07 (a0.IDs.length:Int)),(25,.rd z07 s13.2.2)] [(1,some (v1,.box 25 [.rd z01 a0])),(5,some (v10,.list z0f 4 s13.1)),(6,some (v11,.box 67 [.val v10])),(3,some ((n6 0),.map aZ z07 r5)),(4,some (v7,.box 65 [.val (n6 0)])),(1103,some ((n14 0),.list aZ 36 s13.2.1)),zG1] aa ww) (fun aa ww h=>Zu h [1,5,6,3,4,1103,1001]) (fun s17=>?_)
     refine z0w<|gSR<|Zm Z<|Zm Z<|zj1 [6,5,1,4,3] [(1,6),(2,5),(3,1),(4,4),(5,3)] (gd0 Z) Z Z Tryz.func32 Z Z (zfi _ _ _ _ _ _ _ _ _) (Y1 Z) (cQ 6 Z<|cQ 1 Z<|cQ 4 Z<|cN) (Zi Z<|Zi Z<|Zi Z<|Zi Z<|Zi Z<|rN) fun r18 n19=>Zq (zd9 Z)<|Zj Z (fun h20=>?_) (fun h20=>?_)
     ·
      refine Zt<|z58<|z2o<|Zm Z<|Zq (I.add Z Z)<|Za Z<|z1z 9 Z fun y21=>z23<|z3h<|z1l (fun aa ww h=>Zu h [1,5,6,3,4,1103,1001])
     ·
      refine z24<|z14<|z13<|z3s (fun aa ww h=>Zu h [1,5,6,3,4,1103,1001])
    ·
     refine gSR<|Zq (ldV 6 Z Z .here sc67 Z)<|Zm Z<|z0u fun x22 h23=>Zq (ixO 5 Z Z Z h23 tu67 ti4)<|Es (sto 5 Z Z (Foc.el h23) Z ti4)<|Zn<|z2o<|Zm Z<|Zq (faB 1 Z Z Tryz.underlying25 Z (by exact z8p))<|Zq (ld 1 Z Z (fP (z0b _)) z9o Z)<|Zm Z<|z0u fun x24 h25=>Zq (ixR Z Z h25 tu22 z36 Z)<|Zq (ldR Z z56)<|Ef Z (lit (R:=aZ) ([x24]:List V3) 1105 (pP Z Z<|pN) Z tu22 z36 Z Z) fun v26=>zhq 1105 [42] Z (fS Z<|fN)<|z0u fun x27 h28=>Ef Z (apn 1103 Z Z Z .rd h28 tu22 z36 Z Z Z) fun v29=>Za Z<|z23<|z3h<|z0n<|z2o<|Zq (I.add Z Z)<|Zm Z<|z23<|z1l (fun aa ww h=>⟨nvl [v29],Zu h [1,5,6,3,4,1103,1001]⟩)
   ·
    refine z24<|z14<|z13<|z3s (fun aa ww h=>⟨nvl [(n14 0)],Zu h [1103,1001]⟩)
  ·
   refine gEx fun n30=>gSR<|Zm Z<|Za Z<|Zb Z<|z0m<|Ze [(n30 0)] [1001,1101] Z
def z6t (c1_0:List (V3 × Int)) (c3_0:z00) (rec:V3→(List (V3 × Int))→(List Bool)→z00→Option ((List Bool))) (x8:z06) (s10:(List Bool) × Int):Option (Sum ((List Bool)) ((List Bool) × Int)) :=
 if decide (s10.2<(x8.Preds.length:Int)) then
  idx x8.Preds s10.2 >>= fun x12 =>
  rec x12 c1_0 s10.1 c3_0 >>= fun r15 =>
  some (.inr (r15,w64 (s10.2+1)))
 else
  some (.inl s10.1)
def z5p (rec:V3→(List (V3 × Int))→(List Bool)→z00→Option ((List Bool))) (a0:V3) (c1_0:List (V3 × Int)) (c2_0:List Bool) (c3_0:z00):Option ((List Bool)) :=
 some ((zc3 c1_0 a0).getD 0) >>= fun y2 =>
 idx c2_0 y2 >>= fun x3 =>
 if x3 then
  some c2_0
 else
  idx c2_0 y2 >>= fun x6 =>
  idx c3_0.Ops y2 >>= fun x8 =>
  iter (z6t c1_0 c3_0 rec x8) (c2_0.set (y2:Int).toNat true,0)
def z2f:Nat→V3→(List (V3 × Int))→(List Bool)→z00→Option ((List Bool))
 | 0,_,_,_,_=>none
 | N+1,a0,c1_0,c2_0,c3_0=>z5p (z2f N) a0 c1_0 c2_0 c3_0
theorem zfu (rec:V3→(List (V3 × Int))→(List Bool)→z00→Option ((List Bool))) (ih:∀ (a0:V3) (p1_0:Value) (q1_0:Value) (c1_0:List (V3 × Int)) (p2_0:Value) (q2_0:Value) (c2_0:List Bool) (p3_0:Value) (c3_0:z00) (p4_0:Value),z1u Tryz.prog 63 [.rd aZ a0,.val (z05 p1_0 0),.val (z05 p2_0 0),.val (z05 p3_0 0),.val (z05 p4_0 0)] [(1,some (p1_0,.box 65 [.val q1_0])),(2,some (q1_0,.map aZ z07 c1_0)),(3,some (p2_0,.box 67 [.val q2_0])),(4,some (q2_0,.list z0f 4 c2_0)),(5,some (p3_0,.box 25 [.rd z01 c3_0])),(6,some (p4_0,.box 98 [.val (.func (.func 63) #[] #[z05 p1_0 0,z05 p2_0 0,z05 p3_0 0,z05 p4_0 0])]))] (rec a0 c1_0 c2_0 c3_0) (fun r nv=>⟨[],[(1,some (p1_0,.box 65 [.val q1_0])),(2,some (q1_0,.map aZ z07 c1_0)),(3,some (p2_0,.box 67 [.val q2_0])),(4,some (q2_0,.list z0f 4 r)),(5,some (p3_0,.box 25 [.rd z01 c3_0])),(6,some (p4_0,.box 98 [.val (.func (.func 63) #[] #[z05 p1_0 0,z05 p2_0 0,z05 p3_0 0,z05 p4_0 0])]))]⟩)) (a0:V3) (p1_0:Value) (q1_0:Value) (c1_0:List (V3 × Int)) (p2_0:Value) (q2_0:Value) (c2_0:List Bool) (p3_0:Value) (c3_0:z00) (p4_0:Value):z1u Tryz.prog 63 [.rd aZ a0,.val (z05 p1_0 0),.val (z05 p2_0 0),.val (z05 p3_0 0),.val (z05 p4_0 0)] [(1,some (p1_0,.box 65 [.val q1_0])),(2,some (q1_0,.map aZ z07 c1_0)),(3,some (p2_0,.box 67 [.val q2_0])),(4,some (q2_0,.list z0f 4 c2_0)),(5,some (p3_0,.box 25 [.rd z01 c3_0])),(6,some (p4_0,.box 98 [.val (.func (.func 63) #[] #[z05 p1_0 0,z05 p2_0 0,z05 p3_0 0,z05 p4_0 0])]))] (z5p rec a0 c1_0 c2_0 c3_0) (fun r nv=>⟨[],[(1,some (p1_0,.box 65 [.val q1_0])),(2,some (q1_0,.map aZ z07 c1_0)),(3,some (p2_0,.box 67 [.val q2_0])),(4,some (q2_0,.list z0f 4 r)),(5,some (p3_0,.box 25 [.rd z01 c3_0])),(6,some (p4_0,.box 98 [.val (.func (.func 63) #[] #[z05 p1_0 0,z05 p2_0 0,z05 p3_0 0,z05 p4_0 0])]))]⟩):=by
 refine z2m 34 Tryz.func63 Z Z Z fun H w=>?_
 refine gSR<|Eb Z (bx 7 Z) fun v1=>Zn<|gSR<|Zq (ldV 1 Z Z .here sc65 Z)<|Zq (ld 7 Z Z fH z56 Z)<|Zq (mlk Z (.own 2 Z Z) Z zwa Tryz.underlying65 ti3 (Zr.num Z) Z)<|Za Z<|z1z 6 Z fun y2=>Zn<|z0w<|gSR<|Zq (ldV 3 Z Z .here sc67 Z)<|Zm Z<|z0u fun x3 h4=>Zq (ixO 4 Z Z Z h4 tu67 ti4)<|Zq (ld 4 Z Z (Foc.el h4) ty4 Z)<|Zj Z (fun h5=>?_) (fun h5=>?_)
 ·
  refine z0m<|z10<|Ze [] [1,2,3,4,5,6] Z
 ·
  refine Zt<|gSR<|Zq (ldV 3 Z Z .here sc67 Z)<|Zm Z<|z0u fun x6 h7=>Zq (ixO 4 Z Z Z h7 tu67 ti4)<|Es (sto 4 Z Z (Foc.el h7) Z ti4)<|Zn<|gSR<|Zq (faB 5 Z Z Tryz.underlying25 Z (by exact zap))<|Zq (ld 5 Z Z (fP (z08 _)) zdk Z)<|Zm Z<|z0u fun x8 h9=>Zq (ixR Z Z h9 tu23 z88 Z)<|Zq (faR Z (z0x _) Tryz.underlying46 Z Z (by exact z8p))<|Zq (ldR Z z9o)<|Zq (z3q Z .rd Z tu22)<|Zm Z<|Zn<|z2b (fun (s10:(List Bool) × Int) aa ww=>Sta (ctx 34 H [(1,some (p1_0,.box 65 [.val q1_0])),(2,some (q1_0,.map aZ z07 c1_0)),(3,some (p2_0,.box 67 [.val q2_0])),(4,some (q2_0,.list z0f 4 c2_0)),(5,some (p3_0,.box 25 [.rd z01 c3_0])),(6,some (p4_0,.box 98 [.val (.func (.func 63) #[] #[z05 p1_0 0,z05 p2_0 0,z05 p3_0 0,z05 p4_0 0])]))] w) [(4,.val (z05 p4_0 0)),(24,.rd (z02 aZ) x8.Preds),(25,.rd z07 (x8.Preds.length:Int)),(26,.rd z07 s10.2)] [(6,some (p4_0,.box 98 [.val (.func (.func 63) #[] #[z05 p1_0 0,z05 p2_0 0,z05 p3_0 0,z05 p4_0 0])])),(2,some (q1_0,.map aZ z07 c1_0)),(1,some (p1_0,.box 65 [.val q1_0])),(4,some (q2_0,.list z0f 4 s10.1)),(3,some (p2_0,.box 67 [.val q2_0])),(5,some (p3_0,.box 25 [.rd z01 c3_0]))] aa ww) (fun aa ww h=>Zu h [6,2,1,4,3,5]) (fun s10=>?_)
  refine gSR<|Zq (I.lss Z Z)<|Zn<|z0w<|gIf Z Z (fun h11=>?_) (fun h11=>?_)
  ·
   refine Zt<|z0w<|z58<|gSR<|z0u fun x12 h13=>Zq (ixR Z Z h13 tu22 z36 Z)<|Zq (ldR Z z56)<|Eb Z (z7q 8 z36 (.zr (R:=aZ) (x:=(Vector.replicate 32 0)) zhl)) fun v14=>Es (sto 8 Z Z fH Z z36)<|Zn<|z2o<|Zq (ldV 6 Z Z .here sc98 Z)<|Zq (ld 8 Z Z fH z56 Z)<|zj1 [1,2,3,4,5,6] [(1,1),(2,2),(3,3),(4,4),(5,5),(6,6)] (gd0 Z) Z Z Tryz.func63 Z Z (ih _ _ _ _ _ _ _ _ _ _) (Y1 Z) (cQ 1 Z<|cQ 3 Z<|cQ 5 Z<|cQ 6 Z<|cN) (Zi Z<|Zi Z<|Zi Z<|Zi Z<|Zi Z<|Zi Z<|rN) fun r15 n16=>z23<|z3h<|z0n<|z2o<|Zq (I.add Z Z)<|Zm Z<|z23<|z1l (fun aa ww h=>Zu h [6,2,1,4,3,5])
  ·
   refine z24<|z14<|z13<|Ze [] [1,2,3,4,5,6] Z
theorem zaj:∀ (N:Nat) (a0:V3) (p1_0:Value) (q1_0:Value) (c1_0:List (V3 × Int)) (p2_0:Value) (q2_0:Value) (c2_0:List Bool) (p3_0:Value) (c3_0:z00) (p4_0:Value),z1u Tryz.prog 63 [.rd aZ a0,.val (z05 p1_0 0),.val (z05 p2_0 0),.val (z05 p3_0 0),.val (z05 p4_0 0)] [(1,some (p1_0,.box 65 [.val q1_0])),(2,some (q1_0,.map aZ z07 c1_0)),(3,some (p2_0,.box 67 [.val q2_0])),(4,some (q2_0,.list z0f 4 c2_0)),(5,some (p3_0,.box 25 [.rd z01 c3_0])),(6,some (p4_0,.box 98 [.val (.func (.func 63) #[] #[z05 p1_0 0,z05 p2_0 0,z05 p3_0 0,z05 p4_0 0])]))] (z2f N a0 c1_0 c2_0 c3_0) (fun r nv=>⟨[],[(1,some (p1_0,.box 65 [.val q1_0])),(2,some (q1_0,.map aZ z07 c1_0)),(3,some (p2_0,.box 67 [.val q2_0])),(4,some (q2_0,.list z0f 4 r)),(5,some (p3_0,.box 25 [.rd z01 c3_0])),(6,some (p4_0,.box 98 [.val (.func (.func 63) #[] #[z05 p1_0 0,z05 p2_0 0,z05 p3_0 0,z05 p4_0 0])]))]⟩)
 | 0,a0,p1_0,q1_0,c1_0,p2_0,q2_0,c2_0,p3_0,c3_0,p4_0=>fun r hr=>absurd hr (by simp [z2f])
 | N+1,a0,p1_0,q1_0,c1_0,p2_0,q2_0,c2_0,p3_0,c3_0,p4_0=>zfu (z2f N) (zaj N) a0 p1_0 q1_0 c1_0 p2_0 q2_0 c2_0 p3_0 c3_0 p4_0
theorem zfj (a0:V3) (p1_0:Value) (q1_0:Value) (c1_0:List (V3 × Int)) (p2_0:Value) (q2_0:Value) (c2_0:List Bool) (p3_0:Value) (c3_0:z00) (p4_0:Value):z1u Tryz.prog 63 [.rd aZ a0,.val (z05 p1_0 0),.val (z05 p2_0 0),.val (z05 p3_0 0),.val (z05 p4_0 0)] [(1,some (p1_0,.box 65 [.val q1_0])),(2,some (q1_0,.map aZ z07 c1_0)),(3,some (p2_0,.box 67 [.val q2_0])),(4,some (q2_0,.list z0f 4 c2_0)),(5,some (p3_0,.box 25 [.rd z01 c3_0])),(6,some (p4_0,.box 98 [.val (.func (.func 63) #[] #[z05 p1_0 0,z05 p2_0 0,z05 p3_0 0,z05 p4_0 0])]))] (z2f 1000 a0 c1_0 c2_0 c3_0) (fun r nv=>⟨[],[(1,some (p1_0,.box 65 [.val q1_0])),(2,some (q1_0,.map aZ z07 c1_0)),(3,some (p2_0,.box 67 [.val q2_0])),(4,some (q2_0,.list z0f 4 r)),(5,some (p3_0,.box 25 [.rd z01 c3_0])),(6,some (p4_0,.box 98 [.val (.func (.func 63) #[] #[z05 p1_0 0,z05 p2_0 0,z05 p3_0 0,z05 p4_0 0])]))]⟩):=zaj 1000 a0 p1_0 q1_0 c1_0 p2_0 q2_0 c2_0 p3_0 c3_0 p4_0
def z7v (a0:z00) (a1:List V3) (r2:(List (V3 × Int))) (s11:(List Bool) × Int):Option (Sum ((List Bool)) ((List Bool) × Int)) :=
 if decide (s11.2<(a1.length:Int)) then
  idx a1 s11.2 >>= fun x13 =>
  (z2f 1000) x13 r2 s11.1 a0 >>= fun r16 =>
  some (.inr (r16,w64 (s11.2+1)))
 else
  some (.inl s11.1)
def z8e (a0:z00) (a1:List V3):Option ((List Bool)) :=
 z33 a0 >>= fun r2 =>
 mkn 1 false (a0.IDs.length:Int) >>= fun x5 =>
 (iter (z7v a0 a1 r2) (x5,0)) >>= fun s10 =>
 some s10
theorem zc8 (a0:z00) (a1:List V3):z1u Tryz.prog 40 [.rd z01 a0,.rd (z02 aZ) a1] [] (z8e a0 a1) (fun r nv=>⟨[.val (nv 0)],[(100,some (nv 0,.list z0f 4 r))]⟩):=by
 refine z2m 28 Tryz.func40 Z Z Z fun H w=>?_
 refine gSR<|Eb Z (bx 1 Z) fun v1=>Zb Z<|gSR<|Zq (ld 1 Z Z fH zal Z)<|Zc [] [(100,2)] Tryz.func31 Z (z5e _) fun r2 n3=>Eb Z (z7q 3 ti65 (.val Z)) fun v4=>Es (zo8 3 Z Z (.here z0a) Z z1v z0a ti65)<|Zn<|gSR<|Zq (faB 1 Z Z Tryz.underlying25 Z (by exact z8p))<|Zq (ld 1 Z Z (fP (z0b _)) z9o Z)<|Zq (z3q Z .rd Z tu22)<|z0u fun x5 h6=>Ef Z (mks (R:=z0f) 4 Z Z h6 tu67 ti4 Zr.bool Z) fun v7=>Eb Z (z7q 5 ti67 (.val Z)) fun v8=>Es (zo8 5 Z Z (.here z0a) Z z1v z0a ti67)<|Zn<|gSR<|Eb Z (z7q 6 ti98 (.val Z)) fun v9=>Zn<|gSR<|Zq (mkf mp0 (mp4 Z Z Z Z))<|Es (zo8 6 Z Z (.here z0a) Z z1v z0a ti98)<|Zn<|z7m (fun (s10:(List Bool)) aa ww=>Sta (ctx 28 H [] w) [(6,.val (z05 v8 0))] [(4,some (v7,.list z0f 4 s10)),(5,some (v8,.box 67 [.val v7]))] aa ww) ?_ (fun s10=>?_)
 ·
  refine gSR<|Zm Z<|Zq (z3q Z .rd Z tu22)<|Zm Z<|Zn<|z2b (fun (s11:(List Bool) × Int) aa ww=>Sta (ctx 28 H [] w) [(6,.val (z05 v8 0)),(7,.val (z05 v9 0)),(17,.rd (z02 aZ) a1),(18,.rd z07 (a1.length:Int)),(19,.rd z07 s11.2)] [(4,some (v7,.list z0f 4 s11.1)),(5,some (v8,.box 67 [.val v7])),(6,some (v9,.box 98 [.val (.func (.func 63) #[] #[z05 v4 0,z05 v8 0,z05 v1 0,z05 v9 0])])),(2,some ((n3 0),.map aZ z07 r2)),(3,some (v4,.box 65 [.val (n3 0)])),(1,some (v1,.box 25 [.rd z01 a0]))] aa ww) (fun aa ww h=>Zu h [4,5,6,2,3,1]) (fun s11=>?_)
  refine gSR<|Zq (I.lss Z Z)<|Zn<|z0w<|gIf Z Z (fun h12=>?_) (fun h12=>?_)
  ·
   refine Zt<|z0w<|z58<|gSR<|z0u fun x13 h14=>Zq (ixR Z Z h14 tu22 z36 Z)<|Zq (ldR Z z56)<|Eb Z (z7q 7 z36 (.zr (R:=aZ) (x:=(Vector.replicate 32 0)) zhl)) fun v15=>Es (sto 7 Z Z fH Z z36)<|Zn<|z2o<|Zq (ldV 6 Z Z .here sc98 Z)<|Zq (ld 7 Z Z fH z56 Z)<|zj1 [3,2,5,4,1,6] [(1,3),(2,2),(3,5),(4,4),(5,1),(6,6)] (gd0 Z) Z Z Tryz.func63 Z Z (zfj _ _ _ _ _ _ _ _ _ _) (Y1 Z) (cQ 3 Z<|cQ 5 Z<|cQ 1 Z<|cQ 6 Z<|cN) (Zi Z<|Zi Z<|Zi Z<|Zi Z<|Zi Z<|Zi Z<|rN) fun r16 n17=>z23<|z3h<|z0n<|z2o<|Zq (I.add Z Z)<|Zm Z<|z23<|z1l (fun aa ww h=>Zu h [4,5,6,2,3,1])
  ·
   refine z24<|z14<|z13<|z3s (fun aa ww h=>Zu h [4,5])
 ·
  refine gSR<|Zq (ldV 5 Z Z .here sc67 Z)<|Zb Z<|z0m<|Ze [v7] [4] Z
def z9f (a0:z00) (a1:V3):Option (Int × Int) :=
 z49 a0 >>= fun r3 =>
 if r3 != 0 then
  some (0,r3)
 else
  z0c a0.IDs a1 >>= fun r6 =>
  if !r6.2 then
   some (0,6)
  else
   some (r6.1,0)
theorem zdf (a0:z00) (a1:V3):z1u Tryz.prog 43 [.rd z01 a0,.rd aZ a1] [zG1] (z9f a0 a1) (fun r nv=>⟨[.rd z07 r.1,.rd z07 r.2],[(1001,some (.bool true,.glob 1 (z2y 64 z0i) z4q))]⟩):=by
 refine z2m 24 Tryz.func43 Z Z Z fun H w=>?_
 refine gSR<|Eb Z (bx 1 Z) fun v1=>Eb Z (bx 2 Z) fun v2=>Za Z<|Zb Z<|z0w<|gSR<|Zq (ld 1 Z Z fH zal Z)<|Zc [1001] [] Tryz.func23 Z (zbu _) fun r3 n4=>Zb Z<|gSR<|Zm Z<|Zq (I.neq Z Z)<|Zj Z (fun h5=>?_) (fun h5=>?_)
 ·
  refine gSR<|Zm Z<|Za Z<|Zb Z<|z0m<|z10<|Ze [] [1001] Z
 ·
  refine Zt<|gSR<|Zq (faB 1 Z Z Tryz.underlying25 Z (by exact z8p))<|Zq (ld 1 Z Z (fP (z0b _)) z9o Z)<|Zq (ld 2 Z Z fH z56 Z)<|Zc [] [] Tryz.func64 Z (z28 _ _) fun r6 n7=>Zm Z<|Zq (ext Z Z)<|Zq (ext Z Z)<|Za Z<|Zb Z<|z0w<|gSR<|Zm Z<|Zq (zd9 Z)<|Zj Z (fun h8=>?_) (fun h8=>?_)
  ·
   refine gSR<|Za Z<|Zb Z<|z0m<|z10<|Ze [] [1001] Z
  ·
   refine Zt<|gSR<|Zm Z<|Za Z<|Zb Z<|z0m<|Ze [] [1001] Z
def z5k (a0:z00) (a1:V3):Option ((List V3) × Int) :=
 z9f a0 a1 >>= fun r3 =>
 if r3.2 != 0 then
  some ([],r3.2)
 else
  idx a0.Ops r3.1 >>= fun x6 =>
  z8e a0 x6.Preds >>= fun r8 =>
  z7h a0 r8 >>= fun r10 =>
  some (r10,0)
theorem ze8 (a0:z00) (a1:V3):z1u Tryz.prog 20 [.rd z01 a0,.rd aZ a1] [zG1] (z5k a0 a1) (fun r nv=>⟨[.val (nv 0),.rd z07 r.2],[(1001,some (.bool true,.glob 1 (z2y 64 z0i) z4q)),(100,some (nv 0,.list aZ 36 r.1))]⟩):=by
 refine z2m 27 Tryz.func20 Z Z Z fun H w=>?_
 refine gSR<|Eb Z (bx 1 Z) fun v1=>Eb Z (bx 2 Z) fun v2=>Za Z<|Zb Z<|gSR<|Zq (ld 1 Z Z fH zal Z)<|Zq (ld 2 Z Z fH z56 Z)<|Zc [1001] [] Tryz.func43 Z (zdf _ _) fun r3 n4=>Zm Z<|Zq (ext Z Z)<|Zq (ext Z Z)<|Za Z<|Zb Z<|z0w<|gSR<|Zm Z<|Zq (I.neq Z Z)<|Zj Z (fun h5=>?_) (fun h5=>?_)
 ·
  refine gSR<|Zm Z<|Za Z<|Zb Z<|z0m<|z10<|zpm aZ 36 3<|Ze [(.slice none 0 0)] [1001,3] Z
 ·
  refine Zt<|z0w<|z89 [28,31] mixed Z Z<|hTk 0 Z Z (ld 1 Z Z fH zal Z)<|hTk 1 Z Z (ld 1 Z Z fH zal Z)<|hTk 2 Z Z (faB 1 Z Z Tryz.underlying25 Z (by exact zap))<|hTk 3 Z Z (ld 1 Z Z (fP (z08 _)) zdk Z)<|hTk 4 Z Z (mv Z)<|z51 fun x6 h7=>hTk 5 Z Z (ixR Z Z h7 tu23 z88 Z)<|hTk 6 Z Z (faR Z (z0x _) Tryz.underlying46 Z Z (by exact z8p))<|hTk 7 Z Z (ldR Z z9o)<|z37 8 [] [(100,28)] Z (by kernel_rfl) Z (gd0 Z) Z Tryz.func40 Z Z (zc8 _ _) (Y2 Z Z) rN Z (fun _ _=>z2s) fun r8 n9=>zsw 28 [25] Z (fS Z<|fN)<|z37 9 [] [(100,31)] Z (by kernel_rfl) Z (gd0 Z) Z Tryz.func39 Z Z (zbx _ _) (Y2 Z Z) rN Z (fun _ _=>z2s) fun r10 n11=>Zf 10 Z Z z2s (asg Z)<|hTk 11 Z Z (asg Z)<|z3r (by kernel_rfl)<|z0n<|z0m<|Ze [(n11 0)] [1001,31] Z
def z6a (r6:(List (V3 × Int))) (x18:V3) (x21:z06) (s23:(List Int) × Int):Option (Sum ((List Int)) ((List Int) × Int)) :=
 if decide (s23.2<(x21.Preds.length:Int)) then
  idx x21.Preds s23.2 >>= fun x25 =>
  idx s23.1 ((zc3 r6 x18).getD 0) >>= fun x28 =>
  idx s23.1 ((zc3 r6 x25).getD 0) >>= fun x30 =>
  idx s23.1 ((zc3 r6 x18).getD 0) >>= fun x32 =>
  some (.inr (s23.1.set ((zc3 r6 x18).getD 0:Int).toNat (max x28 (w64 (x30+1))),w64 (s23.2+1)))
 else
  some (.inl s23.1)
def z6i (a0:z00) (r6:(List (V3 × Int))) (r8:(List V3) × Int) (s15:(List Int) × Int):Option (Sum ((List Int)) ((List Int) × Int)) :=
 if decide (s15.2<(r8.1.length:Int)) then
  (idx r8.1 s15.2 >>= fun x18 =>
  idx a0.Ops ((zc3 r6 x18).getD 0) >>= fun x21 =>
  iter (z6a r6 x18 x21) (s15.1,0)) >>= fun s17 =>
  some (.inr (s17,w64 (s15.2+1)))
 else
  some (.inl s15.1)
def z8i (a0:z00) (a1:V3):Option (Int × Int) :=
 z9f a0 a1 >>= fun r3 =>
 if r3.2 != 0 then
  some (0,r3.2)
 else
  z33 a0 >>= fun r6 =>
  z4i a0 >>= fun r8 =>
  if r8.2 != 0 then
   some (0,r8.2)
  else
   mkn 8 0 (a0.IDs.length:Int) >>= fun x11 =>
   (iter (z6i a0 r6 r8) (x11,0)) >>= fun s14 =>
   idx s14 r3.1 >>= fun x35 =>
   some (x35,0)
set_option maxHeartbeats 4000000 in
theorem zhe (a0:z00) (a1:V3):z1u Tryz.prog 22 [.rd z01 a0,.rd aZ a1] [zG1] (z8i a0 a1) (fun r nv=>⟨[.rd z07 r.1,.rd z07 r.2],[(1001,some (.bool true,.glob 1 (z2y 64 z0i) z4q))]⟩):=by
 refine z2m 82 Tryz.func22 Z Z Z fun H w=>?_
 refine gSR<|Eb Z (bx 1 Z) fun v1=>Eb Z (bx 2 Z) fun v2=>Za Z<|Zb Z<|gSR<|Zq (ld 1 Z Z fH zal Z)<|Zq (ld 2 Z Z fH z56 Z)<|Zc [1001] [] Tryz.func43 Z (zdf _ _) fun r3 n4=>Zm Z<|Zq (ext Z Z)<|Zq (ext Z Z)<|Za Z<|Zb Z<|z0w<|gSR<|Zm Z<|Zq (I.neq Z Z)<|Zj Z (fun h5=>?_) (fun h5=>?_)
 ·
  refine gSR<|Zm Z<|Za Z<|Zb Z<|z0m<|z10<|Ze [] [1001] Z
 ·
  refine Zt<|gSR<|Zq (ld 1 Z Z fH zal Z)<|Zc [] [(100,3)] Tryz.func31 Z (z5e _) fun r6 n7=>Zb Z<|gSR<|Zq (ld 1 Z Z fH zal Z)<|Zc [1001] [(100,4)] Tryz.func10 Z (z7p _) fun r8 n9=>Zm Z<|Zq (ext Z Z)<|Zq (ext Z Z)<|Za Z<|Zb Z<|z0w<|gSR<|Zm Z<|Zq (I.neq Z Z)<|Zj Z (fun h10=>?_) (fun h10=>?_)
  ·
   refine gSR<|Zm Z<|Za Z<|Zb Z<|z0m<|z10<|Ze [] [1001] Z
  ·
   refine Zt<|gSR<|Zq (faB 1 Z Z Tryz.underlying25 Z (by exact z8p))<|Zq (ld 1 Z Z (fP (z0b _)) z9o Z)<|Zq (z3q Z .rd Z tu22)<|z0u fun x11 h12=>Ef Z (mks (R:=z07) 5 Z Z h12 tu80 ti3 (Zr.num Z) Z) fun v13=>Zb Z<|z7m (fun (s14:(List Int)) aa ww=>Sta (ctx 82 H [zG1] w) [(6,.rd z07 r3.1),(10,.val v13)] [(5,some (v13,.list z07 3 s14)),zG1] aa ww) ?_ (fun s14=>?_)
   ·
    refine gSR<|Zm Z<|Zq (z3q Z (.own 4 Z) Z tu22)<|Zm Z<|Zn<|z2b (fun (s15:(List Int) × Int) aa ww=>Sta (ctx 82 H [zG1] w) [(2,.val (z05 v1 0)),(6,.rd z07 r3.1),(8,.val (n7 0)),(10,.val v13),(38,.val (n9 0)),(39,.rd z07 (r8.1.length:Int)),(40,.rd z07 s15.2)] [(1,some (v1,.box 25 [.rd z01 a0])),(3,some ((n7 0),.map aZ z07 r6)),(5,some (v13,.list z07 3 s15.1)),(4,some ((n9 0),.list aZ 36 r8.1)),zG1] aa ww) (fun aa ww h=>Zu h [1,3,5,4,1001]) (fun s15=>?_)
    refine gSR<|Zq (I.lss Z Z)<|Zn<|z0w<|gIf Z Z (fun h16=>?_) (fun h16=>?_)
    ·
     refine Zt<|z7m (fun (s17:(List Int)) aa ww=>Sta (ctx 82 H [zG1] w) [(2,.val (z05 v1 0)),(6,.rd z07 r3.1),(8,.val (n7 0)),(10,.val v13),(38,.val (n9 0)),(39,.rd z07 (r8.1.length:Int)),(40,.rd z07 s15.2)] [(1,some (v1,.box 25 [.rd z01 a0])),(3,some ((n7 0),.map aZ z07 r6)),(5,some (v13,.list z07 3 s17)),(4,some ((n9 0),.list aZ 36 r8.1)),zG1] aa ww) ?_ (fun s17=>?_)
     ·
      refine z58<|gSR<|z0u fun x18 h19=>Zq (ixO 4 Z Z Z h19 tu22 z36)<|Zq (ld 4 Z Z (Foc.el h19) z56 Z)<|Eb Z (z7q 1100 z36 (.zr (R:=aZ) (x:=(Vector.replicate 32 0)) zhl)) fun v20=>Es (sto 1100 Z Z fH Z z36)<|Zn<|z0w<|zgl mixed (by kernel_rfl)<|Rq Z (faB 1 Z Z Tryz.underlying25 Z (by exact zap))<|Rq Z (ld 1 Z Z (fP (z08 _)) zdk Z)<|Rq Z (mv Z)<|Rq Z (ld 1100 Z Z fH z56 Z)<|Rq Z (mlk Z (.own 3 Z Z) Z zwa Tryz.underlying65 ti3 (Zr.num Z) Z)<|z7c fun x21 h22=>Rq Z (ixR Z Z h22 tu23 z88 Z)<|Rq Z (faR Z (z0x _) Tryz.underlying46 Z Z (by exact z8p))<|Rq Z (ldR Z z9o)<|Rq Z (z3q Z .rd Z tu22)<|Rq Z (mv Z)<|zq9<|z0n<|z2b (fun (s23:(List Int) × Int) aa ww=>Sta (ctx 82 H [zG1] w) [(2,.val (z05 v1 0)),(6,.rd z07 r3.1),(8,.val (n7 0)),(10,.val v13),(12,.val (z05 v20 0)),(38,.val (n9 0)),(39,.rd z07 (r8.1.length:Int)),(40,.rd z07 s15.2),(51,.rd (z02 aZ) x21.Preds),(52,.rd z07 (x21.Preds.length:Int)),(53,.rd z07 s23.2)] [(1,some (v1,.box 25 [.rd z01 a0])),(3,some ((n7 0),.map aZ z07 r6)),(5,some (v13,.list z07 3 s23.1)),(1100,some (v20,.box 36 [.rd aZ x18])),(4,some ((n9 0),.list aZ 36 r8.1)),zG1] aa ww) (fun aa ww h=>Zu h [1,3,5,1100,4,1001]) (fun s23=>?_)
      refine gSR<|Zq (I.lss Z Z)<|Zn<|z0w<|gIf Z Z (fun h24=>?_) (fun h24=>?_)
      ·
       refine Zt<|z0w<|z58<|gSR<|z0u fun x25 h26=>Zq (ixR Z Z h26 tu22 z36 Z)<|Zq (ldR Z z56)<|Eb Z (z7q 1101 z36 (.zr (R:=aZ) (x:=(Vector.replicate 32 0)) zhl)) fun v27=>Es (sto 1101 Z Z fH Z z36)<|Zn<|zrm [(2,.val (z05 v1 0)),(6,.rd z07 r3.1),(8,.val (n7 0)),(10,.val v13),(12,.val (z05 v20 0)),(38,.val (n9 0)),(39,.rd z07 (r8.1.length:Int)),(40,.rd z07 s15.2),(51,.rd (z02 aZ) x21.Preds),(52,.rd z07 (x21.Preds.length:Int)),(53,.rd z07 s23.2),(14,.val (z05 v27 0))] [(1,some (v1,.box 25 [.rd z01 a0])),(3,some ((n7 0),.map aZ z07 r6)),(5,some (v13,.list z07 3 s23.1)),(1100,some (v20,.box 36 [.rd aZ x18])),(4,some ((n9 0),.list aZ 36 r8.1)),zG1,(1101,some (v27,.box 36 [.rd aZ x25]))] [1,3,5,1100,4,1001,1101] (Zs Z Z Z Z<|Zs Z Z Z Z<|Zs Z Z Z Z<|sN) (Zi Z<|Zi Z<|Zi Z<|Zi Z<|Zi Z<|Zi Z<|Zi Z<|rN)<|z5g fun x28 h29=>z5g fun x30 h31=>z5g fun x32 h33=>gOr [] [⟨1100,some ([], fun nv=>(v20,.box 36 [.rd aZ x18])),[]⟩,⟨3,some ([], fun nv=>((n7 0),.map aZ z07 r6)),[]⟩,⟨5,some ([], fun nv=>(v13,.list z07 3 s23.1)),[(19,some ([], fun nv=>(v13,.list z07 3 (s23.1.set ((zc3 r6 x18).getD 0:Int).toNat (max x28 (w64 (x30+1)))))))]⟩,⟨1101,some ([], fun nv=>(v27,.box 36 [.rd aZ x25])),[]⟩] [pd 57 (.val v13),pd 58 (.val (n7 0)),pk 59 (.rd aZ x18) [(0,0,false)],pk 60 (.rd z07 ((zc3 r6 x18).getD 0)) [(1,0,false)],pd 61 (.val v13),pd 62 (.val (n7 0)),pk 63 (.rd aZ x18) [(0,0,false)],pk 64 (.rd z07 ((zc3 r6 x18).getD 0)) [(1,0,false)],pk 65 (.val (z05 v13 (((zc3 r6 x18).getD 0:Int).toNat * 1))) [(2,0,false)],pk 66 (.rd z07 x28) [(2,0,false)],pd 67 (.val v13),pd 68 (.val (n7 0)),pk 69 (.rd aZ x25) [(3,0,false)],pk 70 (.rd z07 ((zc3 r6 x25).getD 0)) [(1,0,false)],pk 71 (.val (z05 v13 (((zc3 r6 x25).getD 0:Int).toNat * 1))) [(2,0,false)],pk 72 (.rd z07 x30) [(2,0,false)],pd 73 (.rd z07 (w64 (x30+1))),pd 74 (.rd z07 (max x28 (w64 (x30+1)))),pk 75 (.val (z05 v13 (((zc3 r6 x18).getD 0:Int).toNat * 1))) [(2,0,false)],⟨none,[(2,0,true)],[],[]⟩] mixed (oC (oRn (fun nv E=>mv Z))<|oC (oRn (fun nv E=>mv Z))<|oC (oRn (fun nv E=>ld 1100 Z Z fH z56 Z))<|oC (oRn (fun nv E=>mlk Z (.own 3 Z Z) Z zwa Tryz.underlying65 ti3 (Zr.num Z) Z))<|oC (oRn (fun nv E=>mv Z))<|oC (oRn (fun nv E=>mv Z))<|oC (oRn (fun nv E=>ld 1100 Z Z fH z56 Z))<|oC (oRn (fun nv E=>mlk Z (.own 3 Z Z) Z zwa Tryz.underlying65 ti3 (Zr.num Z) Z))<|oC (oRn (fun nv E=>ixO 5 Z Z Z h29 tu80 ti3))<|oC (oRn (fun nv E=>ld 5 Z Z (Foc.el h29) ty3 Z))<|oC (oRn (fun nv E=>mv Z))<|oC (oRn (fun nv E=>mv Z))<|oC (oRn (fun nv E=>ld 1101 Z Z fH z56 Z))<|oC (oRn (fun nv E=>mlk Z (.own 3 Z Z) Z zwa Tryz.underlying65 ti3 (Zr.num Z) Z))<|oC (oRn (fun nv E=>ixO 5 Z Z Z h31 tu80 ti3))<|oC (oRn (fun nv E=>ld 5 Z Z (Foc.el h31) ty3 Z))<|oC (oRn (fun nv E=>I.add Z Z))<|oC (oRn (fun nv E=>I.max Z Z))<|oC (oRn (fun nv E=>ixO 5 Z Z Z h33 tu80 ti3))<|oC (oEs 5 (fun nv E=>sto 5 Z Z (Foc.el h33) Z ti3))<|oN) fun n34=>z3h<|z0n<|z2o<|Zq (I.add Z Z)<|Zm Z<|z23<|z1l (fun aa ww h=>Zu h [1,3,5,1100,4,1001])
      ·
       refine z24<|z14<|z13<|z3h<|z3s (fun aa ww h=>Zu h [1,3,5,4,1001])
     ·
      refine z2o<|Zq (I.add Z Z)<|Zm Z<|z23<|z1l (fun aa ww h=>Zu h [1,3,5,4,1001])
    ·
     refine z24<|z14<|z13<|z3s (fun aa ww h=>Zu h [5,1001])
   ·
    refine gSR<|Zm Z<|Zm Z<|z0u fun x35 h36=>Zq (ixO 5 Z Z Z h36 tu80 ti3)<|Zq (ld 5 Z Z (Foc.el h36) ty3 Z)<|Za Z<|Zb Z<|z0m<|Ze [] [1001] Z
def z3g (a0:List V3) (a1:List V3) (s3:Int):Option (Sum (Sum Bool Unit) Int) :=
 if decide (s3<(a0.length:Int)) then
  idx a0 s3 >>= fun x5 =>
  idx a1 s3 >>= fun x7 =>
  if !decide (x5=x7) then
   some (.inl (.inl false))
  else
   some (.inr (w64 (s3+1)))
 else
  some (.inl (.inr ()))
def z31 (a0:List V3) (a1:List V3):Option (Bool) :=
 if (a0.length:Int) != (a1.length:Int) then
  some false
 else
  z6l (iter (z3g a0 a1) 0) fun s2 =>
  some true
theorem z5o (a0:List V3) (a1:List V3):z1u Tryz.prog 12 [.rd (z02 aZ) a0,.rd (z02 aZ) a1] [] (z31 a0 a1) (fun r nv=>⟨[.rd z0f r],[]⟩):=by
 refine z2m 26 Tryz.func12 Z Z Z fun H w=>?_
 refine gSR<|Zb Z<|z0w<|gSR<|Zm Z<|Zq (z3q Z .rd Z tu22)<|Zm Z<|Zq (z3q Z .rd Z tu22)<|Zq (I.neq Z Z)<|Zj Z (fun h1=>?_) (fun h1=>?_)
 ·
  refine gSR<|Zb Z<|z0m<|z10<|Ze [] [] Z
 ·
  refine Zt<|z95 (fun (s2:Unit) aa ww=>Sta (ctx 26 H [] w) [] [] aa ww) ?_ (fun s2=>?_)
  ·
   refine gSR<|Zb Z<|z2b (fun (s3:Int) aa ww=>Sta (ctx 26 H [] w) [(0,.rd (z02 aZ) a0),(1,.rd (z02 aZ) a1),(5,.rd z07 s3)] [] aa ww) (fun aa ww h=>Zu h []) (fun s3=>?_)
   refine z0w<|gSR<|Zm Z<|Zm Z<|Zq (z3q Z .rd Z tu22)<|Zq (I.lss Z Z)<|Zj Z (fun h4=>?_) (fun h4=>?_)
   ·
    refine Zt<|z0w<|z58<|z0w<|zgl mixed (by kernel_rfl)<|Rq Z (mv Z)<|Rq Z (mv Z)<|z7c fun x5 h6=>Rq Z (ixR Z Z h6 tu22 z36 Z)<|Rq Z (ldR Z z56)<|Rq Z (mv Z)<|Rq Z (mv Z)<|z7c fun x7 h8=>Rq Z (ixR Z Z h8 tu22 z36 Z)<|Rq Z (ldR Z z56)<|Rq Z (neA Z Z zxp Z Z zy2)<|zq9<|z0n<|gIf Z Z (fun h9=>?_) (fun h9=>?_)
    ·
     refine gSR<|Zb Z<|z0m<|z4c<|z10<|z85<|z80<|Ze [] [] Z
    ·
     refine z3a<|z3h<|z0n<|z2o<|Zm Z<|Zq (I.add Z Z)<|Za Z<|z23<|z1l (fun aa ww h=>Zu h [])
   ·
    refine z24<|z14<|z13<|z8b (fun aa ww h=>Zu h [])
  ·
   refine gSR<|Zb Z<|z0m<|Ze [] [] Z
def z5a (a0:z06):Option (Bool) :=
 if decide (20<(a0.Preds.length:Int)) then
  some true
 else
  if decide (100<(a0.Act.Key.length:Int)) then
   some true
  else
   some (decide (100<(a0.Act.Value.Text.length:Int))) >>= fun y4 =>
   some y4
theorem zg0 (a0:z06):z1u Tryz.prog 53 [.rd z03 a0] [] (z5a a0) (fun r nv=>⟨[.rd z0f r],[]⟩):=by
 refine z2m 22 Tryz.func53 Z Z Z fun H w=>?_
 refine gSR<|Eb Z (bx 1 Z) fun v1=>Zb Z<|gSR<|Zq (faB 1 Z Z Tryz.underlying46 Z (by exact z8p))<|Zq (ld 1 Z Z (fP (z0x _)) z9o Z)<|Zq (z3q Z .rd Z tu22)<|Zq (I.gtr Z Z)<|Zm Z<|z2n 7 Z (fun h2=>?_) (fun h2=>?_)
 ·
  refine lKn 6 Z h2<|Zk Z<|Zk Z<|Zk Z<|Zk Z<|Zk Z<|Zq (pkT Z Z)<|Zm Z<|Zk Z<|Zk Z<|Zk Z<|Zk Z<|Zk Z<|Zk Z<|Zq (pkT Z Z)<|Zb Z<|z0m<|Ze [] [] Z
 ·
  refine lKn 6 Z h2<|z1y Zx Z Z (faB 1 Z Z Tryz.underlying46 Z (by exact zn5))<|z1y Zx Z Z (faB 1 Z Z Tryz.underlying42 Z (by exact ti9))<|z1y Zx Z Z (ld 1 Z Z ((fP (z2d _)).part (z4j _)) ty9 Z)<|z1y Zx Z Z (zvi Z Z tu9)<|z1y Zx Z Z (I.gtr Z Z)<|Zq (pkF Z Z)<|Zm Z<|z2n 14 Z (fun h3=>?_) (fun h3=>?_)
  ·
   refine lKn 12 Z h3<|lKn 13 Z h3<|Zk Z<|Zk Z<|Zk Z<|Zk Z<|Zk Z<|Zk Z<|Zq (pkT Z Z)<|Zb Z<|z0m<|Ze [] [] Z
  ·
   refine lKn 12 Z h3<|lKn 13 Z h3<|z1y Zx Z Z (faB 1 Z Z Tryz.underlying46 Z (by exact zn5))<|z1y Zx Z Z (faB 1 Z Z Tryz.underlying42 Z (by exact zh6))<|z1y Zx Z Z (faB 1 Z Z Tryz.underlying40 Z (by exact ti9))<|z1y Zx Z Z (ld 1 Z Z (((fP (z2d _)).part (z47 _)).part (z2z _)) ty9 Z)<|z1y Zx Z Z (zvi Z Z tu9)<|z1y Zx Z Z (I.gtr Z Z)<|Zq (pkF Z Z)<|Za Z<|z1z 2 Z fun y4=>Zn<|z0m<|Ze [] [] Z
def z3p (a0:z00) (s3:Int):Option (Sum (Sum Bool Unit) Int) :=
 if decide (s3<(a0.Ops.length:Int)) then
  if decide (s3≤70) then
   idx a0.Ops s3 >>= fun x6 =>
   z5a x6 >>= fun r8 =>
   if r8 then
    some (.inl (.inl true))
   else
    some (.inr (w64 (s3+1)))
  else
   some (.inl (.inr ()))
 else
  some (.inl (.inr ()))
def z8v (a0:z00):Option (Bool) :=
 z6l (iter (z3p a0) 0) fun s2 =>
 if decide (16<(a0.Ops.length:Int)) then
  if decide ((a0.Ops.length:Int)≤60) then
   some true
  else
   if decide (70<(a0.Ops.length:Int)) then
    some true
   else
    some (decide (70<(a0.IDs.length:Int))) >>= fun y14 =>
    some y14
 else
  if decide (70<(a0.Ops.length:Int)) then
   some true
  else
   some (decide (70<(a0.IDs.length:Int))) >>= fun y16 =>
   some y16
theorem zfq (a0:z00):z1u Tryz.prog 29 [.rd z01 a0] [] (z8v a0) (fun r nv=>⟨[.rd z0f r],[]⟩):=by
 refine z2m 43 Tryz.func29 Z Z Z fun H w=>?_
 refine gSR<|Eb Z (bx 1 Z) fun v1=>Zb Z<|z95 (fun (s2:Unit) aa ww=>Sta (ctx 43 H [] w) [(1,.val (z05 v1 0))] [(1,some (v1,.box 25 [.rd z01 a0]))] aa ww) ?_ (fun s2=>?_)
 ·
  refine gSR<|Zb Z<|z2b (fun (s3:Int) aa ww=>Sta (ctx 43 H [] w) [(1,.val (z05 v1 0)),(3,.rd z07 s3)] [(1,some (v1,.box 25 [.rd z01 a0]))] aa ww) (fun aa ww h=>Zu h [1]) (fun s3=>?_)
  refine z0w<|gSR<|Zm Z<|Zq (faB 1 Z Z Tryz.underlying25 Z (by exact zap))<|Zq (ld 1 Z Z (fP (z08 _)) zdk Z)<|Zq (z3q Z .rd Z tu23)<|Zq (I.lss Z Z)<|Zm Z<|z2n 9 Z (fun h4=>?_) (fun h4=>?_)
  ·
   refine lKn 8 Z h4<|z1y Zx Z Z (mv Z)<|z1y Zx Z Z (I.leq Z Z)<|Zq (pkT Z Z)<|Zj Z (fun h5=>?_) (fun h5=>?_)
   ·
    refine gKn 11 Z h5<|Zt<|z0w<|z58<|gSR<|Zq (faB 1 Z Z Tryz.underlying25 Z (by exact zap))<|Zq (ld 1 Z Z (fP (z08 _)) zdk Z)<|Zm Z<|z0u fun x6 h7=>Zq (ixR Z Z h7 tu23 z88 Z)<|Zq (ldR Z z9q)<|Zc [] [] Tryz.func53 Z (zg0 _) fun r8 n9=>Zj Z (fun h10=>?_) (fun h10=>?_)
    ·
     refine gSR<|Zb Z<|z0m<|z4c<|z10<|z85<|z80<|Ze [] [] Z
    ·
     refine z3a<|z3h<|z0n<|z2o<|Zm Z<|Zq (I.add Z Z)<|Za Z<|z23<|z1l (fun aa ww h=>Zu h [1])
   ·
    refine gKn 11 Z h5<|z24<|z14<|z13<|z8b (fun aa ww h=>Zu h [1])
  ·
   refine lKn 8 Z h4<|Zk Z<|Zk Z<|Zq (pkF Z Z)<|Zn<|zf8 Z<|z24<|z14<|z13<|z8b (fun aa ww h=>Zu h [1])
 ·
  refine gSR<|Zq (faB 1 Z Z Tryz.underlying25 Z (by exact zap))<|Zq (ld 1 Z Z (fP (z08 _)) zdk Z)<|Zq (z3q Z .rd Z tu23)<|Zq (I.gtr Z Z)<|Zm Z<|z2n 25 Z (fun h11=>?_) (fun h11=>?_)
  ·
   refine lKn 24 Z h11<|z1y Zx Z Z (faB 1 Z Z Tryz.underlying25 Z (by exact zap))<|z1y Zx Z Z (ld 1 Z Z (fP (z08 _)) zdk Z)<|z1y Zx Z Z (z3q Z .rd Z tu23)<|z1y Zx Z Z (I.leq Z Z)<|Zq (pkT Z Z)<|Zm Z<|z2n 31 Z (fun h12=>?_) (fun h12=>?_)
   ·
    refine lKn 29 Z h12<|lKn 30 Z h12<|Zk Z<|Zk Z<|Zk Z<|Zk Z<|Zq (pkT Z Z)<|Zm Z<|Zk Z<|Zk Z<|Zk Z<|Zk Z<|Zq (pkT Z Z)<|Zb Z<|z0m<|Ze [] [] Z
   ·
    refine lKn 29 Z h12<|lKn 30 Z h12<|z1y Zx Z Z (faB 1 Z Z Tryz.underlying25 Z (by exact zap))<|z1y Zx Z Z (ld 1 Z Z (fP (z08 _)) zdk Z)<|z1y Zx Z Z (z3q Z .rd Z tu23)<|z1y Zx Z Z (I.gtr Z Z)<|Zq (pkF Z Z)<|Zm Z<|z2n 37 Z (fun h13=>?_) (fun h13=>?_)
    ·
     refine lKn 35 Z h13<|lKn 36 Z h13<|Zk Z<|Zk Z<|Zk Z<|Zk Z<|Zq (pkT Z Z)<|Zb Z<|z0m<|Ze [] [] Z
    ·
     refine lKn 35 Z h13<|lKn 36 Z h13<|z1y Zx Z Z (faB 1 Z Z Tryz.underlying25 Z (by exact z8p))<|z1y Zx Z Z (ld 1 Z Z (fP (z0b _)) z9o Z)<|z1y Zx Z Z (z3q Z .rd Z tu22)<|z1y Zx Z Z (I.gtr Z Z)<|Zq (pkF Z Z)<|Za Z<|z1z 2 Z fun y14=>Zn<|z0m<|Ze [] [] Z
  ·
   refine lKn 24 Z h11<|Zk Z<|Zk Z<|Zk Z<|Zk Z<|Zq (pkF Z Z)<|Zm Z<|z1y Zx Z Z (faB 1 Z Z Tryz.underlying25 Z (by exact zap))<|z1y Zx Z Z (ld 1 Z Z (fP (z08 _)) zdk Z)<|z1y Zx Z Z (z3q Z .rd Z tu23)<|z1y Zx Z Z (I.gtr Z Z)<|Zq (pkF Z Z)<|Zm Z<|z2n 37 Z (fun h15=>?_) (fun h15=>?_)
   ·
    refine lKn 35 Z h15<|lKn 36 Z h15<|Zk Z<|Zk Z<|Zk Z<|Zk Z<|Zq (pkT Z Z)<|Zb Z<|z0m<|Ze [] [] Z
   ·
    refine lKn 35 Z h15<|lKn 36 Z h15<|z1y Zx Z Z (faB 1 Z Z Tryz.underlying25 Z (by exact z8p))<|z1y Zx Z Z (ld 1 Z Z (fP (z0b _)) z9o Z)<|z1y Zx Z Z (z3q Z .rd Z tu22)<|z1y Zx Z Z (I.gtr Z Z)<|Zq (pkF Z Z)<|Za Z<|z1z 2 Z fun y16=>Zn<|z0m<|Ze [] [] Z
end
section
open Go Go.Shelf
def zuk:Go.Shelf.Ren:=⟨fun | 6=>50 | 15=>73 | 14=>72 | 28=>112 | 29=>113 | 20=>104 | 21=>105 | 22=>106 | 23=>107 | 24=>108 | 25=>109 | 26=>110 | 27=>111 | 46=>142 | 47=>143 | 48=>144 | 49=>145 | 50=>146 | 57=>166 | n=>n, fun | 22=>22 | 24=>36 | 25=>47 | 3=>3 | 39=>109 | 0=>0 | 53=>37 | 55=>38 | 4=>4 | 46=>137 | 45=>136 | 50=>85 | 5=>5 | 9=>9 | 66=>170 | 70=>174 | 76=>192 | 77=>193 | n=>n, fun | n=>n⟩
theorem z12m:Go.Proofs.SlLaysF0.n6 Tryz.prog zuk:={
 mixed:=by kernel_rfl
 f6:=⟨Tryz.f50.name, by decide,Tryz.func50.trans (congrArg some (by kernel_rfl))⟩
 f14:=⟨Tryz.f72.name, by decide,Tryz.func72.trans (congrArg some (by kernel_rfl))⟩
 f15:=Tryz.func73.trans (congrArg some (by kernel_rfl))
 f20:=⟨Tryz.f104.name, by decide,Tryz.func104.trans (congrArg some (by kernel_rfl))⟩
 f21:=⟨Tryz.f105.name, by decide,Tryz.func105.trans (congrArg some (by kernel_rfl))⟩
 f22:=⟨Tryz.f106.name, by decide,Tryz.func106.trans (congrArg some (by kernel_rfl))⟩
 f23:=⟨Tryz.f107.name, by decide,Tryz.func107.trans (congrArg some (by kernel_rfl))⟩
 f24:=⟨Tryz.f108.name, by decide,Tryz.func108.trans (congrArg some (by kernel_rfl))⟩
 f25:=⟨Tryz.f109.name, by decide,Tryz.func109.trans (congrArg some (by kernel_rfl))⟩
 f26:=⟨Tryz.f110.name, by decide,Tryz.func110.trans (congrArg some (by kernel_rfl))⟩
 f27:=⟨Tryz.f111.name, by decide,Tryz.func111.trans (congrArg some (by kernel_rfl))⟩
 f28:=Tryz.func112.trans (congrArg some (by kernel_rfl))
 f29:=Tryz.func113.trans (congrArg some (by kernel_rfl))
 f46:=⟨Tryz.f142.name, by decide,Tryz.func142.trans (congrArg some (by kernel_rfl))⟩
 f47:=Tryz.func143.trans (congrArg some (by kernel_rfl))
 f48:=Tryz.func144.trans (congrArg some (by kernel_rfl))
 f49:=⟨Tryz.f145.name, by decide,Tryz.func145.trans (congrArg some (by kernel_rfl))⟩
 f50:=⟨Tryz.f146.name, by decide,Tryz.func146.trans (congrArg some (by kernel_rfl))⟩
 f57:=⟨Tryz.f166.name, by decide,Tryz.func166.trans (congrArg some (by kernel_rfl))⟩
 t0:=Tryz.underlying0
 a0:=Tryz.isAgg0
 z0:=Tryz.sizeOf0
 v0:=Tryz.zeroValue0
 t3:=Tryz.underlying3
 a3:=Tryz.isAgg3
 z3:=Tryz.sizeOf3
 v3:=Tryz.zeroValue3
 t4:=Tryz.underlying4
 a4:=Tryz.isAgg4
 z4:=Tryz.sizeOf4
 v4:=Tryz.zeroValue4
 t5:=Tryz.underlying5
 a5:=Tryz.isAgg5
 z5:=Tryz.sizeOf5
 v5:=Tryz.zeroValue5
 t9:=Tryz.underlying9
 a9:=Tryz.isAgg9
 z9:=Tryz.sizeOf9
 v9:=Tryz.zeroValue9
 t22:=Tryz.underlying22
 a22:=Tryz.isAgg22
 z22:=Tryz.sizeOf22
 v22:=Tryz.zeroValue22
 t25:=Tryz.underlying47
 a25:=Tryz.isAgg47
 z25:=Tryz.sizeOf47
 v25:=Tryz.zeroValue47
 t39:=Tryz.underlying109
 a39:=Tryz.isAgg109
 z39:=Tryz.sizeOf109
 v39:=Tryz.zeroValue109
 t45:=Tryz.underlying136
 a45:=Tryz.isAgg136
 z45:=Tryz.sizeOf136
 v45:=Tryz.zeroValue136
 t46:=Tryz.underlying137
 a46:=Tryz.isAgg137
 z46:=Tryz.sizeOf137
 v46:=Tryz.zeroValue137
 t50:=Tryz.underlying85
 a50:=Tryz.isAgg85
 z50:=Tryz.sizeOf85
 v50:=Tryz.zeroValue85
 t53:=Tryz.underlying37
 a53:=Tryz.isAgg37
 z53:=Tryz.sizeOf37
 v53:=Tryz.zeroValue37
 t55:=Tryz.underlying38
 a55:=Tryz.isAgg38
 z55:=Tryz.sizeOf38
 v55:=Tryz.zeroValue38
 t66:=Tryz.underlying170
 a66:=Tryz.isAgg170
 z66:=Tryz.sizeOf170
 v66:=Tryz.zeroValue170
 t70:=Tryz.underlying174
 a70:=Tryz.isAgg174
 z70:=Tryz.sizeOf174
 v70:=Tryz.zeroValue174
 t76:=Tryz.underlying192
 a76:=Tryz.isAgg192
 z76:=Tryz.sizeOf192
 v76:=Tryz.zeroValue192
 t77:=Tryz.underlying193
 a77:=Tryz.isAgg193
 z77:=Tryz.sizeOf193
 v77:=Tryz.zeroValue193 }
end
section
open Go Go.Shelf Go.RowKit Go.Lib Go.Sort
def z9p (x:V3):List Value:=x.toList.map fun c=>Value.int .u8 (c.toNat:Int)
theorem zdp (x:V3):(z9p x).length=32:=by simp [z9p]
theorem zwl (x y:V3) (b c:Nat) (W:World) (hx:∀ j u,(z9p x)[j]? = some u→W.cell? ⟨b,0+j,none⟩=some u) (hy:∀ j u,(z9p y)[j]? = some u→W.cell? ⟨c,0+j,none⟩=some u) :
  (callFunc 114 #[.slice (some ⟨b,0,none⟩) 32 32,.slice (some ⟨c,0,none⟩) 32 32]).run Tryz.prog W=.ok (.value (.int .i64 (Lib.compareBytes x.toList y.toList))) W:=by
 have lx:x.toList.length=32:=by simp
 have ly:y.toList.length=32:=by simp
 have e:=zhr (P:=Tryz.prog) (w:=W) (p:=some ⟨b,0,none⟩) (q:=some ⟨c,0,none⟩) (c:=32) (d:=32) (x:=x.toList) (y:=y.toList) (xs:=z9p x) (ys:=z9p y)
  ⟨by rw [zdp,lx],.inr ⟨b,0,none,32, by rfl, by omega, by decide,.inr rfl,hx⟩⟩ rfl ⟨by rw [zdp,ly],.inr ⟨c,0,none,32, by rfl, by omega, by decide,.inr rfl,hy⟩⟩ rfl
 rw [lx,ly] at e
 rw [run_callFunc_extern Tryz.func114 rfl rfl (by kernel_rfl) (by kernel_rfl),e]
 rfl
set_option maxHeartbeats 1000000 in
set_option maxRecDepth 100000 in
theorem zl8 (x y:V3) (b c:Nat) (W:World) (hx:∀ j u,(z9p x)[j]? = some u→W.cell? ⟨b,0+j,none⟩=some u) (hy:∀ j u,(z9p y)[j]? = some u→W.cell? ⟨c,0+j,none⟩=some u) :
  Calls Tryz.prog 74 #[.slice (some ⟨b,0,none⟩) 32 32,.slice (some ⟨c,0,none⟩) 32 32] W fun e w'=>e=.returned (.int .i64 (Lib.compareBytes x.toList y.toList))∧w'=W:=by
 have e:=zwl x y b c W hx hy
 go_enter Tryz.func74,Tryz.ntmps74
 go_wp2
 go_ret
 exact ⟨rfl,rfl⟩
theorem zon {w:World} {b j:Nat} {c:Array Value} {T:TypeId} {fr:Nat × Nat} {u:Value} (h:w.heap[b]? = some (.cells c T fr)) (hj:c[j]? = some u):w.cell? ⟨b,0+j,none⟩=some u:=by
 unfold World.cell?
 rw [h]
 simpa using hj
theorem zzw (W:World) (xs ys:List Value) (n j:Nat) (u:Value) (h:xs[j]? = some u):(((W.alloc (.cells xs.toArray 36)).alloc (.cells ys.toArray 36)).drewN n).cell? ⟨W.heap.size,0+j,none⟩=some u :=
 zon (c:=xs.toArray) (T:=36) (fr:=(0,0)) (by
  show ((W.heap.push _).push _)[W.heap.size]? = _
  rw [Array.getElem?_push_lt (by simp)]; simp) (by simpa using h)
theorem zz6 (W:World) (xs ys:List Value) (n j:Nat) (u:Value) (h:ys[j]? = some u):(((W.alloc (.cells xs.toArray 36)).alloc (.cells ys.toArray 36)).drewN n).cell? ⟨W.heap.size+1,0+j,none⟩=some u :=
 zon (c:=ys.toArray) (T:=36) (fr:=(0,0)) (by
  show ((W.heap.push _).push _)[W.heap.size+1]? = _
  have:W.heap.size+1=(W.heap.push (Obj.cells xs.toArray 36)).size:=by simp
  rw [this,Array.getElem?_push_size]) (by simpa using h)
set_option maxHeartbeats 1000000 in
set_option maxRecDepth 100000 in
theorem zrl (x y:V3) (W:World):Calls Tryz.prog 51 #[.agg (z9p x).toArray,.agg (z9p y).toArray] W fun e w'=>e=.returned (.int .i64 (Lib.compareBytes x.toList y.toList))∧∃ q os',w'=grow (W.drewN q) os':=by
 have c0:=zzw W (z9p x) (z9p y)
 have c1:=zz6 W (z9p x) (z9p y)
 go_enter Tryz.func51,Tryz.ntmps51
 go_wp2
 go_quiet (first | (go_at_call 74; refine Calls.quiet_of_same (zl8 x y _ _ _ (c0 _) (c1 _))))
 go_wp2
 go_ret
 exact ⟨rfl,nq,#[.cells (z9p x).toArray 36,.cells (z9p y).toArray 36],rfl⟩
end
section
open Go Go.RowKit Go.Sort
theorem zxo {α:Type} [Inhabited α] (enc:α→List Value) (k:Nat) (hk:∀ x,(enc x).length=k):∀ (l:List α) (t:Nat),t<l.length * k→(l.flatMap enc)[t]! = (enc l[t / k]!)[t % k]!
  | [],t,h=>by simp at h
  | x::l,t,h=>by
    have hx:=hk x
    have k0 : 0 < k := by rcases Nat.eq_zero_or_pos k with e | e; · subst e; simp at h
                          · exact e
    rw [List.flatMap_cons]
    by_cases ht:t<k
    · rw [List.getElem!_eq_getElem?_getD,List.getElem?_append_left (by omega),Nat.div_eq_of_lt ht,Nat.mod_eq_of_lt ht]
      simp
    · have hl : t - k < l.length * k := by
        simp only [List.length_cons,Nat.add_mul,Nat.one_mul] at h; omega
      have ih:=zxo enc k hk l (t - k) hl
      have e1:t / k=(t - k) / k+1:=by
        have h2:=Nat.add_div_right (t - k) k0
        rw [Nat.sub_add_cancel (by omega)] at h2; exact h2
      have e2:t % k=(t - k) % k:=by rw [Nat.mod_eq_sub_mod (by omega)]
      rw [List.getElem!_eq_getElem?_getD,List.getElem?_append_right (by omega),hx,e1,e2,← List.getElem!_eq_getElem?_getD,ih]
      simp
theorem znj {α:Type} (enc:α→List Value) (k:Nat) (hk:∀ x,(enc x).length=k):∀ l:List α,(l.flatMap enc).length=l.length * k
  | []=>by simp
  | x::l=>by rw [List.flatMap_cons,List.length_append,hk,znj enc k hk l,List.length_cons,Nat.add_mul,Nat.one_mul,Nat.add_comm]
theorem zso {α:Type} [Inhabited α] (enc:α→List Value) (k:Nat) (hk:∀ x,(enc x).length=k) (l:List α):flatK enc k l.toArray=(l.flatMap enc).toArray:=by
  refine ext_get! (by rw [size_flatK]; simp only [List.size_toArray,znj enc k hk]) fun t ht=>?_
  rw [size_flatK,List.size_toArray] at ht
  rw [get_flatK _ _ _ _ (by simpa using ht)]
  have:=zxo enc k hk l t ht
  simp at this ⊢
  rw [this]
theorem zn4 {α:Type} [Inhabited α] (enc:α→List Value) (k:Nat) (hk:∀ x,(enc x).length=k) {w:World} {b:Nat} {C:Array Value} {T:TypeId} (l:List α) (hb:w.heap[b]? = some (.cells C T (0,0))) (hc:C.toList.take (l.length * k)=l.flatMap enc):HoldsK enc k w b 0 l.toArray:=by
  intro j hj
  rw [zso enc k hk] at hj ⊢
  have hj':j<(l.flatMap enc).length:=by simpa using hj
  constructor
  · refine zon hb ?_
    have e:(C.toList.take (l.length * k))[j]? = (l.flatMap enc)[j]? := by rw [hc]
    rw [List.getElem?_take_of_lt (by rw [znj enc k hk] at hj'; exact hj'),List.getElem?_eq_getElem hj'] at e
    rw [← Array.getElem?_toList,e]
    have:((l.flatMap enc).toArray)[j]! = (l.flatMap enc)[j]:=by rw [getElem!_pos _ j (by simpa using hj')]; simp
    rw [this]; rfl
  · simp [World.frozen?,hb]
theorem zrg {α:Type} [Inhabited α] (enc:α→List Value) (k:Nat) (w:World) (b n:Nat) (d:Array α) (os:Array Obj) {i:Nat} (hi:i<w.heap.size) (hne:i≠b):(sortWorldK enc k w b 0 n d os).heap[i]? = w.heap[i]? := by
  show (w.heap.modify b _++os)[i]? = _
  rw [Array.getElem?_append_left (by simpa using hi),Array.getElem?_modify,if_neg (fun e=>hne e.symm)]
theorem zzq {α:Type} [Inhabited α] (enc:α→List Value) (k:Nat) (w:World) {b:Nat} (n:Nat) (d:Array α) (os:Array Obj) {C:Array Value} {T:TypeId} {fr:Nat × Nat} (hb:w.heap[b]? = some (.cells C T fr)):(sortWorldK enc k w b 0 n d os).heap[b]? = some (.cells (putCells id 0 (flatK enc k d) C) T fr):=by
  have hlt:b<w.heap.size:=(Array.getElem?_eq_some_iff.1 hb).1
  show (w.heap.modify b _++os)[b]? = _
  rw [Array.getElem?_append_left (by simpa using hlt),Array.getElem?_modify,if_pos rfl,hb]
  rfl
theorem zvu {α:Type} [Inhabited α] (enc:α→List Value) (k:Nat) (hk:∀ x,(enc x).length=k) (l:List α) (C:Array Value) (hC:l.length * k≤C.size):(putCells id 0 (flatK enc k l.toArray) C).toList.take (l.length * k)=l.flatMap enc:=by
  rw [zso enc k hk]
  apply List.ext_getElem?
  intro t
  by_cases ht:t<l.length * k
  · rw [List.getElem?_take_of_lt ht,Array.getElem?_toList]
    have hl:t<(l.flatMap enc).length:=by rw [znj enc k hk]; exact ht
    simp only [putCells,Array.getElem?_mapIdx,Nat.sub_zero,Nat.zero_add,List.size_toArray,Nat.zero_le,true_and]
    rw [Array.getElem?_eq_getElem (by omega),Option.map_some,if_pos hl,List.getElem?_eq_getElem hl]
    have:((l.flatMap enc).toArray)[t]! = (l.flatMap enc)[t]:=by rw [getElem!_pos _ t (by simpa using hl)]; simp
    rw [this]; rfl
  · rw [List.getElem?_eq_none (by simp; omega),List.getElem?_eq_none (by rw [znj enc k hk]; omega)]
theorem zme {S:Blk} {w:World}:∀ {l:List V3} {cs:List Value},z59 (z2y 32 u8R) S w cs l→cs=l.flatMap z9p
  | [],cs,h=>h
  | x::l,cs,h=>by
    obtain ⟨c,d,rfl,h1,h2⟩:=h
    rw [List.flatMap_cons,zme h2,zl5 h1]; rfl
theorem zmw {S:Blk} {w:World}:∀ (l:List V3),z59 (z2y 32 u8R) S w (l.flatMap z9p) l
  | []=>rfl
  | x::l=>⟨z9p x,l.flatMap z9p,List.flatMap_cons,zis x.toList,zmw l⟩
theorem zvy {P : Program} {f g T : Nat} (srt : List V3 → List V3) (hlen : ∀ l, (srt l).length = l.length)
    (hnone:∀ (cap:Nat) (w:World),Calls P f #[.slice none 0 cap,.func (.func g) #[] #[]] w fun e w'=>e=.returned (.tuple #[])∧w'=w)
    (hsome:∀ (blk cap:Nat) (d:Array V3) (w:World),HoldsK z9p 32 w blk 0 d→blk<w.heap.size→d.size<4611686018427387904 →
      Calls P f #[.slice (some ⟨blk,0,none⟩) d.size cap,.func (.func g) #[] #[]] w fun e w'=>e=.returned (.tuple #[])∧∃ n os,w'=sortWorldK z9p 32 w blk 0 n (srt d.toList).toArray os)
    (p0:Value) (c0:List V3):z1u P f [.val p0,.val (.func (.func g) #[] #[])] [(1,some (p0,.list (z2y 32 u8R) T c0))] (chk (c0.length≤1000000) >>= fun _=>some (srt c0))
      (fun r nv=>⟨[],[(1,some (p0,.list (z2y 32 u8R) T r))]⟩):=by
  intro r hr H vs w hvs hres
  have hb:c0.length≤1000000∧r=srt c0:=by
    unfold chk at hr
    split at hr
    · rename_i h; simp at hr; exact ⟨h,hr.symm⟩
    · simp at hr
  obtain ⟨hlen0,rfl⟩:=hb
  match vs,hvs with
  | [v0,v1],hvs =>
  obtain ⟨h0,h1,_⟩:=hvs
  have e0:v0=p0:=h0.1
  have e1:v1=.func (.func g) #[] #[]:=h1.1
  subst e0; subst e1
  have hc:=hres.conts 1 v0 _ rfl
  have only:∀ r v c (q:z4k),lr [(1,some (v0,q))] r=some (v,c)→r=1∧v=v0∧c=q:=fun r v c q h=>by
    rw [z1f] at h
    split at h
    · rename_i e; cases h; exact ⟨e.symm,rfl,rfl⟩
    · simp [lr,lk] at h
  rcases hc with ⟨rfl,rfl⟩ | ⟨b,o,k1,k2,b',cap,C,k3,rfl,k4,k5,k6,k7⟩
  · refine (hnone 0 w).mono fun e w' ⟨he,hw⟩=>?_
    subst hw
    refine ⟨fun _=>undef,[],he,trivial, fun r v c h=>?_, fun r v c r' v' c' h h' hne=>?_, fun r v c h b hb=>?_,zid.rfl'⟩
    · obtain ⟨rfl,rfl,rfl⟩:=only _ _ _ _ h
      have:srt []=[]:=List.eq_nil_of_length_eq_zero (by rw [hlen]; rfl)
      exact .inl ⟨rfl,this⟩
    · exact absurd ((only _ _ _ _ h).1.trans (only _ _ _ _ h').1.symm) hne
    · obtain ⟨rfl,rfl,rfl⟩:=only _ _ _ _ h; cases hb
  · subst k3
    simp only [z4n,Option.some.injEq] at k1
    subst k1
    have hlt:b'<w.heap.size:=(Array.getElem?_eq_some_iff.1 k2).1
    have hrow:=zme k7
    have hsz:(z2y 32 u8R).sz=32:=rfl
    rw [hsz] at k6 hrow
    have hC:c0.length * 32≤C.size:=by rw [k6]; exact Nat.mul_le_mul_right _ k4
    refine (hsome b' cap c0.toArray w (zn4 z9p 32 zdp c0 k2 hrow) hlt (by simp; omega)).mono fun e w' ⟨he,n,os,hw⟩=>?_
    subst hw
    refine ⟨fun _=>undef,[],he,trivial, fun r v c h=>?_, fun r v c r' v' c' h h' hne=>?_, fun r v c h b hb=>?_,rfl,rfl,rfl,?_, fun i hi=>?_⟩
    · obtain ⟨rfl,rfl,rfl⟩:=only _ _ _ _ h
      refine .inr ⟨b',_,rfl,zzq z9p 32 w n _ os k2,b',cap,_, by rw [hlen],rfl, by rw [hlen]; exact k4,k5,?_,?_⟩
      · rw [hsz,← k6]; simp [putCells]
      · rw [hsz,zvu z9p 32 zdp (srt c0) C (by rw [hlen]; exact hC)]
        exact zmw _
    · exact absurd ((only _ _ _ _ h).1.trans (only _ _ _ _ h').1.symm) hne
    · obtain ⟨rfl,rfl,rfl⟩:=only _ _ _ _ h
      exact .inr ⟨1,_,_,rfl,hb⟩
    · show w.heap.size≤(w.heap.modify b' _++os).size
      simp
    · exact zrg z9p 32 w b' n _ os hi.1 fun e=>hi.2 ⟨1,_,_,rfl, by rw [e]; rfl⟩
end
section
open Go
section
variable {σ β α ρ τ:Type}
theorem bs (x:α) (f:α→Option β):(some x >>= f)=f x:=rfl
theorem bS (x:α) (f:α→Option β):(some x >>= f)=f x:=Eq.trans (rfl:(some x >>= f)=f x) rfl
theorem zze (r:ρ) (k:τ→Option ρ):z6l (some (.inl r)) k=some r:=rfl
theorem zvs (t:τ) (k:τ→Option ρ):z6l (some (.inr t)) k=k t:=rfl
theorem z1j {F:σ→Option (Sum β σ)} {s:σ} {b:β} (h:F s=some (.inl b)):iter F s=some b:=by rw [iter,h]; rfl
theorem z1q {F:σ→Option (Sum β σ)} {s s':σ} (h:F s=some (.inr s')):iter F s=iter F s':=by rw [iter,h]; rfl
theorem zei {F:σ→Option (Sum β σ)} (I:σ→Prop) (μ:σ→Nat) (Q:β→Prop) (h:∀ s,I s→(∃ b,F s=some (.inl b)∧Q b)∨∃ s',F s=some (.inr s')∧I s'∧μ s'<μ s) (s:σ) (hs:I s):∃ b,iter F s=some b∧Q b:=by
 have key:∀ n s,μ s=n→I s→∃ b,iter F s=some b∧Q b:=by
  intro n
  induction n using Nat.strongRecOn with
  | _ n ih =>
   intro s hn hs
   rcases h s hs with ⟨b,h1,h2⟩ | ⟨s',h1,h2,h3⟩
   ·
    exact ⟨b,z1j h1,h2⟩
   ·
    rw [z1q h1]; exact ih (μ s') (hn ▸ h3) s' rfl h2
 exact key _ s rfl hs
theorem z7k {F:σ→Option (Sum β σ)} (n:Nat) (I:Nat→σ→Prop) (Q:β→Prop) (h1:∀ i s,i<n→I i s→∃ s',F s=some (.inr s')∧I (i+1) s') (h2:∀ s,I n s→∃ b,F s=some (.inl b)∧Q b) (s:σ) (i:Nat) (hi:i≤n) (hs:I i s):∃ b,iter F s=some b∧Q b:=by
 have key:∀ k i s,n - i=k→i≤n→I i s→∃ b,iter F s=some b∧Q b:=by
  intro k
  induction k with
  | zero =>
   intro i s hk hi hs
   have:i=n:=by omega
   subst this
   obtain ⟨b,h3,h4⟩:=h2 s hs
   exact ⟨b,z1j h3,h4⟩
  | succ k ih =>
   intro i s hk hi hs
   obtain ⟨s',h3,h4⟩:=h1 i s (by omega) hs
   rw [z1q h3]; exact ih (i+1) s' (by omega) (by omega) h4
 exact key _ i s rfl hi hs
theorem z2u {F:σ→Option (Sum β σ)} (n:Nat) (g:Nat→σ) {b:β} (h1:∀ i,i<n→F (g i)=some (.inr (g (i+1)))) (h2:F (g n)=some (.inl b)):iter F (g 0)=some b:=by
 obtain ⟨b',h3,rfl⟩:=z7k n (fun i s=>s=g i) (fun x=>x=b) (fun i s hi hs=>⟨_, by rw [hs]; exact h1 i hi,rfl⟩) (fun s hs=>⟨_, by rw [hs]; exact h2,rfl⟩) (g 0) 0 (Nat.zero_le _) rfl
 exact h3
theorem z0j {l:List α} {i:Nat} (h:i<l.length):idx l (i:Int)=some l[i]:=by simp [idx,h]
theorem zzd {l:List α} {i:Int} (h0:0≤i) (h:i.toNat<l.length):idx l i=some l[i.toNat]:=by simp [idx,h0,h]
theorem z79 {n:Nat} {v:Vector α n} {i:Nat} (h:i<n):z6n v (i:Int)=some v[i]:=by unfold z6n; rw [z0j (by simpa using h)]; simp
theorem zeo {n:Nat} {v:Vector α n} {i:Int} {x:α} {j:Nat} (hj:j<n):(zg5 v i x)[j]=if i.toNat=j then x else v[j]:=by
 unfold zg5; rw [Vector.getElem_setIfInBounds hj]
theorem z2t {p:Prop} [Decidable p] (h:p):chk p=some ():=by simp [chk,h]
theorem z2a {by_:Nat} {b c:List α} (h:(b.length+c.length) * by_≤140737488355328):app by_ b c=some (b++c):=by simp [app,h]
theorem zf5 {by_:Nat} {x:α} {n:Nat} (h:by_ * n≤281474976710656) (h2:n≤9223372036854775807):mkn by_ x (n:Int)=some (List.replicate n x):=by
 unfold mkn; rw [if_pos ⟨by omega, by simpa using h, by omega⟩]; simp
theorem zdt {b:List α} {i j:Nat} (h:i≤j) (hj:j≤b.length):cut b (i:Int) (j:Int)=some ((b.drop i).take (j - i)):=by
 unfold cut; rw [if_pos ⟨by omega, by omega, by omega⟩]; simp
end
theorem z0z {x:Int} (h1:-9223372036854775808≤x) (h2:x≤9223372036854775807):w64 x=x:=ze2 h1 h2
theorem z0p {n:Nat} (h:n<9223372036854775807):w64 ((n:Int)+1)=((n+1:Nat):Int):=by rw [z0z (by omega) (by omega)]; omega
theorem zb8 (a:UInt64) (n:Nat):(z6k a n).toNat=a.toNat / 2 ^ (min n 64):=by
 unfold z6k
 have h1:=UInt64.toNat_lt a
 have h2:a.toNat / 2 ^ (min n 64)≤a.toNat:=Nat.div_le_self _ _
 simp; omega
theorem ziy (a:UInt64) (n:Nat):(zlr a n).toNat=a.toNat * 2 ^ (min n 64) % 18446744073709551616:=by
 unfold zlr; simp
theorem z132 (a:UInt64) (k:Nat) (hk:k<64):((z6k a k &&& 1)==1)=a.toNat.testBit k:=by
 rw [Bool.eq_iff_iff,beq_iff_eq,← UInt64.toNat_inj,UInt64.toNat_and,zb8,Nat.min_eq_left (by omega)]
 have:(1:UInt64).toNat=1:=rfl
 rw [this,Nat.and_one_is_mod,Nat.testBit_eq_decide_div_mod_eq]
 simp
end
section
open Go
def z5z (n:Nat):Nat:=if n=0 then 0 else n.log2+1
theorem zbq (n k:Nat) (h:2 ^ k≤n):z5z n=k+z5z (n / 2 ^ k):=by
 have hp:0<2 ^ k:=Nat.pow_pos (by decide)
 have h1:n / 2 ^ k≠0:=by
  have:1≤n / 2 ^ k:=(Nat.le_div_iff_mul_le hp).2 (by rw [Nat.one_mul]; exact h)
  omega
 have h2:n≠0:=by omega
 unfold z5z
 rw [if_neg h1,if_neg h2]
 have h3:n.log2=k+(n / 2 ^ k).log2:=by
  rw [Nat.log2_eq_iff h2]
  have h4:=(Nat.log2_eq_iff h1).1 rfl
  refine ⟨?_,?_⟩
  ·
   rw [Nat.pow_add,Nat.mul_comm]; exact (Nat.le_div_iff_mul_le hp).1 h4.1
  ·
   rw [Nat.add_assoc,Nat.pow_add,Nat.mul_comm]; exact (Nat.div_lt_iff_lt_mul hp).1 h4.2
 omega
theorem zg6 (n k:Nat) (h:n<2 ^ k):z5z n≤k:=by
 unfold z5z; split
 ·
  omega
 ·
  rename_i h0; have:=(Nat.log2_lt h0).2 h; omega
def zta:ByteArray:=⟨#[0,1,2,2,3,3,3,3,4,4,4,4,4,4,4,4,5,5,5,5,5,5,5,5,5,5,5,5,5,5,5,5,6,6,6,6,6,6,6,6,6,6,6,6,6,6,6,6,6,6,6,6,6,6,6,6,6,6,6,6,6,6,6,6,7,7,7,7,7,7,7,7,7,7,7,7,7,7,7,7,7,7,7,7,7,7,7,7,7,7,7,7,7,7,7,7,7,7,7,7,7,7,7,7,7,7,7,7,7,7,7,7,7,7,7,7,7,7,7,7,7,7,7,7,7,7,7,7,8,8,8,8,8,8,8,8,8,8,8,8,8,8,8,8,8,8,8,8,8,8,8,8,8,8,8,8,8,8,8,8,8,8,8,8,8,8,8,8,8,8,8,8,8,8,8,8,8,8,8,8,8,8,8,8,8,8,8,8,8,8,8,8,8,8,8,8,8,8,8,8,8,8,8,8,8,8,8,8,8,8,8,8,8,8,8,8,8,8,8,8,8,8,8,8,8,8,8,8,8,8,8,8,8,8,8,8,8,8,8,8,8,8,8,8,8,8,8,8,8,8,8,8,8,8,8,8]⟩
set_option maxRecDepth 100000 in
theorem zx1:∀ x:Fin 256,zta.data[x.val]? = some (UInt8.ofNat (z5z x.val)):=by decide +kernel
def z2r (n:Nat):List UInt8:=if h:n=0 then [] else UInt8.ofNat n::z2r (n / 256)
termination_by n
theorem zb5:z2r 0=[]:=by rw [z2r]; simp
theorem zed (n:Nat) (h:n≠0):z2r n=UInt8.ofNat n::z2r (n / 256):=by rw [z2r]; simp [h]
def z1k (n:Nat):List UInt8:=if n≤247 then [UInt8.ofNat n] else UInt8.ofNat (247+(z2r n).length)::(z2r n).reverse
theorem zki (n:Nat):(z2r n).length=(z5z n+7) / 8:=by
 induction n using Nat.strongRecOn with
 | _ n ih =>
  by_cases h:n=0
  ·
   subst h; rw [zb5]; simp [z5z]
  ·
   rw [zed n h,List.length_cons,ih (n / 256) (by omega)]
   by_cases h2:n<256
   ·
    have:n / 256=0:=by omega
    rw [this]
    have h3:z5z n≤8:=zg6 n 8 h2
    have h4:1≤z5z n:=by unfold z5z; rw [if_neg h]; omega
    simp [z5z] at h3 h4 ⊢
    rw [if_neg h] at h3 h4 ⊢; omega
   ·
    have:=zbq n 8 (by omega)
    rw [show (2:Nat) ^ 8=256 from rfl] at this
    omega
theorem zr1 (n:Nat):∀ (i:Nat),i<(z2r n).length→(z2r n)[i]? = some (UInt8.ofNat (n / 256 ^ i)):=by
 induction n using Nat.strongRecOn with
 | _ n ih =>
  intro i hi
  by_cases h:n=0
  ·
   subst h; rw [zb5] at hi; simp at hi
  ·
   rw [zed n h] at hi ⊢
   cases i with
   | zero=>simp
   | succ i =>
    simp only [List.length_cons] at hi
    rw [List.getElem?_cons_succ,ih (n / 256) (by omega) i (by omega),Nat.div_div_eq_div_mul]
    congr 3
    rw [Nat.pow_succ,Nat.mul_comm]
theorem ziu (n:Nat) (h:n<18446744073709551616):(z2r n).length≤8:=by
 rw [zki]; have:=zg6 n 64 (by simpa using h); omega
theorem z17 (n:Nat) (h:n<18446744073709551616):1≤(z1k n).length∧(z1k n).length≤9:=by
 unfold z1k; have:=ziu n h; split <;> simp <;> omega
def zaf (n i:Nat):List UInt8:=UInt8.ofNat (247+(z2r n).length)::(List.replicate ((z2r n).length - i) 0++((z2r n).take i).reverse)
theorem zov (n i:Nat) (h:i≤(z2r n).length):(zaf n i).length=(z2r n).length+1:=by simp [zaf]; omega
theorem zo1 (n:Nat):(List.replicate ((z2r n).length+1) (0:UInt8)).set 0 (UInt8.ofNat (247+(z2r n).length))=zaf n 0:=by
 simp [zaf,List.replicate_succ]
theorem zo4 (n i:Nat) (h:i<(z2r n).length):(zaf n i).set ((z2r n).length - i) (UInt8.ofNat (n / 2 ^ (8 * i)))=zaf n (i+1):=by
 have hg:=zr1 n i h
 have he:n / 2 ^ (8 * i)=n / 256 ^ i:=by rw [Nat.pow_mul]
 rw [he]
 unfold zaf
 obtain ⟨m,hm⟩:∃ m,(z2r n).length - i=m+1:=⟨(z2r n).length - i - 1, by omega⟩
 have hm2:(z2r n).length - (i+1)=m:=by omega
 rw [hm,hm2,List.set_cons_succ,List.take_succ_eq_append_getElem h,List.reverse_append,List.reverse_singleton,List.replicate_succ']
 rw [List.getElem?_eq_getElem h,Option.some.injEq] at hg
 rw [hg,List.append_assoc,List.set_append_right _ _ (by simp)]
 simp
theorem zmk (n:Nat) (h:247<n):zaf n (z2r n).length=z1k n:=by
 unfold zaf z1k; rw [if_neg (by omega)]; simp
theorem znf (n m:Nat) (ds:List UInt8) (hm:m≠0) (h:z2r n=ds++z2r m):z2r n=(ds++[UInt8.ofNat (m % 256)])++z2r (m / 256):=by
 rw [h,zed m hm,List.append_assoc]
 have:UInt8.ofNat (m % 256)=UInt8.ofNat m:=by
  apply UInt8.toNat_inj.1; simp
 rw [this]; rfl
theorem zkg {α} {l a b:List α} (h:l=a++b):a.length≤l.length:=by rw [h]; simp
def zig (n:Int):Nat:=if 0≤n then (2 * n).toNat else (-2 * n - 1).toNat
theorem z11x {n:Int} (h1:-9223372036854775808≤n) (h2:n≤9223372036854775807):zig n<18446744073709551616:=by unfold zig; split <;> omega
end
section
open Go Go.RowKit
def zhx (x:z04):Prop:=(fun _=>True) x.Kind∧inI x.Num∧(fun _=>True) x.Bits∧(fun s:List UInt8=>s.length≤9223372036854775807) x.Text∧True
def zkx (x:z0k):Prop:=(fun _=>True) x.Kind∧(fun s:List UInt8=>s.length≤9223372036854775807) x.Key∧zhx x.Value∧True
def zkh (x:z09):Prop:=(fun _=>True) x.E∧(fun _=>True) x.S∧True
def zb0 (x:z06):Prop:=(fun _=>True) x.Author∧(fun l:List V3=>(∀ x∈l,(fun v:V3=>∀ x∈v.toList,(fun _=>True) x) x)∧l.length≤9223372036854775807) x.Preds∧(fun _=>True) x.Stamp∧zkx x.Act∧zkh x.Sig∧True
def z6o (x:z00):Prop:=(fun l:List V3=>(∀ x∈l,(fun v:V3=>∀ x∈v.toList,(fun _=>True) x) x)∧l.length≤9223372036854775807) x.IDs∧(fun l:List z06=>(∀ x∈l,zb0 x)∧l.length≤9223372036854775807) x.Ops∧True
end
section
open Go
theorem zwp {n k:Nat} (hn:n<9223372036854775808) (hk:k<9223372036854775808):andI (n:Int) (k:Int)=((n &&& k:Nat):Int):=by
 show IntKind.i64.wrap (BitVec.toNat (BitVec.ofInt 64 (n:Int) &&& BitVec.ofInt 64 (k:Int)):Int)=_
 rw [BitVec.ofInt_natCast,BitVec.ofInt_natCast,BitVec.toNat_and,BitVec.toNat_ofNat,BitVec.toNat_ofNat,Nat.mod_eq_of_lt (by omega),Nat.mod_eq_of_lt (by omega)]
 have:=Nat.and_le_left (n:=n) (m:=k)
 exact ze2 (by omega) (by omega)
def okb (c:UInt8):Bool:=decide (32≤c.toNat)&&decide (c.toNat≤126)
theorem zlp {b:List UInt8} {q:Nat} (h:q<b.length) (ha:(b[q]).toNat<128):z82 b q=((b[q]).toNat,1):=by
 unfold z82
 exact decode_ascii ⟨b.toArray⟩ q (by show q<b.toArray.size; simpa using h) ha
theorem zun {b:List UInt8} {q:Nat} (h:q<b.length) (ha:128≤(b[q]).toNat):128≤(z82 b q).1:=by
 unfold z82
 have e:((ByteArray.mk b.toArray).get! (q+0)).toNat=(b[q]).toNat:=by
  show ((ByteArray.mk b.toArray).get! q).toNat=_
  simp [ByteArray.get!,h]
 simp only [Utf8.decode,e]
 rw [if_neg (by omega)]
 repeat' split
 all_goals (first | (simp only [Utf8.runeError]; omega) | (rename_i h1; simp at h1; omega) | omega)
theorem zxk (x:Int):zbp x=some (decide (x<32) || decide (126<x)):=by
 unfold zbp
 cases decide (x<32) <;> rfl
theorem zpi (b:List UInt8):∀ (rest pre:List UInt8),b=pre++rest →
  (rest.all okb=true→iter (z1b b true) pre.length=some (.inr ()))∧(rest.all okb=false→∃ i:Nat,iter (z1b b true) pre.length=some (.inl (i:Int)))
 | [],pre,e=>by
  refine ⟨fun _=>z1j ?_, fun h=>by simp at h⟩
  subst e
  unfold z1b
  simp
 | c::rest,pre,e=>by
  have hlen:pre.length<b.length:=by rw [e]; simp
  have hget:b[pre.length]'hlen=c:=by subst e; simp
  have hF:z1b b true pre.length=if ((decide (((z82 b pre.length).1:Int)<32) || decide (126<((z82 b pre.length).1:Int)))==true) then some (.inl (.inl (pre.length:Int))) else some (.inr (pre.length+(z82 b pre.length).2)):=by
   unfold z1b
   rw [if_pos hlen]
   simp only [bs,zxk]
  cases hc:okb c with
  | false =>
   refine ⟨fun h=>by simp [hc] at h, fun _=>⟨pre.length,z1j ?_⟩⟩
   rw [hF,if_pos]
   by_cases h8:c.toNat<128
   ·
    rw [zlp hlen (by rw [hget]; exact h8),hget]
    simp only [okb,Bool.and_eq_false_iff,decide_eq_false_iff_not] at hc
    simp; omega
   ·
    have:=zun hlen (by rw [hget]; omega)
    simp; omega
  | true =>
   simp only [okb,Bool.and_eq_true,decide_eq_true_eq] at hc
   rw [zlp hlen (by rw [hget]; omega),hget,if_neg (by simp; omega)] at hF
   have ih:=zpi b rest (pre++[c]) (by simp [e])
   simp only [List.length_append,List.length_cons,List.length_nil,Nat.zero_add] at ih
   rw [z1q hF]
   have hc':okb c=true:=by simp [okb,hc]
   simpa [hc'] using ih
theorem zhw (b:List UInt8) (hb:b.length≤9223372036854775807):∀ (rest pre:List UInt8),b=pre++rest→iter (z3k b) (pre.length:Int)=some (if rest.all okb then .inr () else .inl false)
 | [],pre,e=>by
  refine z1j ?_
  subst e
  unfold z3k
  simp
 | c::rest,pre,e=>by
  have hlen:pre.length<b.length:=by rw [e]; simp
  have hget:b[pre.length]'hlen=c:=by subst e; simp
  have hF:z3k b (pre.length:Int)=if okb c then some (.inr ((pre.length+1:Nat):Int)) else some (.inl (.inl false)):=by
   unfold z3k
   rw [if_pos (by simp <;> omega)]
   simp only [z0j hlen,hget,bs,z0p (show pre.length<9223372036854775807 by omega)]
   simp only [okb,UInt8.lt_iff_toNat_lt,UInt8.reduceToNat]
   by_cases h1:c.toNat<32
   ·
    have:¬ 32≤c.toNat:=by omega
    simp [h1,this]
   ·
    by_cases h2:126<c.toNat
    ·
     have:¬ c.toNat≤126:=by omega
     simp [h1,h2,this]
    ·
     have h3:32≤c.toNat:=by omega
     have h4:c.toNat≤126:=by omega
     simp [h1,h2,h3,h4]
  cases hc:okb c with
  | false=>rw [hc] at hF; rw [z1j hF]; simp [hc]
  | true =>
   rw [hc] at hF
   rw [z1q hF]
   have ih:=zhw b hb rest (pre++[c]) (by simp [e])
   simp only [List.length_append,List.length_cons,List.length_nil,Nat.zero_add] at ih
   rw [ih]; simp [hc]
theorem zmn (b:List UInt8) (hb:b.length≤9223372036854775807):z62 b=some (b.all okb):=by
 have h:=zhw b hb b [] rfl
 unfold z62
 rw [show (0:Int)=(([]:List UInt8).length:Int) from rfl,h]
 cases b.all okb <;> rfl
theorem zw2 (b:List UInt8) (hb:b.length≤9223372036854775807):zen b=some (if decide (30<(b.length:Int)) then (⟨0,0,0,[]⟩,4) else if b.all okb then (⟨3,0,0,b⟩,0) else (⟨0,0,0,[]⟩,8)):=by
 unfold zen z3y z3t
 cases decide (30<(b.length:Int))
 ·
  simp only [Bool.false_eq_true,if_false]
  obtain ⟨h1,h2⟩:=zpi b b [] rfl
  simp only [List.length_nil] at h1 h2
  cases h:b.all okb
  ·
   obtain ⟨i,hi⟩:=h2 h
   rw [hi]
   simp only [zze,bs]
   rw [if_pos (by simp)]; rfl
  ·
   rw [h1 h]; rfl
 ·
  rfl
theorem zwq (a:UInt64):zct a=some (((a.toNat / 4503599627370496 % 2048:Nat):Int),a % 4503599627370496):=by
 unfold zct
 simp only [bs]
 have h0:=UInt64.toNat_lt a
 rw [zb8]
 have e1:(2:Nat) ^ (min 52 64)=4503599627370496:=by decide
 rw [e1,z0z (by omega) (by omega), show (2047:Int)=((2047:Nat):Int) from rfl,zwp (by omega) (by omega)]
 congr 2
 ·
  congr 1
  exact Nat.and_two_pow_sub_one_eq_mod _ 11
 ·
  apply UInt64.toNat_inj.1
  rw [UInt64.toNat_and,UInt64.toNat_mod]
  exact Nat.and_two_pow_sub_one_eq_mod _ 52
theorem z10y (a:UInt64):z6s a=some ((a.toNat / 4503599627370496 % 2048:Nat):Int):=by
 unfold z6s
 have h0:=UInt64.toNat_lt a
 simp only [bs,UInt64.toNat_div,UInt64.toNat_mod,UInt64.reduceToNat]
 rw [z0z (by omega) (by omega)]
 congr 2
 omega
def zom (a:UInt64):Nat:=a.toNat / 4503599627370496 % 2048
def zvh (a:UInt64):Nat:=a.toNat % 4503599627370496
theorem zza (a:UInt64):zom a<2048:=Nat.mod_lt _ (by omega)
def clsF (a:UInt64):UInt8:=if zom a=2047 then (if zvh a=0 then 4 else 5) else if zom a=0 then (if zvh a=0 then 1 else 2) else 3
theorem zy4 (a:UInt64):(a % 4503599627370496==0)=decide (zvh a=0):=by
 rw [Bool.eq_iff_iff]
 simp only [beq_iff_eq,decide_eq_true_eq,← UInt64.toNat_inj,UInt64.toNat_mod]
 rfl
theorem ztp (a:UInt64):zd6 a=some (clsF a):=by
 unfold zd6 clsF
 rw [zwq]
 simp only [bs]
 have hm:=zy4 a
 have hne:(a % 4503599627370496 != 0)=!decide (zvh a=0):=by rw [← hm]; rfl
 have he:((a.toNat / 4503599627370496 % 2048:Nat):Int)=(zom a:Int):=rfl
 rw [hne,he]
 by_cases h1:zom a=2047
 ·
  rw [h1]
  by_cases h2:zvh a=0
  ·
   rw [decide_eq_true h2,if_pos h2]; rfl
  ·
   rw [decide_eq_false h2,if_neg h2]; rfl
 ·
  have e1:((zom a:Int)==2047)=false:=by simp; omega
  rw [if_neg h1,e1]
  simp only [Bool.false_eq_true,if_false,bs]
  by_cases h0:zom a=0
  ·
   rw [h0]
   by_cases h2:zvh a=0
   ·
    rw [decide_eq_true h2,if_pos h2]; rfl
   ·
    rw [decide_eq_false h2,if_neg h2]; rfl
  ·
   have e0:((zom a:Int) != 0)=true:=by simp; omega
   rw [e0,if_neg h0]; rfl
theorem zsj (a:UInt64):z8w a=some (clsF a):=by
 unfold z8w z8y clsF
 rw [z10y]
 simp only [bs]
 rw [zy4 a]
 have hx:=zza a
 show z6l (if ((zom a:Int)==0)=true then if decide (zvh a=0)=true then some (.inl 1) else some (.inr ()) else some (.inr ())) (fun s5=>if ((zom a:Int)==0)=true then some 2 else if decide ((zom a:Int)<2047)=true then some 3 else if decide (zvh a=0)=true then some 4 else some 5)=_
 by_cases h1:zom a=2047
 ·
  rw [h1]
  by_cases h2:zvh a=0 <;> simp [h2,zvs,zze]
 ·
  by_cases h0:zom a=0
  ·
   rw [h0]
   by_cases h2:zvh a=0 <;> simp [h2,zvs,zze]
  ·
   have e0:((zom a:Int)==0)=false:=by simp; omega
   have e2:decide ((zom a:Int)<2047)=true:=by simp; omega
   rw [e0,e2,if_neg h1,if_neg h0]; rfl
def zh3 (a:UInt64):UInt64:=if clsF a=5 then 9221120237041090560 else a
theorem zss (a:UInt64):zd2 a=some (zh3 a):=by
 unfold zd2 zh3
 rw [ztp]
 simp only [bs]
 by_cases h:clsF a=5 <;> simp [h]
theorem zuw (a:UInt64):z8m a=some (zh3 a):=by
 unfold z8m zh3
 rw [zsj]
 simp only [bs]
 by_cases h:clsF a=5 <;> simp [h]
theorem zv9 (a:UInt64):zcu a=some ⟨2,0,zh3 a,[]⟩:=by
 unfold zcu; rw [zss]; rfl
def okV (v:z04):Bool :=
 if v.Kind=1 then decide (v.Bits=0)&&decide (v.Text=[])
 else if v.Kind=2 then decide (v.Num=0)&&decide (v.Text=[])&&decide (zh3 v.Bits=v.Bits)
 else if v.Kind=3 then decide (v.Num=0)&&decide (v.Bits=0)&&decide (v.Text.length≤30)&&v.Text.all okb
 else false
theorem zum (v:z04) (hb:v.Text.length≤9223372036854775807):z8r v=some (if okV v then 0 else 8):=by
 obtain ⟨K,n,f,t⟩:=v
 unfold z8r okV
 simp only at hb ⊢
 rw [zuw,zmn t hb]
 by_cases h1:K=1
 ·
  subst h1
  by_cases hf:f=0 <;> by_cases ht:t=[] <;> simp [hf,ht]
 by_cases h2:K=2
 ·
  subst h2
  by_cases hn:n=0 <;> by_cases ht:t=[] <;> by_cases hc:zh3 f=f <;> simp [hn,ht,hc,bs]
 by_cases h3:K=3
 ·
  subst h3
  by_cases hl:t.length≤30
  ·
   have hl':(t.length:Int)≤30:=by omega
   by_cases hn:n=0 <;> by_cases hf:f=0 <;> cases t.all okb <;> simp [hn,hf,hl,hl',bs]
  ·
   have hl':¬ (t.length:Int)≤30:=by omega
   by_cases hn:n=0 <;> by_cases hf:f=0 <;> simp [hn,hf,hl,hl',bs]
 ·
  simp [h1,h2,h3]
theorem znq (v:z04) (hb:v.Text.length≤9223372036854775807):zb7 v=some (if okV v then 0 else 8):=by
 obtain ⟨K,n,f,t⟩:=v
 unfold zb7 zdm okV
 simp only at hb ⊢
 rw [zv9,zw2 t hb]
 by_cases h1:K=1
 ·
  subst h1
  by_cases hf:f=0 <;> by_cases ht:t=[] <;> simp [hf,ht,bs]
 by_cases h2:K=2
 ·
  subst h2
  by_cases hc:zh3 f=f
  ·
   by_cases hn:n=0 <;> by_cases ht:t=[] <;> simp [hn,ht,hc,bs]
  ·
   have hc':¬ f=zh3 f:=fun e=>hc e.symm
   by_cases hn:n=0 <;> by_cases ht:t=[] <;> simp [hn,ht,hc,hc',bs]
 by_cases h3:K=3
 ·
  subst h3
  by_cases hl:30<(t.length:Int)
  ·
   have h4:¬ t.length≤30:=by omega
   rw [decide_eq_true hl,decide_eq_false h4]
   simp [bs]
  ·
   have h4:t.length≤30:=by omega
   rw [decide_eq_false hl,decide_eq_true h4]
   cases t.all okb <;> by_cases hn:n=0 <;> by_cases hf:f=0 <;> simp [hn,hf,bs]
 ·
  have e1:(K==1)=false:=by simpa using h1
  have e2:(K==2)=false:=by simpa using h2
  have e3:(K==3)=false:=by simpa using h3
  simp only [e1,e2,e3,Bool.false_eq_true,if_false,bs,h1,h2,h3]
  by_cases h0:K=0
  ·
   subst h0
   split <;> rfl
  ·
   simp [h0]
end
end Go.Proofs.YtfncjjgmldogiaaGreatDoor
