import Derived.Test.YtefkialcgmohkaaGreatDoorYb
set_option linter.unusedSimpArgs false
set_option linter.unusedVariables false
namespace Go.Proofs.YtefkialcgmohkaaGreatDoor
section
open Go Go.RowKit
set_option maxRecDepth 100000
theorem zgp (a1:Int):z1s Tryz.prog 173 [.val (.slice none 0 0),.rd z0d a1] [] (z4b a1) (fun r nv=>⟨[.val (nv 0)],[(100,some (nv 0,.list u8R 5 r))]⟩):=by
 refine z2b 27 Tryz.func173 Z Z Z fun H w=>?_
 refine gSR<|Zb Z<|z0p<|gSR<|Zm Z<|Zq (I.lss Z Z)<|Zj Z (fun h1=>?_) (fun h1=>?_)
 ·
  refine z19m
 ·
  refine Zt<|z0p<|gSR<|Zm Z<|Zm Z<|Zq (capN Z Z tu75)<|Zm Z<|z159 u8R 11 Z<|Zq (z3e Z .rd Z tu75)<|Zq (I.sub Z Z)<|Zq (I.sub Z Z)<|Za Z<|z1n 1 Z fun y2=>Zn<|gSR<|Zm Z<|Zq (I.gtr Z Z)<|Zj Z (fun h3=>?_) (fun h3=>?_)
  ·
   refine z2a<|Zm Z<|Zm Z<|Zq (capN Z Z tu75)<|Zq (cutN Z Z tu75 ti5)<|Zm Z<|z0n fun x4 h5=>Ef Z (apZ 1 Z Z h5 tu75 tu3 ti5 (Zr.num Z) Z) fun v6=>Zm Z<|z159 u8R 23 Z<|Zq (z3e Z .rd Z tu75)<|z0n fun x7 h8=>Ef Z (cutO 1 Z Z Z h8 tu75 ti5) fun v9=>Zb Z<|gSR<|Zm Z<|Zb Z<|z0l<|Ze [v9] [1] Z
  ·
   refine Zt<|gSR<|Zm Z<|Zb Z<|z0l<|zs6 u8R 5 2<|Ze [(.slice none 0 0)] [2] Z
def z11 (a0:List (List UInt8)) (s2:Int × Int):Option (Sum Int (Int × Int)) :=
 if decide (s2.2<(a0.length:Int)) then
  idx a0 s2.2 >>= fun x4 =>
  some (w64 (s2.1+(x4.length:Int))) >>= fun y6 =>
  if decide (y6<0) then
   none
  else
   some (.inr (y6,w64 (s2.2+1)))
 else
  some (.inl s2.1)
def z12 (a0:List (List UInt8)) (s11:(List UInt8) × Int):Option (Sum ((List UInt8)) ((List UInt8) × Int)) :=
 if decide (s11.2<(a0.length:Int)) then
  idx a0 s11.2 >>= fun x14 =>
  app 1 s11.1 x14 >>= fun x16 =>
  some (.inr (x16,w64 (s11.2+1)))
 else
  some (.inl s11.1)
def z2k (a0:List (List UInt8)):Option ((List UInt8)) :=
 (iter (z11 a0) (0,0)) >>= fun s1 =>
 z4b s1 >>= fun r8 =>
 (iter (z12 a0) (r8,0)) >>= fun s10 =>
 some s10
theorem z7d (a0:List (List UInt8)):z1s Tryz.prog 130 [.rd (z02 (z02 u8R)) a0] [] (z2k a0) (fun r nv=>⟨[.val (nv 0)],[(100,some (nv 0,.list u8R 5 r))]⟩):=by
 refine z2b 36 Tryz.func130 Z Z Z fun H w=>?_
 refine gSR<|Zb Z<|gSR<|Zb Z<|z8i (fun (s1:Int) aa ww=>Sta (ctx 36 H [] w) [(0,.rd (z02 (z02 u8R)) a0),(3,.rd z0d s1)] [] aa ww) ?_ (fun s1=>?_)
 ·
  refine gSR<|Zm Z<|Zq (z3e Z .rd Z tu42)<|Zm Z<|Zn<|z1t (fun (s2:Int × Int) aa ww=>Sta (ctx 36 H [] w) [(0,.rd (z02 (z02 u8R)) a0),(3,.rd z0d s2.1),(9,.rd (z02 (z02 u8R)) a0),(10,.rd z0d (a0.length:Int)),(11,.rd z0d s2.2)] [] aa ww) (fun aa ww h=>Zu h []) (fun s2=>?_)
  refine gSR<|Zq (I.lss Z Z)<|Zn<|z0p<|gIf Z Z (fun h3=>?_) (fun h3=>?_)
  ·
   refine Zt<|z0p<|z4t<|gSR<|z0n fun x4 h5=>Zq (ixR Z Z h5 tu42 zq4 Z)<|Zq (ldR Z ty75)<|Zb Z<|gSR<|Zm Z<|Zm Z<|Zq (z3e Z .rd Z tu75)<|Zq (I.add Z Z)<|Za Z<|z1n 3 Z fun y6=>Zn<|gSR<|Zm Z<|Zq (I.lss Z Z)<|Zj Z (fun h7=>?_) (fun h7=>?_)
   ·
    refine z19m
   ·
    refine z2d<|z2v<|z0k<|z2a<|Zq (I.add Z Z)<|Zm Z<|z1q<|z1d (fun aa ww h=>Zu h [])
  ·
   refine z1p<|z0w<|z0x<|z3m (fun aa ww h=>Zu h [])
 ·
  refine gSR<|Zm Z<|Zc [] [(100,1)] Tryz.func173 Z (zgp _) fun r8 n9=>Zb Z<|z8i (fun (s10:(List UInt8)) aa ww=>∃ nv:Nat→Value,Sta (ctx 36 H [] w) [(6,.val (nv 0))] [(1,some ((nv 0),.list u8R 5 s10))] aa ww) ?_ (fun s10=>?_)
  ·
   refine gSR<|Zm Z<|Zq (z3e Z .rd Z tu42)<|Zm Z<|Zn<|z1t (fun (s11:(List UInt8) × Int) aa ww=>∃ nv:Nat→Value,Sta (ctx 36 H [] w) [(6,.val (nv 0)),(25,.rd (z02 (z02 u8R)) a0),(26,.rd z0d (a0.length:Int)),(27,.rd z0d s11.2)] [(1,some ((nv 0),.list u8R 5 s11.1))] aa ww) (fun aa ww h=>⟨nvl [(n9 0)],Zu h [1]⟩) (fun s11=>?_)
   refine gEx fun n12=>gSR<|Zq (I.lss Z Z)<|Zn<|z0p<|gIf Z Z (fun h13=>?_) (fun h13=>?_)
   ·
    refine Zt<|z0p<|z4t<|gSR<|z0n fun x14 h15=>Zq (ixR Z Z h15 tu42 zq4 Z)<|Zq (ldR Z ty75)<|Zb Z<|z2a<|Zm Z<|Zm Z<|z0n fun x16 h17=>Ef Z (apn 1 Z Z Z .rd h17 tu75 ti5 Z Z Z) fun v18=>Za Z<|z1q<|z2v<|z0k<|z2a<|Zq (I.add Z Z)<|Zm Z<|z1q<|z1d (fun aa ww h=>⟨nvl [v18],Zu h [1]⟩)
   ·
    refine z1p<|z0w<|z0x<|z3m (fun aa ww h=>⟨nvl [(n12 0)],Zu h [1]⟩)
  ·
   refine gEx fun n19=>gSR<|Zm Z<|Zb Z<|z0l<|Ze [(n19 0)] [1] Z
def zdo (a0:List UInt8):Option ((List UInt8) × Int) :=
 if decide (10000<(a0.length:Int)) then
  some ([],4)
 else
  z56 (UInt64.ofInt (a0.length:Int)) >>= fun r2 =>
  app 1 r2 a0 >>= fun x4 =>
  some (x4,0)
theorem zh1 (a0:List UInt8):z1s Tryz.prog 102 [.rd (z02 u8R) a0] [] (zdo a0) (fun r nv=>⟨[.val (nv 0),.rd z0d r.2],[(100,some (nv 0,.list u8R 5 r.1))]⟩):=by
 refine z2b 13 Tryz.func102 Z Z Z fun H w=>?_
 refine gSR<|Za Z<|Zb Z<|z0p<|gSR<|Zm Z<|Zq (z3e Z .rd Z tu75)<|Zq (I.gtr Z Z)<|Zj Z (fun h1=>?_) (fun h1=>?_)
 ·
  refine gSR<|Za Z<|Zb Z<|z0l<|z0v<|zs6 u8R 5 1<|Ze [(.slice none 0 0)] [1] Z
 ·
  refine Zt<|gSR<|Zm Z<|Zq (z3e Z .rd Z tu75)<|Zq (I.toU Z tu3 tu41)<|Zc [] [(100,2)] Tryz.func101 Z (z59 _) fun r2 n3=>Zm Z<|z0n fun x4 h5=>Ef Z (apn 2 Z Z Z .rd h5 tu75 ti5 Z Z Z) fun v6=>Za Z<|Zb Z<|z0l<|Ze [v6] [2] Z
def zh6 (a0:Int):Option ((List UInt8)) :=
 z56 ((zrl (UInt64.ofInt a0) 1) ^^^ (UInt64.ofInt (shrI a0 63))) >>= fun r1 =>
 some r1
theorem zpt (a0:Int):z1s Tryz.prog 204 [.rd z0d a0] [] (zh6 a0) (fun r nv=>⟨[.val (nv 0)],[(100,some (nv 0,.list u8R 5 r))]⟩):=by
 refine z2b 11 Tryz.func204 Z Z Z fun H w=>?_
 refine gSR<|Zb Z<|gSR<|Zm Z<|Zq (I.toU Z Tryz.underlying2 tu41)<|Zq (U.shl Z Z (Int.natCast_nonneg _))<|Zm Z<|Zq (I.shr Z Z (Int.natCast_nonneg _))<|Zq (I.toU Z Tryz.underlying2 tu41)<|Zq (U.xor Z Z)<|Zc [] [(100,1)] Tryz.func101 Z (z59 _) fun r1 n2=>Zb Z<|z0l<|Ze [(n2 0)] [1] Z
def zag (a0:z06) (s14:(List UInt8) × Int):Option (Sum ((List UInt8)) ((List UInt8) × Int)) :=
 if decide (0≤s14.2) then
  chk (0≤s14.2) >>= fun u17 =>
  app 1 s14.1 [(z99 a0.Bits ((s14.2:Int).toNat)).toUInt8] >>= fun x20 =>
  some (w64 (s14.2 - 8)) >>= fun y23 =>
  some (.inr (x20,y23))
 else
  some (.inl s14.1)
def zfp (a0:z06):Option ((List UInt8) × Int) :=
 zfa a0 >>= fun r2 =>
 if r2 != 0 then
  some ([],r2)
 else
  (if a0.Kind==1 then
   zh6 a0.Num >>= fun r8 =>
   app 1 [a0.Kind] r8 >>= fun x10 =>
   some x10
  else
   if a0.Kind==2 then
    iter (zag a0) ([a0.Kind],56)
   else
    if a0.Kind==3 then
     chk (a0.Text.length≤281474976710656) >>= fun u25 =>
     zdo a0.Text >>= fun r27 =>
     app 1 [a0.Kind] r27.1 >>= fun x29 =>
     some x29
    else
     some [a0.Kind]) >>= fun s6 =>
  some (s6,0)
theorem zop (a0:z06):z1s Tryz.prog 172 [.rd z28 a0] [] (zfp a0) (fun r nv=>⟨[.val (nv 0),.rd z0d r.2],[(100,some (nv 0,.list u8R 5 r.1))]⟩):=by
 refine z2b 53 Tryz.func172 Z Z Z fun H w=>?_
 refine gSR<|Eb Z (bx 1 Z) fun v1=>Za Z<|Zb Z<|z0p<|gSR<|Zq (ld 1 Z Z fH zut Z)<|Zc [] [] Tryz.func203 Z (zjw _) fun r2 n3=>Zb Z<|gSR<|Zm Z<|Zq (I.neq Z Z)<|Zj Z (fun h4=>?_) (fun h4=>?_)
 ·
  refine gSR<|Zm Z<|Za Z<|Zb Z<|z0l<|z0v<|zs6 u8R 5 2<|Ze [(.slice none 0 0)] [2] Z
 ·
  refine Zt<|gSR<|Zq (faB 1 Z Z Tryz.underlying67 Z (by exact ti5))<|Zq (ld 1 Z Z (fP (z3c _)) ty5 Z)<|Ef Z (lit (R:=u8R) ([a0.Kind]:List UInt8) 3 (pP Z Z<|pN) Z tu75 ti5 Z Z) fun v5=>Zb Z<|z8i (fun (s6:(List UInt8)) aa ww=>∃ nv:Nat→Value,Sta (ctx 53 H [] w) [(5,.val (nv 0))] [(3,some ((nv 0),.list u8R 5 s6))] aa ww) ?_ (fun s6=>?_)
  ·
   refine gSR<|Zq (faB 1 Z Z Tryz.underlying67 Z (by exact ti5))<|Zq (ld 1 Z Z (fP (z3c _)) ty5 Z)<|Zn<|z4t<|gSR<|Zq (B.eql Z Z)<|Zb Z<|gIf Z Z (fun h7=>?_) (fun h7=>?_)
   ·
    refine gKn 20 Z h7<|z2a<|Zm Z<|Zq (faB 1 Z Z Tryz.underlying67 Z (by exact ti2))<|Zq (ld 1 Z Z (fP (z7o _)) ty2 Z)<|Zc [] [(100,4)] Tryz.func204 Z (zpt _) fun r8 n9=>z0n fun x10 h11=>Ef Z (apn 3 Z Z Z (.own 4 Z) h11 tu75 ti5 Z Z Z) fun v12=>Za Z<|z1q<|z2v<|z3m (fun aa ww h=>⟨nvl [v12],Zu h [3]⟩)
   ·
    refine gKn 20 Z h7<|gSR<|Zq (B.eql Z Z)<|Zb Z<|gIf Z Z (fun h13=>?_) (fun h13=>?_)
    ·
     refine gKn 27 Z h13<|gSR<|Zb Z<|z1t (fun (s14:(List UInt8) × Int) aa ww=>∃ nv:Nat→Value,Sta (ctx 53 H [] w) [(1,.val (z04 v1 0)),(5,.val (nv 0)),(6,.rd z0d s14.2)] [(1,some (v1,.box 67 [.rd z28 a0])),(3,some ((nv 0),.list u8R 5 s14.1))] aa ww) (fun aa ww h=>⟨nvl [v5],Zu h [1,3]⟩) (fun s14=>?_)
     refine gEx fun n15=>z0p<|gSR<|Zm Z<|Zq (I.geq Z Z)<|Zj Z (fun h16=>?_) (fun h16=>?_)
     ·
      refine Zt<|z0p<|z4t<|z2a<|Zm Z<|Zq (faB 1 Z Z Tryz.underlying67 Z (by exact zs2))<|Zq (ld 1 Z Z (fP (z48 _)) zqy Z)<|Zm Z<|z0n fun u17 h18=>Zq (U.shr Z Z (z4g h18))<|Zq (U.toB Z tu41 tu5)<|Ef Z (lit (R:=u8R) ([(z99 a0.Bits ((s14.2:Int).toNat)).toUInt8]:List UInt8) 5 (pP Z Z<|pN) Z tu75 ti5 Z Z) fun v19=>z0n fun x20 h21=>Ef Z (apn 3 Z Z Z (.own 5 Z) h21 tu75 ti5 Z Z Z) fun v22=>Za Z<|z1q<|z2v<|z0k<|z2a<|Zm Z<|Zq (I.sub Z Z)<|Za Z<|z1n 6 Z fun y23=>z1q<|z1d (fun aa ww h=>⟨nvl [v22],Zu h [1,3]⟩)
     ·
      refine z1p<|z0w<|z0x<|z2v<|z3m (fun aa ww h=>⟨nvl [(n15 0)],Zu h [3]⟩)
    ·
     refine gKn 27 Z h13<|gSR<|Zq (B.eql Z Z)<|Zb Z<|gIf Z Z (fun h24=>?_) (fun h24=>?_)
     ·
      refine gKn 41 Z h24<|gSR<|Zq (faB 1 Z Z Tryz.underlying67 Z (by exact ti9))<|Zq (ld 1 Z Z (fP (z3o _)) ty9 Z)<|z0n fun u25 h26=>z148 Z Z h26 tu9 tu75 tu5<|Zc [] [(100,6)] Tryz.func102 Z (zh1 _) fun r27 n28=>Zm Z<|Zq (ext Z Z)<|Zq (ext Z Z)<|Za Z<|Zb Z<|z2a<|Zm Z<|Zm Z<|z0n fun x29 h30=>Ef Z (apn 3 Z Z Z (.own 6 Z) h30 tu75 ti5 Z Z Z) fun v31=>Za Z<|z1q<|z2v<|z3m (fun aa ww h=>⟨nvl [v31],Zu h [3]⟩)
     ·
      refine gKn 41 Z h24<|z2d<|z2v<|z3m (fun aa ww h=>⟨nvl [v5],Zu h [3]⟩)
  ·
   refine gEx fun n32=>gSR<|Zm Z<|Za Z<|Zb Z<|z0l<|Ze [(n32 0)] [3] Z
def zgv (a0:z08):Option ((List UInt8) × Int) :=
 zhh ({ a0 with Sig:=(⟨0,0⟩:z0c) }) >>= fun r2 =>
 if r2 != 0 then
  some ([],r2)
 else
  zln (({ a0 with Sig:=(⟨0,0⟩:z0c) }).Preds) >>= fun r5 =>
  z56 ((({ a0 with Sig:=(⟨0,0⟩:z0c) }).Author).toUInt64) >>= fun r7 =>
  z56 (({ a0 with Sig:=(⟨0,0⟩:z0c) }).Stamp) >>= fun r10 =>
  z2k [[111],r7,r5.1,r10,[(({ a0 with Sig:=(⟨0,0⟩:z0c) }).Act).Kind]] >>= fun r13 =>
  if ((({ a0 with Sig:=(⟨0,0⟩:z0c) }).Act).Kind)==1 then
   some (r13,0)
  else
   chk (((({ a0 with Sig:=(⟨0,0⟩:z0c) }).Act).Key).length≤281474976710656) >>= fun u18 =>
   zdo ((({ a0 with Sig:=(⟨0,0⟩:z0c) }).Act).Key) >>= fun r20 =>
   app 1 r13 r20.1 >>= fun x22 =>
   if ((({ a0 with Sig:=(⟨0,0⟩:z0c) }).Act).Kind)==4 then
    zfp ((({ a0 with Sig:=(⟨0,0⟩:z0c) }).Act).Value) >>= fun r26 =>
    app 1 x22 r26.1 >>= fun x28 =>
    some (x28,0)
   else
    some (x22,0)
set_option maxHeartbeats 4000000 in
theorem zli (a0:z08):z1s Tryz.prog 129 [.rd z03 a0] [] (zgv a0) (fun r nv=>⟨[.val (nv 0),.rd z0d r.2],[(100,some (nv 0,.list u8R 5 r.1))]⟩):=by
 refine z2b 71 Tryz.func129 Z Z Z fun H w=>?_
 refine gSR<|Eb Z (bx 1 Z) fun v1=>Za Z<|Zb Z<|gSR<|Zq (bld (x':=(⟨0,0⟩:z0c)) [(0,1),(1,1)] Tryz.underlying71 zn3 Z zn4 Z (Bld.done Z))<|Zq (faB 1 Z Z Tryz.underlying73 Z (by exact zn3))<|Es (sto 1 Z Z (fP (z2j _)) Z zn3)<|Zn<|z0p<|gSR<|Zq (ld 1 Z Z fH zaa Z)<|Zc [] [] Tryz.func128 Z (zjz _) fun r2 n3=>Zb Z<|gSR<|Zm Z<|Zq (I.neq Z Z)<|Zj Z (fun h4=>?_) (fun h4=>?_)
 ·
  refine gSR<|Zm Z<|Za Z<|Zb Z<|z0l<|z0v<|zs6 u8R 5 2<|Ze [(.slice none 0 0)] [2] Z
 ·
  refine Zt<|gSR<|Zq (faB 1 Z Z Tryz.underlying73 Z (by exact z5l))<|Zq (ld 1 Z Z (fP (z0y _)) z71 Z)<|Zc [] [(100,3)] Tryz.func100 Z (zox _) fun r5 n6=>Zm Z<|Zq (ext Z Z)<|Zq (ext Z Z)<|Za Z<|Zb Z<|z0p<|gFrz 3 [23,5] Z (fS Z<|fS Z<|fN)<|zs3 [(1,.val (z04 v1 0)),(5,.rd (z02 u8R) r5.1)] [(1,some (v1,.box 73 [.rd z03 ({ a0 with Sig:=(⟨0,0⟩:z0c) })]))] [1] (sS Z<|sS Z<|sN) (y1 Z)<|z4n fun r7 h9=>z4n fun r10 h12=>z4n fun r13 h15=>gOr [] [⟨4,none,[(0,none)]⟩,⟨1,some ([], fun nv=>(v1,.box 73 [.rd z03 ({ a0 with Sig:=(⟨0,0⟩:z0c) })])),[]⟩,⟨5,none,[(4,none)]⟩,⟨6,none,[(8,none)]⟩,⟨7,none,[(12,none)]⟩,⟨8,none,[(13,none)]⟩,⟨9,none,[(14,some ([6], fun nv=>((nv 6),.list u8R 5 r13)))]⟩] [⟨some (25,[], fun nv=>.rd (z02 u8R) [111]),[(0,0,true)],[1],[]⟩,pk 26 (.val (z04 v1 (0+0))) [(1,0,false)],pk 27 (.rd z0q (({ a0 with Sig:=(⟨0,0⟩:z0c) }).Author)) [(1,0,false)],pd 28 (.rd z2c ((({ a0 with Sig:=(⟨0,0⟩:z0c) }).Author).toUInt64)),⟨some (29,[], fun nv=>.rd (z02 u8R) r7),[(2,0,true)],[2],[]⟩,pd 30 (.rd (z02 u8R) r5.1),pk 31 (.val (z04 v1 (0+2))) [(1,0,false)],pk 32 (.rd z2c (({ a0 with Sig:=(⟨0,0⟩:z0c) }).Stamp)) [(1,0,false)],⟨some (33,[], fun nv=>.rd (z02 u8R) r10),[(3,0,true)],[3],[]⟩,pk 34 (.val (z04 v1 (0+3))) [(1,0,false)],pk 35 (.val (z04 v1 (0+3+0))) [(1,0,false)],pk 36 (.rd u8R ((({ a0 with Sig:=(⟨0,0⟩:z0c) }).Act).Kind)) [(1,0,false)],⟨some (37,[], fun nv=>.rd (z02 u8R) [(({ a0 with Sig:=(⟨0,0⟩:z0c) }).Act).Kind]),[(4,0,true)],[4],[]⟩,⟨some (38,[], fun nv=>.rd (z02 (z02 u8R)) [[111],r7,r5.1,r10,[(({ a0 with Sig:=(⟨0,0⟩:z0c) }).Act).Kind]]),[(5,0,true)],[5],[]⟩,⟨some (39,[6], fun nv=>.val (nv 6)),[(6,0,true)],[6],[]⟩,⟨some (7,[6], fun nv=>.val (nv 6)),[],[],[]⟩] mixed (oC (oFz (A1:=fun nv=>[(4,some ((nv 1),.list u8R 5 [111]))]) 4 1 (oEf 4 1 (fun nv E=>lit (R:=u8R) ([111]:List UInt8) 4 (pP Z Z<|pN) Z tu75 ti5 Z Z)))<|oC (oRn (fun nv E=>faB 1 Z Z Tryz.underlying73 Z (by exact z6m)))<|oC (oRn (fun nv E=>ld 1 Z Z (fP (z3a _)) zae Z))<|oC (oRn (fun nv E=>W.toU Z tu65 tu41))<|oC (oFz (A1:=fun nv=>[(5,some ((nv 2),.list u8R 5 r7))]) 5 2 (oCl [2] [] [(100,5)] h9 Tryz.func101 Z (fun nv=>(z59 _)) (fun nv=>(Y1 Z)) (fun nv E=>rN)))<|oC (oRn (fun nv E=>mv Z))<|oC (oRn (fun nv E=>faB 1 Z Z Tryz.underlying73 Z (by exact zs2)))<|oC (oRn (fun nv E=>ld 1 Z Z (fP (z4k _)) zqy Z))<|oC (oFz (A1:=fun nv=>[(6,some ((nv 3),.list u8R 5 r10))]) 6 3 (oCl [3] [] [(100,6)] h12 Tryz.func101 Z (fun nv=>(z59 _)) (fun nv=>(Y1 Z)) (fun nv E=>rN)))<|oC (oRn (fun nv E=>faB 1 Z Z Tryz.underlying73 Z (by exact zpj)))<|oC (oRn (fun nv E=>faB 1 Z Z Tryz.underlying69 Z (by exact ti5)))<|oC (oRn (fun nv E=>ld 1 Z Z ((fP (z29 _)).part (z3x _)) ty5 Z))<|oC (oFz (A1:=fun nv=>[(7,some ((nv 4),.list u8R 5 [(({ a0 with Sig:=(⟨0,0⟩:z0c) }).Act).Kind]))]) 7 4 (oEf 7 4 (fun nv E=>lit (R:=u8R) ([(({ a0 with Sig:=(⟨0,0⟩:z0c) }).Act).Kind]:List UInt8) 7 (pP Z Z<|pN) Z tu75 ti5 Z Z)))<|oC (oFz (A1:=fun nv=>[(8,some ((nv 5),.list (z02 u8R) 75 [[111],r7,r5.1,r10,[(({ a0 with Sig:=(⟨0,0⟩:z0c) }).Act).Kind]]))]) 8 5 (oEf 8 5 (fun nv E=>lit (R:=(z02 u8R)) ([[111],r7,r5.1,r10,[(({ a0 with Sig:=(⟨0,0⟩:z0c) }).Act).Kind]]:List (List UInt8)) 8 (pP Z Z<|pP Z Z<|pP Z Z<|pP Z Z<|pP Z Z<|pN) Z tu42 zq4 Z Z)))<|oC (oCl [6] [] [(100,9)] h15 Tryz.func130 Z (fun nv=>(z7d _)) (fun nv=>(Y1 Z)) (fun nv E=>rN))<|oC (oRn (fun nv E=>asg Z))<|oN) fun n16=>z0k<|z0p<|gSR<|Zq (faB 1 Z Z Tryz.underlying73 Z (by exact zpj))<|Zq (faB 1 Z Z Tryz.underlying69 Z (by exact ti5))<|Zq (ld 1 Z Z ((fP (z29 _)).part (z3x _)) ty5 Z)<|Zq (B.eql Z Z)<|Zj Z (fun h17=>?_) (fun h17=>?_)
  ·
   refine gSR<|Zm Z<|Za Z<|Zb Z<|z0l<|z0v<|Ze [(n16 6)] [9] Z
  ·
   refine Zt<|gSR<|Zq (faB 1 Z Z Tryz.underlying73 Z (by exact zpj))<|Zq (faB 1 Z Z Tryz.underlying69 Z (by exact ti9))<|Zq (ld 1 Z Z ((fP (z29 _)).part (z6f _)) ty9 Z)<|z0n fun u18 h19=>z148 Z Z h19 tu9 tu75 tu5<|Zc [] [(100,10)] Tryz.func102 Z (zh1 _) fun r20 n21=>Zm Z<|Zq (ext Z Z)<|Zq (ext Z Z)<|Za Z<|Zb Z<|gSR<|Zm Z<|Zm Z<|z0n fun x22 h23=>Ef Z (apn 9 Z Z Z (.own 10 Z) h23 tu75 ti5 Z Z Z) fun v24=>Zb Z<|z0p<|gSR<|Zq (faB 1 Z Z Tryz.underlying73 Z (by exact zpj))<|Zq (faB 1 Z Z Tryz.underlying69 Z (by exact ti5))<|Zq (ld 1 Z Z ((fP (z29 _)).part (z3x _)) ty5 Z)<|Zq (B.eql Z Z)<|Zj Z (fun h25=>?_) (fun h25=>?_)
   ·
    refine gSR<|Zq (faB 1 Z Z Tryz.underlying73 Z (by exact zpj))<|Zq (faB 1 Z Z Tryz.underlying69 Z (by exact zmf))<|Zq (ld 1 Z Z ((fP (z29 _)).part (z5q _)) zut Z)<|Zc [] [(100,11)] Tryz.func172 Z (zop _) fun r26 n27=>Zm Z<|Zq (ext Z Z)<|Zq (ext Z Z)<|Za Z<|Zb Z<|z2a<|Zm Z<|Zm Z<|z0n fun x28 h29=>Ef Z (apn 9 Z Z Z (.own 11 Z) h29 tu75 ti5 Z Z Z) fun v30=>Zb Z<|gSR<|Zm Z<|Za Z<|Zb Z<|z0l<|Ze [v30] [9] Z
   ·
    refine Zt<|gSR<|Zm Z<|Za Z<|Zb Z<|z0l<|Ze [v24] [9] Z
def ze8 (a0:z08):Option ((List UInt8) × Int) :=
 zhh a0 >>= fun r2 =>
 if r2 != 0 then
  some ([],r2)
 else
  zgv a0 >>= fun r5 =>
  z56 a0.Sig.E.toUInt64 >>= fun r7 =>
  z56 a0.Sig.S.toUInt64 >>= fun r9 =>
  z2k [r5.1,r7,r9] >>= fun r12 =>
  some (r12,0)
theorem zmu (a0:z08):z1s Tryz.prog 89 [.rd z03 a0] [] (ze8 a0) (fun r nv=>⟨[.val (nv 0),.rd z0d r.2],[(100,some (nv 0,.list u8R 5 r.1))]⟩):=by
 refine z2b 30 Tryz.func89 Z Z Z fun H w=>?_
 refine gSR<|Eb Z (bx 1 Z) fun v1=>Za Z<|Zb Z<|z0p<|gSR<|Zq (ld 1 Z Z fH zaa Z)<|Zc [] [] Tryz.func128 Z (zjz _) fun r2 n3=>Zb Z<|gSR<|Zm Z<|Zq (I.neq Z Z)<|Zj Z (fun h4=>?_) (fun h4=>?_)
 ·
  refine gSR<|Zm Z<|Za Z<|Zb Z<|z0l<|z0v<|zs6 u8R 5 2<|Ze [(.slice none 0 0)] [2] Z
 ·
  refine Zt<|gSR<|Zq (ld 1 Z Z fH zaa Z)<|Zc [] [(100,3)] Tryz.func129 Z (zli _) fun r5 n6=>Zm Z<|Zq (ext Z Z)<|Zq (ext Z Z)<|Za Z<|Zb Z<|z0p<|z8h [19,34,37,40] mixed Z Z<|hTk 0 Z Z (mv Z)<|hTk 1 Z Z (faB 1 Z Z Tryz.underlying73 Z (by exact zn3))<|hTk 2 Z Z (faB 1 Z Z Tryz.underlying71 Z (by exact z6m))<|hTk 3 Z Z (ld 1 Z Z ((fP (z2j _)).part (z5f _)) zae Z)<|hTk 4 Z Z (W.toU Z tu65 tu41)<|hTk 6 Z Z (faB 1 Z Z Tryz.underlying73 Z (by exact zn3))<|hTk 7 Z Z (faB 1 Z Z Tryz.underlying71 Z (by exact z6m))<|hTk 8 Z Z (ld 1 Z Z ((fP (z2j _)).part (z81 _)) zae Z)<|hTk 9 Z Z (W.toU Z tu65 tu41)<|z3v 5 [] [(100,19)] Z (by kernel_rfl) Z (gd0 Z) Z Tryz.func101 Z Z (z59 _) (Y1 Z) rN Z (fun _ _=>z3p) fun r7 n8=>z3v 10 [] [(100,34)] Z (by kernel_rfl) Z (gd0 Z) Z Tryz.func101 Z Z (z59 _) (Y1 Z) rN Z (fun _ _=>z3p) fun r9 n10=>zyy 3 [15,5,17] Z (fS Z<|fS Z<|fS Z<|fN)<|zyy 19 [22] Z (fS Z<|fN)<|zyy 34 [27] Z (fS Z<|fN)<|Zo 11 Z Z Z (lit (R:=(z02 u8R)) ([r5.1,r7,r9]:List (List UInt8)) 37 (pP Z Z<|pP Z Z<|pP Z Z<|pN) Z tu42 zq4 Z Z) fun v11=>zyy 37 [28] Z (fS Z<|fN)<|z3v 12 [] [(100,40)] Z (by kernel_rfl) Z (gd0 Z) Z Tryz.func130 Z Z (z7d _) (Y1 Z) rN Z (fun _ _=>z3p) fun r12 n13=>Zf 13 Z Z z3p (asg Z)<|hTk 14 Z Z (asg Z)<|z4s (by kernel_rfl)<|z0k<|z0l<|Ze [(n13 0)] [40] Z
def zf8 (a0:List UInt8):Option (Bool) :=
 some (decide (10000<(a0.length:Int))) >>= fun y1 =>
 some y1
theorem zl7 (a0:List UInt8):z1s Tryz.prog 214 [.rd (z02 u8R) a0] [] (zf8 a0) (fun r nv=>⟨[.rd z0j r],[]⟩):=by
 refine z2b 6 Tryz.func214 Z Z Z fun H w=>?_
 refine gSR<|Zb Z<|gSR<|Zm Z<|Zq (z3e Z .rd Z tu75)<|Zq (I.gtr Z Z)<|Za Z<|z1n 2 Z fun y1=>Zn<|z0l<|Ze [] [] Z
def zfs  : Option (z2p) :=
 some (⟨(#v[1779033703,3144134277,1013904242,2773480762,1359893119,2600822924,528734635,1541459225]:Vector UInt32 8),[],0⟩:z2p)
theorem zp9  : z1s Tryz.prog 215 [] [] (zfs) (fun r nv=>⟨[.rd z2z r],[]⟩):=by
 refine z2b 3 Tryz.func215 Z Z Z fun H w=>?_
 refine gSR<|Eb Z (z5o 1 zpn (ZrE.rd (R:=(z3j 8 z0q)) (x:=(Vector.replicate 8 0)) zse (ZrE.nilS (ZrE.rd (R:=z0d) (x:=0) (Zr.num Z) ZrE.nil Z)) Z)) fun v1=>Zn<|gSR<|Zq (litA (R:=z0q) [1779033703,3144134277,1013904242,2773480762,1359893119,2600822924,528734635,1541459225] (#v[1779033703,3144134277,1013904242,2773480762,1359893119,2600822924,528734635,1541459225]:Vector UInt32 8) (pP Z Z<|pP Z Z<|pP Z Z<|pP Z Z<|pP Z Z<|pP Z Z<|pP Z Z<|pP Z Z<|pN) Z tu164 zj9 Z z6m)<|Zq (zm2 [(0,8),(8,1),(9,1)] Tryz.underlying227 zpn (ZrE.rd (R:=(z3j 8 z0q)) (x:=(Vector.replicate 8 0)) zse (ZrE.nilS (ZrE.rd (R:=z0d) (x:=0) (Zr.num Z) ZrE.nil Z)) Z) Z (zgd.cons Z Z z15 (zaf.cast (zaf.here z15) Z)<|zgd.done Z))<|Es (zm1 1 Z Z (z07.cast (z07.cons z15 (z07.cons z05 (z07.cons z15 z07.nil))) Z) Z (z20.cons z8w (z20.cons z0r (z20.cons z8w z20.nil))) (z07.cast (z07.cons z15 (z07.cons z05 (z07.cons z15 z07.nil))) Z) zpn)<|Zn<|z0l<|zga u8R [.rd (z3j 8 z0q) (#v[1779033703,3144134277,1013904242,2773480762,1359893119,2600822924,528734635,1541459225]:Vector UInt32 8),.rd (z02 u8R) [],.rd z0d 0] 1 [.rd (z3j 8 z0q) (#v[1779033703,3144134277,1013904242,2773480762,1359893119,2600822924,528734635,1541459225]:Vector UInt32 8)] [.rd z0d 0] Z Z Z<|znn (R:=z2z) (⟨(#v[1779033703,3144134277,1013904242,2773480762,1359893119,2600822924,528734635,1541459225]:Vector UInt32 8),[],0⟩:z2p) 1 Z (Sp.via (Sp.prod (Sp.prod (Sp.prod Sp.unit))))<|zbm [] [] Z (eC 1 Z Z zs9<|eN) (rN)
def z1z (a0:UInt32) (a1:Int):Option (UInt32) :=
 some ((UInt64.ofInt a1) &&& 31) >>= fun y1 =>
 some ((zqv a0 y1.toNat) ||| (z51 a0 ((32 - y1).toNat))) >>= fun y2 =>
 some y2
theorem z2n (a0:UInt32) (a1:Int):z1s Tryz.prog 240 [.rd z0q a0,.rd z0d a1] [] (z1z a0 a1) (fun r nv=>⟨[.rd z0q r],[]⟩):=by
 refine z2b 17 Tryz.func240 Z Z Z fun H w=>?_
 refine gSR<|Zb Z<|gSR<|Zm Z<|Zq (I.toU Z tu3 Tryz.underlying150)<|Zq (U.and Z Z)<|Za Z<|z1n 5 Z fun y1=>Zn<|gSR<|Zm Z<|Zm Z<|Zq (W.shl Z Z (Int.natCast_nonneg _))<|Zm Z<|Zm Z<|Zq (U.sub Z Z)<|Zq (W.shr Z Z (Int.natCast_nonneg _))<|Zq (W.or Z Z)<|Za Z<|z1n 4 Z fun y2=>Zn<|z0l<|Ze [] [] Z
def z80 (x3:List UInt8) (s5:(Vector UInt32 64) × Int):Option (Sum ((Vector UInt32 64)) ((Vector UInt32 64) × Int)) :=
 if decide (s5.2<(x3.length:Int)) then
  idx x3 s5.2 >>= fun x7 =>
  z98 s5.1 (w64 (Int.tdiv s5.2 4)) >>= fun x9 =>
  z98 s5.1 (w64 (Int.tdiv s5.2 4)) >>= fun x11 =>
  some (.inr (zkn s5.1 (w64 (Int.tdiv s5.2 4)) ((zqv x9 8) ||| x7.toUInt32),w64 (s5.2+1)))
 else
  some (.inl s5.1)
def z5p (s14:(Vector UInt32 64) × Int):Option (Sum ((Vector UInt32 64)) ((Vector UInt32 64) × Int)) :=
 if decide (s14.2<64) then
  z98 s14.1 (w64 (s14.2 - 15)) >>= fun x16 =>
  z98 s14.1 (w64 (s14.2 - 2)) >>= fun x18 =>
  z1z x16 (-7) >>= fun r20 =>
  z1z x16 (-18) >>= fun r22 =>
  some ((r20 ^^^ r22) ^^^ (z51 x16 3)) >>= fun y24 =>
  z1z x18 (-17) >>= fun r25 =>
  z1z x18 (-19) >>= fun r27 =>
  some ((r25 ^^^ r27) ^^^ (z51 x18 10)) >>= fun y29 =>
  z98 s14.1 (w64 (s14.2 - 16)) >>= fun x30 =>
  z98 s14.1 (w64 (s14.2 - 7)) >>= fun x32 =>
  z98 s14.1 s14.2 >>= fun x34 =>
  some (w64 (s14.2+1)) >>= fun y37 =>
  some (.inr (zkn s14.1 s14.2 (((x30+x32)+y24)+y29),y37))
 else
  some (.inl s14.1)
def zfb (a0:List UInt8):Option ((Vector UInt32 64)) :=
 (cut a0 0 64 >>= fun x3 =>
 iter (z80 x3) ((Vector.replicate 64 0),0)) >>= fun s2 =>
 (iter (z5p) (s2,16)) >>= fun s13 =>
 some s13
set_option maxHeartbeats 4000000 in
theorem zlo (a0:List UInt8):z1s Tryz.prog 237 [.rd (z02 u8R) a0] [] (zfb a0) (fun r nv=>⟨[.rd (z3j 64 z0q) r],[]⟩):=by
 refine z2b 74 Tryz.func237 Z Z Z fun H w=>?_
 refine gSR<|Eb Z (z5o 1 z10d (.zr (R:=(z3j 64 z0q)) (x:=(Vector.replicate 64 0)) z180)) fun v1=>Zn<|z8i (fun (s2:(Vector UInt32 64)) aa ww=>Sta (ctx 74 H [] w) [(2,.val (z04 v1 0))] [(1,some (v1,.box 249 [.rd (z3j 64 z0q) s2]))] aa ww) ?_ (fun s2=>?_)
 ·
  refine gSR<|Zm Z<|z0n fun x3 h4=>Zq (cut' Z .no (.to Z) h4 tu75 ti5)<|Zq (z3e Z .rd Z tu75)<|Zm Z<|Zn<|z1t (fun (s5:(Vector UInt32 64) × Int) aa ww=>Sta (ctx 74 H [] w) [(2,.val (z04 v1 0)),(11,.rd (z02 u8R) x3),(12,.rd z0d (x3.length:Int)),(13,.rd z0d s5.2)] [(1,some (v1,.box 249 [.rd (z3j 64 z0q) s5.1]))] aa ww) (fun aa ww h=>Zu h [1]) (fun s5=>?_)
  refine gSR<|Zq (I.lss Z Z)<|Zn<|z0p<|gIf Z Z (fun h6=>?_) (fun h6=>?_)
  ·
   refine Zt<|z0p<|z4t<|gSR<|Zm Z<|z0n fun x7 h8=>Zq (ixR Z Z h8 tu75 ti5 Z)<|Zq (ldR Z ty5)<|Za Z<|Zb Z<|z2a<|Zm Z<|Zq (I.quo Z Z (by decide))<|Zm Z<|Zq (I.quo Z Z (by decide))<|z0n fun x9 h10=>Zq (ixB 1 Z Z Z h10 Tryz.underlying249 z6m)<|Zq (ld 1 Z Z (fP (.el h10)) zae Z)<|Zq (W.shl Z Z (Int.natCast_nonneg _))<|Zm Z<|Zq (B.toW Z tu5 tu65)<|Zq (W.or Z Z)<|z0n fun x11 h12=>Zq (ixB 1 Z Z Z h12 Tryz.underlying249 z6m)<|Es (sto 1 Z Z (fP (.el h12)) Z z6m)<|z1q<|z2v<|z0k<|z2a<|Zq (I.add Z Z)<|Zm Z<|z1q<|z1d (fun aa ww h=>Zu h [1])
  ·
   refine z1p<|z0w<|z0x<|z3m (fun aa ww h=>Zu h [1])
 ·
  refine z8i (fun (s13:(Vector UInt32 64)) aa ww=>Sta (ctx 74 H [] w) [(2,.val (z04 v1 0))] [(1,some (v1,.box 249 [.rd (z3j 64 z0q) s13]))] aa ww) ?_ (fun s13=>?_)
  ·
   refine gSR<|Zb Z<|z1t (fun (s14:(Vector UInt32 64) × Int) aa ww=>Sta (ctx 74 H [] w) [(2,.val (z04 v1 0)),(5,.rd z0d s14.2)] [(1,some (v1,.box 249 [.rd (z3j 64 z0q) s14.1]))] aa ww) (fun aa ww h=>Zu h [1]) (fun s14=>?_)
   refine z0p<|gSR<|Zm Z<|Zq (I.lss Z Z)<|Zj Z (fun h15=>?_) (fun h15=>?_)
   ·
    refine Zt<|z0p<|z4t<|z0p<|zik mixed (by kernel_rfl)<|Rq Z (mv Z)<|Rq Z (I.sub Z Z)<|z8t fun x16 h17=>Rq Z (ixB 1 Z Z Z h17 Tryz.underlying249 z6m)<|Rq Z (ld 1 Z Z (fP (.el h17)) zae Z)<|Rq Z (mv Z)<|Rq Z (I.sub Z Z)<|z8t fun x18 h19=>Rq Z (ixB 1 Z Z Z h19 Tryz.underlying249 z6m)<|Rq Z (ld 1 Z Z (fP (.el h19)) zae Z)<|Rq Z (asg Z)<|Rq Z (asg Z)<|zt9<|z0k<|gSR<|Zm Z<|Zc [] [] Tryz.func240 Z (z2n _ _) fun r20 n21=>Zm Z<|Zc [] [] Tryz.func240 Z (z2n _ _) fun r22 n23=>Zq (W.xor Z Z)<|Zm Z<|Zq (W.shr Z Z (Int.natCast_nonneg _))<|Zq (W.xor Z Z)<|Za Z<|z1n 8 Z fun y24=>Zn<|gSR<|Zm Z<|Zc [] [] Tryz.func240 Z (z2n _ _) fun r25 n26=>Zm Z<|Zc [] [] Tryz.func240 Z (z2n _ _) fun r27 n28=>Zq (W.xor Z Z)<|Zm Z<|Zq (W.shr Z Z (Int.natCast_nonneg _))<|Zq (W.xor Z Z)<|Za Z<|z1n 9 Z fun y29=>Zn<|zs3 [(2,.val (z04 v1 0)),(5,.rd z0d s14.2),(8,.rd z0q y24),(9,.rd z0q y29)] [(1,some (v1,.box 249 [.rd (z3j 64 z0q) s14.1]))] [1] (Zs Z Z Z Z<|sN) (y1 Z)<|z4n fun x30 h31=>z4n fun x32 h33=>z4n fun x34 h35=>gOr [] [⟨1,some ([], fun nv=>(v1,.box 249 [.rd (z3j 64 z0q) s14.1])),[(15,some ([], fun nv=>(v1,.box 249 [.rd (z3j 64 z0q) (zkn s14.1 s14.2 (((x30+x32)+y24)+y29))])))]⟩] [pd 58 (.rd z0d s14.2),pd 59 (.rd z0d s14.2),pd 60 (.rd z0d (w64 (s14.2 - 16))),pk 61 (.val (z04 v1 (0+(w64 (s14.2 - 16):Int).toNat * 1))) [(0,0,false)],pk 62 (.rd z0q x30) [(0,0,false)],pd 63 (.rd z0d s14.2),pd 64 (.rd z0d (w64 (s14.2 - 7))),pk 65 (.val (z04 v1 (0+(w64 (s14.2 - 7):Int).toNat * 1))) [(0,0,false)],pk 66 (.rd z0q x32) [(0,0,false)],pd 67 (.rd z0q (x30+x32)),pd 68 (.rd z0q y24),pd 69 (.rd z0q ((x30+x32)+y24)),pd 70 (.rd z0q y29),pd 71 (.rd z0q (((x30+x32)+y24)+y29)),pk 72 (.val (z04 v1 (0+(s14.2:Int).toNat * 1))) [(0,0,false)],⟨none,[(0,0,true)],[],[]⟩] mixed (oC (oRn (fun nv E=>mv Z))<|oC (oRn (fun nv E=>mv Z))<|oC (oRn (fun nv E=>I.sub Z Z))<|oC (oRn (fun nv E=>ixB 1 Z Z Z h31 Tryz.underlying249 z6m))<|oC (oRn (fun nv E=>ld 1 Z Z (fP (.el h31)) zae Z))<|oC (oRn (fun nv E=>mv Z))<|oC (oRn (fun nv E=>I.sub Z Z))<|oC (oRn (fun nv E=>ixB 1 Z Z Z h33 Tryz.underlying249 z6m))<|oC (oRn (fun nv E=>ld 1 Z Z (fP (.el h33)) zae Z))<|oC (oRn (fun nv E=>W.add Z Z))<|oC (oRn (fun nv E=>mv Z))<|oC (oRn (fun nv E=>W.add Z Z))<|oC (oRn (fun nv E=>mv Z))<|oC (oRn (fun nv E=>W.add Z Z))<|oC (oRn (fun nv E=>ixB 1 Z Z Z h35 Tryz.underlying249 z6m))<|oC (oEs 1 (fun nv E=>sto 1 Z Z (fP (.el h35)) Z z6m))<|oN) fun n36=>z2v<|z0k<|z2a<|Zm Z<|Zq (I.add Z Z)<|Za Z<|z1n 5 Z fun y37=>z1q<|z1d (fun aa ww h=>Zu h [1])
   ·
    refine z1p<|z0w<|z0x<|z3m (fun aa ww h=>Zu h [1])
  ·
   refine gSR<|Zq (ld 1 Z Z fH z18b Z)<|Es (sto 1 Z Z fH Z z10d)<|Zn<|z0l<|zbm [] [] Z (eC 1 Z Z z18b<|eN) (rN)
def zgi (a0:UInt32) (a1:Int) (a2:Int) (a3:Int):Option (UInt32) :=
 z1z a0 (w64 (0 - a1)) >>= fun r1 =>
 z1z a0 (w64 (0 - a2)) >>= fun r3 =>
 z1z a0 (w64 (0 - a3)) >>= fun r5 =>
 some ((r1 ^^^ r3) ^^^ r5) >>= fun y7 =>
 some y7
theorem zl0 (a0:UInt32) (a1:Int) (a2:Int) (a3:Int):z1s Tryz.prog 238 [.rd z0q a0,.rd z0d a1,.rd z0d a2,.rd z0d a3] [] (zgi a0 a1 a2 a3) (fun r nv=>⟨[.rd z0q r],[]⟩):=by
 refine z2b 23 Tryz.func238 Z Z Z fun H w=>?_
 refine gSR<|Zb Z<|gSR<|Zm Z<|Zm Z<|Zq (I.neg Z)<|Zc [] [] Tryz.func240 Z (z2n _ _) fun r1 n2=>Zm Z<|Zm Z<|Zq (I.neg Z)<|Zc [] [] Tryz.func240 Z (z2n _ _) fun r3 n4=>Zq (W.xor Z Z)<|Zm Z<|Zm Z<|Zq (I.neg Z)<|Zc [] [] Tryz.func240 Z (z2n _ _) fun r5 n6=>Zq (W.xor Z Z)<|Za Z<|z1n 8 Z fun y7=>Zn<|z0l<|Ze [] [] Z
def za0 (a0:List UInt8):Option ((List UInt8)) :=
 app 1 ([]:List UInt8) a0 >>= fun x3 =>
 some x3
theorem zbq (a0:List UInt8):z1s Tryz.prog 231 [.rd (z02 u8R) a0] [] (za0 a0) (fun r nv=>⟨[.val (nv 0)],[(100,some (nv 0,.list u8R 5 r))]⟩):=by
 refine z2b 8 Tryz.func231 Z Z Z fun H w=>?_
 refine gSR<|Zb Z<|z0p<|gSR<|Zm Z<|z15y Z Z .rd Z tu75 (fun h1=>?_) ?_
 ·
  subst h1
  refine Zn<|zhz Z<|gSR<|Zb Z<|z0l<|z0v<|zs6 u8R 5 1<|Ze [(.slice none 0 0)] [1] Z
 ·
  refine Zn<|zf0 Z<|Zt<|gSR<|Ef Z (lit (R:=u8R) (([]:List UInt8):List UInt8) 2 (pN) Z tu75 ti5 Z Z) fun v2=>Zm Z<|z0n fun x3 h4=>Ef Z (apn 2 Z Z Z .rd h4 tu75 ti5 Z Z Z) fun v5=>Zb Z<|z0l<|Ze [v5] [2] Z
def z6r (r1:(Vector UInt32 64)) (s21:UInt32 × UInt32 × UInt32 × UInt32 × UInt32 × UInt32 × UInt32 × UInt32 × Int):Option (Sum (UInt32 × UInt32 × UInt32 × UInt32 × UInt32 × UInt32 × UInt32 × UInt32) (UInt32 × UInt32 × UInt32 × UInt32 × UInt32 × UInt32 × UInt32 × UInt32 × Int)) :=
 if decide (s21.2.2.2.2.2.2.2.2<64) then
  z98 z6a s21.2.2.2.2.2.2.2.2 >>= fun x23 =>
  z98 r1 s21.2.2.2.2.2.2.2.2 >>= fun x25 =>
  zgi s21.2.2.2.2.1 6 11 25 >>= fun r27 =>
  some ((((s21.2.2.2.2.2.2.2.1+r27)+((s21.2.2.2.2.1 &&& s21.2.2.2.2.2.1) ^^^ ((~~~s21.2.2.2.2.1) &&& s21.2.2.2.2.2.2.1)))+x23)+x25) >>= fun y29 =>
  zgi s21.1 2 13 22 >>= fun r30 =>
  some (r30+(((s21.1 &&& s21.2.1) ^^^ (s21.1 &&& s21.2.2.1)) ^^^ (s21.2.1 &&& s21.2.2.1))) >>= fun y32 =>
  some (s21.2.2.2.1+y29) >>= fun y33 =>
  some (.inr (y29+y32,s21.1,s21.2.1,s21.2.2.1,y33,s21.2.2.2.2.1,s21.2.2.2.2.2.1,s21.2.2.2.2.2.2.1,w64 (s21.2.2.2.2.2.2.2.2+1)))
 else
  some (.inl (s21.1,s21.2.1,s21.2.2.1,s21.2.2.2.1,s21.2.2.2.2.1,s21.2.2.2.2.2.1,s21.2.2.2.2.2.2.1,s21.2.2.2.2.2.2.2.1))
def zff (s20:UInt32 × UInt32 × UInt32 × UInt32 × UInt32 × UInt32 × UInt32 × UInt32) (s34:(Vector UInt32 8) × Int):Option (Sum ((Vector UInt32 8)) ((Vector UInt32 8) × Int)) :=
 if decide (s34.2<8) then
  z98 (#v[s20.1,s20.2.1,s20.2.2.1,s20.2.2.2.1,s20.2.2.2.2.1,s20.2.2.2.2.2.1,s20.2.2.2.2.2.2.1,s20.2.2.2.2.2.2.2]:Vector UInt32 8) s34.2 >>= fun x36 =>
  z98 s34.1 s34.2 >>= fun x38 =>
  z98 s34.1 s34.2 >>= fun x40 =>
  some (.inr (zkn s34.1 s34.2 (x38+x36),w64 (s34.2+1)))
 else
  some (.inl s34.1)
def zg2 (c0:Vector UInt32 8) (a1:List UInt8):Option ((Vector UInt32 8)) :=
 zfb a1 >>= fun r1 =>
 z98 c0 0 >>= fun x4 =>
 z98 c0 1 >>= fun x6 =>
 z98 c0 2 >>= fun x8 =>
 z98 c0 3 >>= fun x10 =>
 z98 c0 4 >>= fun x12 =>
 z98 c0 5 >>= fun x14 =>
 z98 c0 6 >>= fun x16 =>
 z98 c0 7 >>= fun x18 =>
 (iter (z6r r1) (x4,x6,x8,x10,x12,x14,x16,x18,0)) >>= fun s20 =>
 iter (zff s20) (c0,0)
theorem zo5 (ph0:Value) (kh0:Nat) (uh0:(Vector UInt32 8)→z5m) (hh0:∀ y,Foc (uh0 y) kh0 (z3j 8 z0q) y uh0) (c0:Vector UInt32 8) (a1:List UInt8):z1s Tryz.prog 230 [.val (z04 ph0 kh0),.rd (z02 u8R) a1] [(1,some (ph0,uh0 c0)),zG1] (zg2 c0 a1) (fun r nv=>⟨[],[(1,some (ph0,uh0 r)),(1001,some (.bool true,.glob 1 (z3j 64 z0q) z6a))]⟩):=by
 refine z2b 126 Tryz.func230 Z Z Z fun H w=>?_
 refine gSR<|Zm Z<|Zc [] [] Tryz.func237 Z (zlo _) fun r1 n2=>Eb Z (z5o 2 z10d (.zr (R:=(z3j 64 z0q)) (x:=(Vector.replicate 64 0)) z180)) fun v3=>Es (sto 2 Z Z fH Z z10d)<|Zn<|z0p<|zik mixed (by kernel_rfl)<|Rq Z (mv Z)<|Rq Z (nckP 1 Z Z (hh0 _))<|z8t fun x4 h5=>Rq Z (ixH 1 Z Z (hh0 _) Z h5 tu164 z6m)<|Rq Z (ld 1 Z Z ((hh0 _).part (.el h5)) zae Z)<|Rq Z (mv Z)<|Rq Z (nckP 1 Z Z (hh0 _))<|z8t fun x6 h7=>Rq Z (ixH 1 Z Z (hh0 _) Z h7 tu164 z6m)<|Rq Z (ld 1 Z Z ((hh0 _).part (.el h7)) zae Z)<|Rq Z (mv Z)<|Rq Z (nckP 1 Z Z (hh0 _))<|z8t fun x8 h9=>Rq Z (ixH 1 Z Z (hh0 _) Z h9 tu164 z6m)<|Rq Z (ld 1 Z Z ((hh0 _).part (.el h9)) zae Z)<|Rq Z (mv Z)<|Rq Z (nckP 1 Z Z (hh0 _))<|z8t fun x10 h11=>Rq Z (ixH 1 Z Z (hh0 _) Z h11 tu164 z6m)<|Rq Z (ld 1 Z Z ((hh0 _).part (.el h11)) zae Z)<|Rq Z (mv Z)<|Rq Z (nckP 1 Z Z (hh0 _))<|z8t fun x12 h13=>Rq Z (ixH 1 Z Z (hh0 _) Z h13 tu164 z6m)<|Rq Z (ld 1 Z Z ((hh0 _).part (.el h13)) zae Z)<|Rq Z (mv Z)<|Rq Z (nckP 1 Z Z (hh0 _))<|z8t fun x14 h15=>Rq Z (ixH 1 Z Z (hh0 _) Z h15 tu164 z6m)<|Rq Z (ld 1 Z Z ((hh0 _).part (.el h15)) zae Z)<|Rq Z (mv Z)<|Rq Z (nckP 1 Z Z (hh0 _))<|z8t fun x16 h17=>Rq Z (ixH 1 Z Z (hh0 _) Z h17 tu164 z6m)<|Rq Z (ld 1 Z Z ((hh0 _).part (.el h17)) zae Z)<|Rq Z (mv Z)<|Rq Z (nckP 1 Z Z (hh0 _))<|z8t fun x18 h19=>Rq Z (ixH 1 Z Z (hh0 _) Z h19 tu164 z6m)<|Rq Z (ld 1 Z Z ((hh0 _).part (.el h19)) zae Z)<|Rq Z (asg Z)<|Rq Z (asg Z)<|Rq Z (asg Z)<|Rq Z (asg Z)<|Rq Z (asg Z)<|Rq Z (asg Z)<|Rq Z (asg Z)<|Rq Z (asg Z)<|zt9<|z0k<|z8i (fun (s20:UInt32 × UInt32 × UInt32 × UInt32 × UInt32 × UInt32 × UInt32 × UInt32) aa ww=>Sta (ctx 126 H [(1,some (ph0,uh0 c0)),zG1] w) [(0,.val (z04 ph0 kh0)),(5,.rd z0q s20.1),(6,.rd z0q s20.2.1),(7,.rd z0q s20.2.2.1),(8,.rd z0q s20.2.2.2.1),(9,.rd z0q s20.2.2.2.2.1),(10,.rd z0q s20.2.2.2.2.2.1),(11,.rd z0q s20.2.2.2.2.2.2.1),(12,.rd z0q s20.2.2.2.2.2.2.2)] [(1,some (ph0,uh0 c0)),zG1] aa ww) ?_ (fun s20=>?_)
 ·
  refine gSR<|Zm Z<|Zn<|z1t (fun (s21:UInt32 × UInt32 × UInt32 × UInt32 × UInt32 × UInt32 × UInt32 × UInt32 × Int) aa ww=>Sta (ctx 126 H [(1,some (ph0,uh0 c0)),zG1] w) [(0,.val (z04 ph0 kh0)),(4,.val (z04 v3 0)),(5,.rd z0q s21.1),(6,.rd z0q s21.2.1),(7,.rd z0q s21.2.2.1),(8,.rd z0q s21.2.2.2.1),(9,.rd z0q s21.2.2.2.2.1),(10,.rd z0q s21.2.2.2.2.2.1),(11,.rd z0q s21.2.2.2.2.2.2.1),(12,.rd z0q s21.2.2.2.2.2.2.2.1),(52,.rd z0d s21.2.2.2.2.2.2.2.2)] [(1,some (ph0,uh0 c0)),(2,some (v3,.box 249 [.rd (z3j 64 z0q) r1])),zG1] aa ww) (fun aa ww h=>Zu h [1,2,1001]) (fun s21=>?_)
  refine gSR<|Zq (I.lss Z Z)<|Zn<|z0p<|gIf Z Z (fun h22=>?_) (fun h22=>?_)
  ·
   refine Zt<|z0p<|z4t<|gSR<|Zm Z<|Zb Z<|z0p<|z8h [] mixed Z Z<|hTk 0 Z Z (mv Z)<|hTk 1 Z Z (mv Z)<|hTk 4 Z Z (mv Z)<|hTk 5 Z Z (mv Z)<|hTk 6 Z Z (W.and Z Z)<|hTk 7 Z Z (mv Z)<|hTk 8 Z Z (W.cpl Z)<|hTk 9 Z Z (mv Z)<|hTk 10 Z Z (W.and Z Z)<|hTk 11 Z Z (W.xor Z Z)<|hTk 13 Z Z (mv Z)<|z5h fun x23 h24=>hTk 14 Z Z (ixG 1001 Z Z h24 Tryz.underlying249 z6m)<|hTk 15 Z Z (ldR Z zae)<|hTk 17 Z Z (mv Z)<|z5h fun x25 h26=>hTk 18 Z Z (ixB 2 Z Z Z h26 Tryz.underlying249 z6m)<|hTk 19 Z Z (ld 2 Z Z (fP (.el h26)) zae Z)<|z3v 2 [] [] Z (by kernel_rfl) Z (gd0 Z) Z Tryz.func238 Z Z (zl0 _ _ _ _) (aQ Z<|aQ Z<|aQ Z<|aQ Z<|aN) rN Z (fun _ _=>z30) fun r27 n28=>hTk 3 Z Z (W.add Z Z)<|hTk 12 Z Z (W.add Z Z)<|hTk 16 Z Z (W.add Z Z)<|hTk 20 Z Z (W.add Z Z)<|hTk 21 Z Z (asg Z)<|z11i 14 Z Z fun y29=>z4s (by kernel_rfl)<|z0k<|gSR<|Zm Z<|Zc [] [] Tryz.func238 Z (zl0 _ _ _ _) fun r30 n31=>Zm Z<|Zm Z<|Zq (W.and Z Z)<|Zm Z<|Zm Z<|Zq (W.and Z Z)<|Zq (W.xor Z Z)<|Zm Z<|Zm Z<|Zq (W.and Z Z)<|Zq (W.xor Z Z)<|Zq (W.add Z Z)<|Za Z<|z1n 15 Z fun y32=>Zn<|z2a<|Zm Z<|Zm Z<|Zq (W.add Z Z)<|Zm Z<|Zm Z<|Zm Z<|Zm Z<|Zm Z<|Zq (W.add Z Z)<|Zm Z<|Zm Z<|Zm Z<|Za Z<|Za Z<|Za Z<|Za Z<|Za Z<|z1n 9 Z fun y33=>Za Z<|Za Z<|Za Z<|z1q<|z2v<|z0k<|z2a<|Zq (I.add Z Z)<|Zm Z<|z1q<|z1d (fun aa ww h=>Zu h [1,2,1001])
  ·
   refine z1p<|z0w<|z0x<|z3m (fun aa ww h=>Zu h [1,1001])
 ·
  refine gSR<|Zm Z<|Zm Z<|Zm Z<|Zm Z<|Zm Z<|Zm Z<|Zm Z<|Zm Z<|Zq (litA (R:=z0q) [s20.1,s20.2.1,s20.2.2.1,s20.2.2.2.1,s20.2.2.2.2.1,s20.2.2.2.2.2.1,s20.2.2.2.2.2.2.1,s20.2.2.2.2.2.2.2] (#v[s20.1,s20.2.1,s20.2.2.1,s20.2.2.2.1,s20.2.2.2.2.1,s20.2.2.2.2.2.1,s20.2.2.2.2.2.2.1,s20.2.2.2.2.2.2.2]:Vector UInt32 8) (pP Z Z<|pP Z Z<|pP Z Z<|pP Z Z<|pP Z Z<|pP Z Z<|pP Z Z<|pP Z Z<|pN) Z tu164 zj9 Z z6m)<|Zm Z<|Zn<|z1t (fun (s34:(Vector UInt32 8) × Int) aa ww=>Sta (ctx 126 H [(1,some (ph0,uh0 c0)),zG1] w) [(0,.val (z04 ph0 kh0)),(111,.rd (z3j 8 z0q) (#v[s20.1,s20.2.1,s20.2.2.1,s20.2.2.2.1,s20.2.2.2.2.1,s20.2.2.2.2.2.1,s20.2.2.2.2.2.2.1,s20.2.2.2.2.2.2.2]:Vector UInt32 8)),(112,.rd z0d s34.2)] [(1,some (ph0,uh0 s34.1)),zG1] aa ww) (fun aa ww h=>Zu h [1,1001]) (fun s34=>?_)
  refine gSR<|Zq (I.lss Z Z)<|Zn<|z0p<|gIf Z Z (fun h35=>?_) (fun h35=>?_)
  ·
   refine Zt<|z0p<|z4t<|gSR<|Zm Z<|z0n fun x36 h37=>Zq (idxV Z Z h37 tu164 z6m zae)<|Za Z<|Zb Z<|z8h [1] mixed Z Z<|hTk 0 Z Z (mv Z)<|hTk 1 Z Z (mv Z)<|hTk 2 Z Z (nckP 1 Z Z (hh0 _))<|z5h fun x38 h39=>hTk 3 Z Z (ixH 1 Z Z (hh0 _) Z h39 tu164 z6m)<|hTk 5 Z Z (mv Z)<|hTk 7 Z Z (nckP 1 Z Z (hh0 _))<|hRun 4 Z (by kernel_rfl) (gd0 Z) Z Z z30 (ld 1 Z Z ((hh0 _).part (.el h39)) zae Z)<|hTk 6 Z Z (W.add Z Z)<|z5h fun x40 h41=>hTk 8 Z Z (ixH 1 Z Z (hh0 _) Z h41 tu164 z6m)<|Zp 9 Z Z Z Z Z (sto 1 Z Z ((hh0 _).part (.el h41)) Z z6m)<|z4s (by kernel_rfl)<|z2v<|z0k<|z2a<|Zq (I.add Z Z)<|Zm Z<|z1q<|z1d (fun aa ww h=>Zu h [1,1001])
  ·
   refine z1p<|z0w<|z0x<|Ze [] [1,1001] Z
def zbn (s7:z2p × (List UInt8)):Option (Sum (z2p × (List UInt8)) (z2p × (List UInt8))) :=
 if decide (64≤(s7.2.length:Int)) then
  zg2 s7.1.Words s7.2 >>= fun r10 =>
  cut s7.2 64 (s7.2.length:Int) >>= fun x12 =>
  some (.inr ({ s7.1 with Words:=r10 },x12))
 else
  some (.inl (s7.1,s7.2))
def zdi (a0:z2p) (a1:List UInt8):Option (z2p) :=
 z2k [a0.Rest,a1] >>= fun r4 =>
 (iter (zbn) (a0,r4)) >>= fun s6 =>
 za0 s6.2 >>= fun r14 =>
 some (⟨({ s6.1 with N:=w64 (s6.1.N+(a1.length:Int)) }).Words,r14,({ s6.1 with N:=w64 (s6.1.N+(a1.length:Int)) }).N⟩:z2p)
theorem zjp (a0:z2p) (a1:List UInt8):z1s Tryz.prog 216 [.rd z2z a0,.rd (z02 u8R) a1] [zG1] (zdi a0 a1) (fun r nv=>⟨[.rd z2z r],[(1001,some (.bool true,.glob 1 (z3j 64 z0q) z6a))]⟩):=by
 refine z2b 29 Tryz.func216 Z Z Z fun H w=>?_
 refine gSR<|Eb Z (bx 1 Z) fun v1=>Eb Z (z5o 2 zpn (ZrE.rd (R:=(z3j 8 z0q)) (x:=(Vector.replicate 8 0)) zse (ZrE.nilS (ZrE.rd (R:=z0d) (x:=0) (Zr.num Z) ZrE.nil Z)) Z)) fun v2=>Zn<|gSR<|Zq (faB 1 Z Z Tryz.underlying227 Z (by exact zq4))<|Zq (ld 1 Z Z (fP (znh _)) ty75 Z)<|Zm Z<|Ef Z (lit (R:=(z02 u8R)) ([a0.Rest,a1]:List (List UInt8)) 3 (pP Z Z<|pP Z Z<|pN) Z tu42 zq4 Z Z) fun v3=>zgc 3 [9] Z (fS Z<|fN)<|Zc [] [(100,4)] Tryz.func130 Z (z7d _) fun r4 n5=>Zb Z<|z8i (fun (s6:z2p × (List UInt8)) aa ww=>Sta (ctx 29 H [zG1] w) [(1,.rd (z02 u8R) a1),(2,.val (z04 v1 0)),(4,.val (z04 v2 0)),(5,.rd (z02 u8R) s6.2)] [(1,some (v1,.box 227 [.rd z2z s6.1])),(2,some (v2,.box 227 [.rd (z3j 8 z0q) (Vector.replicate 8 0),.val (.slice none 0 0),.rd z0d 0])),zG1] aa ww) ?_ (fun s6=>?_)
 ·
  refine gFrz 4 [10,5] Z (fS Z<|fS Z<|fN)<|z1t (fun (s7:z2p × (List UInt8)) aa ww=>Sta (ctx 29 H [zG1] w) [(1,.rd (z02 u8R) a1),(2,.val (z04 v1 0)),(4,.val (z04 v2 0)),(5,.rd (z02 u8R) s7.2)] [(1,some (v1,.box 227 [.rd z2z s7.1])),(2,some (v2,.box 227 [.rd (z3j 8 z0q) (Vector.replicate 8 0),.val (.slice none 0 0),.rd z0d 0])),zG1] aa ww) (fun aa ww h=>Zu h [1,2,1001]) (fun s7=>?_)
  refine z0p<|gSR<|Zm Z<|Zq (z3e Z .rd Z tu75)<|Zq (I.geq Z Z)<|Zj Z (fun h8=>?_) (fun h8=>?_)
  ·
   refine Zt<|z4t<|gSR<|Zq (faB 1 Z Z Tryz.underlying227 Z (by exact zj9))<|Zm Z<|call [1,1001] [(1,1)] Z Tryz.func230 Z Z (zo5 _ _ (fun y9=>.box 227 [.rd z2z ({ s7.1 with Words:=y9 })]) (fun _=>(fP (zgu _))) _ _) (Y2 Z Z) (Zi Z<|Zi Z<|rN) fun r10 n11=>Zn<|z2a<|Zm Z<|z0n fun x12 h13=>Zq (cut' Z (.to Z) .no h13 tu75 ti5)<|Za Z<|z1q<|z2v<|z1d (fun aa ww h=>Zu h [1,2,1001])
  ·
   refine z1p<|z0w<|z0x<|z3m (fun aa ww h=>Zu h [1,2,1001])
 ·
  refine z0p<|z8h [1,1020] mixed Z Z<|hTk 0 Z Z (faB 1 Z Z Tryz.underlying227 Z (by exact ti3))<|hTk 2 Z Z (mv Z)<|hTk 3 Z Z (z3e Z .rd Z tu75)<|hTk 5 Z Z (mv Z)<|hAlt [1,6] (by kernel_rfl) Z ⟨?_,?_,trivial⟩
  ·
   refine oRun 1 Z (gd0 Z) Z Z z30 (ld 1 Z Z (fP (zay _)) ty3 Z)<|hTk 4 Z Z (I.add Z Z)<|z3v 6 [] [(100,1020)] Z (by kernel_rfl) Z (gd0 Z) Z Tryz.func231 Z Z (zbq _) (Y1 Z) rN Z (fun _ _=>z3p) fun r14 n15=>hTk 7 Z Z (faB 1 Z Z Tryz.underlying227 Z (by exact ti3))<|Zp 8 Z Z Z Z Z (sto 1 Z Z (fP (zay _)) Z ti3)<|Zf 9 Z Z z3p (faB 1 Z Z Tryz.underlying227 Z (by exact zq4))<|hSpl (R:=z2z) 1 Z (Sp.via (Sp.prod (Sp.prod (Sp.prod Sp.unit))))<|Zp 10 Z Z Z Z Z (zp7 1 Z Z (zaf.cast (zaf.next z15 (zaf.here z15)) Z) Z z0r z05 zq4)<|z4s (by kernel_rfl)<|z0k<|gSR<|zyi [.rd (z3j 8 z0q) (({ s6.1 with N:=w64 (s6.1.N+(a1.length:Int)) }).Words),.rd (z02 u8R) r14,.rd z0d (({ s6.1 with N:=w64 (s6.1.N+(a1.length:Int)) }).N)] 1 1020 [.rd (z3j 8 z0q) (({ s6.1 with N:=w64 (s6.1.N+(a1.length:Int)) }).Words)] [.rd z0d (({ s6.1 with N:=w64 (s6.1.N+(a1.length:Int)) }).N)] Z Z Z Z Z<|zec (R:=z2z) (⟨({ s6.1 with N:=w64 (s6.1.N+(a1.length:Int)) }).Words,r14,({ s6.1 with N:=w64 (s6.1.N+(a1.length:Int)) }).N⟩:z2p) 1 Z (Sp.via (Sp.prod (Sp.prod (Sp.prod Sp.unit))))<|Zq (ld 1 Z Z fH zs9 Z)<|zcg u8R [.rd (z3j 8 z0q) (Vector.replicate 8 0),.rd (z02 u8R) [],.rd z0d 0] 2 [.rd (z3j 8 z0q) (Vector.replicate 8 0)] [.rd z0d 0] Z Z Z<|zec (R:=z2z) (⟨(Vector.replicate 8 0),[],0⟩:z2p) 2 Z (Sp.via (Sp.prod (Sp.prod (Sp.prod Sp.unit))))<|Es (sto 2 Z Z fH Z zpn)<|Zn<|z0l<|zbm [] [1001] Z (eC 2 Z Z zs9<|eN) (y1 Z)
  ·
   refine z15l 6 [] [(100,1020)] Z Z (gd0 Z) Z Tryz.func231 Z Z (zbq _) (Y1 Z) rN Z (fun _ _=>z3p) fun r16 n17=>hRun 1 Z (by kernel_rfl) (gd0 Z) Z Z z30 (ld 1 Z Z (fP (zay _)) ty3 Z)<|hTk 4 Z Z (I.add Z Z)<|hTk 7 Z Z (faB 1 Z Z Tryz.underlying227 Z (by exact ti3))<|Zp 8 Z Z Z Z Z (sto 1 Z Z (fP (zay _)) Z ti3)<|Zf 9 Z Z z3p (faB 1 Z Z Tryz.underlying227 Z (by exact zq4))<|hSpl (R:=z2z) 1 Z (Sp.via (Sp.prod (Sp.prod (Sp.prod Sp.unit))))<|Zp 10 Z Z Z Z Z (zp7 1 Z Z (zaf.cast (zaf.next z15 (zaf.here z15)) Z) Z z0r z05 zq4)<|z4s (by kernel_rfl)<|z0k<|gSR<|zyi [.rd (z3j 8 z0q) (({ s6.1 with N:=w64 (s6.1.N+(a1.length:Int)) }).Words),.rd (z02 u8R) r16,.rd z0d (({ s6.1 with N:=w64 (s6.1.N+(a1.length:Int)) }).N)] 1 1020 [.rd (z3j 8 z0q) (({ s6.1 with N:=w64 (s6.1.N+(a1.length:Int)) }).Words)] [.rd z0d (({ s6.1 with N:=w64 (s6.1.N+(a1.length:Int)) }).N)] Z Z Z Z Z<|zec (R:=z2z) (⟨({ s6.1 with N:=w64 (s6.1.N+(a1.length:Int)) }).Words,r16,({ s6.1 with N:=w64 (s6.1.N+(a1.length:Int)) }).N⟩:z2p) 1 Z (Sp.via (Sp.prod (Sp.prod (Sp.prod Sp.unit))))<|Zq (ld 1 Z Z fH zs9 Z)<|zcg u8R [.rd (z3j 8 z0q) (Vector.replicate 8 0),.rd (z02 u8R) [],.rd z0d 0] 2 [.rd (z3j 8 z0q) (Vector.replicate 8 0)] [.rd z0d 0] Z Z Z<|zec (R:=z2z) (⟨(Vector.replicate 8 0),[],0⟩:z2p) 2 Z (Sp.via (Sp.prod (Sp.prod (Sp.prod Sp.unit))))<|Es (sto 2 Z Z fH Z zpn)<|Zn<|z0l<|zbm [] [1001] Z (eC 2 Z Z zs9<|eN) (y1 Z)
def zd1 (y3:UInt64) (s9:(List UInt8) × Int):Option (Sum ((List UInt8)) ((List UInt8) × Int)) :=
 if decide (0≤s9.2) then
  chk (0≤s9.2) >>= fun u12 =>
  app 1 s9.1 [(z99 y3 ((s9.2:Int).toNat)).toUInt8] >>= fun x15 =>
  some (w64 (s9.2 - 8)) >>= fun y18 =>
  some (.inr (x15,y18))
 else
  some (.inl s9.1)
def zb5 (r21:z2p) (s23:V3 × Int):Option (Sum (V3) (V3 × Int)) :=
 if decide (s23.2<8) then
  z98 r21.Words s23.2 >>= fun x25 =>
  z98 s23.1 (w64 (4 * s23.2)) >>= fun x27 =>
  z98 (zkn s23.1 (w64 (4 * s23.2)) ((z51 x25 24).toUInt8)) (w64 ((w64 (4 * s23.2))+1)) >>= fun x29 =>
  z98 (zkn (zkn s23.1 (w64 (4 * s23.2)) ((z51 x25 24).toUInt8)) (w64 ((w64 (4 * s23.2))+1)) ((z51 x25 16).toUInt8)) (w64 ((w64 (4 * s23.2))+2)) >>= fun x31 =>
  z98 (zkn (zkn (zkn s23.1 (w64 (4 * s23.2)) ((z51 x25 24).toUInt8)) (w64 ((w64 (4 * s23.2))+1)) ((z51 x25 16).toUInt8)) (w64 ((w64 (4 * s23.2))+2)) ((z51 x25 8).toUInt8)) (w64 ((w64 (4 * s23.2))+3)) >>= fun x33 =>
  some (.inr (zkn (zkn (zkn (zkn s23.1 (w64 (4 * s23.2)) ((z51 x25 24).toUInt8)) (w64 ((w64 (4 * s23.2))+1)) ((z51 x25 16).toUInt8)) (w64 ((w64 (4 * s23.2))+2)) ((z51 x25 8).toUInt8)) (w64 ((w64 (4 * s23.2))+3)) x25.toUInt8,w64 (s23.2+1)))
 else
  some (.inl s23.1)
def ziz (a0:z2p):Option (V3) :=
 some ((UInt64.ofInt a0.N) * 8) >>= fun y3 =>
 appz 1 [128] 0 (Int.tmod (w64 (119 - (Int.tmod a0.N 64))) 64) >>= fun x5 =>
 (iter (zd1 y3) (x5,56)) >>= fun s8 =>
 (zdi a0 s8 >>= fun r21 =>
 iter (zb5 r21) ((Vector.replicate 32 0),0)) >>= fun s20 =>
 some s20
theorem zrb (a0:z2p):z1s Tryz.prog 217 [.rd z2z a0] [zG1] (ziz a0) (fun r nv=>⟨[.rd aZ r],[(1001,some (.bool true,.glob 1 (z3j 64 z0q) z6a))]⟩):=by
 refine z2b 66 Tryz.func217 Z Z Z fun H w=>?_
 refine gSR<|Eb Z (bx 1 Z) fun v1=>Eb Z (z5o 2 z23 (.zr (R:=aZ) (x:=(Vector.replicate 32 0)) zge)) fun v2=>Zn<|gSR<|Zq (faB 1 Z Z Tryz.underlying227 Z (by exact ti3))<|Zq (ld 1 Z Z (fP (zay _)) ty3 Z)<|Zq (I.toU Z tu3 tu41)<|Zq (U.mul Z Z)<|Za Z<|z1n 3 Z fun y3=>Zn<|gSR<|Ef Z (lit (R:=u8R) ([128]:List UInt8) 3 (pP Z Z<|pN) Z tu75 ti5 Z Z) fun v4=>Zq (faB 1 Z Z Tryz.underlying227 Z (by exact ti3))<|Zq (ld 1 Z Z (fP (zay _)) ty3 Z)<|Zq (I.rem Z Z (by decide))<|Zq (I.sub Z Z)<|Zq (I.rem Z Z (by decide))<|z0n fun x5 h6=>Ef Z (apZO 3 Z Z Z h6 tu75 tu3 ti5 (Zr.num Z) Z) fun v7=>Zb Z<|z8i (fun (s8:(List UInt8)) aa ww=>∃ nv:Nat→Value,Sta (ctx 66 H [zG1] w) [(1,.val (z04 v1 0)),(2,.val (z04 v2 0)),(4,.val (nv 0))] [(1,some (v1,.box 227 [.rd z2z a0])),(2,some (v2,.box 62 [.rd aZ (Vector.replicate 32 0)])),(3,some ((nv 0),.list u8R 5 s8)),zG1] aa ww) ?_ (fun s8=>?_)
 ·
  refine gSR<|Zb Z<|z1t (fun (s9:(List UInt8) × Int) aa ww=>∃ nv:Nat→Value,Sta (ctx 66 H [zG1] w) [(1,.val (z04 v1 0)),(2,.val (z04 v2 0)),(3,.rd z2c y3),(4,.val (nv 0)),(5,.rd z0d s9.2)] [(1,some (v1,.box 227 [.rd z2z a0])),(2,some (v2,.box 62 [.rd aZ (Vector.replicate 32 0)])),(3,some ((nv 0),.list u8R 5 s9.1)),zG1] aa ww) (fun aa ww h=>⟨nvl [v7],Zu h [1,2,3,1001]⟩) (fun s9=>?_)
  refine gEx fun n10=>z0p<|gSR<|Zm Z<|Zq (I.geq Z Z)<|Zj Z (fun h11=>?_) (fun h11=>?_)
  ·
   refine Zt<|z0p<|z4t<|z2a<|Zm Z<|Zm Z<|Zm Z<|z0n fun u12 h13=>Zq (U.shr Z Z (z4g h13))<|Zq (U.toB Z tu41 tu5)<|Ef Z (lit (R:=u8R) ([(z99 y3 ((s9.2:Int).toNat)).toUInt8]:List UInt8) 1100 (pP Z Z<|pN) Z tu75 ti5 Z Z) fun v14=>z0n fun x15 h16=>Ef Z (apn 3 Z Z Z (.own 1100 Z) h16 tu75 ti5 Z Z Z) fun v17=>Za Z<|z1q<|z2v<|z0k<|z2a<|Zm Z<|Zq (I.sub Z Z)<|Za Z<|z1n 5 Z fun y18=>z1q<|z1d (fun aa ww h=>⟨nvl [v17],Zu h [1,2,3,1001]⟩)
  ·
   refine z1p<|z0w<|z0x<|z3m (fun aa ww h=>⟨nvl [(n10 0)],Zu h [1,2,3,1001]⟩)
 ·
  refine gEx fun n19=>z8i (fun (s20:V3) aa ww=>Sta (ctx 66 H [zG1] w) [(2,.val (z04 v2 0))] [(2,some (v2,.box 62 [.rd aZ s20])),zG1] aa ww) ?_ (fun s20=>?_)
  ·
   refine gSR<|Zq (ld 1 Z Z fH zs9 Z)<|Zm Z<|zgc 3 [4,31] Z (fS Z<|fS Z<|fN)<|Zc [1001] [] Tryz.func216 Z (zjp _ _) fun r21 n22=>Zq (fldV Z (zgu _) Z Tryz.underlying227 Z zsn)<|Zm Z<|Zn<|z1t (fun (s23:V3 × Int) aa ww=>Sta (ctx 66 H [zG1] w) [(2,.val (z04 v2 0)),(33,.rd (z3j 8 z0q) r21.Words),(34,.rd z0d s23.2)] [(2,some (v2,.box 62 [.rd aZ s23.1])),zG1] aa ww) (fun aa ww h=>Zu h [2,1001]) (fun s23=>?_)
   refine gSR<|Zq (I.lss Z Z)<|Zn<|z0p<|gIf Z Z (fun h24=>?_) (fun h24=>?_)
   ·
    refine Zt<|z0p<|z4t<|gSR<|Zm Z<|z0n fun x25 h26=>Zq (idxV Z Z h26 tu164 z6m zae)<|Za Z<|Zb Z<|z2a<|Zm Z<|Zq (I.mul Z Z)<|Zm Z<|Zq (I.mul Z Z)<|Zq (I.add Z Z)<|Zm Z<|Zq (I.mul Z Z)<|Zq (I.add Z Z)<|Zm Z<|Zq (I.mul Z Z)<|Zq (I.add Z Z)<|Zm Z<|Zq (W.shr Z Z (Int.natCast_nonneg _))<|Zq (W.toB Z tu65 tu5)<|Zm Z<|Zq (W.shr Z Z (Int.natCast_nonneg _))<|Zq (W.toB Z tu65 tu5)<|Zm Z<|Zq (W.shr Z Z (Int.natCast_nonneg _))<|Zq (W.toB Z tu65 tu5)<|Zm Z<|Zq (W.toB Z tu65 tu5)<|z0n fun x27 h28=>Zq (ixB 2 Z Z Z h28 tu62 ti5)<|Es (sto 2 Z Z (fP (.el h28)) Z ti5)<|z0n fun x29 h30=>Zq (ixB 2 Z Z Z h30 tu62 ti5)<|Es (sto 2 Z Z (fP (.el h30)) Z ti5)<|z0n fun x31 h32=>Zq (ixB 2 Z Z Z h32 tu62 ti5)<|Es (sto 2 Z Z (fP (.el h32)) Z ti5)<|z0n fun x33 h34=>Zq (ixB 2 Z Z Z h34 tu62 ti5)<|Es (sto 2 Z Z (fP (.el h34)) Z ti5)<|z1q<|z2v<|z0k<|z2a<|Zq (I.add Z Z)<|Zm Z<|z1q<|z1d (fun aa ww h=>Zu h [2,1001])
   ·
    refine z1p<|z0w<|z0x<|z3m (fun aa ww h=>Zu h [2,1001])
  ·
   refine gSR<|Zq (ld 2 Z Z fH z3s Z)<|Es (sto 2 Z Z fH Z z23)<|Zn<|z0l<|zbm [] [1001] Z (eC 2 Z Z z3s<|eN) (y1 Z)
def z1c (a0:List (List UInt8)) (s2:Int):Option (Sum (Sum Int Unit) Int) :=
 if decide (s2<(a0.length:Int)) then
  idx a0 s2 >>= fun x4 =>
  zf8 x4 >>= fun r6 =>
  if r6 then
   some (.inl (.inl s2))
  else
   some (.inr (w64 (s2+1)))
 else
  some (.inl (.inr ()))
def z38 (a0:List (List UInt8)):Option (Int) :=
 z58 (iter (z1c a0) 0) fun s1 =>
 some (-1)
theorem z93 (a0:List (List UInt8)):z1s Tryz.prog 229 [.rd (z02 (z02 u8R)) a0,.val (.func (.func 214) #[] #[])] [] (z38 a0) (fun r nv=>⟨[.rd z0d r],[]⟩):=by
 refine z2b 19 Tryz.func229 Z Z Z fun H w=>?_
 refine gSR<|Zb Z<|z7e (fun (s1:Unit) aa ww=>Sta (ctx 19 H [] w) [] [] aa ww) ?_ (fun s1=>?_)
 ·
  refine gSR<|Zm Z<|Zq (z3e Z .rd Z tu42)<|Zm Z<|Zn<|z1t (fun (s2:Int) aa ww=>Sta (ctx 19 H [] w) [(0,.rd (z02 (z02 u8R)) a0),(1,.val (.func (.func 214) #[] #[])),(7,.rd z0d (a0.length:Int)),(8,.rd z0d s2)] [] aa ww) (fun aa ww h=>Zu h []) (fun s2=>?_)
  refine gSR<|Zq (I.lss Z Z)<|Zn<|z0p<|gIf Z Z (fun h3=>?_) (fun h3=>?_)
  ·
   refine Zt<|z0p<|z4t<|gSR<|Zm Z<|Zb Z<|gSR<|Zm Z<|Zm Z<|Zm Z<|z0n fun x4 h5=>Zq (ixR Z Z h5 tu42 zq4 Z)<|Zq (ldR Z ty75)<|zhx [] [] (gd0 Z) Z Z Tryz.func214 Z Z (zl7 _) (Y1 Z) (cN) rN fun r6 n7=>Zj Z (fun h8=>?_) (fun h8=>?_)
   ·
    refine gSR<|Zm Z<|Zb Z<|z0l<|z3t<|z0v<|z6o<|z6l<|Ze [] [] Z
   ·
    refine z2d<|z2v<|z0k<|z2a<|Zq (I.add Z Z)<|Zm Z<|z1q<|z1d (fun aa ww h=>Zu h [])
  ·
   refine z1p<|z0w<|z0x<|z6h (fun aa ww h=>Zu h [])
 ·
  refine gSR<|Zb Z<|z0l<|Ze [] [] Z
def z1w (a0:List (List UInt8)):Option (Bool) :=
 z38 a0 >>= fun r1 =>
 some (decide (0≤r1)) >>= fun y3 =>
 some y3
theorem z84 (a0:List (List UInt8)):z1s Tryz.prog 213 [.rd (z02 (z02 u8R)) a0,.val (.func (.func 214) #[] #[])] [] (z1w a0) (fun r nv=>⟨[.rd z0j r],[]⟩):=by
 refine z2b 9 Tryz.func213 Z Z Z fun H w=>?_
 refine gSR<|Zb Z<|gSR<|Zm Z<|Zm Z<|Zc [] [] Tryz.func229 Z (z93 _) fun r1 n2=>Zq (I.geq Z Z)<|Za Z<|z1n 4 Z fun y3=>Zn<|z0l<|Ze [] [] Z
def z9x (a0:List (List UInt8)) (s11:z2p × Int):Option (Sum z2p (z2p × Int)) :=
 if decide (s11.2<(a0.length:Int)) then
  idx a0 s11.2 >>= fun x13 =>
  zdi s11.1 x13 >>= fun r15 =>
  some (.inr (r15,w64 (s11.2+1)))
 else
  some (.inl s11.1)
def zck (a0:List (List UInt8)):Option (V3 × Int) :=
 (if decide (20<(a0.length:Int)) then
  some true
 else
  z1w a0 >>= fun r4 =>
  some r4) >>= fun s2 =>
 if s2 then
  some ((Vector.replicate 32 0),4)
 else
  zfs >>= fun r7 =>
  (iter (z9x a0) (r7,0)) >>= fun s10 =>
  ziz s10 >>= fun r17 =>
  some (r17,0)
theorem zhp (a0:List (List UInt8)):z1s Tryz.prog 191 [.rd (z02 (z02 u8R)) a0] [zG1] (zck a0) (fun r nv=>⟨[.rd aZ r.1,.rd z0d r.2],[(1001,some (.bool true,.glob 1 (z3j 64 z0q) z6a))]⟩):=by
 refine z2b 28 Tryz.func191 Z Z Z fun H w=>?_
 refine gSR<|Eb Z (z5o 1 z23 (.zr (R:=aZ) (x:=(Vector.replicate 32 0)) zge)) fun v1=>Zb Z<|z0p<|z8i (fun (s2:Bool) aa ww=>Sta (ctx 28 H [zG1] w) [(0,.rd (z02 (z02 u8R)) a0),(2,.val (z04 v1 0)),(13,.rd z0j s2)] [(1,some (v1,.box 62 [.rd aZ (Vector.replicate 32 0)])),zG1] aa ww) ?_ (fun s2=>?_)
 ·
  refine z2a<|Zm Z<|Zq (z3e Z .rd Z tu42)<|Zq (I.gtr Z Z)<|Zm Z<|z1l 10 Z (fun h3=>?_) (fun h3=>?_)
  ·
   refine lKn 9 Z h3<|Zk Z<|Zk Z<|Zq (pkT Z Z)<|z1q<|z3m (fun aa ww h=>Zu h [1,1001])
  ·
   refine lKn 9 Z h3<|z1a Zx Z Z (mv Z)<|zfg [] [] Zx Z Tryz.func213 Z Z (z84 _) (Y2 Z Z) rN fun r4 n5=>Zq (pkF Z Z)<|z1q<|z3m (fun aa ww h=>Zu h [1,1001])
 ·
  refine gIf Z Z (fun h6=>?_) (fun h6=>?_)
  ·
   refine gSR<|Zq (bldG (x':=((Vector.replicate 32 0):V3)) tu62 z23 zge ti5 (Bld.done Z))<|Es (sto 1 Z Z fH Z z23)<|Zb Z<|z0l<|z0v<|zbm [] [1001] Z (eC 1 Z Z z3s<|eE Z<|eN) (y1 Z)
  ·
   refine Zt<|gSR<|Zc [] [] Tryz.func215 Z (zp9) fun r7 n8=>Eb Z (z5o 1100 zpn (ZrE.rd (R:=(z3j 8 z0q)) (x:=(Vector.replicate 8 0)) zse (ZrE.nilS (ZrE.rd (R:=z0d) (x:=0) (Zr.num Z) ZrE.nil Z)) Z)) fun v9=>zcg u8R [.rd (z3j 8 z0q) (Vector.replicate 8 0),.rd (z02 u8R) [],.rd z0d 0] 1100 [.rd (z3j 8 z0q) (Vector.replicate 8 0)] [.rd z0d 0] Z Z Z<|zec (R:=z2z) (⟨(Vector.replicate 8 0),[],0⟩:z2p) 1100 Z (Sp.via (Sp.prod (Sp.prod (Sp.prod Sp.unit))))<|Es (sto 1100 Z Z fH Z zpn)<|Zn<|z8i (fun (s10:z2p) aa ww=>Sta (ctx 28 H [zG1] w) [(2,.val (z04 v1 0)),(4,.val (z04 v9 0))] [(1,some (v1,.box 62 [.rd aZ (Vector.replicate 32 0)])),(1100,some (v9,.box 227 [.rd z2z s10])),zG1] aa ww) ?_ (fun s10=>?_)
   ·
    refine gSR<|Zm Z<|Zq (z3e Z .rd Z tu42)<|Zm Z<|Zn<|z1t (fun (s11:z2p × Int) aa ww=>Sta (ctx 28 H [zG1] w) [(2,.val (z04 v1 0)),(4,.val (z04 v9 0)),(16,.rd (z02 (z02 u8R)) a0),(17,.rd z0d (a0.length:Int)),(18,.rd z0d s11.2)] [(1,some (v1,.box 62 [.rd aZ (Vector.replicate 32 0)])),(1100,some (v9,.box 227 [.rd z2z s11.1])),zG1] aa ww) (fun aa ww h=>Zu h [1,1100,1001]) (fun s11=>?_)
    refine gSR<|Zq (I.lss Z Z)<|Zn<|z0p<|gIf Z Z (fun h12=>?_) (fun h12=>?_)
    ·
     refine Zt<|z0p<|z4t<|gSR<|z0n fun x13 h14=>Zq (ixR Z Z h14 tu42 zq4 Z)<|Zq (ldR Z ty75)<|Zb Z<|z2a<|Zq (ld 1100 Z Z fH zs9 Z)<|Zm Z<|Zc [1001] [] Tryz.func216 Z (zjp _ _) fun r15 n16=>Es (sto 1100 Z Z fH Z zpn)<|z1q<|z2v<|z0k<|z2a<|Zq (I.add Z Z)<|Zm Z<|z1q<|z1d (fun aa ww h=>Zu h [1,1100,1001])
    ·
     refine z1p<|z0w<|z0x<|z3m (fun aa ww h=>Zu h [1,1100,1001])
   ·
    refine gSR<|Zq (ld 1100 Z Z fH zs9 Z)<|Zc [1001] [] Tryz.func217 Z (zrb _) fun r17 n18=>Es (sto 1 Z Z fH Z z23)<|Zb Z<|z0l<|zbm [] [1001] Z (eC 1 Z Z z3s<|eE Z<|eN) (y1 Z)
def zix (a0:List UInt8):Option (V3 × Int) :=
 zck [a0] >>= fun r3 =>
 some (r3.1,r3.2)
theorem zrt (a0:List UInt8):z1s Tryz.prog 153 [.rd (z02 u8R) a0] [zG1] (zix a0) (fun r nv=>⟨[.rd aZ r.1,.rd z0d r.2],[(1001,some (.bool true,.glob 1 (z3j 64 z0q) z6a))]⟩):=by
 refine z2b 9 Tryz.func153 Z Z Z fun H w=>?_
 refine gSR<|Eb Z (z5o 1 z23 (.zr (R:=aZ) (x:=(Vector.replicate 32 0)) zge)) fun v1=>Zb Z<|gSR<|Zm Z<|Ef Z (lit (R:=(z02 u8R)) ([a0]:List (List UInt8)) 2 (pP Z Z<|pN) Z tu42 zq4 Z Z) fun v2=>zgc 2 [5] Z (fS Z<|fN)<|Zc [1001] [] Tryz.func191 Z (zhp _) fun r3 n4=>Zq (ext Z Z)<|Zq (ext Z Z)<|Es (sto 1 Z Z fH Z z23)<|Zb Z<|z0l<|zbm [] [1001] Z (eC 1 Z Z z3s<|eE Z<|eN) (y1 Z)
def z12g (a0:z08):Option (V3 × Int) :=
 ze8 a0 >>= fun r3 =>
 if r3.2 != 0 then
  some ((Vector.replicate 32 0),r3.2)
 else
  zix r3.1 >>= fun r6 =>
  some (r6.1,r6.2)
theorem zw2 (a0:z08):z1s Tryz.prog 111 [.rd z03 a0] [zG1] (z12g a0) (fun r nv=>⟨[.rd aZ r.1,.rd z0d r.2],[(1001,some (.bool true,.glob 1 (z3j 64 z0q) z6a))]⟩):=by
 refine z2b 19 Tryz.func111 Z Z Z fun H w=>?_
 refine gSR<|Eb Z (bx 1 Z) fun v1=>Eb Z (z5o 2 z23 (.zr (R:=aZ) (x:=(Vector.replicate 32 0)) zge)) fun v2=>Zb Z<|gSR<|Zq (ld 1 Z Z fH zaa Z)<|Zc [] [(100,3)] Tryz.func89 Z (zmu _) fun r3 n4=>Zm Z<|Zq (ext Z Z)<|Zq (ext Z Z)<|Za Z<|Zb Z<|z0p<|gSR<|Zm Z<|Zq (I.neq Z Z)<|Zj Z (fun h5=>?_) (fun h5=>?_)
 ·
  refine gSR<|Zq (bldG (x':=((Vector.replicate 32 0):V3)) tu62 z23 zge ti5 (Bld.done Z))<|Zm Z<|Es (sto 2 Z Z fH Z z23)<|Zb Z<|z0l<|z0v<|zbm [] [1001] Z (eC 2 Z Z z3s<|eE Z<|eN) (y1 Z)
 ·
  refine Zt<|gSR<|Zm Z<|zgc 3 [9,4,15] Z (fS Z<|fS Z<|fS Z<|fN)<|Zc [1001] [] Tryz.func153 Z (zrt _) fun r6 n7=>Zq (ext Z Z)<|Zq (ext Z Z)<|Es (sto 2 Z Z fH Z z23)<|Zb Z<|z0l<|zbm [] [1001] Z (eC 2 Z Z z3s<|eE Z<|eN) (y1 Z)
def z5g (a0:List UInt32) (s2:Int):Option (Sum (Sum Bool Unit) Int) :=
 if decide (s2<(a0.length:Int)) then
  idx a0 s2 >>= fun x4 =>
  zj5 x4 >>= fun r6 =>
  if !r6 then
   some (.inl (.inl false))
  else
   some (.inr (w64 (s2+1)))
 else
  some (.inl (.inr ()))
def zfe (a0:List UInt32):Option (Bool) :=
 z58 (iter (z5g a0) 0) fun s1 =>
 some true
theorem zn1 (a0:List UInt32):z1s Tryz.prog 218 [.rd (z02 z0q) a0] [] (zfe a0) (fun r nv=>⟨[.rd z0j r],[]⟩):=by
 refine z2b 15 Tryz.func218 Z Z Z fun H w=>?_
 refine gSR<|Zb Z<|z7e (fun (s1:Unit) aa ww=>Sta (ctx 15 H [] w) [] [] aa ww) ?_ (fun s1=>?_)
 ·
  refine gSR<|Zm Z<|Zq (z3e Z .rd Z tu217)<|Zm Z<|Zn<|z1t (fun (s2:Int) aa ww=>Sta (ctx 15 H [] w) [(5,.rd (z02 z0q) a0),(6,.rd z0d (a0.length:Int)),(7,.rd z0d s2)] [] aa ww) (fun aa ww h=>Zu h []) (fun s2=>?_)
  refine gSR<|Zq (I.lss Z Z)<|Zn<|z0p<|gIf Z Z (fun h3=>?_) (fun h3=>?_)
  ·
   refine Zt<|z0p<|z4t<|gSR<|z0n fun x4 h5=>Zq (ixR Z Z h5 tu217 z6m Z)<|Zq (ldR Z zae)<|Zb Z<|gSR<|Zm Z<|Zc [] [] Tryz.func170 Z (zk3 _) fun r6 n7=>Zq (zf4 Z)<|Zj Z (fun h8=>?_) (fun h8=>?_)
   ·
    refine gSR<|Zb Z<|z0l<|z3t<|z0v<|z6o<|z6l<|Ze [] [] Z
   ·
    refine z2d<|z2v<|z0k<|z2a<|Zq (I.add Z Z)<|Zm Z<|z1q<|z1d (fun aa ww h=>Zu h [])
  ·
   refine z1p<|z0w<|z0x<|z6h (fun aa ww h=>Zu h [])
 ·
  refine gSR<|Zb Z<|z0l<|Ze [] [] Z
def zoz (a0:UInt32) (a1:UInt64):Option (UInt32 × Int) :=
 zfe [a0] >>= fun r2 =>
 if !r2 then
  some (0,2)
 else
  zgl a0 a1 >>= fun r5 =>
  some (r5,0)
end
section
open Go Go.RowKit
set_option maxRecDepth 100000
theorem zta (a0:UInt32) (a1:UInt64):z1s Tryz.prog 192 [.rd z0q a0,.rd z2c a1] [] (zoz a0 a1) (fun r nv=>⟨[.rd z0q r.1,.rd z0d r.2],[]⟩):=by
 refine z2b 13 Tryz.func192 Z Z Z fun H w=>?_
 refine gSR<|Za Z<|Zb Z<|z0p<|gSR<|Zm Z<|Ef Z (lit (R:=z0q) ([a0]:List UInt32) 1 (pP Z Z<|pN) Z tu217 z6m Z Z) fun v1=>zgc 1 [7] Z (fS Z<|fN)<|Zc [] [] Tryz.func218 Z (zn1 _) fun r2 n3=>Zq (zf4 Z)<|Zj Z (fun h4=>?_) (fun h4=>?_)
 ·
  refine gSR<|Za Z<|Zb Z<|z0l<|z0v<|Ze [] [] Z
 ·
  refine Zt<|gSR<|Zm Z<|Zm Z<|Zc [] [] Tryz.func201 Z (zi1 _ _) fun r5 n6=>Za Z<|Zb Z<|z0l<|Ze [] [] Z
def zmc (a0:UInt64):Option (UInt32) :=
 zgl 4 a0 >>= fun r1 =>
 some r1
theorem zr1 (a0:UInt64):z1s Tryz.prog 194 [.rd z2c a0] [] (zmc a0) (fun r nv=>⟨[.rd z0q r],[]⟩):=by
 refine z2b 5 Tryz.func194 Z Z Z fun H w=>?_
 refine gSR<|Zb Z<|gSR<|Zm Z<|Zc [] [] Tryz.func201 Z (zi1 _ _) fun r1 n2=>Zb Z<|z0l<|Ze [] [] Z
def zoa (a0:UInt32) (a1:UInt32):Option (UInt32 × Int) :=
 zfe [a0,a1] >>= fun r2 =>
 if !r2 then
  some (0,2)
 else
  zgq 1000000007 [a0,a1] >>= fun r6 =>
  some (r6,0)
theorem zsb (a0:UInt32) (a1:UInt32):z1s Tryz.prog 193 [.rd z0q a0,.rd z0q a1] [] (zoa a0 a1) (fun r nv=>⟨[.rd z0q r.1,.rd z0d r.2],[]⟩):=by
 refine z2b 15 Tryz.func193 Z Z Z fun H w=>?_
 refine gSR<|Za Z<|Zb Z<|z0p<|gSR<|Zm Z<|Zm Z<|Ef Z (lit (R:=z0q) ([a0,a1]:List UInt32) 1 (pP Z Z<|pP Z Z<|pN) Z tu217 z6m Z Z) fun v1=>zgc 1 [8] Z (fS Z<|fN)<|Zc [] [] Tryz.func218 Z (zn1 _) fun r2 n3=>Zq (zf4 Z)<|Zj Z (fun h4=>?_) (fun h4=>?_)
 ·
  refine gSR<|Za Z<|Zb Z<|z0l<|z0v<|Ze [] [] Z
 ·
  refine Zt<|gSR<|Zm Z<|Zm Z<|Ef Z (lit (R:=z0q) ([a0,a1]:List UInt32) 2 (pP Z Z<|pP Z Z<|pN) Z tu217 z6m Z Z) fun v5=>zgc 2 [13] Z (fS Z<|fN)<|Zc [] [] Tryz.func219 Z (zi2 _ _) fun r6 n7=>Za Z<|Zb Z<|z0l<|Ze [] [] Z
def z9b (a2:List UInt32) (s4:(List UInt8) × Int):Option (Sum ((List UInt8)) ((List UInt8) × Int)) :=
 if decide (s4.2<(a2.length:Int)) then
  idx a2 s4.2 >>= fun x7 =>
  app 1 s4.1 [(z51 x7 24).toUInt8,(z51 x7 16).toUInt8,(z51 x7 8).toUInt8,x7.toUInt8] >>= fun x10 =>
  some (.inr (x10,w64 (s4.2+1)))
 else
  some (.inl s4.1)
def ze2 (r15:V3 × Int) (s19:UInt64 × Int):Option (Sum UInt64 (UInt64 × Int)) :=
 if decide (s19.2<(((r15.1.toList.drop 0).take 8).length:Int)) then
  idx ((r15.1.toList.drop 0).take 8) s19.2 >>= fun x21 =>
  some ((zrl s19.1 8) ||| x21.toUInt64) >>= fun y23 =>
  some (.inr (y23,w64 (s19.2+1)))
 else
  some (.inl s19.1)
def zkv (a0:UInt8) (a1:List UInt8) (a2:List UInt32):Option (UInt64 × Int) :=
 if decide (9991<(a1.length:Int)) then
  some (0,4)
 else
  (iter (z9b a2) ([a0],0)) >>= fun s3 =>
  zck [s3,a1] >>= fun r15 =>
  (iter (ze2 r15) (0,0)) >>= fun s18 =>
  some (s18,r15.2)
theorem zst (a0:UInt8) (a1:List UInt8) (a2:List UInt32):z1s Tryz.prog 220 [.rd u8R a0,.rd (z02 u8R) a1,.rd (z02 z0q) a2] [zG1] (zkv a0 a1 a2) (fun r nv=>⟨[.rd z2c r.1,.rd z0d r.2],[(1001,some (.bool true,.glob 1 (z3j 64 z0q) z6a))]⟩):=by
 refine z2b 63 Tryz.func220 Z Z Z fun H w=>?_
 refine gSR<|Za Z<|Zb Z<|z0p<|gSR<|Zm Z<|Zq (z3e Z .rd Z tu75)<|Zq (I.gtr Z Z)<|Zj Z (fun h1=>?_) (fun h1=>?_)
 ·
  refine gSR<|Za Z<|Zb Z<|z0l<|z0v<|Ze [] [1001] Z
 ·
  refine Zt<|gSR<|Zm Z<|Ef Z (lit (R:=u8R) ([a0]:List UInt8) 1 (pP Z Z<|pN) Z tu75 ti5 Z Z) fun v2=>Zb Z<|z8i (fun (s3:(List UInt8)) aa ww=>∃ nv:Nat→Value,Sta (ctx 63 H [zG1] w) [(1,.rd (z02 u8R) a1),(8,.val (nv 0))] [(1,some ((nv 0),.list u8R 5 s3)),zG1] aa ww) ?_ (fun s3=>?_)
  ·
   refine gSR<|Zm Z<|Zq (z3e Z .rd Z tu217)<|Zm Z<|Zn<|z1t (fun (s4:(List UInt8) × Int) aa ww=>∃ nv:Nat→Value,Sta (ctx 63 H [zG1] w) [(1,.rd (z02 u8R) a1),(8,.val (nv 0)),(21,.rd (z02 z0q) a2),(22,.rd z0d (a2.length:Int)),(23,.rd z0d s4.2)] [(1,some ((nv 0),.list u8R 5 s4.1)),zG1] aa ww) (fun aa ww h=>⟨nvl [v2],Zu h [1,1001]⟩) (fun s4=>?_)
   refine gEx fun n5=>gSR<|Zq (I.lss Z Z)<|Zn<|z0p<|gIf Z Z (fun h6=>?_) (fun h6=>?_)
   ·
    refine Zt<|z0p<|z4t<|gSR<|z0n fun x7 h8=>Zq (ixR Z Z h8 tu217 z6m Z)<|Zq (ldR Z zae)<|Zb Z<|z2a<|Zm Z<|Zm Z<|Zq (W.shr Z Z (Int.natCast_nonneg _))<|Zq (W.toB Z tu65 tu5)<|Zm Z<|Zq (W.shr Z Z (Int.natCast_nonneg _))<|Zq (W.toB Z tu65 tu5)<|Zm Z<|Zq (W.shr Z Z (Int.natCast_nonneg _))<|Zq (W.toB Z tu65 tu5)<|Zm Z<|Zq (W.toB Z tu65 tu5)<|Ef Z (lit (R:=u8R) ([(z51 x7 24).toUInt8,(z51 x7 16).toUInt8,(z51 x7 8).toUInt8,x7.toUInt8]:List UInt8) 1100 (pP Z Z<|pP Z Z<|pP Z Z<|pP Z Z<|pN) Z tu75 ti5 Z Z) fun v9=>z0n fun x10 h11=>Ef Z (apn 1 Z Z Z (.own 1100 Z) h11 tu75 ti5 Z Z Z) fun v12=>Za Z<|z1q<|z2v<|z0k<|z2a<|Zq (I.add Z Z)<|Zm Z<|z1q<|z1d (fun aa ww h=>⟨nvl [v12],Zu h [1,1001]⟩)
   ·
    refine z1p<|z0w<|z0x<|z3m (fun aa ww h=>⟨nvl [(n5 0)],Zu h [1,1001]⟩)
  ·
   refine gEx fun n13=>gSR<|Zm Z<|Zm Z<|zgc 1 [8,43] Z (fS Z<|fS Z<|fN)<|Ef Z (lit (R:=(z02 u8R)) ([s3,a1]:List (List UInt8)) 1101 (pP Z Z<|pP Z Z<|pN) Z tu42 zq4 Z Z) fun v14=>zgc 1101 [45] Z (fS Z<|fN)<|Zc [1001] [] Tryz.func191 Z (zhp _) fun r15 n16=>Zm Z<|Zq (ext Z Z)<|Zq (ext Z Z)<|Eb Z (z5o 1102 z23 (.zr (R:=aZ) (x:=(Vector.replicate 32 0)) zge)) fun v17=>Es (sto 1102 Z Z fH Z z23)<|Zb Z<|gSR<|Zb Z<|z8i (fun (s18:UInt64) aa ww=>Sta (ctx 63 H [zG1] w) [(12,.rd z0d r15.2),(13,.rd z2c s18)] [zG1] aa ww) ?_ (fun s18=>?_)
   ·
    refine gSR<|z18w 1102 11 Z Z<|Zq (z1a7 (i:=0) (j:=8) Z .no (.to Z) tu62 ti5 (by decide) Z Z Z)<|Zq (z3e Z .rd Z tu75)<|Zm Z<|Zn<|z1t (fun (s19:UInt64 × Int) aa ww=>Sta (ctx 63 H [zG1] w) [(12,.rd z0d r15.2),(13,.rd z2c s19.1),(49,.rd (z02 u8R) ((r15.1.toList.drop 0).take 8)),(50,.rd z0d (((r15.1.toList.drop 0).take 8).length:Int)),(51,.rd z0d s19.2)] [zG1] aa ww) (fun aa ww h=>Zu h [1001]) (fun s19=>?_)
    refine gSR<|Zq (I.lss Z Z)<|Zn<|z0p<|gIf Z Z (fun h20=>?_) (fun h20=>?_)
    ·
     refine Zt<|z0p<|z4t<|gSR<|z0n fun x21 h22=>Zq (ixR Z Z h22 tu75 ti5 Z)<|Zq (ldR Z ty5)<|Zb Z<|z2a<|Zm Z<|Zq (U.shl Z Z (Int.natCast_nonneg _))<|Zm Z<|Zq (B.toU Z tu5 tu41)<|Zq (U.or Z Z)<|Za Z<|z1n 13 Z fun y23=>z1q<|z2v<|z0k<|z2a<|Zq (I.add Z Z)<|Zm Z<|z1q<|z1d (fun aa ww h=>Zu h [1001])
    ·
     refine z1p<|z0w<|z0x<|z3m (fun aa ww h=>Zu h [1001])
   ·
    refine gSR<|Zm Z<|Zm Z<|Za Z<|Zb Z<|z0l<|Ze [] [1001] Z
def zdu (a0:UInt32) (a1:UInt32) (a2:List UInt8):Option (UInt32 × Int) :=
 zkv 99 a2 [a0,a1] >>= fun r2 =>
 if r2.2 != 0 then
  some (0,r2.2)
 else
  some ((r2.1 % 500000003).toUInt32) >>= fun y5 =>
  some (y5,0)
theorem zma (a0:UInt32) (a1:UInt32) (a2:List UInt8):z1s Tryz.prog 195 [.rd z0q a0,.rd z0q a1,.rd (z02 u8R) a2] [zG1] (zdu a0 a1 a2) (fun r nv=>⟨[.rd z0q r.1,.rd z0d r.2],[(1001,some (.bool true,.glob 1 (z3j 64 z0q) z6a))]⟩):=by
 refine z2b 24 Tryz.func195 Z Z Z fun H w=>?_
 refine gSR<|Za Z<|Zb Z<|gSR<|Zm Z<|Zm Z<|Zm Z<|Ef Z (lit (R:=z0q) ([a0,a1]:List UInt32) 1 (pP Z Z<|pP Z Z<|pN) Z tu217 z6m Z Z) fun v1=>zgc 1 [14] Z (fS Z<|fN)<|Zc [1001] [] Tryz.func220 Z (zst _ _ _) fun r2 n3=>Zm Z<|Zq (ext Z Z)<|Zq (ext Z Z)<|Za Z<|Zb Z<|z0p<|gSR<|Zm Z<|Zq (I.neq Z Z)<|Zj Z (fun h4=>?_) (fun h4=>?_)
 ·
  refine gSR<|Zm Z<|Za Z<|Zb Z<|z0l<|z0v<|Ze [] [1001] Z
 ·
  refine Zt<|gSR<|Zm Z<|Zq (U.rem Z Z (by decide))<|Zq (U.toW Z tu41 tu65)<|Za Z<|z1n 6 Z fun y5=>Zb Z<|z0l<|Ze [] [1001] Z
def zh4 (a0:UInt32) (a1:List UInt8) (a2:z0c):Option (Int) :=
 zj5 a0 >>= fun r2 =>
 if !r2 then
  some 2
 else
  if decide (9991<(a1.length:Int)) then
   some 4
  else
   if decide (500000003≤(max a2.E a2.S)) then
    some 22
   else
    zoz a0 (500000003 - a2.E.toUInt64) >>= fun r7 =>
    zmc a2.S.toUInt64 >>= fun r9 =>
    zoa r9 r7.1 >>= fun r11 =>
    zdu r11.1 a0 a1 >>= fun r13 =>
    if r13.2 != 0 then
     some 22
    else
     if r13.1 != a2.E then
      some 22
     else
      some 0
theorem zpm (a0:UInt32) (a1:List UInt8) (a2:z0c):z1s Tryz.prog 154 [.rd z0q a0,.rd (z02 u8R) a1,.rd z0g a2] [zG1] (zh4 a0 a1 a2) (fun r nv=>⟨[.rd z0d r],[(1001,some (.bool true,.glob 1 (z3j 64 z0q) z6a))]⟩):=by
 refine z2b 58 Tryz.func154 Z Z Z fun H w=>?_
 refine gSR<|Eb Z (bx 1 Z) fun v1=>Zb Z<|z0p<|gSR<|Zm Z<|Zc [] [] Tryz.func170 Z (zk3 _) fun r2 n3=>Zq (zf4 Z)<|Zj Z (fun h4=>?_) (fun h4=>?_)
 ·
  refine gSR<|Zb Z<|z0l<|z0v<|Ze [] [1001] Z
 ·
  refine Zt<|z0p<|gSR<|Zm Z<|Zq (z3e Z .rd Z tu75)<|Zq (I.gtr Z Z)<|Zj Z (fun h5=>?_) (fun h5=>?_)
  ·
   refine gSR<|Zb Z<|z0l<|z0v<|Ze [] [1001] Z
  ·
   refine Zt<|z0p<|gSR<|Zq (faB 1 Z Z Tryz.underlying71 Z (by exact z6m))<|Zq (ld 1 Z Z (fP (z5f _)) zae Z)<|Zq (faB 1 Z Z Tryz.underlying71 Z (by exact z6m))<|Zq (ld 1 Z Z (fP (z81 _)) zae Z)<|Zq (W.max Z Z)<|Zq (W.geq Z Z)<|Zj Z (fun h6=>?_) (fun h6=>?_)
   ·
    refine gSR<|Zb Z<|z0l<|z0v<|Ze [] [1001] Z
   ·
    refine Zt<|gSR<|Zm Z<|Zq (faB 1 Z Z Tryz.underlying71 Z (by exact z6m))<|Zq (ld 1 Z Z (fP (z5f _)) zae Z)<|Zq (W.toU Z tu65 tu41)<|Zq (U.sub Z Z)<|Zc [] [] Tryz.func192 Z (zta _ _) fun r7 n8=>Zm Z<|Zq (ext Z Z)<|Zq (ext Z Z)<|Za Z<|Zb Z<|gSR<|Zq (faB 1 Z Z Tryz.underlying71 Z (by exact z6m))<|Zq (ld 1 Z Z (fP (z81 _)) zae Z)<|Zq (W.toU Z tu65 tu41)<|Zc [] [] Tryz.func194 Z (zr1 _) fun r9 n10=>Zm Z<|Zc [] [] Tryz.func193 Z (zsb _ _) fun r11 n12=>Zm Z<|Zq (ext Z Z)<|Zq (ext Z Z)<|Za Z<|Zb Z<|z0p<|gSR<|Zm Z<|Zm Z<|Zm Z<|Zc [1001] [] Tryz.func195 Z (zma _ _ _) fun r13 n14=>Zm Z<|Zq (ext Z Z)<|Zq (ext Z Z)<|Za Z<|Zb Z<|gSR<|Zm Z<|Zq (I.neq Z Z)<|Zm Z<|z1l 52 Z (fun h15=>?_) (fun h15=>?_)
    ·
     refine lKn 51 Z h15<|Zk Z<|Zk Z<|Zk Z<|Zk Z<|Zq (pkT Z Z)<|Zn<|zhz Z<|gSR<|Zb Z<|z0l<|z0v<|Ze [] [1001] Z
    ·
     refine lKn 51 Z h15<|z1a Zx Z Z (mv Z)<|z1a Zx Z Z (faB 1 Z Z Tryz.underlying71 Z (by exact z6m))<|z1a Zx Z Z (ld 1 Z Z (fP (z5f _)) zae Z)<|z1a Zx Z Z (W.neq Z Z)<|Zq (pkF Z Z)<|Zj Z (fun h16=>?_) (fun h16=>?_)
     ·
      refine gKn 56 Z h16<|gSR<|Zb Z<|z0l<|z0v<|Ze [] [1001] Z
     ·
      refine gKn 56 Z h16<|Zt<|gSR<|Zb Z<|z0l<|Ze [] [1001] Z
def zin (a0:z08):Option (Int) :=
 zhh a0 >>= fun r2 =>
 if r2 != 0 then
  some r2
 else
  zgv a0 >>= fun r5 =>
  zh4 a0.Author r5.1 a0.Sig >>= fun r7 =>
  some r7
theorem zn8 (a0:z08):z1s Tryz.prog 112 [.rd z03 a0] [zG1] (zin a0) (fun r nv=>⟨[.rd z0d r],[(1001,some (.bool true,.glob 1 (z3j 64 z0q) z6a))]⟩):=by
 refine z2b 22 Tryz.func112 Z Z Z fun H w=>?_
 refine gSR<|Eb Z (bx 1 Z) fun v1=>Zb Z<|z0p<|gSR<|Zq (ld 1 Z Z fH zaa Z)<|Zc [] [] Tryz.func128 Z (zjz _) fun r2 n3=>Zb Z<|gSR<|Zm Z<|Zq (I.neq Z Z)<|Zj Z (fun h4=>?_) (fun h4=>?_)
 ·
  refine gSR<|Zm Z<|Zb Z<|z0l<|z0v<|Ze [] [1001] Z
 ·
  refine Zt<|gSR<|Zq (ld 1 Z Z fH zaa Z)<|Zc [] [(100,2)] Tryz.func129 Z (zli _) fun r5 n6=>Zm Z<|Zq (ext Z Z)<|Zq (ext Z Z)<|Za Z<|Zb Z<|gSR<|Zq (faB 1 Z Z Tryz.underlying73 Z (by exact z6m))<|Zq (ld 1 Z Z (fP (z3a _)) zae Z)<|Zm Z<|Zq (faB 1 Z Z Tryz.underlying73 Z (by exact zn3))<|Zq (ld 1 Z Z (fP (z2j _)) ty71 Z)<|zgc 2 [14,4,18] Z (fS Z<|fS Z<|fS Z<|fN)<|Zc [1001] [] Tryz.func154 Z (zpm _ _ _) fun r7 n8=>Zb Z<|z0l<|Ze [] [1001] Z
def z5z (s4:UInt64 × (List UInt8)):Option (Sum ((List UInt8)) (UInt64 × (List UInt8))) :=
 if decide (0<s4.1) then
  app 1 s4.2 [(s4.1 % 256).toUInt8] >>= fun x8 =>
  some (.inr (s4.1 / 256,x8))
 else
  some (.inl s4.2)
def z60 (s3:(List UInt8)) (s15:(List UInt8) × Int):Option (Sum ((List UInt8)) ((List UInt8) × Int)) :=
 if decide (0≤s15.2) then
  idx s3 s15.2 >>= fun x18 =>
  app 1 s15.1 [x18] >>= fun x21 =>
  some (w64 (s15.2 - 1)) >>= fun y24 =>
  some (.inr (x21,y24))
 else
  some (.inl s15.1)
def z2s (a0:UInt64):Option ((List UInt8)) :=
 if decide (a0≤247) then
  some [a0.toUInt8]
 else
  (iter (z5z) (a0,[])) >>= fun s3 =>
  (some (w64 ((s3.length:Int) - 1)) >>= fun y14 =>
  iter (z60 s3) ([UInt8.ofInt (w64 (247+(s3.length:Int)))],y14)) >>= fun s13 =>
  some s13
theorem z3f (a0:UInt64):z1s Tryz.prog 140 [.rd z2c a0] [] (z2s a0) (fun r nv=>⟨[.val (nv 0)],[(100,some (nv 0,.list u8R 5 r))]⟩):=by
 refine z2b 41 Tryz.func140 Z Z Z fun H w=>?_
 refine gSR<|Zb Z<|z0p<|gSR<|Zm Z<|Zq (U.leq Z Z)<|Zj Z (fun h1=>?_) (fun h1=>?_)
 ·
  refine gSR<|Zm Z<|Zq (U.toB Z tu41 tu5)<|Ef Z (lit (R:=u8R) ([a0.toUInt8]:List UInt8) 1 (pP Z Z<|pN) Z tu75 ti5 Z Z) fun v2=>Zb Z<|z0l<|z0v<|Ze [v2] [1] Z
 ·
  refine Zt<|gSR<|Zb Z<|z8i (fun (s3:(List UInt8)) aa ww=>∃ nv:Nat→Value,Sta (ctx 41 H [] w) [(3,.val (nv 0))] [(3,some ((nv 0),.list u8R 5 s3))] aa ww) ?_ (fun s3=>?_)
  ·
   refine zup u8R 5 6<|z1t (fun (s4:UInt64 × (List UInt8)) aa ww=>∃ nv:Nat→Value,Sta (ctx 41 H [] w) [(0,.rd z2c s4.1),(3,.val (nv 0))] [(5,some ((nv 0),.list u8R 5 s4.2))] aa ww) (fun aa ww h=>⟨nvl [(.slice none 0 0)],Zu h [6]⟩) (fun s4=>?_)
   refine gEx fun n5=>z0p<|gSR<|Zm Z<|Zq (U.gtr Z Z)<|Zj Z (fun h6=>?_) (fun h6=>?_)
   ·
    refine Zt<|z4t<|gSR<|Zm Z<|Zm Z<|Zq (U.rem Z Z (by decide))<|Zq (U.toB Z tu41 tu5)<|Ef Z (lit (R:=u8R) ([(s4.1 % 256).toUInt8]:List UInt8) 7 (pP Z Z<|pN) Z tu75 ti5 Z Z) fun v7=>z0n fun x8 h9=>Ef Z (apn 5 Z Z Z (.own 7 Z) h9 tu75 ti5 Z Z Z) fun v10=>Zb Z<|z2a<|Zm Z<|Zq (U.quo Z Z (by decide))<|Za Z<|z1q<|z2v<|z1d (fun aa ww h=>⟨nvl [v10],Zu h [5]⟩)
   ·
    refine z1p<|z0w<|z0x<|z3m (fun aa ww h=>⟨nvl [(n5 0)],Zu h [5]⟩)
  ·
   refine gEx fun n11=>gSR<|Zm Z<|Zq (z3e Z (.own 3 Z) Z tu75)<|Zq (I.add Z Z)<|Zq (I.toB Z tu3 tu5)<|Ef Z (lit (R:=u8R) ([UInt8.ofInt (w64 (247+(s3.length:Int)))]:List UInt8) 8 (pP Z Z<|pN) Z tu75 ti5 Z Z) fun v12=>Zb Z<|z8i (fun (s13:(List UInt8)) aa ww=>∃ nv:Nat→Value,Sta (ctx 41 H [] w) [(4,.val (nv 0))] [(8,some ((nv 0),.list u8R 5 s13))] aa ww) ?_ (fun s13=>?_)
   ·
    refine gSR<|Zm Z<|Zq (z3e Z (.own 3 Z) Z tu75)<|Zq (I.sub Z Z)<|Za Z<|z1n 5 Z fun y14=>Zn<|z1t (fun (s15:(List UInt8) × Int) aa ww=>∃ nv:Nat→Value,Sta (ctx 41 H [] w) [(3,.val (n11 0)),(4,.val (nv 0)),(5,.rd z0d s15.2)] [(3,some ((n11 0),.list u8R 5 s3)),(8,some ((nv 0),.list u8R 5 s15.1))] aa ww) (fun aa ww h=>⟨nvl [v12],Zu h [3,8]⟩) (fun s15=>?_)
    refine gEx fun n16=>z0p<|gSR<|Zm Z<|Zq (I.geq Z Z)<|Zj Z (fun h17=>?_) (fun h17=>?_)
    ·
     refine Zt<|z0p<|z4t<|z2a<|Zm Z<|Zm Z<|Zm Z<|z0n fun x18 h19=>Zq (ixO 3 Z Z Z h19 tu75 ti5)<|Zq (ld 3 Z Z (Foc.el h19) ty5 Z)<|Ef Z (lit (R:=u8R) ([x18]:List UInt8) 9 (pP Z Z<|pN) Z tu75 ti5 Z Z) fun v20=>z0n fun x21 h22=>Ef Z (apn 8 Z Z Z (.own 9 Z) h22 tu75 ti5 Z Z Z) fun v23=>Za Z<|z1q<|z2v<|z0k<|z2a<|Zm Z<|Zq (I.sub Z Z)<|Za Z<|z1n 5 Z fun y24=>z1q<|z1d (fun aa ww h=>⟨nvl [v23],Zu h [3,8]⟩)
    ·
     refine z1p<|z0w<|z0x<|z3m (fun aa ww h=>⟨nvl [(n16 0)],Zu h [8]⟩)
   ·
    refine gEx fun n25=>gSR<|Zm Z<|Zb Z<|z0l<|Ze [(n25 0)] [8] Z
def z7s (a0:List V3) (s4:(List UInt8) × Int):Option (Sum ((List UInt8)) ((List UInt8) × Int)) :=
 if decide (s4.2<(a0.length:Int)) then
  idx a0 s4.2 >>= fun x7 =>
  app 1 s4.1 x7.toList >>= fun x9 =>
  some (w64 (s4.2+1)) >>= fun y12 =>
  some (.inr (x9,y12))
 else
  some (.inl s4.1)
def zd3 (a0:List V3):Option ((List UInt8)) :=
 z2s (UInt64.ofInt (a0.length:Int)) >>= fun r1 =>
 (iter (z7s a0) (r1,0)) >>= fun s3 =>
 some s3
theorem zlp (a0:List V3):z1s Tryz.prog 174 [.rd (z02 aZ) a0] [] (zd3 a0) (fun r nv=>⟨[.val (nv 0)],[(100,some (nv 0,.list u8R 5 r))]⟩):=by
 refine z2b 22 Tryz.func174 Z Z Z fun H w=>?_
 refine gSR<|Zb Z<|gSR<|Zm Z<|Zq (z3e Z .rd Z tu22)<|Zq (I.toU Z tu3 tu41)<|Zc [] [(100,1)] Tryz.func140 Z (z3f _) fun r1 n2=>Zb Z<|z8i (fun (s3:(List UInt8)) aa ww=>∃ nv:Nat→Value,Sta (ctx 22 H [] w) [(3,.val (nv 0))] [(1,some ((nv 0),.list u8R 5 s3))] aa ww) ?_ (fun s3=>?_)
 ·
  refine gSR<|Zb Z<|z1t (fun (s4:(List UInt8) × Int) aa ww=>∃ nv:Nat→Value,Sta (ctx 22 H [] w) [(0,.rd (z02 aZ) a0),(3,.val (nv 0)),(4,.rd z0d s4.2)] [(1,some ((nv 0),.list u8R 5 s4.1))] aa ww) (fun aa ww h=>⟨nvl [(n2 0)],Zu h [1]⟩) (fun s4=>?_)
  refine gEx fun n5=>z0p<|gSR<|Zm Z<|Zm Z<|Zq (z3e Z .rd Z tu22)<|Zq (I.lss Z Z)<|Zj Z (fun h6=>?_) (fun h6=>?_)
  ·
   refine Zt<|z0p<|z4t<|z2a<|Zm Z<|Zm Z<|Zm Z<|z0n fun x7 h8=>Zq (ixR Z Z h8 tu22 z23 Z)<|Zq (cutV Z tu62 ti5 Z Z Z)<|z0n fun x9 h10=>Ef Z (apn 1 Z Z Z .rd h10 tu75 ti5 Z Z Z) fun v11=>Za Z<|z1q<|z2v<|z0k<|z2a<|Zm Z<|Zq (I.add Z Z)<|Za Z<|z1n 4 Z fun y12=>z1q<|z1d (fun aa ww h=>⟨nvl [v11],Zu h [1]⟩)
  ·
   refine z1p<|z0w<|z0x<|z3m (fun aa ww h=>⟨nvl [(n5 0)],Zu h [1]⟩)
 ·
  refine gEx fun n13=>gSR<|Zm Z<|Zb Z<|z0l<|Ze [(n13 0)] [1] Z
def z8u (a0:List UInt8):Option ((List UInt8)) :=
 z2s (UInt64.ofInt (a0.length:Int)) >>= fun r1 =>
 app 1 r1 a0 >>= fun x3 =>
 some x3
theorem zfv (a0:List UInt8):z1s Tryz.prog 175 [.rd (z02 u8R) a0] [] (z8u a0) (fun r nv=>⟨[.val (nv 0)],[(100,some (nv 0,.list u8R 5 r))]⟩):=by
 refine z2b 9 Tryz.func175 Z Z Z fun H w=>?_
 refine gSR<|Zb Z<|gSR<|Zm Z<|Zq (z3e Z .rd Z tu75)<|Zq (I.toU Z tu3 tu41)<|Zc [] [(100,1)] Tryz.func140 Z (z3f _) fun r1 n2=>Zm Z<|z0n fun x3 h4=>Ef Z (apn 1 Z Z Z .rd h4 tu75 ti5 Z Z Z) fun v5=>Zb Z<|z0l<|Ze [v5] [1] Z
def zax (a0:Int):Option ((List UInt8)) :=
 if decide (0≤a0) then
  z2s (2 * (UInt64.ofInt a0)) >>= fun r2 =>
  some r2
 else
  z2s ((2 * (UInt64.ofInt (w64 (0 - (w64 (a0+1))))))+1) >>= fun r4 =>
  some r4
theorem zji (a0:Int):z1s Tryz.prog 207 [.rd z0d a0] [] (zax a0) (fun r nv=>⟨[.val (nv 0)],[(100,some (nv 0,.list u8R 5 r))]⟩):=by
 refine z2b 16 Tryz.func207 Z Z Z fun H w=>?_
 refine gSR<|Zb Z<|z0p<|gSR<|Zm Z<|Zq (I.geq Z Z)<|Zj Z (fun h1=>?_) (fun h1=>?_)
 ·
  refine gSR<|Zm Z<|Zq (I.toU Z Tryz.underlying2 tu41)<|Zq (U.mul Z Z)<|Zc [] [(100,1)] Tryz.func140 Z (z3f _) fun r2 n3=>Zb Z<|z0l<|z0v<|Ze [(n3 0)] [1] Z
 ·
  refine Zt<|gSR<|Zm Z<|Zq (I.add Z Z)<|Zq (I.neg Z)<|Zq (I.toU Z Tryz.underlying2 tu41)<|Zq (U.mul Z Z)<|Zq (U.add Z Z)<|Zc [] [(100,2)] Tryz.func140 Z (z3f _) fun r4 n5=>Zb Z<|z0l<|Ze [(n5 0)] [2] Z
def z6t (a0:z06) (s11:(List UInt8) × Int):Option (Sum ((List UInt8)) ((List UInt8) × Int)) :=
 if decide (0≤s11.2) then
  chk (0≤w64 (8 * s11.2)) >>= fun u14 =>
  app 1 s11.1 [(z99 a0.Bits ((w64 (8 * s11.2):Int).toNat)).toUInt8] >>= fun x17 =>
  some (w64 (s11.2 - 1)) >>= fun y20 =>
  some (.inr (x17,y20))
 else
  some (.inl s11.1)
def zc4 (a0:z06):Option ((List UInt8)) :=
 if a0.Kind==1 then
  zax a0.Num >>= fun r4 =>
  app 1 [a0.Kind] r4 >>= fun x6 =>
  some x6
 else
  if a0.Kind==2 then
   (iter (z6t a0) ([a0.Kind],7)) >>= fun s10 =>
   some s10
  else
   chk (a0.Text.length≤281474976710656) >>= fun u22 =>
   z8u a0.Text >>= fun r24 =>
   app 1 [a0.Kind] r24 >>= fun x26 =>
   some x26
theorem zk0 (a0:z06):z1s Tryz.prog 177 [.rd z28 a0] [] (zc4 a0) (fun r nv=>⟨[.val (nv 0)],[(100,some (nv 0,.list u8R 5 r))]⟩):=by
 refine z2b 39 Tryz.func177 Z Z Z fun H w=>?_
 refine gSR<|Eb Z (bx 1 Z) fun v1=>Zb Z<|gSR<|Zq (faB 1 Z Z Tryz.underlying67 Z (by exact ti5))<|Zq (ld 1 Z Z (fP (z3c _)) ty5 Z)<|Ef Z (lit (R:=u8R) ([a0.Kind]:List UInt8) 2 (pP Z Z<|pN) Z tu75 ti5 Z Z) fun v2=>Zb Z<|z0p<|gSR<|Zq (faB 1 Z Z Tryz.underlying67 Z (by exact ti5))<|Zq (ld 1 Z Z (fP (z3c _)) ty5 Z)<|Zn<|z4t<|gSR<|Zq (B.eql Z Z)<|Zb Z<|gIf Z Z (fun h3=>?_) (fun h3=>?_)
 ·
  refine gKn 11 Z h3<|gSR<|Zm Z<|Zq (faB 1 Z Z Tryz.underlying67 Z (by exact ti2))<|Zq (ld 1 Z Z (fP (z7o _)) ty2 Z)<|Zc [] [(100,3)] Tryz.func207 Z (zji _) fun r4 n5=>z0n fun x6 h7=>Ef Z (apn 2 Z Z Z (.own 3 Z) h7 tu75 ti5 Z Z Z) fun v8=>Zb Z<|z0l<|z3t<|z0v<|Ze [v8] [2] Z
 ·
  refine gKn 11 Z h3<|gSR<|Zq (B.eql Z Z)<|Zb Z<|gIf Z Z (fun h9=>?_) (fun h9=>?_)
  ·
   refine gKn 18 Z h9<|z8i (fun (s10:(List UInt8)) aa ww=>∃ nv:Nat→Value,Sta (ctx 39 H [] w) [(3,.val (nv 0))] [(2,some ((nv 0),.list u8R 5 s10))] aa ww) ?_ (fun s10=>?_)
   ·
    refine gSR<|Zb Z<|z1t (fun (s11:(List UInt8) × Int) aa ww=>∃ nv:Nat→Value,Sta (ctx 39 H [] w) [(1,.val (z04 v1 0)),(3,.val (nv 0)),(4,.rd z0d s11.2)] [(1,some (v1,.box 67 [.rd z28 a0])),(2,some ((nv 0),.list u8R 5 s11.1))] aa ww) (fun aa ww h=>⟨nvl [v2],Zu h [1,2]⟩) (fun s11=>?_)
    refine gEx fun n12=>z0p<|gSR<|Zm Z<|Zq (I.geq Z Z)<|Zj Z (fun h13=>?_) (fun h13=>?_)
    ·
     refine Zt<|z0p<|z4t<|z2a<|Zm Z<|Zq (faB 1 Z Z Tryz.underlying67 Z (by exact zs2))<|Zq (ld 1 Z Z (fP (z48 _)) zqy Z)<|Zm Z<|Zq (I.mul Z Z)<|z0n fun u14 h15=>Zq (U.shr Z Z (z4g h15))<|Zq (U.toB Z tu41 tu5)<|Ef Z (lit (R:=u8R) ([(z99 a0.Bits ((w64 (8 * s11.2):Int).toNat)).toUInt8]:List UInt8) 4 (pP Z Z<|pN) Z tu75 ti5 Z Z) fun v16=>z0n fun x17 h18=>Ef Z (apn 2 Z Z Z (.own 4 Z) h18 tu75 ti5 Z Z Z) fun v19=>Za Z<|z1q<|z2v<|z0k<|z2a<|Zm Z<|Zq (I.sub Z Z)<|Za Z<|z1n 4 Z fun y20=>z1q<|z1d (fun aa ww h=>⟨nvl [v19],Zu h [1,2]⟩)
    ·
     refine z1p<|z0w<|z0x<|z3m (fun aa ww h=>⟨nvl [(n12 0)],Zu h [2]⟩)
   ·
    refine gEx fun n21=>gSR<|Zm Z<|Zb Z<|z0l<|z3t<|z0v<|Ze [(n21 0)] [2] Z
  ·
   refine gKn 18 Z h9<|z2d<|z2v<|z0k<|gSR<|Zm Z<|Zq (faB 1 Z Z Tryz.underlying67 Z (by exact ti9))<|Zq (ld 1 Z Z (fP (z3o _)) ty9 Z)<|z0n fun u22 h23=>z148 Z Z h23 tu9 tu75 tu5<|Zc [] [(100,5)] Tryz.func175 Z (zfv _) fun r24 n25=>z0n fun x26 h27=>Ef Z (apn 2 Z Z Z (.own 5 Z) h27 tu75 ti5 Z Z Z) fun v28=>Zb Z<|z0l<|Ze [v28] [2] Z
def z6x (a0:z08):Option ((List UInt8)) :=
 z2s a0.Author.toUInt64 >>= fun r3 =>
 app 1 [111] r3 >>= fun x5 =>
 zd3 a0.Preds >>= fun r8 =>
 app 1 x5 r8 >>= fun x10 =>
 z2s a0.Stamp >>= fun r13 =>
 app 1 x10 r13 >>= fun x15 =>
 app 1 x15 [a0.Act.Kind] >>= fun x19 =>
 (if a0.Act.Kind != 1 then
  chk (a0.Act.Key.length≤281474976710656) >>= fun u24 =>
  z8u a0.Act.Key >>= fun r26 =>
  app 1 x19 r26 >>= fun x28 =>
  some x28
 else
  some x19) >>= fun s22 =>
 if a0.Act.Kind==4 then
  zc4 a0.Act.Value >>= fun r33 =>
  app 1 s22 r33 >>= fun x35 =>
  some x35
 else
  some s22
theorem zcq (a0:z08):z1s Tryz.prog 139 [.rd z03 a0] [] (z6x a0) (fun r nv=>⟨[.val (nv 0)],[(100,some (nv 0,.list u8R 5 r))]⟩):=by
 refine z2b 47 Tryz.func139 Z Z Z fun H w=>?_
 refine gSR<|Eb Z (bx 1 Z) fun v1=>Zb Z<|gSR<|Ef Z (lit (R:=u8R) ([111]:List UInt8) 2 (pP Z Z<|pN) Z tu75 ti5 Z Z) fun v2=>Zq (faB 1 Z Z Tryz.underlying73 Z (by exact z6m))<|Zq (ld 1 Z Z (fP (z3a _)) zae Z)<|Zq (W.toU Z tu65 tu41)<|Zc [] [(100,3)] Tryz.func140 Z (z3f _) fun r3 n4=>z0n fun x5 h6=>Ef Z (apn 2 Z Z Z (.own 3 Z) h6 tu75 ti5 Z Z Z) fun v7=>Zb Z<|z0p<|z8h [2,13,25] mixed Z Z<|hTk 0 Z Z (mv Z)<|hTk 1 Z Z (faB 1 Z Z Tryz.underlying73 Z (by exact z5l))<|hTk 2 Z Z (ld 1 Z Z (fP (z0y _)) z71 Z)<|hTk 5 Z Z (faB 1 Z Z Tryz.underlying73 Z (by exact zs2))<|hTk 6 Z Z (ld 1 Z Z (fP (z4k _)) zqy Z)<|z3v 3 [] [(100,13)] Z (by kernel_rfl) Z (gd0 Z) Z Tryz.func174 Z Z (zlp _) (Y1 Z) rN Z (fun _ _=>z3p) fun r8 n9=>z5h fun x10 h11=>Zo 4 Z Z Z (apn 2 Z Z Z (.own 13 Z) h11 tu75 ti5 Z Z Z) fun v12=>z3v 7 [] [(100,25)] Z (by kernel_rfl) Z (gd0 Z) Z Tryz.func140 Z Z (z3f _) (Y1 Z) rN Z (fun _ _=>z3p) fun r13 n14=>z5h fun x15 h16=>Zo 8 Z Z Z (apn 2 Z Z Z (.own 25 Z) h16 tu75 ti5 Z Z Z) fun v17=>Zf 9 Z Z z3p (asg Z)<|z4s (by kernel_rfl)<|z0k<|gSR<|Zm Z<|Zq (faB 1 Z Z Tryz.underlying73 Z (by exact zpj))<|Zq (faB 1 Z Z Tryz.underlying69 Z (by exact ti5))<|Zq (ld 1 Z Z ((fP (z29 _)).part (z3x _)) ty5 Z)<|Ef Z (lit (R:=u8R) ([a0.Act.Kind]:List UInt8) 37 (pP Z Z<|pN) Z tu75 ti5 Z Z) fun v18=>z0n fun x19 h20=>Ef Z (apn 2 Z Z Z (.own 37 Z) h20 tu75 ti5 Z Z Z) fun v21=>Zb Z<|z8i (fun (s22:(List UInt8)) aa ww=>∃ nv:Nat→Value,Sta (ctx 47 H [] w) [(1,.val (z04 v1 0)),(3,.val (nv 0))] [(1,some (v1,.box 73 [.rd z03 a0])),(2,some ((nv 0),.list u8R 5 s22))] aa ww) ?_ (fun s22=>?_)
 ·
  refine gSR<|Zq (faB 1 Z Z Tryz.underlying73 Z (by exact zpj))<|Zq (faB 1 Z Z Tryz.underlying69 Z (by exact ti5))<|Zq (ld 1 Z Z ((fP (z29 _)).part (z3x _)) ty5 Z)<|Zq (B.neq Z Z)<|Zj Z (fun h23=>?_) (fun h23=>?_)
  ·
   refine z2a<|Zm Z<|Zq (faB 1 Z Z Tryz.underlying73 Z (by exact zpj))<|Zq (faB 1 Z Z Tryz.underlying69 Z (by exact ti9))<|Zq (ld 1 Z Z ((fP (z29 _)).part (z6f _)) ty9 Z)<|z0n fun u24 h25=>z148 Z Z h25 tu9 tu75 tu5<|Zc [] [(100,38)] Tryz.func175 Z (zfv _) fun r26 n27=>z0n fun x28 h29=>Ef Z (apn 2 Z Z Z (.own 38 Z) h29 tu75 ti5 Z Z Z) fun v30=>Za Z<|z1q<|z3m (fun aa ww h=>⟨nvl [v30],Zu h [1,2]⟩)
  ·
   refine z2d<|z3m (fun aa ww h=>⟨nvl [v21],Zu h [1,2]⟩)
 ·
  refine gEx fun n31=>z0p<|gSR<|Zq (faB 1 Z Z Tryz.underlying73 Z (by exact zpj))<|Zq (faB 1 Z Z Tryz.underlying69 Z (by exact ti5))<|Zq (ld 1 Z Z ((fP (z29 _)).part (z3x _)) ty5 Z)<|Zq (B.eql Z Z)<|Zj Z (fun h32=>?_) (fun h32=>?_)
  ·
   refine z2a<|Zm Z<|Zq (faB 1 Z Z Tryz.underlying73 Z (by exact zpj))<|Zq (faB 1 Z Z Tryz.underlying69 Z (by exact zmf))<|Zq (ld 1 Z Z ((fP (z29 _)).part (z5q _)) zut Z)<|Zc [] [(100,39)] Tryz.func177 Z (zk0 _) fun r33 n34=>z0n fun x35 h36=>Ef Z (apn 2 Z Z Z (.own 39 Z) h36 tu75 ti5 Z Z Z) fun v37=>Zb Z<|gSR<|Zm Z<|Zb Z<|z0l<|Ze [v37] [2] Z
  ·
   refine Zt<|gSR<|Zm Z<|Zb Z<|z0l<|Ze [(n31 0)] [2] Z
def zc1 (a0:z08):Option ((List UInt8)) :=
 z6x a0 >>= fun r2 =>
 z2s a0.Sig.E.toUInt64 >>= fun r4 =>
 app 1 r2 r4 >>= fun x6 =>
 z2s a0.Sig.S.toUInt64 >>= fun r9 =>
 app 1 x6 r9 >>= fun x11 =>
 some x11
theorem zkh (a0:z08):z1s Tryz.prog 96 [.rd z03 a0] [] (zc1 a0) (fun r nv=>⟨[.val (nv 0)],[(100,some (nv 0,.list u8R 5 r))]⟩):=by
 refine z2b 17 Tryz.func96 Z Z Z fun H w=>?_
 refine gSR<|Eb Z (bx 1 Z) fun v1=>Zb Z<|z0p<|z8h [5,20,38] mixed Z Z<|hTk 0 Z Z (ld 1 Z Z fH zaa Z)<|hTk 2 Z Z (faB 1 Z Z Tryz.underlying73 Z (by exact zn3))<|hTk 3 Z Z (faB 1 Z Z Tryz.underlying71 Z (by exact z6m))<|hTk 4 Z Z (ld 1 Z Z ((fP (z2j _)).part (z5f _)) zae Z)<|hTk 5 Z Z (W.toU Z tu65 tu41)<|hTk 8 Z Z (faB 1 Z Z Tryz.underlying73 Z (by exact zn3))<|hTk 9 Z Z (faB 1 Z Z Tryz.underlying71 Z (by exact z6m))<|hTk 10 Z Z (ld 1 Z Z ((fP (z2j _)).part (z81 _)) zae Z)<|hTk 11 Z Z (W.toU Z tu65 tu41)<|z3v 1 [] [(100,5)] Z (by kernel_rfl) Z (gd0 Z) Z Tryz.func139 Z Z (zcq _) (Y1 Z) rN Z (fun _ _=>z3p) fun r2 n3=>z3v 6 [] [(100,20)] Z (by kernel_rfl) Z (gd0 Z) Z Tryz.func140 Z Z (z3f _) (Y1 Z) rN Z (fun _ _=>z3p) fun r4 n5=>z5h fun x6 h7=>Zo 7 Z Z Z (apn 5 Z Z Z (.own 20 Z) h7 tu75 ti5 Z Z Z) fun v8=>z3v 12 [] [(100,38)] Z (by kernel_rfl) Z (gd0 Z) Z Tryz.func140 Z Z (z3f _) (Y1 Z) rN Z (fun _ _=>z3p) fun r9 n10=>z5h fun x11 h12=>Zo 13 Z Z Z (apn 5 Z Z Z (.own 38 Z) h12 tu75 ti5 Z Z Z) fun v13=>Zf 14 Z Z z3p (asg Z)<|z4s (by kernel_rfl)<|z0k<|z0l<|Ze [v13] [5] Z
def zeh  : Option ((Vector UInt32 8)) :=
 some (#v[1779033703,3144134277,1013904242,2773480762,1359893119,2600822924,528734635,1541459225]:Vector UInt32 8)
theorem zk5  : z1s Tryz.prog 137 [] [] (zeh) (fun r nv=>⟨[.rd (z3j 8 z0q) r],[]⟩):=by
 refine z2b 2 Tryz.func137 Z Z Z fun H w=>?_
 refine gSR<|Eb Z (z5o 1 zj9 (.zr (R:=(z3j 8 z0q)) (x:=(Vector.replicate 8 0)) zse)) fun v1=>Zn<|gSR<|Zq (litA (R:=z0q) [1779033703,3144134277,1013904242,2773480762,1359893119,2600822924,528734635,1541459225] (#v[1779033703,3144134277,1013904242,2773480762,1359893119,2600822924,528734635,1541459225]:Vector UInt32 8) (pP Z Z<|pP Z Z<|pP Z Z<|pP Z Z<|pP Z Z<|pP Z Z<|pP Z Z<|pP Z Z<|pN) Z tu164 zj9 Z z6m)<|Es (sto 1 Z Z fH Z zj9)<|Zn<|z0l<|zbm [] [] Z (eC 1 Z Z zsn<|eN) (rN)
def z82 (a0:Int) (s3:(List UInt8)):Option (Sum ((List UInt8)) ((List UInt8))) :=
 if (Int.tmod (w64 ((w64 (a0+(s3.length:Int)))+8)) 64) != 0 then
  app 1 s3 [0] >>= fun x7 =>
  some (.inr x7)
 else
  some (.inl s3)
def z7t (a0:Int) (s12:(List UInt8) × Int):Option (Sum ((List UInt8)) ((List UInt8) × Int)) :=
 if decide (0≤s12.2) then
  chk (0≤w64 (8 * s12.2)) >>= fun u15 =>
  app 1 s12.1 [(z99 (8 * (UInt64.ofInt a0)) ((w64 (8 * s12.2):Int).toNat)).toUInt8] >>= fun x18 =>
  some (w64 (s12.2 - 1)) >>= fun y21 =>
  some (.inr (x18,y21))
 else
  some (.inl s12.1)
def zd2 (a0:Int):Option ((List UInt8)) :=
 (iter (z82 a0) [128]) >>= fun s2 =>
 (iter (z7t a0) (s2,7)) >>= fun s11 =>
 some s11
theorem zko (a0:Int):z1s Tryz.prog 138 [.rd z0d a0] [] (zd2 a0) (fun r nv=>⟨[.val (nv 0)],[(100,some (nv 0,.list u8R 5 r))]⟩):=by
 refine z2b 31 Tryz.func138 Z Z Z fun H w=>?_
 refine gSR<|Zb Z<|gSR<|Ef Z (lit (R:=u8R) ([128]:List UInt8) 1 (pP Z Z<|pN) Z tu75 ti5 Z Z) fun v1=>Zb Z<|z8i (fun (s2:(List UInt8)) aa ww=>∃ nv:Nat→Value,Sta (ctx 31 H [] w) [(0,.rd z0d a0),(3,.val (nv 0))] [(1,some ((nv 0),.list u8R 5 s2))] aa ww) ?_ (fun s2=>?_)
 ·
  refine z1t (fun (s3:(List UInt8)) aa ww=>∃ nv:Nat→Value,Sta (ctx 31 H [] w) [(0,.rd z0d a0),(3,.val (nv 0))] [(1,some ((nv 0),.list u8R 5 s3))] aa ww) (fun aa ww h=>⟨nvl [v1],Zu h [1]⟩) (fun s3=>?_)
  refine gEx fun n4=>z0p<|gSR<|Zm Z<|Zm Z<|Zq (z3e Z (.own 1 Z) Z tu75)<|Zq (I.add Z Z)<|Zq (I.add Z Z)<|Zq (I.rem Z Z (by decide))<|Zq (I.neq Z Z)<|Zj Z (fun h5=>?_) (fun h5=>?_)
  ·
   refine Zt<|z4t<|z2a<|Zm Z<|Ef Z (lit (R:=u8R) ([0]:List UInt8) 2 (pP Z Z<|pN) Z tu75 ti5 Z Z) fun v6=>z0n fun x7 h8=>Ef Z (apn 1 Z Z Z (.own 2 Z) h8 tu75 ti5 Z Z Z) fun v9=>Za Z<|z1q<|z2v<|z1d (fun aa ww h=>⟨nvl [v9],Zu h [1]⟩)
  ·
   refine z1p<|z0w<|z0x<|z3m (fun aa ww h=>⟨nvl [(n4 0)],Zu h [1]⟩)
 ·
  refine gEx fun n10=>z8i (fun (s11:(List UInt8)) aa ww=>∃ nv:Nat→Value,Sta (ctx 31 H [] w) [(3,.val (nv 0))] [(1,some ((nv 0),.list u8R 5 s11))] aa ww) ?_ (fun s11=>?_)
  ·
   refine gSR<|Zb Z<|z1t (fun (s12:(List UInt8) × Int) aa ww=>∃ nv:Nat→Value,Sta (ctx 31 H [] w) [(0,.rd z0d a0),(3,.val (nv 0)),(4,.rd z0d s12.2)] [(1,some ((nv 0),.list u8R 5 s12.1))] aa ww) (fun aa ww h=>⟨nvl [(n10 0)],Zu h [1]⟩) (fun s12=>?_)
   refine gEx fun n13=>z0p<|gSR<|Zm Z<|Zq (I.geq Z Z)<|Zj Z (fun h14=>?_) (fun h14=>?_)
   ·
    refine Zt<|z0p<|z4t<|z2a<|Zm Z<|Zm Z<|Zq (I.toU Z tu3 tu41)<|Zq (U.mul Z Z)<|Zm Z<|Zq (I.mul Z Z)<|z0n fun u15 h16=>Zq (U.shr Z Z (z4g h16))<|Zq (U.toB Z tu41 tu5)<|Ef Z (lit (R:=u8R) ([(z99 (8 * (UInt64.ofInt a0)) ((w64 (8 * s12.2):Int).toNat)).toUInt8]:List UInt8) 3 (pP Z Z<|pN) Z tu75 ti5 Z Z) fun v17=>z0n fun x18 h19=>Ef Z (apn 1 Z Z Z (.own 3 Z) h19 tu75 ti5 Z Z Z) fun v20=>Za Z<|z1q<|z2v<|z0k<|z2a<|Zm Z<|Zq (I.sub Z Z)<|Za Z<|z1n 4 Z fun y21=>z1q<|z1d (fun aa ww h=>⟨nvl [v20],Zu h [1]⟩)
   ·
    refine z1p<|z0w<|z0x<|z3m (fun aa ww h=>⟨nvl [(n13 0)],Zu h [1]⟩)
  ·
   refine gEx fun n22=>gSR<|Zm Z<|Zb Z<|z0l<|Ze [(n22 0)] [1] Z
def z2t (a0:UInt32) (a1:Int):Option (UInt32) :=
 chk (0≤a1) >>= fun u1 =>
 chk (0≤w64 (32 - a1)) >>= fun u3 =>
 some ((z51 a0 ((a1:Int).toNat)) ||| (zqv a0 ((w64 (32 - a1):Int).toNat))) >>= fun y5 =>
 some y5
theorem z2u (a0:UInt32) (a1:Int):z1s Tryz.prog 205 [.rd z0q a0,.rd z0d a1] [] (z2t a0 a1) (fun r nv=>⟨[.rd z0q r],[]⟩):=by
 refine z2b 13 Tryz.func205 Z Z Z fun H w=>?_
 refine gSR<|Zb Z<|z0p<|zik mixed (by kernel_rfl)<|Rq Z (mv Z)<|Rq Z (mv Z)<|z8t fun u1 h2=>Rq Z (W.shr Z Z (z4g h2))<|Rq Z (mv Z)<|Rq Z (mv Z)<|Rq Z (I.sub Z Z)<|z8t fun u3 h4=>Rq Z (W.shl Z Z (z4g h4))<|Rq Z (W.or Z Z)<|Rq Z (asg Z)<|z1a2 4 Z fun y5=>zt9<|z0k<|z0l<|Ze [] [] Z
def zbk  : Option ((List UInt32)) :=
 some [1116352408,1899447441,3049323471,3921009573,961987163,1508970993,2453635748,2870763221,3624381080,310598401,607225278,1426881987,1925078388,2162078206,2614888103,3248222580,3835390401,4022224774,264347078,604807628,770255983,1249150122,1555081692,1996064986,2554220882,2821834349,2952996808,3210313671,3336571891,3584528711,113926993,338241895,666307205,773529912,1294757372,1396182291,1695183700,1986661051,2177026350,2456956037,2730485921,2820302411,3259730800,3345764771,3516065817,3600352804,4094571909,275423344,430227734,506948616,659060556,883997877,958139571,1322822218,1537002063,1747873779,1955562222,2024104815,2227730452,2361852424,2428436474,2756734187,3204031479,3329325298]
theorem zhl  : z1s Tryz.prog 206 [] [] (zbk) (fun r nv=>⟨[.val (nv 0)],[(100,some (nv 0,.list z0q 65 r))]⟩):=by
 refine z2b 2 Tryz.func206 Z Z Z fun H w=>?_
 refine gSR<|Zb Z<|gSR<|Ef Z (lit (R:=z0q) ([1116352408,1899447441,3049323471,3921009573,961987163,1508970993,2453635748,2870763221,3624381080,310598401,607225278,1426881987,1925078388,2162078206,2614888103,3248222580,3835390401,4022224774,264347078,604807628,770255983,1249150122,1555081692,1996064986,2554220882,2821834349,2952996808,3210313671,3336571891,3584528711,113926993,338241895,666307205,773529912,1294757372,1396182291,1695183700,1986661051,2177026350,2456956037,2730485921,2820302411,3259730800,3345764771,3516065817,3600352804,4094571909,275423344,430227734,506948616,659060556,883997877,958139571,1322822218,1537002063,1747873779,1955562222,2024104815,2227730452,2361852424,2428436474,2756734187,3204031479,3329325298]:List UInt32) 1 (pP Z Z<|pP Z Z<|pP Z Z<|pP Z Z<|pP Z Z<|pP Z Z<|pP Z Z<|pP Z Z<|pP Z Z<|pP Z Z<|pP Z Z<|pP Z Z<|pP Z Z<|pP Z Z<|pP Z Z<|pP Z Z<|pP Z Z<|pP Z Z<|pP Z Z<|pP Z Z<|pP Z Z<|pP Z Z<|pP Z Z<|pP Z Z<|pP Z Z<|pP Z Z<|pP Z Z<|pP Z Z<|pP Z Z<|pP Z Z<|pP Z Z<|pP Z Z<|pP Z Z<|pP Z Z<|pP Z Z<|pP Z Z<|pP Z Z<|pP Z Z<|pP Z Z<|pP Z Z<|pP Z Z<|pP Z Z<|pP Z Z<|pP Z Z<|pP Z Z<|pP Z Z<|pP Z Z<|pP Z Z<|pP Z Z<|pP Z Z<|pP Z Z<|pP Z Z<|pP Z Z<|pP Z Z<|pP Z Z<|pP Z Z<|pP Z Z<|pP Z Z<|pP Z Z<|pP Z Z<|pP Z Z<|pP Z Z<|pP Z Z<|pP Z Z<|pN) Z tu217 z6m Z Z) fun v1=>Zb Z<|z0l<|Ze [v1] [1] Z
def z63 (a1:List UInt8) (s4:(List UInt32) × Int):Option (Sum ((List UInt32)) ((List UInt32) × Int)) :=
 if decide (s4.2<16) then
  idx a1 (w64 (4 * s4.2)) >>= fun x7 =>
  idx a1 (w64 ((w64 (4 * s4.2))+1)) >>= fun x9 =>
  idx a1 (w64 ((w64 (4 * s4.2))+2)) >>= fun x11 =>
  idx a1 (w64 ((w64 (4 * s4.2))+3)) >>= fun x13 =>
  app 4 s4.1 [(((((x7.toUInt32 * 256)+x9.toUInt32) * 256)+x11.toUInt32) * 256)+x13.toUInt32] >>= fun x16 =>
  some (w64 (s4.2+1)) >>= fun y19 =>
  some (.inr (x16,y19))
 else
  some (.inl s4.1)
def z5x (s22:(List UInt32) × Int):Option (Sum ((List UInt32)) ((List UInt32) × Int)) :=
 if decide (s22.2<64) then
  idx s22.1 (w64 (s22.2 - 15)) >>= fun x25 =>
  idx s22.1 (w64 (s22.2 - 2)) >>= fun x27 =>
  idx s22.1 (w64 (s22.2 - 16)) >>= fun x29 =>
  idx s22.1 (w64 (s22.2 - 7)) >>= fun x31 =>
  z2t x25 7 >>= fun r33 =>
  z2t x25 18 >>= fun r36 =>
  z2t x27 17 >>= fun r39 =>
  z2t x27 19 >>= fun r42 =>
  app 4 s22.1 [((x29+x31)+((r33 ^^^ r36) ^^^ (z51 x25 3)))+((r39 ^^^ r42) ^^^ (z51 x27 10))] >>= fun x45 =>
  some (w64 (s22.2+1)) >>= fun y48 =>
  some (.inr (x45,y48))
 else
  some (.inl s22.1)
def z3u (s21:(List UInt32)) (r50:(List UInt32)) (s54:(Vector UInt32 8) × Int):Option (Sum ((Vector UInt32 8)) ((Vector UInt32 8) × Int)) :=
 if decide (s54.2<64) then
  z98 s54.1 0 >>= fun x56 =>
  z98 s54.1 1 >>= fun x58 =>
  z98 s54.1 2 >>= fun x60 =>
  z98 s54.1 4 >>= fun x62 =>
  z98 s54.1 5 >>= fun x64 =>
  z98 s54.1 6 >>= fun x66 =>
  z98 s54.1 7 >>= fun x68 =>
  idx r50 s54.2 >>= fun x70 =>
  idx s21 s54.2 >>= fun x72 =>
  z2t x62 6 >>= fun r74 =>
  z2t x62 11 >>= fun r76 =>
  z2t x62 25 >>= fun r78 =>
  some ((((x68+((r74 ^^^ r76) ^^^ r78))+((x62 &&& x64) ^^^ ((~~~x62) &&& x66)))+x70)+x72) >>= fun y80 =>
  z2t x56 2 >>= fun r81 =>
  z2t x56 13 >>= fun r83 =>
  z2t x56 22 >>= fun r85 =>
  some (((r81 ^^^ r83) ^^^ r85)+(((x56 &&& x58) ^^^ (x56 &&& x60)) ^^^ (x58 &&& x60))) >>= fun y87 =>
  z98 s54.1 3 >>= fun x88 =>
  some (w64 (s54.2+1)) >>= fun y90 =>
  some (.inr ((#v[y80+y87,x56,x58,x60,x88+y80,x62,x64,x66]:Vector UInt32 8),y90))
 else
  some (.inl s54.1)
def z24 (s53:(Vector UInt32 8)) (s92:(Vector UInt32 8) × Int):Option (Sum ((Vector UInt32 8)) ((Vector UInt32 8) × Int)) :=
 if decide (s92.2<8) then
  z98 s92.1 s92.2 >>= fun x94 =>
  z98 s53 s92.2 >>= fun x96 =>
  z98 s92.1 s92.2 >>= fun x98 =>
  some (w64 (s92.2+1)) >>= fun y100 =>
  some (.inr (zkn s92.1 s92.2 (x94+x96),y100))
 else
  some (.inl s92.1)
def zb1 (a0:Vector UInt32 8) (a1:List UInt8):Option ((Vector UInt32 8)) :=
 (iter (z63 a1) ([],0)) >>= fun s3 =>
 (iter (z5x) (s3,16)) >>= fun s21 =>
 zbk >>= fun r50 =>
 (iter (z3u s21 r50) (a0,0)) >>= fun s53 =>
 (iter (z24 s53) (a0,0)) >>= fun s91 =>
 some s91
set_option maxHeartbeats 4000000 in
theorem zjf (a0:Vector UInt32 8) (a1:List UInt8):z1s Tryz.prog 176 [.rd (z3j 8 z0q) a0,.rd (z02 u8R) a1] [] (zb1 a0 a1) (fun r nv=>⟨[.rd (z3j 8 z0q) r],[]⟩):=by
 refine z2b 203 Tryz.func176 Z Z Z fun H w=>?_
 refine gSR<|Eb Z (bx 1 Z) fun v1=>Eb Z (z5o 2 zj9 (.zr (R:=(z3j 8 z0q)) (x:=(Vector.replicate 8 0)) zse)) fun v2=>Zn<|gSR<|Zb Z<|z8i (fun (s3:(List UInt32)) aa ww=>∃ nv:Nat→Value,Sta (ctx 203 H [] w) [(2,.val (z04 v1 0)),(4,.val (z04 v2 0)),(5,.val (nv 0))] [(1,some (v1,.box 164 [.rd (z3j 8 z0q) a0])),(2,some (v2,.box 164 [.rd (z3j 8 z0q) (Vector.replicate 8 0)])),(108,some ((nv 0),.list z0q 65 s3))] aa ww) ?_ (fun s3=>?_)
 ·
  refine gSR<|Zb Z<|zup z0q 65 215<|z1t (fun (s4:(List UInt32) × Int) aa ww=>∃ nv:Nat→Value,Sta (ctx 203 H [] w) [(1,.rd (z02 u8R) a1),(2,.val (z04 v1 0)),(4,.val (z04 v2 0)),(5,.val (nv 0)),(6,.rd z0d s4.2)] [(1,some (v1,.box 164 [.rd (z3j 8 z0q) a0])),(2,some (v2,.box 164 [.rd (z3j 8 z0q) (Vector.replicate 8 0)])),(214,some ((nv 0),.list z0q 65 s4.1))] aa ww) (fun aa ww h=>⟨nvl [(.slice none 0 0)],Zu h [1,2,215]⟩) (fun s4=>?_)
  refine gEx fun n5=>z0p<|gSR<|Zm Z<|Zq (I.lss Z Z)<|Zj Z (fun h6=>?_) (fun h6=>?_)
  ·
   refine Zt<|z0p<|z4t<|z8h [214,318] mixed Z Z<|hTk 0 Z Z (mv Z)<|hTk 1 Z Z (mv Z)<|hTk 2 Z Z (mv Z)<|hTk 3 Z Z (I.mul Z Z)<|z5h fun x7 h8=>hTk 4 Z Z (ixR Z Z h8 tu75 ti5 Z)<|hTk 5 Z Z (ldR Z ty5)<|hTk 6 Z Z (B.toW Z tu5 tu65)<|hTk 7 Z Z (W.mul Z Z)<|hTk 8 Z Z (mv Z)<|hTk 9 Z Z (mv Z)<|hTk 10 Z Z (I.mul Z Z)<|hTk 11 Z Z (I.add Z Z)<|z5h fun x9 h10=>hTk 12 Z Z (ixR Z Z h10 tu75 ti5 Z)<|hTk 13 Z Z (ldR Z ty5)<|hTk 14 Z Z (B.toW Z tu5 tu65)<|hTk 15 Z Z (W.add Z Z)<|hTk 16 Z Z (W.mul Z Z)<|hTk 17 Z Z (mv Z)<|hTk 18 Z Z (mv Z)<|hTk 19 Z Z (I.mul Z Z)<|hTk 20 Z Z (I.add Z Z)<|z5h fun x11 h12=>hTk 21 Z Z (ixR Z Z h12 tu75 ti5 Z)<|hTk 22 Z Z (ldR Z ty5)<|hTk 23 Z Z (B.toW Z tu5 tu65)<|hTk 24 Z Z (W.add Z Z)<|hTk 25 Z Z (W.mul Z Z)<|hTk 26 Z Z (mv Z)<|hTk 27 Z Z (mv Z)<|hTk 28 Z Z (I.mul Z Z)<|hTk 29 Z Z (I.add Z Z)<|z5h fun x13 h14=>hTk 30 Z Z (ixR Z Z h14 tu75 ti5 Z)<|hTk 31 Z Z (ldR Z ty5)<|hTk 32 Z Z (B.toW Z tu5 tu65)<|hTk 33 Z Z (W.add Z Z)<|Zo 34 Z Z Z (lit (R:=z0q) ([(((((x7.toUInt32 * 256)+x9.toUInt32) * 256)+x11.toUInt32) * 256)+x13.toUInt32]:List UInt32) 318 (pP Z Z<|pN) Z tu217 z6m Z Z) fun v15=>z5h fun x16 h17=>Zo 35 Z Z Z (apn 214 Z Z Z (.own 318 Z) h17 tu217 z6m Z Z Z) fun v18=>Zf 36 Z Z z3p (asg Z)<|z4s (by kernel_rfl)<|z2v<|z0k<|z2a<|Zm Z<|Zq (I.add Z Z)<|Za Z<|z1n 6 Z fun y19=>z1q<|z1d (fun aa ww h=>⟨nvl [v18],Zu h [1,2,214]⟩)
  ·
   refine z1p<|z0w<|z0x<|z3m (fun aa ww h=>⟨nvl [(n5 0)],Zu h [1,2,214]⟩)
 ·
  refine gEx fun n20=>z8i (fun (s21:(List UInt32)) aa ww=>∃ nv:Nat→Value,Sta (ctx 203 H [] w) [(2,.val (z04 v1 0)),(4,.val (z04 v2 0)),(5,.val (nv 0))] [(1,some (v1,.box 164 [.rd (z3j 8 z0q) a0])),(2,some (v2,.box 164 [.rd (z3j 8 z0q) (Vector.replicate 8 0)])),(108,some ((nv 0),.list z0q 65 s21))] aa ww) ?_ (fun s21=>?_)
  ·
   refine gSR<|Zb Z<|z1t (fun (s22:(List UInt32) × Int) aa ww=>∃ nv:Nat→Value,Sta (ctx 203 H [] w) [(2,.val (z04 v1 0)),(4,.val (z04 v2 0)),(5,.val (nv 0)),(7,.rd z0d s22.2)] [(1,some (v1,.box 164 [.rd (z3j 8 z0q) a0])),(2,some (v2,.box 164 [.rd (z3j 8 z0q) (Vector.replicate 8 0)])),(108,some ((nv 0),.list z0q 65 s22.1))] aa ww) (fun aa ww h=>⟨nvl [(n20 0)],Zu h [1,2,108]⟩) (fun s22=>?_)
   refine gEx fun n23=>z0p<|gSR<|Zm Z<|Zq (I.lss Z Z)<|Zj Z (fun h24=>?_) (fun h24=>?_)
   ·
    refine Zt<|z0p<|z4t<|z0p<|zik mixed (by kernel_rfl)<|Rq Z (mv Z)<|Rq Z (mv Z)<|Rq Z (I.sub Z Z)<|z8t fun x25 h26=>Rq Z (ixO 108 Z Z Z h26 tu217 z6m)<|Rq Z (ld 108 Z Z (Foc.el h26) zae Z)<|Rq Z (mv Z)<|Rq Z (mv Z)<|Rq Z (I.sub Z Z)<|z8t fun x27 h28=>Rq Z (ixO 108 Z Z Z h28 tu217 z6m)<|Rq Z (ld 108 Z Z (Foc.el h28) zae Z)<|Rq Z (asg Z)<|Rq Z (asg Z)<|zt9<|z0k<|zs3 [(5,.val (n23 0)),(2,.val (z04 v1 0)),(4,.val (z04 v2 0)),(7,.rd z0d s22.2),(8,.rd z0q x25),(9,.rd z0q x27)] [(1,some (v1,.box 164 [.rd (z3j 8 z0q) a0])),(2,some (v2,.box 164 [.rd (z3j 8 z0q) (Vector.replicate 8 0)])),(108,some ((n23 0),.list z0q 65 s22.1))] [1,2,108] (Zs Z Z Z Z<|sS Z<|sS Z<|sN) (Zi Z<|Zi Z<|Zi Z<|rN)<|z4n fun x29 h30=>z4n fun x31 h32=>z4n fun r33 h35=>z4n fun r36 h38=>z4n fun r39 h41=>z4n fun r42 h44=>z4n fun x45 h46=>gOr [(5,.val (n23 0),32)] [⟨108,some ([], fun nv=>((n23 0),.list z0q 65 s22.1)),[(31,some ([2], fun nv=>((nv 2),.list z0q 65 x45)))]⟩,⟨330,none,[(30,some ([1], fun nv=>((nv 1),.list z0q 65 [((x29+x31)+((r33 ^^^ r36) ^^^ (z51 x25 3)))+((r39 ^^^ r42) ^^^ (z51 x27 10))])))]⟩] [⟨some (76,[], fun nv=>.val (n23 0)),[],[],[0]⟩,⟨some (77,[], fun nv=>.val (n23 0)),[],[],[0]⟩,pd 78 (.rd z0d s22.2),pd 79 (.rd z0d (w64 (s22.2 - 16))),pk 80 (.val (z04 (n23 0) ((w64 (s22.2 - 16):Int).toNat * 1))) [(0,0,false)],pk 81 (.rd z0q x29) [(0,0,false)],⟨some (82,[], fun nv=>.val (n23 0)),[],[],[0]⟩,pd 83 (.rd z0d s22.2),pd 84 (.rd z0d (w64 (s22.2 - 7))),pk 85 (.val (z04 (n23 0) ((w64 (s22.2 - 7):Int).toNat * 1))) [(0,0,false)],pk 86 (.rd z0q x31) [(0,0,false)],pd 87 (.rd z0q (x29+x31)),pd 88 (.rd z0q x25),pd 89 (.rd z0q r33),pd 90 (.rd z0q x25),pd 91 (.rd z0q r36),pd 92 (.rd z0q (r33 ^^^ r36)),pd 93 (.rd z0q x25),pd 94 (.rd z0q (z51 x25 3)),pd 95 (.rd z0q ((r33 ^^^ r36) ^^^ (z51 x25 3))),pd 96 (.rd z0q ((x29+x31)+((r33 ^^^ r36) ^^^ (z51 x25 3)))),pd 97 (.rd z0q x27),pd 98 (.rd z0q r39),pd 99 (.rd z0q x27),pd 100 (.rd z0q r42),pd 101 (.rd z0q (r39 ^^^ r42)),pd 102 (.rd z0q x27),pd 103 (.rd z0q (z51 x27 10)),pd 104 (.rd z0q ((r39 ^^^ r42) ^^^ (z51 x27 10))),pd 105 (.rd z0q (((x29+x31)+((r33 ^^^ r36) ^^^ (z51 x25 3)))+((r39 ^^^ r42) ^^^ (z51 x27 10)))),⟨some (106,[1], fun nv=>.val (nv 1)),[(1,0,true)],[1],[]⟩,⟨some (107,[2], fun nv=>.val (nv 2)),[(1,1,false),(0,0,true)],[2],[]⟩,⟨some (5,[2], fun nv=>.val (nv 2)),[],[],[]⟩] mixed (oC (oRn (fun nv E=>mv Z))<|oC (oRn (fun nv E=>mv Z))<|oC (oRn (fun nv E=>mv Z))<|oC (oRn (fun nv E=>I.sub Z Z))<|oC (oRn (fun nv E=>ixO 108 Z Z Z h30 tu217 z6m))<|oC (oRn (fun nv E=>ld 108 Z Z (Foc.el h30) zae Z))<|oC (oRn (fun nv E=>mv Z))<|oC (oRn (fun nv E=>mv Z))<|oC (oRn (fun nv E=>I.sub Z Z))<|oC (oRn (fun nv E=>ixO 108 Z Z Z h32 tu217 z6m))<|oC (oRn (fun nv E=>ld 108 Z Z (Foc.el h32) zae Z))<|oC (oRn (fun nv E=>W.add Z Z))<|oC (oRn (fun nv E=>mv Z))<|oC (oCl [] [] [] h35 Tryz.func205 Z (fun nv=>(z2u _ _)) (fun nv=>(Y2 Z Z)) (fun nv E=>rN))<|oC (oRn (fun nv E=>mv Z))<|oC (oCl [] [] [] h38 Tryz.func205 Z (fun nv=>(z2u _ _)) (fun nv=>(Y2 Z Z)) (fun nv E=>rN))<|oC (oRn (fun nv E=>W.xor Z Z))<|oC (oRn (fun nv E=>mv Z))<|oC (oRn (fun nv E=>W.shr Z Z (Int.natCast_nonneg _)))<|oC (oRn (fun nv E=>W.xor Z Z))<|oC (oRn (fun nv E=>W.add Z Z))<|oC (oRn (fun nv E=>mv Z))<|oC (oCl [] [] [] h41 Tryz.func205 Z (fun nv=>(z2u _ _)) (fun nv=>(Y2 Z Z)) (fun nv E=>rN))<|oC (oRn (fun nv E=>mv Z))<|oC (oCl [] [] [] h44 Tryz.func205 Z (fun nv=>(z2u _ _)) (fun nv=>(Y2 Z Z)) (fun nv E=>rN))<|oC (oRn (fun nv E=>W.xor Z Z))<|oC (oRn (fun nv E=>mv Z))<|oC (oRn (fun nv E=>W.shr Z Z (Int.natCast_nonneg _)))<|oC (oRn (fun nv E=>W.xor Z Z))<|oC (oRn (fun nv E=>W.add Z Z))<|oC (oEf 330 1 (fun nv E=>lit (R:=z0q) ([((x29+x31)+((r33 ^^^ r36) ^^^ (z51 x25 3)))+((r39 ^^^ r42) ^^^ (z51 x27 10))]:List UInt32) 330 (pP Z Z<|pN) Z tu217 z6m Z Z))<|oC (oEf 108 2 (fun nv E=>apn 108 Z Z Z (.own 330 Z) h46 tu217 z6m Z Z Z))<|oC (oRn (fun nv E=>asg Z))<|oN) fun n47=>z2v<|z0k<|z2a<|Zm Z<|Zq (I.add Z Z)<|Za Z<|z1n 7 Z fun y48=>z1q<|z1d (fun aa ww h=>⟨nvl [(n47 2)],Zu h [1,2,108]⟩)
   ·
    refine z1p<|z0w<|z0x<|z3m (fun aa ww h=>⟨nvl [(n23 0)],Zu h [1,2,108]⟩)
  ·
   refine gEx fun n49=>gSR<|Zc [] [(100,331)] Tryz.func206 Z (zhl) fun r50 n51=>Zb Z<|gSR<|Zq (ld 1 Z Z fH zsn Z)<|Eb Z (z5o 332 zj9 (.zr (R:=(z3j 8 z0q)) (x:=(Vector.replicate 8 0)) zse)) fun v52=>Es (sto 332 Z Z fH Z zj9)<|Zn<|z8i (fun (s53:(Vector UInt32 8)) aa ww=>Sta (ctx 203 H [] w) [(2,.val (z04 v1 0)),(4,.val (z04 v2 0)),(11,.val (z04 v52 0))] [(1,some (v1,.box 164 [.rd (z3j 8 z0q) a0])),(2,some (v2,.box 164 [.rd (z3j 8 z0q) (Vector.replicate 8 0)])),(332,some (v52,.box 164 [.rd (z3j 8 z0q) s53]))] aa ww) ?_ (fun s53=>?_)
   ·
    refine gSR<|Zb Z<|z1t (fun (s54:(Vector UInt32 8) × Int) aa ww=>Sta (ctx 203 H [] w) [(2,.val (z04 v1 0)),(4,.val (z04 v2 0)),(5,.val (n49 0)),(10,.val (n51 0)),(11,.val (z04 v52 0)),(12,.rd z0d s54.2)] [(1,some (v1,.box 164 [.rd (z3j 8 z0q) a0])),(2,some (v2,.box 164 [.rd (z3j 8 z0q) (Vector.replicate 8 0)])),(108,some ((n49 0),.list z0q 65 s21)),(331,some ((n51 0),.list z0q 65 r50)),(332,some (v52,.box 164 [.rd (z3j 8 z0q) s54.1]))] aa ww) (fun aa ww h=>Zu h [1,2,108,331,332]) (fun s54=>?_)
    refine z0p<|gSR<|Zm Z<|Zq (I.lss Z Z)<|Zj Z (fun h55=>?_) (fun h55=>?_)
    ·
     refine Zt<|z0p<|z4t<|z0p<|zik mixed (by kernel_rfl)<|z8t fun x56 h57=>Rq Z (ixB 332 Z Z Z h57 tu164 z6m)<|Rq Z (ld 332 Z Z (fP (.el h57)) zae Z)<|z8t fun x58 h59=>Rq Z (ixB 332 Z Z Z h59 tu164 z6m)<|Rq Z (ld 332 Z Z (fP (.el h59)) zae Z)<|z8t fun x60 h61=>Rq Z (ixB 332 Z Z Z h61 tu164 z6m)<|Rq Z (ld 332 Z Z (fP (.el h61)) zae Z)<|z8t fun x62 h63=>Rq Z (ixB 332 Z Z Z h63 tu164 z6m)<|Rq Z (ld 332 Z Z (fP (.el h63)) zae Z)<|z8t fun x64 h65=>Rq Z (ixB 332 Z Z Z h65 tu164 z6m)<|Rq Z (ld 332 Z Z (fP (.el h65)) zae Z)<|z8t fun x66 h67=>Rq Z (ixB 332 Z Z Z h67 tu164 z6m)<|Rq Z (ld 332 Z Z (fP (.el h67)) zae Z)<|Rq Z (asg Z)<|Rq Z (asg Z)<|Rq Z (asg Z)<|Rq Z (asg Z)<|Rq Z (asg Z)<|Rq Z (asg Z)<|zt9<|z0k<|z0p<|z8h [] mixed Z Z<|z5h fun x68 h69=>hTk 0 Z Z (ixB 332 Z Z Z h69 tu164 z6m)<|hTk 1 Z Z (ld 332 Z Z (fP (.el h69)) zae Z)<|hTk 2 Z Z (mv Z)<|hTk 4 Z Z (mv Z)<|hTk 7 Z Z (mv Z)<|hTk 11 Z Z (mv Z)<|hTk 12 Z Z (mv Z)<|hTk 13 Z Z (W.and Z Z)<|hTk 14 Z Z (mv Z)<|hTk 15 Z Z (W.cpl Z)<|hTk 16 Z Z (mv Z)<|hTk 17 Z Z (W.and Z Z)<|hTk 18 Z Z (W.xor Z Z)<|hTk 20 Z Z (mv Z)<|hTk 21 Z Z (mv Z)<|z5h fun x70 h71=>hTk 22 Z Z (ixO 331 Z Z Z h71 tu217 z6m)<|hTk 23 Z Z (ld 331 Z Z (Foc.el h71) zae Z)<|hTk 25 Z Z (mv Z)<|hTk 26 Z Z (mv Z)<|z5h fun x72 h73=>hTk 27 Z Z (ixO 108 Z Z Z h73 tu217 z6m)<|hTk 28 Z Z (ld 108 Z Z (Foc.el h73) zae Z)<|z3v 3 [] [] Z (by kernel_rfl) Z (gd0 Z) Z Tryz.func205 Z Z (z2u _ _) (Y2 Z Z) rN Z (fun _ _=>z30) fun r74 n75=>z3v 5 [] [] Z (by kernel_rfl) Z (gd0 Z) Z Tryz.func205 Z Z (z2u _ _) (Y2 Z Z) rN Z (fun _ _=>z30) fun r76 n77=>hTk 6 Z Z (W.xor Z Z)<|z3v 8 [] [] Z (by kernel_rfl) Z (gd0 Z) Z Tryz.func205 Z Z (z2u _ _) (Y2 Z Z) rN Z (fun _ _=>z30) fun r78 n79=>hTk 9 Z Z (W.xor Z Z)<|hTk 10 Z Z (W.add Z Z)<|hTk 19 Z Z (W.add Z Z)<|hTk 24 Z Z (W.add Z Z)<|hTk 29 Z Z (W.add Z Z)<|hTk 30 Z Z (asg Z)<|z11i 19 Z Z fun y80=>z4s (by kernel_rfl)<|z0k<|gSR<|Zm Z<|Zc [] [] Tryz.func205 Z (z2u _ _) fun r81 n82=>Zm Z<|Zc [] [] Tryz.func205 Z (z2u _ _) fun r83 n84=>Zq (W.xor Z Z)<|Zm Z<|Zc [] [] Tryz.func205 Z (z2u _ _) fun r85 n86=>Zq (W.xor Z Z)<|Zm Z<|Zm Z<|Zq (W.and Z Z)<|Zm Z<|Zm Z<|Zq (W.and Z Z)<|Zq (W.xor Z Z)<|Zm Z<|Zm Z<|Zq (W.and Z Z)<|Zq (W.xor Z Z)<|Zq (W.add Z Z)<|Za Z<|z1n 20 Z fun y87=>Zn<|z2a<|Zm Z<|Zm Z<|Zq (W.add Z Z)<|Zm Z<|Zm Z<|Zm Z<|z0n fun x88 h89=>Zq (ixB 332 Z Z Z h89 tu164 z6m)<|Zq (ld 332 Z Z (fP (.el h89)) zae Z)<|Zm Z<|Zq (W.add Z Z)<|Zm Z<|Zm Z<|Zm Z<|Zq (litA (R:=z0q) [y80+y87,x56,x58,x60,x88+y80,x62,x64,x66] (#v[y80+y87,x56,x58,x60,x88+y80,x62,x64,x66]:Vector UInt32 8) (pP Z Z<|pP Z Z<|pP Z Z<|pP Z Z<|pP Z Z<|pP Z Z<|pP Z Z<|pP Z Z<|pN) Z tu164 zj9 Z z6m)<|Es (sto 332 Z Z fH Z zj9)<|z1q<|z2v<|z0k<|z2a<|Zm Z<|Zq (I.add Z Z)<|Za Z<|z1n 12 Z fun y90=>z1q<|z1d (fun aa ww h=>Zu h [1,2,108,331,332])
    ·
     refine z1p<|z0w<|z0x<|z3m (fun aa ww h=>Zu h [1,2,332])
   ·
    refine z8i (fun (s91:(Vector UInt32 8)) aa ww=>Sta (ctx 203 H [] w) [(2,.val (z04 v1 0)),(4,.val (z04 v2 0))] [(1,some (v1,.box 164 [.rd (z3j 8 z0q) s91])),(2,some (v2,.box 164 [.rd (z3j 8 z0q) (Vector.replicate 8 0)]))] aa ww) ?_ (fun s91=>?_)
    ·
     refine gSR<|Zb Z<|z1t (fun (s92:(Vector UInt32 8) × Int) aa ww=>Sta (ctx 203 H [] w) [(2,.val (z04 v1 0)),(4,.val (z04 v2 0)),(11,.val (z04 v52 0)),(21,.rd z0d s92.2)] [(1,some (v1,.box 164 [.rd (z3j 8 z0q) s92.1])),(2,some (v2,.box 164 [.rd (z3j 8 z0q) (Vector.replicate 8 0)])),(332,some (v52,.box 164 [.rd (z3j 8 z0q) s53]))] aa ww) (fun aa ww h=>Zu h [1,2,332]) (fun s92=>?_)
     refine z0p<|gSR<|Zm Z<|Zq (I.lss Z Z)<|Zj Z (fun h93=>?_) (fun h93=>?_)
     ·
      refine Zt<|z0p<|z4t<|z8h [1] mixed Z Z<|hTk 0 Z Z (mv Z)<|z5h fun x94 h95=>hTk 1 Z Z (ixB 1 Z Z Z h95 tu164 z6m)<|hTk 3 Z Z (mv Z)<|z5h fun x96 h97=>hTk 4 Z Z (ixB 332 Z Z Z h97 tu164 z6m)<|hTk 5 Z Z (ld 332 Z Z (fP (.el h97)) zae Z)<|hRun 2 Z (by kernel_rfl) (gd0 Z) Z Z z30 (ld 1 Z Z (fP (.el h95)) zae Z)<|hTk 6 Z Z (W.add Z Z)<|z5h fun x98 h99=>hTk 7 Z Z (ixB 1 Z Z Z h99 tu164 z6m)<|Zp 8 Z Z Z Z Z (sto 1 Z Z (fP (.el h99)) Z z6m)<|z4s (by kernel_rfl)<|z2v<|z0k<|z2a<|Zm Z<|Zq (I.add Z Z)<|Za Z<|z1n 21 Z fun y100=>z1q<|z1d (fun aa ww h=>Zu h [1,2,332])
     ·
      refine z1p<|z0w<|z0x<|z3m (fun aa ww h=>Zu h [1,2])
    ·
     refine gSR<|Zq (ld 1 Z Z fH zsn Z)<|Es (sto 2 Z Z fH Z zj9)<|Zn<|z0l<|zbm [] [] Z (eC 2 Z Z zsn<|eN) (rN)
def z5y (a1:List UInt8) (s4:(Vector UInt32 8) × Int):Option (Sum ((Vector UInt32 8)) ((Vector UInt32 8) × Int)) :=
 if decide ((w64 (s4.2+64))≤(a1.length:Int)) then
  cut a1 s4.2 (w64 (s4.2+64)) >>= fun x6 =>
  zb1 s4.1 x6 >>= fun r8 =>
  some (w64 (s4.2+64)) >>= fun y10 =>
  some (.inr (r8,y10))
 else
  some (.inl s4.1)
def zb3 (a0:Vector UInt32 8) (a1:List UInt8):Option ((Vector UInt32 8)) :=
 (iter (z5y a1) (a0,0)) >>= fun s3 =>
 some s3
theorem zja (a0:Vector UInt32 8) (a1:List UInt8):z1s Tryz.prog 136 [.rd (z3j 8 z0q) a0,.rd (z02 u8R) a1] [] (zb3 a0 a1) (fun r nv=>⟨[.rd (z3j 8 z0q) r],[]⟩):=by
 refine z2b 21 Tryz.func136 Z Z Z fun H w=>?_
 refine gSR<|Eb Z (bx 1 Z) fun v1=>Eb Z (z5o 2 zj9 (.zr (R:=(z3j 8 z0q)) (x:=(Vector.replicate 8 0)) zse)) fun v2=>Zn<|z8i (fun (s3:(Vector UInt32 8)) aa ww=>Sta (ctx 21 H [] w) [(2,.val (z04 v1 0)),(4,.val (z04 v2 0))] [(1,some (v1,.box 164 [.rd (z3j 8 z0q) s3])),(2,some (v2,.box 164 [.rd (z3j 8 z0q) (Vector.replicate 8 0)]))] aa ww) ?_ (fun s3=>?_)
 ·
  refine gSR<|Zb Z<|z1t (fun (s4:(Vector UInt32 8) × Int) aa ww=>Sta (ctx 21 H [] w) [(1,.rd (z02 u8R) a1),(2,.val (z04 v1 0)),(4,.val (z04 v2 0)),(5,.rd z0d s4.2)] [(1,some (v1,.box 164 [.rd (z3j 8 z0q) s4.1])),(2,some (v2,.box 164 [.rd (z3j 8 z0q) (Vector.replicate 8 0)]))] aa ww) (fun aa ww h=>Zu h [1,2]) (fun s4=>?_)
  refine z0p<|gSR<|Zm Z<|Zq (I.add Z Z)<|Zm Z<|Zq (z3e Z .rd Z tu75)<|Zq (I.leq Z Z)<|Zj Z (fun h5=>?_) (fun h5=>?_)
  ·
   refine Zt<|z0p<|z4t<|z8h [1] mixed Z Z<|hTk 1 Z Z (mv Z)<|hTk 2 Z Z (mv Z)<|hTk 3 Z Z (mv Z)<|hTk 4 Z Z (I.add Z Z)<|z5h fun x6 h7=>hTk 5 Z Z (cut' Z (.to Z) (.to Z) h7 tu75 ti5)<|hRun 0 Z (by kernel_rfl) (gd0 Z) Z Z anyJ (ld 1 Z Z fH zsn Z)<|zks 6 [] [] Z (by kernel_rfl) Z (gd0 Z) Z Tryz.func176 Z Z (zjf _ _) (Y2 Z Z) rN Z fun r8 n9=>Zp 7 Z Z Z Z Z (sto 1 Z Z fH Z zj9)<|z4s (by kernel_rfl)<|z2v<|z0k<|z2a<|Zm Z<|Zq (I.add Z Z)<|Za Z<|z1n 5 Z fun y10=>z1q<|z1d (fun aa ww h=>Zu h [1,2])
  ·
   refine z1p<|z0w<|z0x<|z3m (fun aa ww h=>Zu h [1,2])
 ·
  refine gSR<|Zq (ld 1 Z Z fH zsn Z)<|Es (sto 2 Z Z fH Z zj9)<|Zn<|z0l<|zbm [] [] Z (eC 2 Z Z zsn<|eN) (rN)
def z5e (a0:Vector UInt32 8) (s5:V3 × Int):Option (Sum (V3) (V3 × Int)) :=
 if decide (s5.2<32) then
  z98 a0 (w64 (Int.tdiv s5.2 4)) >>= fun x7 =>
  chk (0≤w64 (24 - (w64 (8 * (Int.tmod s5.2 4))))) >>= fun u9 =>
  z98 s5.1 s5.2 >>= fun x11 =>
  some (w64 (s5.2+1)) >>= fun y13 =>
  some (.inr (zkn s5.1 s5.2 ((z51 x7 ((w64 (24 - (w64 (8 * (Int.tmod s5.2 4)))):Int).toNat)).toUInt8),y13))
 else
  some (.inl s5.1)
def za8 (a0:Vector UInt32 8):Option (V3) :=
 (iter (z5e a0) ((Vector.replicate 32 0),0)) >>= fun s4 =>
 some s4
theorem zi6 (a0:Vector UInt32 8):z1s Tryz.prog 135 [.rd (z3j 8 z0q) a0] [] (za8 a0) (fun r nv=>⟨[.rd aZ r],[]⟩):=by
 refine z2b 22 Tryz.func135 Z Z Z fun H w=>?_
 refine gSR<|Eb Z (bx 1 Z) fun v1=>Eb Z (z5o 2 z23 (.zr (R:=aZ) (x:=(Vector.replicate 32 0)) zge)) fun v2=>Zn<|gSR<|Eb Z (z5o 3 z23 (.zr (R:=aZ) (x:=(Vector.replicate 32 0)) zge)) fun v3=>Zn<|z8i (fun (s4:V3) aa ww=>Sta (ctx 22 H [] w) [(2,.val (z04 v2 0)),(3,.val (z04 v3 0))] [(2,some (v2,.box 62 [.rd aZ (Vector.replicate 32 0)])),(3,some (v3,.box 62 [.rd aZ s4]))] aa ww) ?_ (fun s4=>?_)
 ·
  refine gSR<|Zb Z<|z1t (fun (s5:V3 × Int) aa ww=>Sta (ctx 22 H [] w) [(1,.val (z04 v1 0)),(2,.val (z04 v2 0)),(3,.val (z04 v3 0)),(4,.rd z0d s5.2)] [(1,some (v1,.box 164 [.rd (z3j 8 z0q) a0])),(2,some (v2,.box 62 [.rd aZ (Vector.replicate 32 0)])),(3,some (v3,.box 62 [.rd aZ s5.1]))] aa ww) (fun aa ww h=>Zu h [1,2,3]) (fun s5=>?_)
  refine z0p<|gSR<|Zm Z<|Zq (I.lss Z Z)<|Zj Z (fun h6=>?_) (fun h6=>?_)
  ·
   refine Zt<|z0p<|z4t<|z2a<|Zm Z<|Zm Z<|Zq (I.quo Z Z (by decide))<|z0n fun x7 h8=>Zq (ixB 1 Z Z Z h8 tu164 z6m)<|Zq (ld 1 Z Z (fP (.el h8)) zae Z)<|Zm Z<|Zq (I.rem Z Z (by decide))<|Zq (I.mul Z Z)<|Zq (I.sub Z Z)<|z0n fun u9 h10=>Zq (W.shr Z Z (z4g h10))<|Zq (W.toB Z tu65 tu5)<|z0n fun x11 h12=>Zq (ixB 3 Z Z Z h12 tu62 ti5)<|Es (sto 3 Z Z (fP (.el h12)) Z ti5)<|z1q<|z2v<|z0k<|z2a<|Zm Z<|Zq (I.add Z Z)<|Za Z<|z1n 4 Z fun y13=>z1q<|z1d (fun aa ww h=>Zu h [1,2,3])
  ·
   refine z1p<|z0w<|z0x<|z3m (fun aa ww h=>Zu h [2,3])
 ·
  refine gSR<|Zq (ld 3 Z Z fH z3s Z)<|Es (sto 2 Z Z fH Z z23)<|Zn<|z0l<|zbm [] [] Z (eC 2 Z Z z3s<|eN) (rN)
def zct (a0:List UInt8):Option (V3) :=
 zeh >>= fun r2 =>
 app 1 ([]:List UInt8) a0 >>= fun x5 =>
 zd2 (a0.length:Int) >>= fun r8 =>
 app 1 x5 r8 >>= fun x10 =>
 zb3 r2 x10 >>= fun r13 =>
 za8 r13 >>= fun r15 =>
 some r15
end
section
open Go Go.RowKit
set_option maxRecDepth 100000
theorem zhm (a0:List UInt8):z1s Tryz.prog 95 [.rd (z02 u8R) a0] [] (zct a0) (fun r nv=>⟨[.rd aZ r],[]⟩):=by
 refine z2b 13 Tryz.func95 Z Z Z fun H w=>?_
 refine gSR<|Eb Z (z5o 1 z23 (.zr (R:=aZ) (x:=(Vector.replicate 32 0)) zge)) fun v1=>Zn<|gSR<|Zc [] [] Tryz.func137 Z (zk5) fun r2 n3=>Ef Z (lit (R:=u8R) (([]:List UInt8):List UInt8) 2 (pN) Z tu75 ti5 Z Z) fun v4=>Zm Z<|z0n fun x5 h6=>Ef Z (apn 2 Z Z Z .rd h6 tu75 ti5 Z Z Z) fun v7=>Zm Z<|Zq (z3e Z .rd Z tu75)<|Zc [] [(100,3)] Tryz.func138 Z (zko _) fun r8 n9=>z0n fun x10 h11=>Ef Z (apn 2 Z Z Z (.own 3 Z) h11 tu75 ti5 Z Z Z) fun v12=>zgc 2 [10] Z (fS Z<|fN)<|Zc [] [] Tryz.func136 Z (zja _ _) fun r13 n14=>Zc [] [] Tryz.func135 Z (zi6 _) fun r15 n16=>Es (sto 1 Z Z fH Z z23)<|Zn<|z0l<|zbm [] [] Z (eC 1 Z Z z3s<|eN) (rN)
def z3q (a0:z08):Option (V3) :=
 zc1 a0 >>= fun r3 =>
 zct r3 >>= fun r5 =>
 some r5
theorem z4v (a0:z08):z1s Tryz.prog 58 [.rd z03 a0] [] (z3q a0) (fun r nv=>⟨[.rd aZ r],[]⟩):=by
 refine z2b 6 Tryz.func58 Z Z Z fun H w=>?_
 refine gSR<|Eb Z (bx 1 Z) fun v1=>Eb Z (z5o 2 z23 (.zr (R:=aZ) (x:=(Vector.replicate 32 0)) zge)) fun v2=>Zn<|gSR<|Zq (ld 1 Z Z fH zaa Z)<|Zc [] [(100,3)] Tryz.func96 Z (zkh _) fun r3 n4=>zgc 3 [4] Z (fS Z<|fN)<|Zc [] [] Tryz.func95 Z (zhm _) fun r5 n6=>Es (sto 2 Z Z fH Z z23)<|Zn<|z0l<|zbm [] [] Z (eC 2 Z Z z3s<|eN) (rN)
def z8q (a0:V3) (a1:V3) (s4:Int):Option (Sum (Sum Int Unit) Int) :=
 if decide (s4<32) then
  z98 a0 s4 >>= fun x6 =>
  z98 a1 s4 >>= fun x8 =>
  if decide (x6<x8) then
   some (.inl (.inl (-1)))
  else
   z98 a0 s4 >>= fun x11 =>
   z98 a1 s4 >>= fun x13 =>
   if decide (x13<x11) then
    some (.inl (.inl 1))
   else
    some (.inr (w64 (s4+1)))
 else
  some (.inl (.inr ()))
def z89 (a0:V3) (a1:V3):Option (Int) :=
 z58 (iter (z8q a0 a1) 0) fun s3 =>
 some 0
theorem zgf (a0:V3) (a1:V3):z1s Tryz.prog 110 [.rd aZ a0,.rd aZ a1] [] (z89 a0 a1) (fun r nv=>⟨[.rd z0d r],[]⟩):=by
 refine z2b 24 Tryz.func110 Z Z Z fun H w=>?_
 refine gSR<|Eb Z (bx 1 Z) fun v1=>Eb Z (bx 2 Z) fun v2=>Zb Z<|z7e (fun (s3:Unit) aa ww=>Sta (ctx 24 H [] w) [] [] aa ww) ?_ (fun s3=>?_)
 ·
  refine gSR<|Zb Z<|z1t (fun (s4:Int) aa ww=>Sta (ctx 24 H [] w) [(2,.val (z04 v1 0)),(3,.val (z04 v2 0)),(5,.rd z0d s4)] [(1,some (v1,.box 62 [.rd aZ a0])),(2,some (v2,.box 62 [.rd aZ a1]))] aa ww) (fun aa ww h=>Zu h [1,2]) (fun s4=>?_)
  refine z0p<|gSR<|Zm Z<|Zq (I.lss Z Z)<|Zj Z (fun h5=>?_) (fun h5=>?_)
  ·
   refine Zt<|z0p<|z4t<|z0p<|z0p<|zik mixed (by kernel_rfl)<|Rq Z (mv Z)<|z8t fun x6 h7=>Rq Z (ixB 1 Z Z Z h7 tu62 ti5)<|Rq Z (ld 1 Z Z (fP (.el h7)) ty5 Z)<|Rq Z (mv Z)<|z8t fun x8 h9=>Rq Z (ixB 2 Z Z Z h9 tu62 ti5)<|Rq Z (ld 2 Z Z (fP (.el h9)) ty5 Z)<|Rq Z (B.lss Z Z)<|zt9<|z0k<|gIf Z Z (fun h10=>?_) (fun h10=>?_)
   ·
    refine gSR<|Zb Z<|z0l<|z0v<|z3t<|z0v<|z6o<|z6l<|Ze [] [] Z
   ·
    refine Zt<|z0p<|zik mixed (by kernel_rfl)<|Rq Z (mv Z)<|z8t fun x11 h12=>Rq Z (ixB 1 Z Z Z h12 tu62 ti5)<|Rq Z (ld 1 Z Z (fP (.el h12)) ty5 Z)<|Rq Z (mv Z)<|z8t fun x13 h14=>Rq Z (ixB 2 Z Z Z h14 tu62 ti5)<|Rq Z (ld 2 Z Z (fP (.el h14)) ty5 Z)<|Rq Z (B.gtr Z Z)<|zt9<|z0k<|gIf Z Z (fun h15=>?_) (fun h15=>?_)
    ·
     refine gSR<|Zb Z<|z0l<|z3t<|z0v<|z6o<|z6l<|Ze [] [] Z
    ·
     refine z2d<|z2v<|z0k<|z2a<|Zm Z<|Zq (I.add Z Z)<|Za Z<|z1q<|z1d (fun aa ww h=>Zu h [1,2])
  ·
   refine z1p<|z0w<|z0x<|z6h (fun aa ww h=>Zu h [])
 ·
  refine gSR<|Zb Z<|z0l<|Ze [] [] Z
def z4r (a0:List V3) (s2:Int):Option (Sum (Sum Bool Unit) Int) :=
 if decide (s2<(a0.length:Int)) then
  idx a0 (w64 (s2 - 1)) >>= fun x4 =>
  idx a0 s2 >>= fun x6 =>
  z89 x4 x6 >>= fun r8 =>
  if decide (0≤r8) then
   some (.inl (.inl false))
  else
   some (.inr (w64 (s2+1)))
 else
  some (.inl (.inr ()))
def z94 (a0:List V3):Option (Bool) :=
 z58 (iter (z4r a0) 1) fun s1 =>
 some true
theorem zeo (a0:List V3):z1s Tryz.prog 108 [.rd (z02 aZ) a0] [] (z94 a0) (fun r nv=>⟨[.rd z0j r],[]⟩):=by
 refine z2b 21 Tryz.func108 Z Z Z fun H w=>?_
 refine gSR<|Zb Z<|z7e (fun (s1:Unit) aa ww=>Sta (ctx 21 H [] w) [] [] aa ww) ?_ (fun s1=>?_)
 ·
  refine gSR<|Zb Z<|z1t (fun (s2:Int) aa ww=>Sta (ctx 21 H [] w) [(0,.rd (z02 aZ) a0),(3,.rd z0d s2)] [] aa ww) (fun aa ww h=>Zu h []) (fun s2=>?_)
  refine z0p<|gSR<|Zm Z<|Zm Z<|Zq (z3e Z .rd Z tu22)<|Zq (I.lss Z Z)<|Zj Z (fun h3=>?_) (fun h3=>?_)
  ·
   refine Zt<|z0p<|z4t<|z0p<|z8h [] mixed Z Z<|hTk 0 Z Z (mv Z)<|hTk 1 Z Z (mv Z)<|hTk 2 Z Z (I.sub Z Z)<|z5h fun x4 h5=>hTk 3 Z Z (ixR Z Z h5 tu22 z23 Z)<|hTk 4 Z Z (ldR Z z3s)<|hTk 5 Z Z (mv Z)<|hTk 6 Z Z (mv Z)<|z5h fun x6 h7=>hTk 7 Z Z (ixR Z Z h7 tu22 z23 Z)<|hTk 8 Z Z (ldR Z z3s)<|z3v 9 [] [] Z (by kernel_rfl) Z (gd0 Z) Z Tryz.func110 Z Z (zgf _ _) (Y2 Z Z) rN Z (fun _ _=>z30) fun r8 n9=>hTk 10 Z Z (I.geq Z Z)<|z4s (by kernel_rfl)<|z0k<|gIf Z Z (fun h10=>?_) (fun h10=>?_)
   ·
    refine gSR<|Zb Z<|z0l<|z3t<|z0v<|z6o<|z6l<|Ze [] [] Z
   ·
    refine z2d<|z2v<|z0k<|z2a<|Zm Z<|Zq (I.add Z Z)<|Za Z<|z1q<|z1d (fun aa ww h=>Zu h [])
  ·
   refine z1p<|z0w<|z0x<|z6h (fun aa ww h=>Zu h [])
 ·
  refine gSR<|Zb Z<|z0l<|Ze [] [] Z
def z6u (a2:UInt64) (s2:UInt64 × UInt64 × UInt64):Option (Sum UInt64 (UInt64 × UInt64 × UInt64)) :=
 if decide (0<s2.2.1) then
  (if (s2.2.1 % 2)==1 then
   chk (a2≠0) >>= fun u6 =>
   some ((s2.2.2 * s2.1) % a2) >>= fun y8 =>
   some y8
  else
   some s2.2.2) >>= fun s4 =>
  chk (a2≠0) >>= fun u9 =>
  some ((s2.1 * s2.1) % a2) >>= fun y11 =>
  some (.inr (y11,s2.2.1 / 2,s4))
 else
  some (.inl s2.2.2)
def z9w (a0:UInt64) (a1:UInt64) (a2:UInt64):Option (UInt64) :=
 (iter (z6u a2) (a0,a1,1)) >>= fun s1 =>
 some s1
theorem zf1 (a0:UInt64) (a1:UInt64) (a2:UInt64):z1s Tryz.prog 184 [.rd z2c a0,.rd z2c a1,.rd z2c a2] [] (z9w a0 a1 a2) (fun r nv=>⟨[.rd z2c r],[]⟩):=by
 refine z2b 26 Tryz.func184 Z Z Z fun H w=>?_
 refine gSR<|Zb Z<|gSR<|Zb Z<|z8i (fun (s1:UInt64) aa ww=>Sta (ctx 26 H [] w) [(7,.rd z2c s1)] [] aa ww) ?_ (fun s1=>?_)
 ·
  refine z1t (fun (s2:UInt64 × UInt64 × UInt64) aa ww=>Sta (ctx 26 H [] w) [(0,.rd z2c s2.1),(1,.rd z2c s2.2.1),(2,.rd z2c a2),(7,.rd z2c s2.2.2)] [] aa ww) (fun aa ww h=>Zu h []) (fun s2=>?_)
  refine z0p<|gSR<|Zm Z<|Zq (U.gtr Z Z)<|Zj Z (fun h3=>?_) (fun h3=>?_)
  ·
   refine Zt<|z4t<|z8i (fun (s4:UInt64) aa ww=>Sta (ctx 26 H [] w) [(0,.rd z2c s2.1),(1,.rd z2c s2.2.1),(2,.rd z2c a2),(7,.rd z2c s4)] [] aa ww) ?_ (fun s4=>?_)
   ·
    refine gSR<|Zm Z<|Zq (U.rem Z Z (by decide))<|Zq (U.eql Z Z)<|Zj Z (fun h5=>?_) (fun h5=>?_)
    ·
     refine z2a<|Zm Z<|Zm Z<|Zq (U.mul Z Z)<|Zm Z<|z0n fun u6 h7=>Zq (U.rem Z Z (z4g h7))<|Za Z<|z1n 7 Z fun y8=>z1q<|z3m (fun aa ww h=>Zu h [])
    ·
     refine z2d<|z3m (fun aa ww h=>Zu h [])
   ·
    refine gSR<|Zm Z<|Zm Z<|Zq (U.mul Z Z)<|Zm Z<|z0n fun u9 h10=>Zq (U.rem Z Z (z4g h10))<|Za Z<|z1n 0 Z fun y11=>Zn<|z2a<|Zm Z<|Zq (U.quo Z Z (by decide))<|Za Z<|z1q<|z2v<|z1d (fun aa ww h=>Zu h [])
  ·
   refine z1p<|z0w<|z0x<|z3m (fun aa ww h=>Zu h [])
 ·
  refine gSR<|Zm Z<|Zb Z<|z0l<|Ze [] [] Z
def zcz (a0:UInt32):Option (Bool) :=
 if decide (1≤a0) then
  if decide (a0<1000000007) then
   z9w a0.toUInt64 500000003 1000000007 >>= fun r3 =>
   some (r3==1)
  else
   some false
 else
  some false
theorem zhn (a0:UInt32):z1s Tryz.prog 147 [.rd z0q a0] [] (zcz a0) (fun r nv=>⟨[.rd z0j r],[]⟩):=by
 refine z2b 15 Tryz.func147 Z Z Z fun H w=>?_
 refine gSR<|Zb Z<|gSR<|Zm Z<|Zq (W.geq Z Z)<|Zm Z<|z1l 5 Z (fun h1=>?_) (fun h1=>?_)
 ·
  refine lKn 4 Z h1<|z1a Zx Z Z (mv Z)<|z1a Zx Z Z (W.lss Z Z)<|Zq (pkT Z Z)<|Zm Z<|z1l 9 Z (fun h2=>?_) (fun h2=>?_)
  ·
   refine lKn 7 Z h2<|lKn 8 Z h2<|z1a Zx Z Z (mv Z)<|z1a Zx Z Z (W.toU Z tu65 tu41)<|zfg [] [] Zx Z Tryz.func184 Z Z (zf1 _ _ _) (aQ Z<|aQ Z<|aQ Z<|aN) rN fun r3 n4=>z1a Zx Z Z (U.eql Z Z)<|Zq (pkT Z Z)<|Zb Z<|z0l<|Ze [] [] Z
  ·
   refine lKn 7 Z h2<|lKn 8 Z h2<|Zk Z<|Zk Z<|Zk Z<|Zk Z<|Zq (pkF Z Z)<|Zb Z<|z0l<|Ze [] [] Z
 ·
  refine lKn 4 Z h1<|Zk Z<|Zk Z<|Zq (pkF Z Z)<|Zm Z<|Zk Z<|Zk Z<|Zk Z<|Zk Z<|Zq (pkF Z Z)<|Zb Z<|z0l<|Ze [] [] Z
def z7v (a0:List UInt8) (s4:Int):Option (Sum (Sum Bool Unit) Int) :=
 if decide (s4<(a0.length:Int)) then
  idx a0 s4 >>= fun x6 =>
  if decide (x6<33) then
   some (.inl (.inl false))
  else
   idx a0 s4 >>= fun x9 =>
   if decide (126<x9) then
    some (.inl (.inl false))
   else
    some (.inr (w64 (s4+1)))
 else
  some (.inl (.inr ()))
def zap (a0:List UInt8):Option (Bool) :=
 if decide ((a0.length:Int)<1) then
  some false
 else
  if decide (20<(a0.length:Int)) then
   some false
  else
   z58 (iter (z7v a0) 0) fun s3 =>
   some true
theorem zg4 (a0:List UInt8):z1s Tryz.prog 185 [.rd zmp a0] [] (zap a0) (fun r nv=>⟨[.rd z0j r],[]⟩):=by
 refine z2b 28 Tryz.func185 Z Z Z fun H w=>?_
 refine gSR<|Zb Z<|z0p<|gSR<|Zm Z<|Zq (lenT Z Z tu9)<|Zq (I.lss Z Z)<|Zm Z<|z1l 7 Z (fun h1=>?_) (fun h1=>?_)
 ·
  refine lKn 6 Z h1<|Zk Z<|Zk Z<|Zk Z<|Zq (pkT Z Z)<|Zn<|zhz Z<|gSR<|Zb Z<|z0l<|z0v<|Ze [] [] Z
 ·
  refine lKn 6 Z h1<|z1a Zx Z Z (mv Z)<|z1a Zx Z Z (lenT Z Z tu9)<|z1a Zx Z Z (I.gtr Z Z)<|Zq (pkF Z Z)<|Zj Z (fun h2=>?_) (fun h2=>?_)
  ·
   refine gKn 10 Z h2<|gSR<|Zb Z<|z0l<|z0v<|Ze [] [] Z
  ·
   refine gKn 10 Z h2<|Zt<|z7e (fun (s3:Unit) aa ww=>Sta (ctx 28 H [] w) [] [] aa ww) ?_ (fun s3=>?_)
   ·
    refine gSR<|Zb Z<|z1t (fun (s4:Int) aa ww=>Sta (ctx 28 H [] w) [(0,.rd zmp a0),(3,.rd z0d s4)] [] aa ww) (fun aa ww h=>Zu h []) (fun s4=>?_)
    refine z0p<|gSR<|Zm Z<|Zm Z<|Zq (lenT Z Z tu9)<|Zq (I.lss Z Z)<|Zj Z (fun h5=>?_) (fun h5=>?_)
    ·
     refine Zt<|z0p<|z4t<|gSR<|Zm Z<|Zm Z<|z0n fun x6 h7=>Zq (idxT Z Z tu9 (z74 h7).1 (z74 h7).2.1)<|Zq (B.lss Z Z)<|Zm Z<|z1l 22 Z (fun h8=>?_) (fun h8=>?_)
     ·
      refine lKn 21 Z h8<|Zk Z<|Zk Z<|Zk Z<|Zk Z<|Zq (pkT Z Z)<|Zn<|zhz Z<|gSR<|Zb Z<|z0l<|z3t<|z0v<|z6o<|z6l<|Ze [] [] Z
     ·
      refine lKn 21 Z h8<|z1a Zx Z Z (mv Z)<|z1a Zx Z Z (mv Z)<|z0n fun x9 h10=>z1a Zx Z Z (idxT Z Z tu9 (z74 h10).1 (z74 h10).2.1)<|z1a Zx Z Z (B.gtr Z Z)<|Zq (pkF Z Z)<|Zj Z (fun h11=>?_) (fun h11=>?_)
      ·
       refine gKn 26 Z h11<|gSR<|Zb Z<|z0l<|z3t<|z0v<|z6o<|z6l<|Ze [] [] Z
      ·
       refine gKn 26 Z h11<|z2d<|z2v<|z0k<|z2a<|Zm Z<|Zq (I.add Z Z)<|Za Z<|z1q<|z1d (fun aa ww h=>Zu h [])
    ·
     refine z1p<|z0w<|z0x<|z6h (fun aa ww h=>Zu h [])
   ·
    refine gSR<|Zb Z<|z0l<|Ze [] [] Z
def z9j (a0:UInt64):Option (Int) :=
 some (w64 (((a0 % 9223372036854775808) / 4503599627370496).toNat:Int)) >>= fun y1 =>
 some y1
theorem zhw (a0:UInt64):z1s Tryz.prog 235 [.rd z2c a0] [] (z9j a0) (fun r nv=>⟨[.rd z0d r],[]⟩):=by
 refine z2b 7 Tryz.func235 Z Z Z fun H w=>?_
 refine gSR<|Zb Z<|gSR<|Zm Z<|Zq (U.rem Z Z (by decide))<|Zq (U.quo Z Z (by decide))<|Zq (U.toI Z tu41 tu3)<|Za Z<|z1n 2 Z fun y1=>Zn<|z0l<|Ze [] [] Z
def zc9 (a0:UInt64):Option (UInt64) :=
 some (a0 % 4503599627370496) >>= fun y1 =>
 some y1
theorem zhv (a0:UInt64):z1s Tryz.prog 236 [.rd z2c a0] [] (zc9 a0) (fun r nv=>⟨[.rd z2c r],[]⟩):=by
 refine z2b 5 Tryz.func236 Z Z Z fun H w=>?_
 refine gSR<|Zb Z<|gSR<|Zm Z<|Zq (U.rem Z Z (by decide))<|Za Z<|z1n 2 Z fun y1=>Zn<|z0l<|Ze [] [] Z
def zc0 (a0:UInt64):Option (UInt8) :=
 z9j a0 >>= fun r1 =>
 zc9 a0 >>= fun r3 =>
 z58 (if r1==0 then
  if r3==0 then
   some (.inl 1)
  else
   some (.inr ())
 else
  some (.inr ())) fun s5 =>
 if r1==0 then
  some 2
 else
  if decide (r1<2047) then
   some 3
  else
   if r3==0 then
    some 4
   else
    some 5
theorem zjx (a0:UInt64):z1s Tryz.prog 228 [.rd z2c a0] [] (zc0 a0) (fun r nv=>⟨[.rd u8R r],[]⟩):=by
 refine z2b 21 Tryz.func228 Z Z Z fun H w=>?_
 refine gSR<|Zb Z<|gSR<|Zm Z<|Zc [] [] Tryz.func235 Z (zhw _) fun r1 n2=>Zm Z<|Zc [] [] Tryz.func236 Z (zhv _) fun r3 n4=>Za Z<|Zb Z<|z7e (fun (s5:Unit) aa ww=>Sta (ctx 21 H [] w) [(3,.rd z0d r1),(4,.rd z2c r3)] [] aa ww) ?_ (fun s5=>?_)
 ·
  refine gSR<|Zm Z<|Zq (I.eql Z Z)<|Zm Z<|z1l 11 Z (fun h6=>?_) (fun h6=>?_)
  ·
   refine lKn 10 Z h6<|z1a Zx Z Z (mv Z)<|z1a Zx Z Z (U.eql Z Z)<|Zq (pkT Z Z)<|Zj Z (fun h7=>?_) (fun h7=>?_)
   ·
    refine gKn 13 Z h7<|gSR<|Zb Z<|z0l<|z6l<|Ze [] [] Z
   ·
    refine gKn 13 Z h7<|z2d<|z6h (fun aa ww h=>Zu h [])
  ·
   refine lKn 10 Z h6<|Zk Z<|Zk Z<|Zq (pkF Z Z)<|Zn<|zf0 Z<|z2d<|z6h (fun aa ww h=>Zu h [])
 ·
  refine z0p<|gSR<|Zm Z<|Zq (I.eql Z Z)<|Zj Z (fun h8=>?_) (fun h8=>?_)
  ·
   refine gSR<|Zb Z<|z0l<|z0v<|Ze [] [] Z
  ·
   refine Zt<|z0p<|gSR<|Zm Z<|Zq (I.lss Z Z)<|Zj Z (fun h9=>?_) (fun h9=>?_)
   ·
    refine gSR<|Zb Z<|z0l<|z0v<|Ze [] [] Z
   ·
    refine Zt<|z0p<|gSR<|Zm Z<|Zq (U.eql Z Z)<|Zj Z (fun h10=>?_) (fun h10=>?_)
    ·
     refine gSR<|Zb Z<|z0l<|z0v<|Ze [] [] Z
    ·
     refine Zt<|gSR<|Zb Z<|z0l<|Ze [] [] Z
def zbz (a0:UInt64):Option (UInt64) :=
 zc0 a0 >>= fun r1 =>
 if r1==5 then
  some 9221120237041090560
 else
  some a0
theorem zkg (a0:UInt64):z1s Tryz.prog 210 [.rd z2c a0] [] (zbz a0) (fun r nv=>⟨[.rd z2c r],[]⟩):=by
 refine z2b 7 Tryz.func210 Z Z Z fun H w=>?_
 refine gSR<|Zb Z<|z0p<|gSR<|Zm Z<|Zc [] [] Tryz.func228 Z (zjx _) fun r1 n2=>Zq (B.eql Z Z)<|Zj Z (fun h3=>?_) (fun h3=>?_)
 ·
  refine gSR<|Zb Z<|z0l<|z0v<|Ze [] [] Z
 ·
  refine Zt<|gSR<|Zm Z<|Zb Z<|z0l<|Ze [] [] Z
def z4m (a0:List UInt8) (s2:Int):Option (Sum (Sum Bool Unit) Int) :=
 if decide (s2<(a0.length:Int)) then
  idx a0 s2 >>= fun x4 =>
  if decide (x4<32) then
   some (.inl (.inl false))
  else
   idx a0 s2 >>= fun x7 =>
   if decide (126<x7) then
    some (.inl (.inl false))
   else
    some (.inr (w64 (s2+1)))
 else
  some (.inl (.inr ()))
def z8m (a0:List UInt8):Option (Bool) :=
 z58 (iter (z4m a0) 0) fun s1 =>
 some true
theorem zhd (a0:List UInt8):z1s Tryz.prog 211 [.rd zmp a0] [] (z8m a0) (fun r nv=>⟨[.rd z0j r],[]⟩):=by
 refine z2b 20 Tryz.func211 Z Z Z fun H w=>?_
 refine gSR<|Zb Z<|z7e (fun (s1:Unit) aa ww=>Sta (ctx 20 H [] w) [] [] aa ww) ?_ (fun s1=>?_)
 ·
  refine gSR<|Zb Z<|z1t (fun (s2:Int) aa ww=>Sta (ctx 20 H [] w) [(0,.rd zmp a0),(3,.rd z0d s2)] [] aa ww) (fun aa ww h=>Zu h []) (fun s2=>?_)
  refine z0p<|gSR<|Zm Z<|Zm Z<|Zq (lenT Z Z tu9)<|Zq (I.lss Z Z)<|Zj Z (fun h3=>?_) (fun h3=>?_)
  ·
   refine Zt<|z0p<|z4t<|gSR<|Zm Z<|Zm Z<|z0n fun x4 h5=>Zq (idxT Z Z tu9 (z74 h5).1 (z74 h5).2.1)<|Zq (B.lss Z Z)<|Zm Z<|z1l 14 Z (fun h6=>?_) (fun h6=>?_)
   ·
    refine lKn 13 Z h6<|Zk Z<|Zk Z<|Zk Z<|Zk Z<|Zq (pkT Z Z)<|Zn<|zhz Z<|gSR<|Zb Z<|z0l<|z3t<|z0v<|z6o<|z6l<|Ze [] [] Z
   ·
    refine lKn 13 Z h6<|z1a Zx Z Z (mv Z)<|z1a Zx Z Z (mv Z)<|z0n fun x7 h8=>z1a Zx Z Z (idxT Z Z tu9 (z74 h8).1 (z74 h8).2.1)<|z1a Zx Z Z (B.gtr Z Z)<|Zq (pkF Z Z)<|Zj Z (fun h9=>?_) (fun h9=>?_)
    ·
     refine gKn 18 Z h9<|gSR<|Zb Z<|z0l<|z3t<|z0v<|z6o<|z6l<|Ze [] [] Z
    ·
     refine gKn 18 Z h9<|z2d<|z2v<|z0k<|z2a<|Zm Z<|Zq (I.add Z Z)<|Za Z<|z1q<|z1d (fun aa ww h=>Zu h [])
  ·
   refine z1p<|z0w<|z0x<|z6h (fun aa ww h=>Zu h [])
 ·
  refine gSR<|Zb Z<|z0l<|Ze [] [] Z
def zbx (a0:z06):Option (Int) :=
 if a0.Kind==1 then
  if a0.Bits==0 then
   if a0.Text==[] then
    some 0
   else
    some 8
  else
   some 8
 else
  if a0.Kind==2 then
   (if a0.Num==0 then
    if a0.Text==[] then
     zbz a0.Bits >>= fun r9 =>
     some (r9==a0.Bits)
    else
     some false
   else
    some false) >>= fun s6 =>
   if s6 then
    some 0
   else
    some 8
  else
   if a0.Kind==3 then
    (if a0.Num==0 then
     if a0.Bits==0 then
      if decide ((a0.Text.length:Int)≤30) then
       z8m a0.Text >>= fun r17 =>
       some r17
      else
       some false
     else
      some false
    else
     some false) >>= fun s13 =>
    if s13 then
     some 0
    else
     some 8
   else
    some 8
theorem zke (a0:z06):z1s Tryz.prog 186 [.rd z28 a0] [] (zbx a0) (fun r nv=>⟨[.rd z0d r],[]⟩):=by
 refine z2b 54 Tryz.func186 Z Z Z fun H w=>?_
 refine gSR<|Eb Z (bx 1 Z) fun v1=>Zb Z<|z0p<|gSR<|Zq (faB 1 Z Z Tryz.underlying67 Z (by exact ti5))<|Zq (ld 1 Z Z (fP (z3c _)) ty5 Z)<|Zn<|z4t<|gSR<|Zq (B.eql Z Z)<|Zb Z<|gIf Z Z (fun h2=>?_) (fun h2=>?_)
 ·
  refine gKn 6 Z h2<|gSR<|Zq (faB 1 Z Z Tryz.underlying67 Z (by exact zs2))<|Zq (ld 1 Z Z (fP (z48 _)) zqy Z)<|Zq (U.eql Z Z)<|Zm Z<|z1l 10 Z (fun h3=>?_) (fun h3=>?_)
  ·
   refine lKn 9 Z h3<|z1a Zx Z Z (faB 1 Z Z Tryz.underlying67 Z (by exact ti9))<|z1a Zx Z Z (ld 1 Z Z (fP (z3o _)) ty9 Z)<|z1a Zx Z Z (eqS Z Z)<|Zq (pkT Z Z)<|Zj Z (fun h4=>?_) (fun h4=>?_)
   ·
    refine gKn 13 Z h4<|gSR<|Zb Z<|z0l<|z3t<|z0v<|Ze [] [] Z
   ·
    refine gKn 13 Z h4<|z2d<|z2v<|z0k<|gSR<|Zb Z<|z0l<|Ze [] [] Z
  ·
   refine lKn 9 Z h3<|Zk Z<|Zk Z<|Zk Z<|Zq (pkF Z Z)<|Zn<|zf0 Z<|z2d<|z2v<|z0k<|gSR<|Zb Z<|z0l<|Ze [] [] Z
 ·
  refine gKn 6 Z h2<|gSR<|Zq (B.eql Z Z)<|Zb Z<|gIf Z Z (fun h5=>?_) (fun h5=>?_)
  ·
   refine gKn 16 Z h5<|z8i (fun (s6:Bool) aa ww=>Sta (ctx 54 H [] w) [(32,.rd z0j s6)] [] aa ww) ?_ (fun s6=>?_)
   ·
    refine z8h [] mixed Z Z<|hTk 0 Z Z (faB 1 Z Z Tryz.underlying67 Z (by exact ti2))<|hTk 1 Z Z (ld 1 Z Z (fP (z7o _)) ty2 Z)<|hTk 2 Z Z (I.eql Z Z)<|hTk 3 Z Z (mv Z)<|hIf 20 Z Z (fun h7=>?_) (fun h7=>?_)
    ·
     refine hKn 19 Z Z h7<|Zg 4 Z Z (faB 1 Z Z Tryz.underlying67 Z (by exact ti9))<|Zg 5 Z Z (ld 1 Z Z (fP (z3o _)) ty9 Z)<|Zg 6 Z Z (eqS Z Z)<|hTk 7 Z Z (pkT Z Z)<|hTk 8 Z Z (mv Z)<|hIf 25 Z Z (fun h8=>?_) (fun h8=>?_)
     ·
      refine hKn 23 Z Z h8<|hKn 24 Z Z h8<|Zg 9 Z Z (faB 1 Z Z Tryz.underlying67 Z (by exact zs2))<|Zg 10 Z Z (ld 1 Z Z (fP (z48 _)) zqy Z)<|Zg 12 Z Z (faB 1 Z Z Tryz.underlying67 Z (by exact zs2))<|Zg 13 Z Z (ld 1 Z Z (fP (z48 _)) zqy Z)<|z3v 11 [] [] Z (by kernel_rfl) Z Zx Z Tryz.func210 Z Z (zkg _) (Y1 Z) rN Z (fun _ _=>z30) fun r9 n10=>Zg 14 Z Z (U.eql Z Z)<|hTk 15 Z Z (pkT Z Z)<|z4s (by kernel_rfl)<|z3m (fun aa ww h=>Zu h [])
     ·
      refine hKn 23 Z Z h8<|hKn 24 Z Z h8<|hSk 9 Z Z<|hSk 10 Z Z<|hSk 11 Z Z<|hSk 12 Z Z<|hSk 13 Z Z<|hSk 14 Z Z<|hTk 15 Z Z (pkF Z Z)<|z4s (by kernel_rfl)<|z3m (fun aa ww h=>Zu h [])
    ·
     refine hKn 19 Z Z h7<|hSk 4 Z Z<|hSk 5 Z Z<|hSk 6 Z Z<|hTk 7 Z Z (pkF Z Z)<|hTk 8 Z Z (mv Z)<|hSk 9 Z Z<|hSk 10 Z Z<|hSk 11 Z Z<|hSk 12 Z Z<|hSk 13 Z Z<|hSk 14 Z Z<|hTk 15 Z Z (pkF Z Z)<|z4s (by kernel_rfl)<|z3m (fun aa ww h=>Zu h [])
   ·
    refine gIf Z Z (fun h11=>?_) (fun h11=>?_)
    ·
     refine gSR<|Zb Z<|z0l<|z3t<|z0v<|Ze [] [] Z
    ·
     refine z2d<|z2v<|z0k<|gSR<|Zb Z<|z0l<|Ze [] [] Z
  ·
   refine gKn 16 Z h5<|gSR<|Zq (B.eql Z Z)<|Zb Z<|gIf Z Z (fun h12=>?_) (fun h12=>?_)
   ·
    refine gKn 34 Z h12<|z8i (fun (s13:Bool) aa ww=>Sta (ctx 54 H [] w) [(53,.rd z0j s13)] [] aa ww) ?_ (fun s13=>?_)
    ·
     refine z2a<|Zq (faB 1 Z Z Tryz.underlying67 Z (by exact ti2))<|Zq (ld 1 Z Z (fP (z7o _)) ty2 Z)<|Zq (I.eql Z Z)<|Zm Z<|z1l 38 Z (fun h14=>?_) (fun h14=>?_)
     ·
      refine lKn 37 Z h14<|z1a Zx Z Z (faB 1 Z Z Tryz.underlying67 Z (by exact zs2))<|z1a Zx Z Z (ld 1 Z Z (fP (z48 _)) zqy Z)<|z1a Zx Z Z (U.eql Z Z)<|Zq (pkT Z Z)<|Zm Z<|z1l 43 Z (fun h15=>?_) (fun h15=>?_)
      ·
       refine lKn 41 Z h15<|lKn 42 Z h15<|z1a Zx Z Z (faB 1 Z Z Tryz.underlying67 Z (by exact ti9))<|z1a Zx Z Z (ld 1 Z Z (fP (z3o _)) ty9 Z)<|z1a Zx Z Z (lenT Z Z tu9)<|z1a Zx Z Z (I.leq Z Z)<|Zq (pkT Z Z)<|Zm Z<|z1l 49 Z (fun h16=>?_) (fun h16=>?_)
       ·
        refine lKn 47 Z h16<|lKn 48 Z h16<|z1a Zx Z Z (faB 1 Z Z Tryz.underlying67 Z (by exact ti9))<|z1a Zx Z Z (ld 1 Z Z (fP (z3o _)) ty9 Z)<|zfg [] [] Zx Z Tryz.func211 Z Z (zhd _) (Y1 Z) rN fun r17 n18=>Zq (pkT Z Z)<|z1q<|z3m (fun aa ww h=>Zu h [])
       ·
        refine lKn 47 Z h16<|lKn 48 Z h16<|Zk Z<|Zk Z<|Zk Z<|Zq (pkF Z Z)<|z1q<|z3m (fun aa ww h=>Zu h [])
      ·
       refine lKn 41 Z h15<|lKn 42 Z h15<|Zk Z<|Zk Z<|Zk Z<|Zk Z<|Zq (pkF Z Z)<|Zm Z<|Zk Z<|Zk Z<|Zk Z<|Zq (pkF Z Z)<|z1q<|z3m (fun aa ww h=>Zu h [])
     ·
      refine lKn 37 Z h14<|Zk Z<|Zk Z<|Zk Z<|Zq (pkF Z Z)<|Zm Z<|Zk Z<|Zk Z<|Zk Z<|Zk Z<|Zq (pkF Z Z)<|Zm Z<|Zk Z<|Zk Z<|Zk Z<|Zq (pkF Z Z)<|z1q<|z3m (fun aa ww h=>Zu h [])
    ·
     refine gIf Z Z (fun h19=>?_) (fun h19=>?_)
     ·
      refine gSR<|Zb Z<|z0l<|z3t<|z0v<|Ze [] [] Z
     ·
      refine z2d<|z2v<|z0k<|gSR<|Zb Z<|z0l<|Ze [] [] Z
   ·
    refine gKn 34 Z h12<|z2d<|z2v<|z0k<|gSR<|Zb Z<|z0l<|Ze [] [] Z
def z9e (a0:z0i):Option (Int) :=
 some (decide (a0.Value=(⟨0,0,0,[]⟩:z06))) >>= fun y2 =>
 if a0.Kind==1 then
  if a0.Key==[] then
   if y2 then
    some 0
   else
    some 8
  else
   some 8
 else
  (if a0.Kind==2 then
   some true
  else
   some (a0.Kind==3)) >>= fun s6 =>
  if s6 then
   zap a0.Key >>= fun r9 =>
   if r9 then
    if y2 then
     some 0
    else
     some 8
   else
    some 8
  else
   if a0.Kind==4 then
    zap a0.Key >>= fun r14 =>
    if r14 then
     zbx a0.Value >>= fun r17 =>
     if r17==0 then
      some 0
     else
      some 8
    else
     some 8
   else
    some 8
theorem zhu (a0:z0i):z1s Tryz.prog 148 [.rd z0f a0] [] (z9e a0) (fun r nv=>⟨[.rd z0d r],[]⟩):=by
 refine z2b 38 Tryz.func148 Z Z Z fun H w=>?_
 refine gSR<|Eb Z (bx 1 Z) fun v1=>Zb Z<|gSR<|Zq (faB 1 Z Z Tryz.underlying69 Z (by exact zmf))<|Zq (ld 1 Z Z (fP (z5q _)) zut Z)<|Zq (bld (x':=(⟨0,0,0,[]⟩:z06)) [(0,1),(1,1),(2,1),(3,1)] Tryz.underlying67 zmf Z zyz Z (Bld.done Z))<|Zq (eqA Z Z eq67 Z Z gq67)<|Za Z<|z1n 3 Z fun y2=>Zn<|z0p<|gSR<|Zq (faB 1 Z Z Tryz.underlying69 Z (by exact ti5))<|Zq (ld 1 Z Z (fP (z3x _)) ty5 Z)<|Zn<|z4t<|gSR<|Zq (B.eql Z Z)<|Zb Z<|gIf Z Z (fun h3=>?_) (fun h3=>?_)
 ·
  refine gKn 11 Z h3<|gSR<|Zq (faB 1 Z Z Tryz.underlying69 Z (by exact ti9))<|Zq (ld 1 Z Z (fP (z6f _)) ty9 Z)<|Zq (eqS Z Z)<|Zm Z<|z1l 15 Z (fun h4=>?_) (fun h4=>?_)
  ·
   refine lKn 14 Z h4<|z1a Zx Z Z (mv Z)<|Zq (pkT Z Z)<|Zj Z (fun h5=>?_) (fun h5=>?_)
   ·
    refine gKn 3 Z h5<|gKn 16 Z h5<|gSR<|Zb Z<|z0l<|z3t<|z0v<|Ze [] [] Z
   ·
    refine gKn 3 Z h5<|gKn 16 Z h5<|z2d<|z2v<|z0k<|gSR<|Zb Z<|z0l<|Ze [] [] Z
  ·
   refine lKn 14 Z h4<|Zk Z<|Zq (pkF Z Z)<|Zn<|zf0 Z<|z2d<|z2v<|z0k<|gSR<|Zb Z<|z0l<|Ze [] [] Z
 ·
  refine gKn 11 Z h3<|z8i (fun (s6:Bool) aa ww=>Sta (ctx 38 H [] w) [(1,.val (z04 v1 0)),(3,.rd z0j y2),(9,.rd u8R a0.Kind),(18,.rd z0j s6)] [(1,some (v1,.box 69 [.rd z0f a0]))] aa ww) ?_ (fun s6=>?_)
  ·
   refine gSR<|Zq (B.eql Z Z)<|Zb Z<|gIf Z Z (fun h7=>?_) (fun h7=>?_)
   ·
    refine gKn 19 Z h7<|z2d<|z3m (fun aa ww h=>Zu h [1])
   ·
    refine gKn 19 Z h7<|z2a<|Zq (B.eql Z Z)<|Za Z<|z1q<|z3m (fun aa ww h=>Zu h [1])
  ·
   refine gIf Z Z (fun h8=>?_) (fun h8=>?_)
   ·
    refine gSR<|Zq (faB 1 Z Z Tryz.underlying69 Z (by exact ti9))<|Zq (ld 1 Z Z (fP (z6f _)) ty9 Z)<|Zc [] [] Tryz.func185 Z (zg4 _) fun r9 n10=>Zm Z<|z1l 24 Z (fun h11=>?_) (fun h11=>?_)
    ·
     refine lKn 23 Z h11<|z1a Zx Z Z (mv Z)<|Zq (pkT Z Z)<|Zj Z (fun h12=>?_) (fun h12=>?_)
     ·
      refine gKn 3 Z h12<|gKn 25 Z h12<|gSR<|Zb Z<|z0l<|z3t<|z0v<|Ze [] [] Z
     ·
      refine gKn 3 Z h12<|gKn 25 Z h12<|z2d<|z2v<|z0k<|gSR<|Zb Z<|z0l<|Ze [] [] Z
    ·
     refine lKn 23 Z h11<|Zk Z<|Zq (pkF Z Z)<|Zn<|zf0 Z<|z2d<|z2v<|z0k<|gSR<|Zb Z<|z0l<|Ze [] [] Z
   ·
    refine gSR<|Zq (B.eql Z Z)<|Zb Z<|gIf Z Z (fun h13=>?_) (fun h13=>?_)
    ·
     refine gKn 28 Z h13<|gSR<|Zq (faB 1 Z Z Tryz.underlying69 Z (by exact ti9))<|Zq (ld 1 Z Z (fP (z6f _)) ty9 Z)<|Zc [] [] Tryz.func185 Z (zg4 _) fun r14 n15=>Zm Z<|z1l 32 Z (fun h16=>?_) (fun h16=>?_)
     ·
      refine lKn 31 Z h16<|z1a Zx Z Z (faB 1 Z Z Tryz.underlying69 Z (by exact zmf))<|z1a Zx Z Z (ld 1 Z Z (fP (z5q _)) zut Z)<|zfg [] [] Zx Z Tryz.func186 Z Z (zke _) (Y1 Z) rN fun r17 n18=>z1a Zx Z Z (I.eql Z Z)<|Zq (pkT Z Z)<|Zj Z (fun h19=>?_) (fun h19=>?_)
      ·
       refine gKn 36 Z h19<|gSR<|Zb Z<|z0l<|z3t<|z0v<|Ze [] [] Z
      ·
       refine gKn 36 Z h19<|z2d<|z2v<|z0k<|gSR<|Zb Z<|z0l<|Ze [] [] Z
     ·
      refine lKn 31 Z h16<|Zk Z<|Zk Z<|Zk Z<|Zk Z<|Zq (pkF Z Z)<|Zn<|zf0 Z<|z2d<|z2v<|z0k<|gSR<|Zb Z<|z0l<|Ze [] [] Z
    ·
     refine gKn 28 Z h13<|z2d<|z2v<|z0k<|gSR<|Zb Z<|z0l<|Ze [] [] Z
def z42 (a0:UInt32):Option (Bool) :=
 some (decide (a0.toUInt64<500000003)) >>= fun y1 =>
 some y1
theorem z72 (a0:UInt32):z1s Tryz.prog 149 [.rd z0q a0] [] (z42 a0) (fun r nv=>⟨[.rd z0j r],[]⟩):=by
 refine z2b 6 Tryz.func149 Z Z Z fun H w=>?_
 refine gSR<|Zb Z<|gSR<|Zm Z<|Zq (W.toU Z tu65 tu41)<|Zq (U.lss Z Z)<|Za Z<|z1n 2 Z fun y1=>Zn<|z0l<|Ze [] [] Z
def z4u (a0:z08):Option (Int) :=
 if decide (4<(a0.Preds.length:Int)) then
  some 4
 else
  z94 a0.Preds >>= fun r3 =>
  if !r3 then
   some 32
  else
   (zcz a0.Author >>= fun r7 =>
   if !r7 then
    some true
   else
    if decide (1000000000000<a0.Stamp) then
     some true
    else
     z9e a0.Act >>= fun r11 =>
     if r11 != 0 then
      some true
     else
      z42 a0.Sig.E >>= fun r14 =>
      if !r14 then
       some true
      else
       z42 a0.Sig.S >>= fun r17 =>
       some (!r17)) >>= fun s6 =>
   if s6 then
    some 8
   else
    some 0
theorem z9d (a0:z08):z1s Tryz.prog 103 [.rd z03 a0] [] (z4u a0) (fun r nv=>⟨[.rd z0d r],[]⟩):=by
 refine z2b 40 Tryz.func103 Z Z Z fun H w=>?_
 refine gSR<|Eb Z (bx 1 Z) fun v1=>Zb Z<|z0p<|gSR<|Zq (faB 1 Z Z Tryz.underlying73 Z (by exact z5l))<|Zq (ld 1 Z Z (fP (z0y _)) z71 Z)<|Zq (z3e Z .rd Z tu22)<|Zq (I.gtr Z Z)<|Zj Z (fun h2=>?_) (fun h2=>?_)
 ·
  refine gSR<|Zb Z<|z0l<|z0v<|Ze [] [] Z
 ·
  refine Zt<|z0p<|gSR<|Zq (faB 1 Z Z Tryz.underlying73 Z (by exact z5l))<|Zq (ld 1 Z Z (fP (z0y _)) z71 Z)<|Zc [] [] Tryz.func108 Z (zeo _) fun r3 n4=>Zq (zf4 Z)<|Zj Z (fun h5=>?_) (fun h5=>?_)
  ·
   refine gSR<|Zb Z<|z0l<|z0v<|Ze [] [] Z
  ·
   refine Zt<|z0p<|z8i (fun (s6:Bool) aa ww=>Sta (ctx 40 H [] w) [(39,.rd z0j s6)] [] aa ww) ?_ (fun s6=>?_)
   ·
    refine z2a<|Zq (faB 1 Z Z Tryz.underlying73 Z (by exact z6m))<|Zq (ld 1 Z Z (fP (z3a _)) zae Z)<|Zc [] [] Tryz.func147 Z (zhn _) fun r7 n8=>Zq (zf4 Z)<|Zm Z<|z1l 15 Z (fun h9=>?_) (fun h9=>?_)
    ·
     refine lKn 14 Z h9<|Zk Z<|Zk Z<|Zk Z<|Zq (pkT Z Z)<|Zm Z<|Zk Z<|Zk Z<|Zk Z<|Zk Z<|Zq (pkT Z Z)<|Zm Z<|Zk Z<|Zk Z<|Zk Z<|Zk Z<|Zk Z<|Zq (pkT Z Z)<|Zm Z<|Zk Z<|Zk Z<|Zk Z<|Zk Z<|Zk Z<|Zq (pkT Z Z)<|z1q<|z3m (fun aa ww h=>Zu h [])
    ·
     refine lKn 14 Z h9<|z1a Zx Z Z (faB 1 Z Z Tryz.underlying73 Z (by exact zs2))<|z1a Zx Z Z (ld 1 Z Z (fP (z4k _)) zqy Z)<|z1a Zx Z Z (U.gtr Z Z)<|Zq (pkF Z Z)<|Zm Z<|z1l 20 Z (fun h10=>?_) (fun h10=>?_)
     ·
      refine lKn 18 Z h10<|lKn 19 Z h10<|Zk Z<|Zk Z<|Zk Z<|Zk Z<|Zq (pkT Z Z)<|Zm Z<|Zk Z<|Zk Z<|Zk Z<|Zk Z<|Zk Z<|Zq (pkT Z Z)<|Zm Z<|Zk Z<|Zk Z<|Zk Z<|Zk Z<|Zk Z<|Zq (pkT Z Z)<|z1q<|z3m (fun aa ww h=>Zu h [])
     ·
      refine lKn 18 Z h10<|lKn 19 Z h10<|z1a Zx Z Z (faB 1 Z Z Tryz.underlying73 Z (by exact zpj))<|z1a Zx Z Z (ld 1 Z Z (fP (z29 _)) ty69 Z)<|zfg [] [] Zx Z Tryz.func148 Z Z (zhu _) (Y1 Z) rN fun r11 n12=>z1a Zx Z Z (I.neq Z Z)<|Zq (pkF Z Z)<|Zm Z<|z1l 26 Z (fun h13=>?_) (fun h13=>?_)
      ·
       refine lKn 24 Z h13<|lKn 25 Z h13<|Zk Z<|Zk Z<|Zk Z<|Zk Z<|Zk Z<|Zq (pkT Z Z)<|Zm Z<|Zk Z<|Zk Z<|Zk Z<|Zk Z<|Zk Z<|Zq (pkT Z Z)<|z1q<|z3m (fun aa ww h=>Zu h [])
      ·
       refine lKn 24 Z h13<|lKn 25 Z h13<|z1a Zx Z Z (faB 1 Z Z Tryz.underlying73 Z (by exact zn3))<|z1a Zx Z Z (faB 1 Z Z Tryz.underlying71 Z (by exact z6m))<|z1a Zx Z Z (ld 1 Z Z ((fP (z2j _)).part (z5f _)) zae Z)<|zfg [] [] Zx Z Tryz.func149 Z Z (z72 _) (Y1 Z) rN fun r14 n15=>z1a Zx Z Z (zf4 Z)<|Zq (pkF Z Z)<|Zm Z<|z1l 33 Z (fun h16=>?_) (fun h16=>?_)
       ·
        refine lKn 31 Z h16<|lKn 32 Z h16<|Zk Z<|Zk Z<|Zk Z<|Zk Z<|Zk Z<|Zq (pkT Z Z)<|z1q<|z3m (fun aa ww h=>Zu h [])
       ·
        refine lKn 31 Z h16<|lKn 32 Z h16<|z1a Zx Z Z (faB 1 Z Z Tryz.underlying73 Z (by exact zn3))<|z1a Zx Z Z (faB 1 Z Z Tryz.underlying71 Z (by exact z6m))<|z1a Zx Z Z (ld 1 Z Z ((fP (z2j _)).part (z81 _)) zae Z)<|zfg [] [] Zx Z Tryz.func149 Z Z (z72 _) (Y1 Z) rN fun r17 n18=>z1a Zx Z Z (zf4 Z)<|Zq (pkF Z Z)<|z1q<|z3m (fun aa ww h=>Zu h [])
   ·
    refine gIf Z Z (fun h19=>?_) (fun h19=>?_)
    ·
     refine gSR<|Zb Z<|z0l<|z0v<|Ze [] [] Z
    ·
     refine Zt<|gSR<|Zb Z<|z0l<|Ze [] [] Z
def z6k (a0:UInt32) (a1:UInt64):Option (UInt32) :=
 z9w a0.toUInt64 a1 1000000007 >>= fun r1 =>
 some r1.toUInt32
theorem zbj (a0:UInt32) (a1:UInt64):z1s Tryz.prog 189 [.rd z0q a0,.rd z2c a1] [] (z6k a0 a1) (fun r nv=>⟨[.rd z0q r],[]⟩):=by
 refine z2b 10 Tryz.func189 Z Z Z fun H w=>?_
 refine gSR<|Zb Z<|gSR<|Zm Z<|Zq (W.toU Z tu65 tu41)<|Zm Z<|Zc [] [] Tryz.func184 Z (zf1 _ _ _) fun r1 n2=>Zq (U.toW Z tu41 tu65)<|Zb Z<|z0l<|Ze [] [] Z
def zg9 (a0:UInt32):Option (UInt32 × Int) :=
 zcz a0 >>= fun r1 =>
 if !r1 then
  some (0,2)
 else
  z6k a0 500000002 >>= fun r4 =>
  some (r4,0)
theorem zm5 (a0:UInt32):z1s Tryz.prog 188 [.rd z0q a0] [] (zg9 a0) (fun r nv=>⟨[.rd z0q r.1,.rd z0d r.2],[]⟩):=by
 refine z2b 9 Tryz.func188 Z Z Z fun H w=>?_
 refine gSR<|Za Z<|Zb Z<|z0p<|gSR<|Zm Z<|Zc [] [] Tryz.func147 Z (zhn _) fun r1 n2=>Zq (zf4 Z)<|Zj Z (fun h3=>?_) (fun h3=>?_)
 ·
  refine gSR<|Za Z<|Zb Z<|z0l<|z0v<|Ze [] [] Z
 ·
  refine Zt<|gSR<|Zm Z<|Zc [] [] Tryz.func189 Z (zbj _ _) fun r4 n5=>Za Z<|Zb Z<|z0l<|Ze [] [] Z
def zd6 (a0:UInt64):Option (UInt32) :=
 z6k 4 a0 >>= fun r1 =>
 some r1
theorem zld (a0:UInt64):z1s Tryz.prog 178 [.rd z2c a0] [] (zd6 a0) (fun r nv=>⟨[.rd z0q r],[]⟩):=by
 refine z2b 5 Tryz.func178 Z Z Z fun H w=>?_
 refine gSR<|Zb Z<|gSR<|Zm Z<|Zc [] [] Tryz.func189 Z (zbj _ _) fun r1 n2=>Zb Z<|z0l<|Ze [] [] Z
def z6g (a0:UInt32):Option (UInt32) :=
 zd6 a0.toUInt64 >>= fun r1 =>
 some r1
theorem zba (a0:UInt32):z1s Tryz.prog 143 [.rd z0q a0] [] (z6g a0) (fun r nv=>⟨[.rd z0q r],[]⟩):=by
 refine z2b 6 Tryz.func143 Z Z Z fun H w=>?_
 refine gSR<|Zb Z<|gSR<|Zm Z<|Zq (W.toU Z tu65 tu41)<|Zc [] [] Tryz.func178 Z (zld _) fun r1 n2=>Zb Z<|z0l<|Ze [] [] Z
def zcs (a0:UInt32) (a1:UInt32):Option (UInt32) :=
 some (((a0.toUInt64 * a1.toUInt64) % 1000000007).toUInt32) >>= fun y1 =>
 some y1
theorem zil (a0:UInt32) (a1:UInt32):z1s Tryz.prog 190 [.rd z0q a0,.rd z0q a1] [] (zcs a0 a1) (fun r nv=>⟨[.rd z0q r],[]⟩):=by
 refine z2b 12 Tryz.func190 Z Z Z fun H w=>?_
 refine gSR<|Zb Z<|gSR<|Zm Z<|Zq (W.toU Z tu65 tu41)<|Zm Z<|Zq (W.toU Z tu65 tu41)<|Zq (U.mul Z Z)<|Zq (U.rem Z Z (by decide))<|Zq (U.toW Z tu41 tu65)<|Za Z<|z1n 4 Z fun y1=>Zn<|z0l<|Ze [] [] Z
def z8x (a0:UInt32):Option ((List UInt8)) :=
 some [(a0 / 16777216).toUInt8,((a0 / 65536) % 256).toUInt8,((a0 / 256) % 256).toUInt8,(a0 % 256).toUInt8]
theorem zcy (a0:UInt32):z1s Tryz.prog 208 [.rd z0q a0] [] (z8x a0) (fun r nv=>⟨[.val (nv 0)],[(100,some (nv 0,.list u8R 5 r))]⟩):=by
 refine z2b 18 Tryz.func208 Z Z Z fun H w=>?_
 refine gSR<|Zb Z<|gSR<|Zm Z<|Zq (W.quo Z Z (by decide))<|Zq (W.toB Z tu65 tu5)<|Zm Z<|Zq (W.quo Z Z (by decide))<|Zq (W.rem Z Z (by decide))<|Zq (W.toB Z tu65 tu5)<|Zm Z<|Zq (W.quo Z Z (by decide))<|Zq (W.rem Z Z (by decide))<|Zq (W.toB Z tu65 tu5)<|Zm Z<|Zq (W.rem Z Z (by decide))<|Zq (W.toB Z tu65 tu5)<|Ef Z (lit (R:=u8R) ([(a0 / 16777216).toUInt8,((a0 / 65536) % 256).toUInt8,((a0 / 256) % 256).toUInt8,(a0 % 256).toUInt8]:List UInt8) 1 (pP Z Z<|pP Z Z<|pP Z Z<|pP Z Z<|pN) Z tu75 ti5 Z Z) fun v1=>Zb Z<|z0l<|Ze [v1] [1] Z
def z5v (r1:V3) (s5:UInt64 × Int):Option (Sum UInt64 (UInt64 × Int)) :=
 if decide (s5.2<8) then
  z98 r1 s5.2 >>= fun x7 =>
  some ((256 * s5.1)+x7.toUInt64) >>= fun y9 =>
  some (w64 (s5.2+1)) >>= fun y10 =>
  some (.inr (y9,y10))
 else
  some (.inl s5.1)
def z8r (a0:List UInt8):Option (UInt64) :=
 zct a0 >>= fun r1 =>
 (iter (z5v r1) (0,0)) >>= fun s4 =>
 some s4
theorem zen (a0:List UInt8):z1s Tryz.prog 209 [.rd (z02 u8R) a0] [] (z8r a0) (fun r nv=>⟨[.rd z2c r],[]⟩):=by
 refine z2b 20 Tryz.func209 Z Z Z fun H w=>?_
 refine gSR<|Zb Z<|gSR<|Zm Z<|Zc [] [] Tryz.func95 Z (zhm _) fun r1 n2=>Eb Z (z5o 1 z23 (.zr (R:=aZ) (x:=(Vector.replicate 32 0)) zge)) fun v3=>Es (sto 1 Z Z fH Z z23)<|Zn<|gSR<|Zb Z<|z8i (fun (s4:UInt64) aa ww=>Sta (ctx 20 H [] w) [(4,.rd z2c s4)] [] aa ww) ?_ (fun s4=>?_)
 ·
  refine gSR<|Zb Z<|z1t (fun (s5:UInt64 × Int) aa ww=>Sta (ctx 20 H [] w) [(3,.val (z04 v3 0)),(4,.rd z2c s5.1),(5,.rd z0d s5.2)] [(1,some (v3,.box 62 [.rd aZ r1]))] aa ww) (fun aa ww h=>Zu h [1]) (fun s5=>?_)
  refine z0p<|gSR<|Zm Z<|Zq (I.lss Z Z)<|Zj Z (fun h6=>?_) (fun h6=>?_)
  ·
   refine Zt<|z0p<|z4t<|z2a<|Zm Z<|Zq (U.mul Z Z)<|Zm Z<|z0n fun x7 h8=>Zq (ixB 1 Z Z Z h8 tu62 ti5)<|Zq (ld 1 Z Z (fP (.el h8)) ty5 Z)<|Zq (B.toU Z tu5 tu41)<|Zq (U.add Z Z)<|Za Z<|z1n 4 Z fun y9=>z1q<|z2v<|z0k<|z2a<|Zm Z<|Zq (I.add Z Z)<|Za Z<|z1n 5 Z fun y10=>z1q<|z1d (fun aa ww h=>Zu h [1])
  ·
   refine z1p<|z0w<|z0x<|z3m (fun aa ww h=>Zu h [])
 ·
  refine gSR<|Zm Z<|Zb Z<|z0l<|Ze [] [] Z
def z5w (a0:UInt32) (a1:UInt32) (a2:List UInt8):Option (UInt32) :=
 z8x a0 >>= fun r2 =>
 app 1 [99] r2 >>= fun x4 =>
 z8x a1 >>= fun r7 =>
 app 1 x4 r7 >>= fun x9 =>
 app 1 x9 a2 >>= fun x12 =>
 z8r x12 >>= fun r15 =>
 some ((r15 % 500000003).toUInt32) >>= fun y17 =>
 some y17
theorem zcv (a0:UInt32) (a1:UInt32) (a2:List UInt8):z1s Tryz.prog 180 [.rd z0q a0,.rd z0q a1,.rd (z02 u8R) a2] [] (z5w a0 a1 a2) (fun r nv=>⟨[.rd z0q r],[]⟩):=by
 refine z2b 21 Tryz.func180 Z Z Z fun H w=>?_
 refine gSR<|Zb Z<|gSR<|Ef Z (lit (R:=u8R) ([99]:List UInt8) 1 (pP Z Z<|pN) Z tu75 ti5 Z Z) fun v1=>Zm Z<|Zc [] [(100,2)] Tryz.func208 Z (zcy _) fun r2 n3=>z0n fun x4 h5=>Ef Z (apn 1 Z Z Z (.own 2 Z) h5 tu75 ti5 Z Z Z) fun v6=>Zm Z<|Zc [] [(100,3)] Tryz.func208 Z (zcy _) fun r7 n8=>z0n fun x9 h10=>Ef Z (apn 1 Z Z Z (.own 3 Z) h10 tu75 ti5 Z Z Z) fun v11=>Zb Z<|gSR<|Zm Z<|Zm Z<|z0n fun x12 h13=>Ef Z (apn 1 Z Z Z .rd h13 tu75 ti5 Z Z Z) fun v14=>zgc 1 [17] Z (fS Z<|fN)<|Zc [] [] Tryz.func209 Z (zen _) fun r15 n16=>Zq (U.rem Z Z (by decide))<|Zq (U.toW Z tu41 tu65)<|Za Z<|z1n 6 Z fun y17=>Zn<|z0l<|Ze [] [] Z
def zbv (a0:UInt32) (a1:List UInt8) (a2:z0c):Option (Bool) :=
 z42 a2.E >>= fun r2 =>
 if !r2 then
  some false
 else
  z42 a2.S >>= fun r5 =>
  if !r5 then
   some false
  else
   z6k a0 a2.E.toUInt64 >>= fun r8 =>
   zg9 r8 >>= fun r10 =>
   z6g a2.S >>= fun r12 =>
   zcs r12 r10.1 >>= fun r14 =>
   z5w r14 a0 a1 >>= fun r16 =>
   some (r16==a2.E)
theorem zk8 (a0:UInt32) (a1:List UInt8) (a2:z0c):z1s Tryz.prog 152 [.rd z0q a0,.rd (z02 u8R) a1,.rd z0g a2] [] (zbv a0 a1 a2) (fun r nv=>⟨[.rd z0j r],[]⟩):=by
 refine z2b 39 Tryz.func152 Z Z Z fun H w=>?_
 refine gSR<|Eb Z (bx 1 Z) fun v1=>Zb Z<|z0p<|gSR<|Zq (faB 1 Z Z Tryz.underlying71 Z (by exact z6m))<|Zq (ld 1 Z Z (fP (z5f _)) zae Z)<|Zc [] [] Tryz.func149 Z (z72 _) fun r2 n3=>Zq (zf4 Z)<|Zm Z<|z1l 13 Z (fun h4=>?_) (fun h4=>?_)
 ·
  refine lKn 12 Z h4<|Zk Z<|Zk Z<|Zk Z<|Zk Z<|Zq (pkT Z Z)<|Zn<|zhz Z<|gSR<|Zb Z<|z0l<|z0v<|Ze [] [] Z
 ·
  refine lKn 12 Z h4<|z1a Zx Z Z (faB 1 Z Z Tryz.underlying71 Z (by exact z6m))<|z1a Zx Z Z (ld 1 Z Z (fP (z81 _)) zae Z)<|zfg [] [] Zx Z Tryz.func149 Z Z (z72 _) (Y1 Z) rN fun r5 n6=>z1a Zx Z Z (zf4 Z)<|Zq (pkF Z Z)<|Zj Z (fun h7=>?_) (fun h7=>?_)
  ·
   refine gKn 17 Z h7<|gSR<|Zb Z<|z0l<|z0v<|Ze [] [] Z
  ·
   refine gKn 17 Z h7<|Zt<|gSR<|Zm Z<|Zq (faB 1 Z Z Tryz.underlying71 Z (by exact z6m))<|Zq (ld 1 Z Z (fP (z5f _)) zae Z)<|Zq (W.toU Z tu65 tu41)<|Zc [] [] Tryz.func189 Z (zbj _ _) fun r8 n9=>Zc [] [] Tryz.func188 Z (zm5 _) fun r10 n11=>Zm Z<|Zq (ext Z Z)<|Zq (ext Z Z)<|Za Z<|Zb Z<|z0p<|z8h [] mixed Z Z<|hTk 0 Z Z (faB 1 Z Z Tryz.underlying71 Z (by exact z6m))<|hTk 1 Z Z (ld 1 Z Z (fP (z81 _)) zae Z)<|hTk 3 Z Z (mv Z)<|hTk 5 Z Z (mv Z)<|hTk 6 Z Z (mv Z)<|hTk 8 Z Z (faB 1 Z Z Tryz.underlying71 Z (by exact z6m))<|hTk 9 Z Z (ld 1 Z Z (fP (z5f _)) zae Z)<|z3v 2 [] [] Z (by kernel_rfl) Z (gd0 Z) Z Tryz.func143 Z Z (zba _) (Y1 Z) rN Z (fun _ _=>z30) fun r12 n13=>z3v 4 [] [] Z (by kernel_rfl) Z (gd0 Z) Z Tryz.func190 Z Z (zil _ _) (Y2 Z Z) rN Z (fun _ _=>z30) fun r14 n15=>z3v 7 [] [] Z (by kernel_rfl) Z (gd0 Z) Z Tryz.func180 Z Z (zcv _ _ _) (aQ Z<|aQ Z<|aQ Z<|aN) rN Z (fun _ _=>z30) fun r16 n17=>hTk 10 Z Z (W.eql Z Z)<|hTk 11 Z Z (asg Z)<|z4s (by kernel_rfl)<|z0k<|z0l<|Ze [] [] Z
def zdk (a0:z08):Option (Bool) :=
 z6x a0 >>= fun r2 =>
 zbv a0.Author r2 a0.Sig >>= fun r4 =>
 some r4
theorem zj6 (a0:z08):z1s Tryz.prog 107 [.rd z03 a0] [] (zdk a0) (fun r nv=>⟨[.rd z0j r],[]⟩):=by
 refine z2b 10 Tryz.func107 Z Z Z fun H w=>?_
 refine gSR<|Eb Z (bx 1 Z) fun v1=>Zb Z<|z0p<|z8h [11] mixed Z Z<|hTk 0 Z Z (faB 1 Z Z Tryz.underlying73 Z (by exact z6m))<|hTk 1 Z Z (ld 1 Z Z (fP (z3a _)) zae Z)<|hTk 2 Z Z (ld 1 Z Z fH zaa Z)<|hTk 4 Z Z (faB 1 Z Z Tryz.underlying73 Z (by exact zn3))<|hTk 5 Z Z (ld 1 Z Z (fP (z2j _)) ty71 Z)<|z3v 3 [] [(100,11)] Z (by kernel_rfl) Z (gd0 Z) Z Tryz.func139 Z Z (zcq _) (Y1 Z) rN Z (fun _ _=>z3p) fun r2 n3=>zyy 11 [6] Z (fS Z<|fN)<|z3v 6 [] [] Z (by kernel_rfl) Z (gd0 Z) Z Tryz.func152 Z Z (zk8 _ _ _) (aQ Z<|aQ Z<|aQ Z<|aN) rN Z (fun _ _=>zai) fun r4 n5=>hTk 7 Z Z (asg Z)<|z4s (by kernel_rfl)<|z0k<|z0l<|Ze [] [] Z
def z4f (a0:z08):Option (Int) :=
 z4u a0 >>= fun r2 =>
 if r2 != 0 then
  z4u a0 >>= fun r5 =>
  some r5
 else
  zdk a0 >>= fun r7 =>
  if !r7 then
   some 22
  else
   some 0
theorem zbg (a0:z08):z1s Tryz.prog 69 [.rd z03 a0] [] (z4f a0) (fun r nv=>⟨[.rd z0d r],[]⟩):=by
 refine z2b 11 Tryz.func69 Z Z Z fun H w=>?_
 refine gSR<|Eb Z (bx 1 Z) fun v1=>Zb Z<|z0p<|gSR<|Zq (ld 1 Z Z fH zaa Z)<|Zc [] [] Tryz.func103 Z (z9d _) fun r2 n3=>Zq (I.neq Z Z)<|Zj Z (fun h4=>?_) (fun h4=>?_)
 ·
  refine gSR<|Zq (ld 1 Z Z fH zaa Z)<|Zc [] [] Tryz.func103 Z (z9d _) fun r5 n6=>Zb Z<|z0l<|z0v<|Ze [] [] Z
 ·
  refine Zt<|z0p<|gSR<|Zq (ld 1 Z Z fH zaa Z)<|Zc [] [] Tryz.func107 Z (zj6 _) fun r7 n8=>Zq (zf4 Z)<|Zj Z (fun h9=>?_) (fun h9=>?_)
  ·
   refine gSR<|Zb Z<|z0l<|z0v<|Ze [] [] Z
  ·
   refine Zt<|gSR<|Zb Z<|z0l<|Ze [] [] Z
end
section
open Go Go.RowKit
set_option maxRecDepth 100000
def z0o (a0:List V3) (a1:V3) (s4:Int × Int):Option (Sum Int (Int × Int)) :=
 if decide (s4.1<s4.2) then
  some (w64 ((z99 (UInt64.ofInt (w64 (s4.1+s4.2))) 1).toNat:Int)) >>= fun y6 =>
  idx a0 y6 >>= fun x7 =>
  z9z x7 a1 >>= fun r9 =>
  if decide (r9<0) then
   some (.inr (w64 (y6+1),s4.2))
  else
   some (.inr (s4.1,y6))
 else
  some (.inl s4.1)
def z0s (a0:List V3) (a1:V3):Option (Int × Bool) :=
 some (a0.length:Int) >>= fun y2 =>
 (iter (z0o a0 a1) (0,y2)) >>= fun s3 =>
 if decide (s3<y2) then
  idx a0 s3 >>= fun x13 =>
  z9z x13 a1 >>= fun r15 =>
  some (s3,r15==0)
 else
  some (s3,false)
theorem z5b (a0:List V3) (a1:V3):z1s Tryz.prog 104 [.rd (z02 aZ) a0,.rd aZ a1,.val (.func (.func 105) #[] #[])] [] (z0s a0 a1) (fun r nv=>⟨[.rd z0d r.1,.rd z0j r.2],[]⟩):=by
 refine z2b 49 Tryz.func104 Z Z Z fun H w=>?_
 refine gSR<|Eb Z (bx 1 Z) fun v1=>Za Z<|Zb Z<|gSR<|Zm Z<|Zq (z3e Z .rd Z tu22)<|Za Z<|z1n 8 Z fun y2=>Zn<|gSR<|Zm Z<|Za Z<|Zb Z<|z8i (fun (s3:Int) aa ww=>Sta (ctx 49 H [] w) [(0,.rd (z02 aZ) a0),(2,.val (.func (.func 105) #[] #[])),(4,.val (z04 v1 0)),(8,.rd z0d y2),(9,.rd z0d s3)] [(1,some (v1,.box 62 [.rd aZ a1]))] aa ww) ?_ (fun s3=>?_)
 ·
  refine z1t (fun (s4:Int × Int) aa ww=>Sta (ctx 49 H [] w) [(0,.rd (z02 aZ) a0),(2,.val (.func (.func 105) #[] #[])),(4,.val (z04 v1 0)),(8,.rd z0d y2),(9,.rd z0d s4.1),(10,.rd z0d s4.2)] [(1,some (v1,.box 62 [.rd aZ a1]))] aa ww) (fun aa ww h=>Zu h [1]) (fun s4=>?_)
  refine z0p<|gSR<|Zm Z<|Zm Z<|Zq (I.lss Z Z)<|Zj Z (fun h5=>?_) (fun h5=>?_)
  ·
   refine Zt<|z4t<|gSR<|Zm Z<|Zm Z<|Zq (I.add Z Z)<|Zq (I.toU Z tu3 Tryz.underlying150)<|Zq (U.shr Z Z (Int.natCast_nonneg _))<|Zq (U.toI Z Tryz.underlying150 tu3)<|Za Z<|z1n 11 Z fun y6=>Zn<|z0p<|z8h [] mixed Z Z<|hTk 0 Z Z (mv Z)<|hTk 1 Z Z (mv Z)<|hTk 2 Z Z (mv Z)<|z5h fun x7 h8=>hTk 3 Z Z (ixR Z Z h8 tu22 z23 Z)<|hTk 4 Z Z (ldR Z z3s)<|hTk 5 Z Z (ld 1 Z Z fH z3s Z)<|zvf 6 [] [] Z (by kernel_rfl) Z (gd0 Z) Z Tryz.func105 Z Z Z (zb4 _ _) (Y2 Z Z) (cN) Z rN Z (fun _ _=>z30) fun r9 n10=>hTk 7 Z Z (I.lss Z Z)<|z4s (by kernel_rfl)<|z0k<|gIf Z Z (fun h11=>?_) (fun h11=>?_)
   ·
    refine z2a<|Zm Z<|Zq (I.add Z Z)<|Za Z<|z1q<|z2v<|z1d (fun aa ww h=>Zu h [1])
   ·
    refine z2a<|Zm Z<|Za Z<|z1q<|z2v<|z1d (fun aa ww h=>Zu h [1])
  ·
   refine z1p<|z0w<|z0x<|z3m (fun aa ww h=>Zu h [1])
 ·
  refine z0p<|z8h [] mixed Z Z<|hTk 0 Z Z (mv Z)<|hTk 1 Z Z (mv Z)<|hTk 2 Z Z (mv Z)<|hTk 3 Z Z (I.lss Z Z)<|hTk 4 Z Z (mv Z)<|hIf 39 Z Z (fun h12=>?_) (fun h12=>?_)
  ·
   refine hKn 38 Z Z h12<|Zg 5 Z Z (mv Z)<|Zg 6 Z Z (mv Z)<|Zg 7 Z Z (mv Z)<|z5h fun x13 h14=>Zg 8 Z Z (ixR Z Z h14 tu22 z23 Z)<|Zg 9 Z Z (ldR Z z3s)<|Zg 10 Z Z (ld 1 Z Z fH z3s Z)<|zvf 11 [] [] Z (by kernel_rfl) Z Zx Z Tryz.func105 Z Z Z (zb4 _ _) (Y2 Z Z) (cN) Z rN Z (fun _ _=>z30) fun r15 n16=>Zg 12 Z Z (I.eql Z Z)<|hTk 13 Z Z (pkT Z Z)<|hTk 14 Z Z (asg Z)<|hTk 15 Z Z (asg Z)<|z4s (by kernel_rfl)<|z0k<|z0l<|Ze [] [] Z
  ·
   refine hKn 38 Z Z h12<|hSk 5 Z Z<|hSk 6 Z Z<|hSk 7 Z Z<|hSk 8 Z Z<|hSk 9 Z Z<|hSk 10 Z Z<|hSk 11 Z Z<|hSk 12 Z Z<|hTk 13 Z Z (pkF Z Z)<|hTk 14 Z Z (asg Z)<|hTk 15 Z Z (asg Z)<|z4s (by kernel_rfl)<|z0k<|z0l<|Ze [] [] Z
def zds (a0:z00) (a1:V3):Option (Int × Bool) :=
 z0s a0.IDs a1 >>= fun r3 =>
 some (r3.1,r3.2)
theorem zex (a0:z00) (a1:V3):z1s Tryz.prog 65 [.rd z01 a0,.rd aZ a1] [] (zds a0 a1) (fun r nv=>⟨[.rd z0d r.1,.rd z0j r.2],[]⟩):=by
 refine z2b 12 Tryz.func65 Z Z Z fun H w=>?_
 refine gSR<|Eb Z (bx 1 Z) fun v1=>Eb Z (bx 2 Z) fun v2=>Za Z<|Zb Z<|gSR<|Zq (faB 1 Z Z Tryz.underlying25 Z (by exact z5l))<|Zq (ld 1 Z Z (fP (z09 _)) z71 Z)<|Zq (ld 2 Z Z fH z3s Z)<|Zc [] [] Tryz.func104 Z (z5b _ _) fun r3 n4=>Zq (ext Z Z)<|Zq (ext Z Z)<|Za Z<|Zb Z<|z0l<|Ze [] [] Z
def zan (a0:z00) (s3:Int):Option (Sum (Sum Int Unit) Int) :=
 if decide (s3<(a0.IDs.length:Int)) then
  idx a0.IDs (w64 (s3 - 1)) >>= fun x5 =>
  idx a0.IDs s3 >>= fun x7 =>
  z9z x5 x7 >>= fun r9 =>
  if decide (0≤r9) then
   some (.inl (.inl 32))
  else
   some (.inr (w64 (s3+1)))
 else
  some (.inl (.inr ()))
def zcc (a0:z00) (s19:(List Int) × (List (List Int)) × (List Int) × Int) (x22:z08) (s26:(List (List Int)) × Int):Option (Sum (Sum (Sum (Sum Int ((List Int) × (List (List Int)) × (List Int))) ((List Int) × (List (List Int)) × (List Int) × Int)) ((List (List Int)))) ((List (List Int)) × Int)) :=
 if decide (s26.2<(x22.Preds.length:Int)) then
  idx x22.Preds s26.2 >>= fun x29 =>
  zds a0 x29 >>= fun r32 =>
  if !r32.2 then
   some (.inl (.inl (.inl (.inl 40))))
  else
   idx s26.1 r32.1 >>= fun x35 =>
   app 8 x35 [s19.2.2.2] >>= fun x38 =>
   some (.inr (s26.1.set (r32.1:Int).toNat x38,w64 (s26.2+1)))
 else
  some (.inl (.inr s26.1))
def zcf (a0:z00) (s19:(List Int) × (List (List Int)) × (List Int) × Int):Option (Sum (Sum Int ((List Int) × (List (List Int)) × (List Int))) ((List Int) × (List (List Int)) × (List Int) × Int)) :=
 if decide (s19.2.2.2<(a0.Ops.length:Int)) then
  idx a0.Ops s19.2.2.2 >>= fun x22 =>
  z58 (iter (zcc a0 s19 x22) (s19.2.1,0)) fun s25 =>
  idx s19.1 s19.2.2.2 >>= fun x42 =>
  idx (s19.1.set (s19.2.2.2:Int).toNat (x22.Preds.length:Int)) s19.2.2.2 >>= fun x44 =>
  if x44==0 then
   app 8 s19.2.2.1 [s19.2.2.2] >>= fun x48 =>
   some (.inr (s19.1.set (s19.2.2.2:Int).toNat (x22.Preds.length:Int),s25,x48,w64 (s19.2.2.2+1)))
  else
   some (.inr (s19.1.set (s19.2.2.2:Int).toNat (x22.Preds.length:Int),s25,s19.2.2.1,w64 (s19.2.2.2+1)))
 else
  some (.inl (.inr (s19.1,s19.2.1,s19.2.2.1)))
def zci (x59:List Int) (s61:(List Int) × (List Int) × Int):Option (Sum ((List Int) × (List Int)) ((List Int) × (List Int) × Int)) :=
 if decide (s61.2.2<(x59.length:Int)) then
  idx x59 s61.2.2 >>= fun x64 =>
  idx s61.1 x64 >>= fun x66 =>
  idx s61.1 x64 >>= fun x68 =>
  idx (s61.1.set (x64:Int).toNat (w64 (x66 - 1))) x64 >>= fun x70 =>
  if x70==0 then
   app 8 s61.2.1 [x64] >>= fun x74 =>
   some (.inr (s61.1.set (x64:Int).toNat (w64 (x66 - 1)),x74,w64 (s61.2.2+1)))
  else
   some (.inr (s61.1.set (x64:Int).toNat (w64 (x66 - 1)),s61.2.1,w64 (s61.2.2+1)))
 else
  some (.inl (s61.1,s61.2.1))
def ze4 (s18:(List Int) × (List (List Int)) × (List Int)) (s53:(List Int) × (List Int) × Int):Option (Sum Int ((List Int) × (List Int) × Int)) :=
 if decide (s53.2.2<(s53.2.1.length:Int)) then
  (idx s53.2.1 s53.2.2 >>= fun x57 =>
  idx s18.2.1 x57 >>= fun x59 =>
  iter (zci x59) (s53.1,s53.2.1,0)) >>= fun s56 =>
  some (w64 (s53.2.2+1)) >>= fun y78 =>
  some (.inr (s56.1,s56.2,y78))
 else
  some (.inl s53.2.2)
def zlz (a0:z00):Option (Int) :=
 z58 (iter (zan a0) 1) fun s2 =>
 mkn 8 0 (a0.Ops.length:Int) >>= fun x12 =>
 mkn 24 ([]:List Int) (a0.Ops.length:Int) >>= fun x15 =>
 z58 (iter (zcf a0) (x12,x15,[],0)) fun s18 =>
 (iter (ze4 s18) (s18.1,s18.2.2,0)) >>= fun s52 =>
 if decide (s52<(a0.Ops.length:Int)) then
  some 36
 else
  some 0
theorem zsy (a0:z00):z1s Tryz.prog 113 [.rd z01 a0] [] (zlz a0) (fun r nv=>⟨[.rd z0d r],[]⟩):=by
 refine z2b 133 Tryz.func113 Z Z Z fun H w=>?_
 refine gSR<|Eb Z (bx 1 Z) fun v1=>Zb Z<|z7e (fun (s2:Unit) aa ww=>Sta (ctx 133 H [] w) [(1,.val (z04 v1 0))] [(1,some (v1,.box 25 [.rd z01 a0]))] aa ww) ?_ (fun s2=>?_)
 ·
  refine gSR<|Zb Z<|z1t (fun (s3:Int) aa ww=>Sta (ctx 133 H [] w) [(1,.val (z04 v1 0)),(3,.rd z0d s3)] [(1,some (v1,.box 25 [.rd z01 a0]))] aa ww) (fun aa ww h=>h.sub [1] (sS Z<|sS Z<|sN) (y1 Z)) (fun s3=>?_)
  refine z0p<|gSR<|Zm Z<|Zq (faB 1 Z Z Tryz.underlying25 Z (by exact z5l))<|Zq (ld 1 Z Z (fP (z09 _)) z71 Z)<|Zq (z3e Z .rd Z tu22)<|Zq (I.lss Z Z)<|Zj Z (fun h4=>?_) (fun h4=>?_)
  ·
   refine Zt<|z0p<|z4t<|z0p<|z8h [] mixed Z Z<|hTk 0 Z Z (faB 1 Z Z Tryz.underlying25 Z (by exact z5l))<|hTk 1 Z Z (ld 1 Z Z (fP (z09 _)) z71 Z)<|hTk 2 Z Z (mv Z)<|hTk 3 Z Z (I.sub Z Z)<|z5h fun x5 h6=>hTk 4 Z Z (ixR Z Z h6 tu22 z23 Z)<|hTk 5 Z Z (ldR Z z3s)<|hTk 6 Z Z (faB 1 Z Z Tryz.underlying25 Z (by exact z5l))<|hTk 7 Z Z (ld 1 Z Z (fP (z09 _)) z71 Z)<|hTk 8 Z Z (mv Z)<|z5h fun x7 h8=>hTk 9 Z Z (ixR Z Z h8 tu22 z23 Z)<|hTk 10 Z Z (ldR Z z3s)<|z3v 11 [] [] Z (by kernel_rfl) Z (gd0 Z) Z Tryz.func105 Z Z (zb4 _ _) (Y2 Z Z) rN Z (fun _ _=>z30) fun r9 n10=>hTk 12 Z Z (I.geq Z Z)<|z4s (by kernel_rfl)<|z0k<|gIf Z Z (fun h11=>?_) (fun h11=>?_)
   ·
    refine gSR<|Zb Z<|z0l<|z3t<|z0v<|z6o<|z6l<|zbm [] [] Z (eE Z<|eN) (rN)
   ·
    refine z2d<|z2v<|z0k<|z2a<|Zm Z<|Zq (I.add Z Z)<|Za Z<|z1q<|z1d (fun aa ww h=>h.sub [1] (sS Z<|sS Z<|sN) (y1 Z))
  ·
   refine z1p<|z0w<|z0x<|z6h (fun aa ww h=>h.sub [1] (sS Z<|sN) (y1 Z))
 ·
  refine gSR<|Zq (faB 1 Z Z Tryz.underlying25 Z (by exact zad))<|Zq (ld 1 Z Z (fP (z0a _)) zea Z)<|Zq (z3e Z .rd Z tu23)<|z0n fun x12 h13=>Ef Z (mks (R:=z0d) 44 Z Z h13 tu142 ti3 (Zr.num Z) Z) fun v14=>Zb Z<|gSR<|Zq (faB 1 Z Z Tryz.underlying25 Z (by exact zad))<|Zq (ld 1 Z Z (fP (z0a _)) zea Z)<|Zq (z3e Z .rd Z tu23)<|z0n fun x15 h16=>Ef Z (mksF 45 Z Z h16 Tryz.underlying178 z14m Z) fun v17=>z1a4 (base:=100000) (lits:=[(1,some (v1,.box 25 [.rd z01 a0])),(44,some (v14,.list z0d 3 x12)),(45,some (v17,.list zjk 142 (zcj (fun _=>Value.slice none 0 0) x15)))]) z0d 3 [1,44,45] (z16z h16) (Zi Z<|Zi Z<|Zi Z<|rN)<|Zb Z<|gSR<|Zb Z<|z7e (fun (s18:(List Int) × (List (List Int)) × (List Int)) aa ww=>∃ nv:Nat→Value,Sta (ctx 133 H [] w) [(1,.val (z04 v1 0)),(4,.val v14),(5,.val v17),(6,.val (nv 0))] ([(1,some (v1,.box 25 [.rd z01 a0])),(44,some (v14,.list z0d 3 s18.1)),(45,some (v17,.list zjk 142 (zcj (fun j=>nv (j+1)) s18.2.1))),(50,some ((nv 0),.list z0d 3 s18.2.2))]++zs1 100000 z0d 3 (fun j=>nv (j+1)) s18.2.1 0) aa ww) ?_ (fun s18=>?_)
  ·
   refine gSR<|Zq (faB 1 Z Z Tryz.underlying25 Z (by exact zad))<|Zq (ld 1 Z Z (fP (z0a _)) zea Z)<|Zq (z3e Z .rd Z tu23)<|Zm Z<|Zn<|zup z0d 3 56<|z1t (fun (s19:(List Int) × (List (List Int)) × (List Int) × Int) aa ww=>∃ nv:Nat→Value,Sta (ctx 133 H [] w) [(1,.val (z04 v1 0)),(4,.val v14),(5,.val v17),(6,.val (nv 0)),(45,.rd (z02 z03) a0.Ops),(46,.rd z0d (a0.Ops.length:Int)),(47,.rd z0d s19.2.2.2)] ([(1,some (v1,.box 25 [.rd z01 a0])),(44,some (v14,.list z0d 3 s19.1)),(45,some (v17,.list zjk 142 (zcj (fun j=>nv (j+1)) s19.2.1))),(55,some ((nv 0),.list z0d 3 s19.2.2.1))]++zs1 100000 z0d 3 (fun j=>nv (j+1)) s19.2.1 0) aa ww) (fun aa ww h=>⟨nvlF [(.slice none 0 0)] (fun _=>Value.slice none 0 0),h.subF (by repeat (first | refine z8g.cons Z ?_ | exact z8g.tail)) [1,44,45,56] (Zs Z Z Z Z<|sS Z<|sS Z<|sS Z<|sN) (Zi Z<|Zi Z<|Zi Z<|Zi Z<|rN) rfl⟩) (fun s19=>?_)
   refine gEx fun n20=>gSR<|Zq (I.lss Z Z)<|Zn<|z0p<|gIf Z Z (fun h21=>?_) (fun h21=>?_)
   ·
    refine Zt<|z0p<|z4t<|gSR<|Zm Z<|z0n fun x22 h23=>Zq (ixR Z Z h23 tu23 z64 Z)<|Zq (ldR Z zaa)<|Eb Z (z5o 57 z64 (ZrE.rd (R:=z0q) (x:=0) (Zr.num Z) (ZrE.nilS (ZrE.rd (R:=z2c) (x:=0) (Zr.num Z) (ZrE.rd (R:=z0f) (x:=(⟨0,[],(⟨0,0,0,[]⟩:z06)⟩:z0i)) znv (ZrE.rd (R:=z0g) (x:=(⟨0,0⟩:z0c)) zn4 ZrE.nil Z) Z) Z)) Z)) fun v24=>Za Z<|zcg aZ [.rd z0q 0,.rd (z02 aZ) [],.rd z2c 0,.rd z0f (⟨0,[],(⟨0,0,0,[]⟩:z06)⟩:z0i),.rd z0g (⟨0,0⟩:z0c)] 57 [.rd z0q 0] [.rd z2c 0,.rd z0f (⟨0,[],(⟨0,0,0,[]⟩:z06)⟩:z0i),.rd z0g (⟨0,0⟩:z0c)] Z Z Z<|zec (R:=z03) (⟨0,[],0,(⟨0,[],(⟨0,0,0,[]⟩:z06)⟩:z0i),(⟨0,0⟩:z0c)⟩:z08) 57 Z (Sp.via (Sp.prod (Sp.prod (Sp.prod (Sp.prod (Sp.prod Sp.unit))))))<|Es (sto 57 Z Z fH Z z64)<|Zn<|z7e (fun (s25:(List (List Int))) aa ww=>∃ nv:Nat→Value,Sta (ctx 133 H [] w) [(1,.val (z04 v1 0)),(4,.val v14),(5,.val v17),(6,.val (n20 0)),(7,.rd z0d s19.2.2.2),(8,.val (z04 v24 0)),(45,.rd (z02 z03) a0.Ops),(46,.rd z0d (a0.Ops.length:Int)),(47,.rd z0d s19.2.2.2)] ([(1,some (v1,.box 25 [.rd z01 a0])),(44,some (v14,.list z0d 3 s19.1)),(45,some (v17,.list zjk 142 (zcj (fun j=>nv (j+0)) s25))),(55,some ((n20 0),.list z0d 3 s19.2.2.1)),(57,some (v24,.box 73 [.rd z03 x22]))]++zs1 100000 z0d 3 (fun j=>nv (j+0)) s25 0) aa ww) ?_ (fun s25=>?_)
    ·
     refine gSR<|Zq (faB 57 Z Z Tryz.underlying73 Z (by exact z5l))<|Zq (ld 57 Z Z (fP (z0y _)) z71 Z)<|Zq (z3e Z .rd Z tu22)<|Zm Z<|Zn<|z1t (fun (s26:(List (List Int)) × Int) aa ww=>∃ nv:Nat→Value,Sta (ctx 133 H [] w) [(1,.val (z04 v1 0)),(4,.val v14),(5,.val v17),(6,.val (n20 0)),(7,.rd z0d s19.2.2.2),(8,.val (z04 v24 0)),(45,.rd (z02 z03) a0.Ops),(46,.rd z0d (a0.Ops.length:Int)),(47,.rd z0d s19.2.2.2),(53,.rd (z02 aZ) x22.Preds),(54,.rd z0d (x22.Preds.length:Int)),(55,.rd z0d s26.2)] ([(1,some (v1,.box 25 [.rd z01 a0])),(44,some (v14,.list z0d 3 s19.1)),(45,some (v17,.list zjk 142 (zcj (fun j=>nv (j+0)) s26.1))),(55,some ((n20 0),.list z0d 3 s19.2.2.1)),(57,some (v24,.box 73 [.rd z03 x22]))]++zs1 100000 z0d 3 (fun j=>nv (j+0)) s26.1 0) aa ww) (fun aa ww h=>⟨nvlF [] (fun j=>n20 (j+1)),h.subF (by repeat (first | refine z8g.cons Z ?_ | exact z8g.tail)) [1,44,45,55,57] (Zs Z Z Z Z<|Zs Z Z Z Z<|Zs Z Z Z Z<|sN) (Zi Z<|Zi Z<|Zi Z<|Zi Z<|Zi Z<|rN) rfl⟩) (fun s26=>?_)
     refine gEx fun n27=>gSR<|Zq (I.lss Z Z)<|Zn<|z0p<|gIf Z Z (fun h28=>?_) (fun h28=>?_)
     ·
      refine Zt<|z0p<|z4t<|gSR<|z0n fun x29 h30=>Zq (ixR Z Z h30 tu22 z23 Z)<|Zq (ldR Z z3s)<|Eb Z (z5o 58 z23 (.zr (R:=aZ) (x:=(Vector.replicate 32 0)) zge)) fun v31=>Es (sto 58 Z Z fH Z z23)<|Zn<|gSR<|Zq (ld 1 Z Z fH z4d Z)<|Zq (ld 58 Z Z fH z3s Z)<|call [] [] Z Tryz.func65 Z Z (zex _ _) (Y2 Z Z) rN fun r32 n33=>Zm Z<|Zq (ext Z Z)<|Zq (ext Z Z)<|Za Z<|Zb Z<|z0p<|gSR<|Zm Z<|Zq (zf4 Z)<|Zj Z (fun h34=>?_) (fun h34=>?_)
      ·
       refine gSR<|Zb Z<|z0l<|z0v<|z3t<|z0v<|z6o<|z6l<|z3t<|z0v<|z6o<|z6l<|zbm [] [] Z (eE Z<|eN) (rN)
      ·
       refine Zt<|z2a<|Zm Z<|Zm Z<|Zm Z<|Zm Z<|z0n fun x35 h36=>Zq (ixO 45 Z Z Z (zr2 h36) Tryz.underlying178 z14m)<|Zq (ldF 45 Z Z h36 z17l Z)<|Zm Z<|Ef Z (lit (R:=z0d) ([s19.2.2.2]:List Int) 59 (pP Z Z<|pN) Z tu142 ti3 Z Z) fun v37=>z0n fun x38 h39=>lApF (base:=100000) (lits:=[(1,some (v1,.box 25 [.rd z01 a0])),(44,some (v14,.list z0d 3 s19.1)),(55,some ((n20 0),.list z0d 3 s19.2.2.1)),(57,some (v24,.box 73 [.rd z03 x22])),(58,some (v31,.box 62 [.rd aZ x29])),(59,some (v37,.list z0d 3 [s19.2.2.2]))]) 45 [1,44,55,57,58,59] (by repeat (first | refine z8g.cons Z ?_ | exact z8g.tail)) Z Z Z h36 Z Z Z Z (.own 59 Z) h39 Z (fun _ h=>by cases h; rfl) (fun _ h=>by cases h; rfl) Z Z tu142 ti3 Z Z Z Tryz.underlying178 z14m z17l (Zi Z<|Zi Z<|Zi Z<|Zi Z<|Zi Z<|Zi Z<|rN) Z fun v40=>z1q<|z2v<|z0k<|z2a<|Zq (I.add Z Z)<|Zm Z<|z1q<|z1d (fun aa ww h=>⟨nvlF [] (updF (fun j=>n27 (j+0)) (r32.1:Int).toNat v40),h.subF (by repeat (first | refine z8g.cons Z ?_ | exact z8g.tail)) [1,44,45,55,57] (Zs Z Z Z Z<|Zs Z Z Z Z<|Zs Z Z Z Z<|sN) (Zi Z<|Zi Z<|Zi Z<|Zi Z<|Zi Z<|rN) rfl⟩)
     ·
      refine z1p<|z0w<|z0x<|z6h (fun aa ww h=>⟨nvlF [] (fun j=>n27 (j+0)),h.subF (by repeat (first | refine z8g.cons Z ?_ | exact z8g.tail)) [1,44,45,55,57] (Zs Z Z Z Z<|Zs Z Z Z Z<|sS Z<|sN) (Zi Z<|Zi Z<|Zi Z<|Zi Z<|Zi Z<|rN) rfl⟩)
    ·
     refine gEx fun n41=>gSR<|Zm Z<|Zm Z<|Zq (faB 57 Z Z Tryz.underlying73 Z (by exact z5l))<|Zq (ld 57 Z Z (fP (z0y _)) z71 Z)<|Zq (z3e Z .rd Z tu22)<|z0n fun x42 h43=>Zq (ixO 44 Z Z Z h43 tu142 ti3)<|Es (sto 44 Z Z (Foc.el h43) Z ti3)<|Zn<|gSR<|Zm Z<|Zm Z<|z0n fun x44 h45=>Zq (ixO 44 Z Z Z h45 tu142 ti3)<|Zq (ld 44 Z Z (Foc.el h45) ty3 Z)<|Zq (I.eql Z Z)<|Zj Z (fun h46=>?_) (fun h46=>?_)
     ·
      refine z2a<|Zm Z<|Zm Z<|Ef Z (lit (R:=z0d) ([s19.2.2.2]:List Int) 60 (pP Z Z<|pN) Z tu142 ti3 Z Z) fun v47=>z0n fun x48 h49=>Ef Z (apn 55 Z Z Z (.own 60 Z) h49 tu142 ti3 Z Z Z) fun v50=>Za Z<|z1q<|z2v<|z0k<|z2a<|Zq (I.add Z Z)<|Zm Z<|z1q<|z1d (fun aa ww h=>⟨nvlF [v50] (fun j=>n41 (j+0)),h.subF (by repeat (first | refine z8g.cons Z ?_ | exact z8g.tail)) [1,44,45,55] (Zs Z Z Z Z<|sS Z<|sS Z<|sS Z<|sN) (Zi Z<|Zi Z<|Zi Z<|Zi Z<|rN) rfl⟩)
     ·
      refine z2d<|z2v<|z0k<|z2a<|Zq (I.add Z Z)<|Zm Z<|z1q<|z1d (fun aa ww h=>⟨nvlF [(n20 0)] (fun j=>n41 (j+0)),h.subF (by repeat (first | refine z8g.cons Z ?_ | exact z8g.tail)) [1,44,45,55] (Zs Z Z Z Z<|sS Z<|sS Z<|sS Z<|sN) (Zi Z<|Zi Z<|Zi Z<|Zi Z<|rN) rfl⟩)
   ·
    refine z1p<|z0w<|z0x<|z6h (fun aa ww h=>⟨nvlF [(n20 0)] (fun j=>n20 (j+1)),h.subF (by repeat (first | refine z8g.cons Z ?_ | exact z8g.tail)) [1,44,45,55] (Zs Z Z Z Z<|sN) (Zi Z<|Zi Z<|Zi Z<|Zi Z<|rN) rfl⟩)
  ·
   refine gEx fun n51=>gSR<|Zb Z<|z8i (fun (s52:Int) aa ww=>Sta (ctx 133 H [] w) [(1,.val (z04 v1 0)),(13,.rd z0d s52)] [(1,some (v1,.box 25 [.rd z01 a0]))] aa ww) ?_ (fun s52=>?_)
   ·
    refine z1ab (base:=100000) (T:=3) (lits:=[(1,some (v1,.box 25 [.rd z01 a0])),(44,some (v14,.list z0d 3 s18.1)),(50,some ((n51 0),.list z0d 3 s18.2.2))]) (by repeat (first | refine z8g.cons Z ?_ | exact z8g.tail)) 45 Z [1,44,50] (Zi Z<|Zi Z<|Zi Z<|rN) Z Z<|z1t (fun (s53:(List Int) × (List Int) × Int) aa ww=>∃ nv:Nat→Value,Sta (ctx 133 H [] w) [(1,.val (z04 v1 0)),(4,.val v14),(5,.val v17),(6,.val (nv 0)),(13,.rd z0d s53.2.2)] [(1,some (v1,.box 25 [.rd z01 a0])),(44,some (v14,.list z0d 3 s53.1)),(45,some (v17,.list (z02 z0d) 142 s18.2.1)),(50,some ((nv 0),.list z0d 3 s53.2.1))] aa ww) (fun aa ww h=>⟨nvl [(n51 0)],h.sub [1,44,45,50] (Zs Z Z Z Z<|sS Z<|sN) (Zi Z<|Zi Z<|Zi Z<|Zi Z<|rN)⟩) (fun s53=>?_)
    refine gEx fun n54=>z0p<|gSR<|Zm Z<|Zm Z<|Zq (z3e Z (.own 50 Z) Z tu142)<|Zq (I.lss Z Z)<|Zj Z (fun h55=>?_) (fun h55=>?_)
    ·
     refine Zt<|z8i (fun (s56:(List Int) × (List Int)) aa ww=>∃ nv:Nat→Value,Sta (ctx 133 H [] w) [(1,.val (z04 v1 0)),(4,.val v14),(5,.val v17),(6,.val (nv 0)),(13,.rd z0d s53.2.2)] [(1,some (v1,.box 25 [.rd z01 a0])),(44,some (v14,.list z0d 3 s56.1)),(45,some (v17,.list (z02 z0d) 142 s18.2.1)),(50,some ((nv 0),.list z0d 3 s56.2))] aa ww) ?_ (fun s56=>?_)
     ·
      refine z4t<|gSR<|Zm Z<|Zm Z<|Zm Z<|z0n fun x57 h58=>Zq (ixO 50 Z Z Z h58 tu142 ti3)<|Zq (ld 50 Z Z (Foc.el h58) ty3 Z)<|z0n fun x59 h60=>Zq (ixO 45 Z Z Z h60 Tryz.underlying178 z14m)<|Zq (ld 45 Z Z (Foc.el h60) z17l Z)<|Zq (z3e Z .rd Z tu142)<|Zm Z<|Zn<|z1t (fun (s61:(List Int) × (List Int) × Int) aa ww=>∃ nv:Nat→Value,Sta (ctx 133 H [] w) [(1,.val (z04 v1 0)),(4,.val v14),(5,.val v17),(6,.val (nv 0)),(13,.rd z0d s53.2.2),(106,.rd (z02 z0d) x59),(107,.rd z0d (x59.length:Int)),(108,.rd z0d s61.2.2)] [(1,some (v1,.box 25 [.rd z01 a0])),(44,some (v14,.list z0d 3 s61.1)),(45,some (v17,.list (z02 z0d) 142 s18.2.1)),(50,some ((nv 0),.list z0d 3 s61.2.1))] aa ww) (fun aa ww h=>⟨nvl [(n54 0)],h.sub [1,44,45,50] (Zs Z Z Z Z<|Zs Z Z Z Z<|sN) (Zi Z<|Zi Z<|Zi Z<|Zi Z<|rN)⟩) (fun s61=>?_)
      refine gEx fun n62=>gSR<|Zq (I.lss Z Z)<|Zn<|z0p<|gIf Z Z (fun h63=>?_) (fun h63=>?_)
      ·
       refine Zt<|z0p<|z4t<|gSR<|z0n fun x64 h65=>Zq (ixR Z Z h65 tu142 ti3 Z)<|Zq (ldR Z ty3)<|Zb Z<|gSR<|Zm Z<|Zm Z<|z0n fun x66 h67=>Zq (ixO 44 Z Z Z h67 tu142 ti3)<|Zq (ld 44 Z Z (Foc.el h67) ty3 Z)<|Zq (I.sub Z Z)<|z0n fun x68 h69=>Zq (ixO 44 Z Z Z h69 tu142 ti3)<|Es (sto 44 Z Z (Foc.el h69) Z ti3)<|Zn<|gSR<|Zm Z<|Zm Z<|z0n fun x70 h71=>Zq (ixO 44 Z Z Z h71 tu142 ti3)<|Zq (ld 44 Z Z (Foc.el h71) ty3 Z)<|Zq (I.eql Z Z)<|Zj Z (fun h72=>?_) (fun h72=>?_)
       ·
        refine z2a<|Zm Z<|Zm Z<|Ef Z (lit (R:=z0d) ([x64]:List Int) 61 (pP Z Z<|pN) Z tu142 ti3 Z Z) fun v73=>z0n fun x74 h75=>Ef Z (apn 50 Z Z Z (.own 61 Z) h75 tu142 ti3 Z Z Z) fun v76=>Za Z<|z1q<|z2v<|z0k<|z2a<|Zq (I.add Z Z)<|Zm Z<|z1q<|z1d (fun aa ww h=>⟨nvl [v76],h.sub [1,44,45,50] (Zs Z Z Z Z<|Zs Z Z Z Z<|sN) (Zi Z<|Zi Z<|Zi Z<|Zi Z<|rN)⟩)
       ·
        refine z2d<|z2v<|z0k<|z2a<|Zq (I.add Z Z)<|Zm Z<|z1q<|z1d (fun aa ww h=>⟨nvl [(n62 0)],h.sub [1,44,45,50] (Zs Z Z Z Z<|Zs Z Z Z Z<|sN) (Zi Z<|Zi Z<|Zi Z<|Zi Z<|rN)⟩)
      ·
       refine z1p<|z0w<|z0x<|z2v<|z3m (fun aa ww h=>⟨nvl [(n62 0)],h.sub [1,44,45,50] (Zs Z Z Z Z<|sS Z<|sN) (Zi Z<|Zi Z<|Zi Z<|Zi Z<|rN)⟩)
     ·
      refine gEx fun n77=>z2a<|Zm Z<|Zq (I.add Z Z)<|Za Z<|z1n 13 Z fun y78=>z1q<|z1d (fun aa ww h=>⟨nvl [(n77 0)],h.sub [1,44,45,50] (Zs Z Z Z Z<|sS Z<|sN) (Zi Z<|Zi Z<|Zi Z<|Zi Z<|rN)⟩)
    ·
     refine z1p<|z0w<|z0x<|z3m (fun aa ww h=>h.sub [1] (sS Z<|sS Z<|sN) (y1 Z))
   ·
    refine z0p<|gSR<|Zm Z<|Zq (faB 1 Z Z Tryz.underlying25 Z (by exact zad))<|Zq (ld 1 Z Z (fP (z0a _)) zea Z)<|Zq (z3e Z .rd Z tu23)<|Zq (I.lss Z Z)<|Zj Z (fun h79=>?_) (fun h79=>?_)
    ·
     refine gSR<|Zb Z<|z0l<|z0v<|zbm [] [] Z (eE Z<|eN) (rN)
    ·
     refine Zt<|gSR<|Zb Z<|z0l<|zbm [] [] Z (eE Z<|eN) (rN)
def zdz (a0:z00) (s5:Int):Option (Sum (Sum Int Unit) Int) :=
 if decide (s5<(a0.Ops.length:Int)) then
  idx a0.Ops s5 >>= fun x7 =>
  z12g x7 >>= fun r10 =>
  (if r10.2 != 0 then
   some true
  else
   idx a0.IDs s5 >>= fun x15 =>
   if !decide (r10.1=x15) then
    some true
   else
    zin x7 >>= fun r18 =>
    some (r18 != 0)) >>= fun s13 =>
  if s13 then
   some (.inl (.inl 8))
  else
   some (.inr (w64 (s5+1)))
 else
  some (.inl (.inr ()))
def z18 (a0:z00):Option (Int) :=
 if decide (60<(a0.Ops.length:Int)) then
  some 4
 else
  if (a0.IDs.length:Int) != (a0.Ops.length:Int) then
   some 8
  else
   z58 (iter (zdz a0) 0) fun s4 =>
   zlz a0 >>= fun r21 =>
   some r21
theorem zau (a0:z00):z1s Tryz.prog 74 [.rd z01 a0] [zG1] (z18 a0) (fun r nv=>⟨[.rd z0d r],[(1001,some (.bool true,.glob 1 (z3j 64 z0q) z6a))]⟩):=by
 refine z2b 50 Tryz.func74 Z Z Z fun H w=>?_
 refine gSR<|Eb Z (bx 1 Z) fun v1=>Zb Z<|z0p<|gSR<|Zq (faB 1 Z Z Tryz.underlying25 Z (by exact zad))<|Zq (ld 1 Z Z (fP (z0a _)) zea Z)<|Zq (z3e Z .rd Z tu23)<|Zq (I.gtr Z Z)<|Zj Z (fun h2=>?_) (fun h2=>?_)
 ·
  refine gSR<|Zb Z<|z0l<|z0v<|Ze [] [1001] Z
 ·
  refine Zt<|z0p<|gSR<|Zq (faB 1 Z Z Tryz.underlying25 Z (by exact z5l))<|Zq (ld 1 Z Z (fP (z09 _)) z71 Z)<|Zq (z3e Z .rd Z tu22)<|Zq (faB 1 Z Z Tryz.underlying25 Z (by exact zad))<|Zq (ld 1 Z Z (fP (z0a _)) zea Z)<|Zq (z3e Z .rd Z tu23)<|Zq (I.neq Z Z)<|Zj Z (fun h3=>?_) (fun h3=>?_)
  ·
   refine gSR<|Zb Z<|z0l<|z0v<|Ze [] [1001] Z
  ·
   refine Zt<|z7e (fun (s4:Unit) aa ww=>Sta (ctx 50 H [zG1] w) [(1,.val (z04 v1 0))] [(1,some (v1,.box 25 [.rd z01 a0])),zG1] aa ww) ?_ (fun s4=>?_)
   ·
    refine gSR<|Zq (faB 1 Z Z Tryz.underlying25 Z (by exact zad))<|Zq (ld 1 Z Z (fP (z0a _)) zea Z)<|Zq (z3e Z .rd Z tu23)<|Zm Z<|Zn<|z1t (fun (s5:Int) aa ww=>Sta (ctx 50 H [zG1] w) [(1,.val (z04 v1 0)),(19,.rd (z02 z03) a0.Ops),(20,.rd z0d (a0.Ops.length:Int)),(21,.rd z0d s5)] [(1,some (v1,.box 25 [.rd z01 a0])),zG1] aa ww) (fun aa ww h=>Zu h [1,1001]) (fun s5=>?_)
    refine gSR<|Zq (I.lss Z Z)<|Zn<|z0p<|gIf Z Z (fun h6=>?_) (fun h6=>?_)
    ·
     refine Zt<|z0p<|z4t<|gSR<|Zm Z<|z0n fun x7 h8=>Zq (ixR Z Z h8 tu23 z64 Z)<|Zq (ldR Z zaa)<|Eb Z (z5o 1100 z64 (ZrE.rd (R:=z0q) (x:=0) (Zr.num Z) (ZrE.nilS (ZrE.rd (R:=z2c) (x:=0) (Zr.num Z) (ZrE.rd (R:=z0f) (x:=(⟨0,[],(⟨0,0,0,[]⟩:z06)⟩:z0i)) znv (ZrE.rd (R:=z0g) (x:=(⟨0,0⟩:z0c)) zn4 ZrE.nil Z) Z) Z)) Z)) fun v9=>Za Z<|zcg aZ [.rd z0q 0,.rd (z02 aZ) [],.rd z2c 0,.rd z0f (⟨0,[],(⟨0,0,0,[]⟩:z06)⟩:z0i),.rd z0g (⟨0,0⟩:z0c)] 1100 [.rd z0q 0] [.rd z2c 0,.rd z0f (⟨0,[],(⟨0,0,0,[]⟩:z06)⟩:z0i),.rd z0g (⟨0,0⟩:z0c)] Z Z Z<|zec (R:=z03) (⟨0,[],0,(⟨0,[],(⟨0,0,0,[]⟩:z06)⟩:z0i),(⟨0,0⟩:z0c)⟩:z08) 1100 Z (Sp.via (Sp.prod (Sp.prod (Sp.prod (Sp.prod (Sp.prod Sp.unit))))))<|Es (sto 1100 Z Z fH Z z64)<|Zn<|gSR<|Zq (ld 1100 Z Z fH zaa Z)<|Zc [1001] [] Tryz.func111 Z (zw2 _) fun r10 n11=>Zm Z<|Zq (ext Z Z)<|Zq (ext Z Z)<|Eb Z (z5o 1101 z23 (.zr (R:=aZ) (x:=(Vector.replicate 32 0)) zge)) fun v12=>Es (sto 1101 Z Z fH Z z23)<|Zb Z<|z8i (fun (s13:Bool) aa ww=>Sta (ctx 50 H [zG1] w) [(1,.val (z04 v1 0)),(19,.rd (z02 z03) a0.Ops),(20,.rd z0d (a0.Ops.length:Int)),(21,.rd z0d s5),(46,.rd z0j s13)] [(1,some (v1,.box 25 [.rd z01 a0])),zG1] aa ww) ?_ (fun s13=>?_)
     ·
      refine z8h [1001] mixed Z Z<|hTk 0 Z Z (mv Z)<|hTk 1 Z Z (I.neq Z Z)<|hTk 2 Z Z (mv Z)<|hIf 33 Z Z (fun h14=>?_) (fun h14=>?_)
      ·
       refine hKn 32 Z Z h14<|hSk 3 Z Z<|hSk 4 Z Z<|hSk 5 Z Z<|hSk 6 Z Z<|hSk 7 Z Z<|hSk 8 Z Z<|hSk 9 Z Z<|hTk 10 Z Z (pkT Z Z)<|hTk 11 Z Z (mv Z)<|hSk 12 Z Z<|hSk 13 Z Z<|hSk 14 Z Z<|hTk 15 Z Z (pkT Z Z)<|z4s (by kernel_rfl)<|z3m (fun aa ww h=>Zu h [1,1001])
      ·
       refine hKn 32 Z Z h14<|Zg 3 Z Z (ld 1101 Z Z fH z3s Z)<|Zg 4 Z Z (faB 1 Z Z Tryz.underlying25 Z (by exact z5l))<|Zg 5 Z Z (ld 1 Z Z (fP (z09 _)) z71 Z)<|Zg 6 Z Z (mv Z)<|z5h fun x15 h16=>Zg 7 Z Z (ixR Z Z h16 tu22 z23 Z)<|Zg 8 Z Z (ldR Z z3s)<|Zg 9 Z Z (neA Z Z eq62 Z Z gq62)<|hTk 10 Z Z (pkF Z Z)<|hTk 11 Z Z (mv Z)<|hIf 42 Z Z (fun h17=>?_) (fun h17=>?_)
       ·
        refine hKn 40 Z Z h17<|hKn 41 Z Z h17<|hSk 12 Z Z<|hSk 13 Z Z<|hSk 14 Z Z<|hTk 15 Z Z (pkT Z Z)<|z4s (by kernel_rfl)<|z3m (fun aa ww h=>Zu h [1,1001])
       ·
        refine hKn 40 Z Z h17<|hKn 41 Z Z h17<|Zg 12 Z Z (ld 1100 Z Z fH zaa Z)<|z3v 13 [1001] [] Z (by kernel_rfl) Z Zx Z Tryz.func112 Z Z (zn8 _) (Y1 Z) (y1 Z) Z (fun _ _=>z30) fun r18 n19=>Zg 14 Z Z (I.neq Z Z)<|hTk 15 Z Z (pkF Z Z)<|z4s (by kernel_rfl)<|z3m (fun aa ww h=>Zu h [1,1001])
     ·
      refine gIf Z Z (fun h20=>?_) (fun h20=>?_)
      ·
       refine gSR<|Zb Z<|z0l<|z3t<|z0v<|z6o<|z6l<|Ze [] [1001] Z
      ·
       refine z2d<|z2v<|z0k<|z2a<|Zq (I.add Z Z)<|Zm Z<|z1q<|z1d (fun aa ww h=>Zu h [1,1001])
    ·
     refine z1p<|z0w<|z0x<|z6h (fun aa ww h=>Zu h [1,1001])
   ·
    refine gSR<|Zq (ld 1 Z Z fH z4d Z)<|Zc [] [] Tryz.func113 Z (zsy _) fun r21 n22=>Zb Z<|z0l<|Ze [] [1001] Z
def z9u (a0:List V3) (a1:V3) (s3:Int):Option (Sum (Sum Int Unit) Int) :=
 if decide (s3<(a0.length:Int)) then
  idx a0 s3 >>= fun x5 =>
  if decide (x5=a1) then
   some (.inl (.inl s3))
  else
   some (.inr (w64 (s3+1)))
 else
  some (.inl (.inr ()))
def z33 (a0:List V3) (a1:V3):Option (Int) :=
 z58 (iter (z9u a0 a1) 0) fun s2 =>
 some (-1)
theorem z9r (a0:List V3) (a1:V3):z1s Tryz.prog 34 [.rd (z02 aZ) a0,.rd aZ a1] [] (z33 a0 a1) (fun r nv=>⟨[.rd z0d r],[]⟩):=by
 refine z2b 19 Tryz.func34 Z Z Z fun H w=>?_
 refine gSR<|Eb Z (bx 1 Z) fun v1=>Zb Z<|z7e (fun (s2:Unit) aa ww=>Sta (ctx 19 H [] w) [] [] aa ww) ?_ (fun s2=>?_)
 ·
  refine gSR<|Zb Z<|z1t (fun (s3:Int) aa ww=>Sta (ctx 19 H [] w) [(0,.rd (z02 aZ) a0),(3,.val (z04 v1 0)),(5,.rd z0d s3)] [(1,some (v1,.box 62 [.rd aZ a1]))] aa ww) (fun aa ww h=>Zu h [1]) (fun s3=>?_)
  refine z0p<|gSR<|Zm Z<|Zm Z<|Zq (z3e Z .rd Z tu22)<|Zq (I.lss Z Z)<|Zj Z (fun h4=>?_) (fun h4=>?_)
  ·
   refine Zt<|z0p<|z4t<|z0p<|zik mixed (by kernel_rfl)<|Rq Z (mv Z)<|Rq Z (mv Z)<|z8t fun x5 h6=>Rq Z (ixR Z Z h6 tu22 z23 Z)<|Rq Z (ldR Z z3s)<|Rq Z (ld 1 Z Z fH z3s Z)<|Rq Z (eqA Z Z eq62 Z Z gq62)<|zt9<|z0k<|gIf Z Z (fun h7=>?_) (fun h7=>?_)
   ·
    refine gSR<|Zm Z<|Zb Z<|z0l<|z3t<|z0v<|z6o<|z6l<|Ze [] [] Z
   ·
    refine z2d<|z2v<|z0k<|z2a<|Zm Z<|Zq (I.add Z Z)<|Za Z<|z1q<|z1d (fun aa ww h=>Zu h [1])
  ·
   refine z1p<|z0w<|z0x<|z6h (fun aa ww h=>Zu h [])
 ·
  refine gSR<|Zb Z<|z0l<|Ze [] [] Z
def z8s (a0:List V3) (a1:List V3) (s2:Int):Option (Sum (Sum Bool Unit) Int) :=
 if decide (s2<(a1.length:Int)) then
  idx a1 s2 >>= fun x4 =>
  z33 a0 x4 >>= fun r6 =>
  if decide (r6<0) then
   some (.inl (.inl false))
  else
   some (.inr (w64 (s2+1)))
 else
  some (.inl (.inr ()))
def z3d (a0:List V3) (a1:List V3):Option (Bool) :=
 z58 (iter (z8s a0 a1) 0) fun s1 =>
 some true
theorem zgs (a0:List V3) (a1:List V3):z1s Tryz.prog 31 [.rd (z02 aZ) a0,.rd (z02 aZ) a1] [] (z3d a0 a1) (fun r nv=>⟨[.rd z0j r],[]⟩):=by
 refine z2b 19 Tryz.func31 Z Z Z fun H w=>?_
 refine gSR<|Zb Z<|z7e (fun (s1:Unit) aa ww=>Sta (ctx 19 H [] w) [] [] aa ww) ?_ (fun s1=>?_)
 ·
  refine gSR<|Zb Z<|z1t (fun (s2:Int) aa ww=>Sta (ctx 19 H [] w) [(0,.rd (z02 aZ) a0),(1,.rd (z02 aZ) a1),(5,.rd z0d s2)] [] aa ww) (fun aa ww h=>Zu h []) (fun s2=>?_)
  refine z0p<|gSR<|Zm Z<|Zm Z<|Zq (z3e Z .rd Z tu22)<|Zq (I.lss Z Z)<|Zj Z (fun h3=>?_) (fun h3=>?_)
  ·
   refine Zt<|z0p<|z4t<|gSR<|Zm Z<|Zm Z<|Zm Z<|z0n fun x4 h5=>Zq (ixR Z Z h5 tu22 z23 Z)<|Zq (ldR Z z3s)<|Zc [] [] Tryz.func34 Z (z9r _ _) fun r6 n7=>Zq (I.lss Z Z)<|Zj Z (fun h8=>?_) (fun h8=>?_)
   ·
    refine gSR<|Zb Z<|z0l<|z3t<|z0v<|z6o<|z6l<|Ze [] [] Z
   ·
    refine z2d<|z2v<|z0k<|z2a<|Zm Z<|Zq (I.add Z Z)<|Za Z<|z1q<|z1d (fun aa ww h=>Zu h [])
  ·
   refine z1p<|z0w<|z0x<|z6h (fun aa ww h=>Zu h [])
 ·
  refine gSR<|Zb Z<|z0l<|Ze [] [] Z
theorem zkd (a0:List V3) (q0:Value) (l0:List V3) (a1:V3):z1s Tryz.prog 34 [.vw aZ q0 l0 a0,.rd aZ a1] [(1,some (q0,.list aZ 62 l0))] (z33 a0 a1) (fun r nv=>⟨[.rd z0d r],[(1,some (q0,.list aZ 62 l0))]⟩):=by
 refine z2b 19 Tryz.func34 Z Z Z fun H w=>?_
 refine gSR<|Eb Z (bx 2 Z) fun v1=>Zb Z<|z7e (fun (s2:Unit) aa ww=>Sta (ctx 19 H [(1,some (q0,.list aZ 62 l0))] w) [] [(1,some (q0,.list aZ 62 l0))] aa ww) ?_ (fun s2=>?_)
 ·
  refine gSR<|Zb Z<|z1t (fun (s3:Int) aa ww=>Sta (ctx 19 H [(1,some (q0,.list aZ 62 l0))] w) [(0,.vw aZ q0 l0 a0),(3,.val (z04 v1 0)),(5,.rd z0d s3)] [(1,some (q0,.list aZ 62 l0)),(2,some (v1,.box 62 [.rd aZ a1]))] aa ww) (fun aa ww h=>Zu h [1,2]) (fun s3=>?_)
  refine z0p<|gSR<|Zm Z<|Zm Z<|Zq (z3e Z (.vw 1 Z) Z tu22)<|Zq (I.lss Z Z)<|Zj Z (fun h4=>?_) (fun h4=>?_)
  ·
   refine Zt<|z0p<|z4t<|z0p<|zik mixed (by kernel_rfl)<|Rq Z (mv Z)<|Rq Z (mv Z)<|z8t fun x5 h6=>Rq Z (ixQ 1 Z Z Z h6 tu22 z23)<|Rq Z (ldQ 1 Z Z z3s Z)<|Rq Z (ld 2 Z Z fH z3s Z)<|Rq Z (eqA Z Z eq62 Z Z gq62)<|zt9<|z0k<|gIf Z Z (fun h7=>?_) (fun h7=>?_)
   ·
    refine gSR<|Zm Z<|Zb Z<|z0l<|z3t<|z0v<|z6o<|z6l<|Ze [] [1] Z
   ·
    refine z2d<|z2v<|z0k<|z2a<|Zm Z<|Zq (I.add Z Z)<|Za Z<|z1q<|z1d (fun aa ww h=>Zu h [1,2])
  ·
   refine z1p<|z0w<|z0x<|z6h (fun aa ww h=>Zu h [1])
 ·
  refine gSR<|Zb Z<|z0l<|Ze [] [1] Z
theorem zjc (a0:List V3) (q0:Value) (l0:List V3) (a1:List V3):z1s Tryz.prog 31 [.vw aZ q0 l0 a0,.rd (z02 aZ) a1] [(1,some (q0,.list aZ 62 l0))] (z3d a0 a1) (fun r nv=>⟨[.rd z0j r],[(1,some (q0,.list aZ 62 l0))]⟩):=by
 refine z2b 19 Tryz.func31 Z Z Z fun H w=>?_
 refine gSR<|Zb Z<|z7e (fun (s1:Unit) aa ww=>Sta (ctx 19 H [(1,some (q0,.list aZ 62 l0))] w) [] [(1,some (q0,.list aZ 62 l0))] aa ww) ?_ (fun s1=>?_)
 ·
  refine gSR<|Zb Z<|z1t (fun (s2:Int) aa ww=>Sta (ctx 19 H [(1,some (q0,.list aZ 62 l0))] w) [(0,.vw aZ q0 l0 a0),(1,.rd (z02 aZ) a1),(5,.rd z0d s2)] [(1,some (q0,.list aZ 62 l0))] aa ww) (fun aa ww h=>Zu h [1]) (fun s2=>?_)
  refine z0p<|gSR<|Zm Z<|Zm Z<|Zq (z3e Z .rd Z tu22)<|Zq (I.lss Z Z)<|Zj Z (fun h3=>?_) (fun h3=>?_)
  ·
   refine Zt<|z0p<|z4t<|gSR<|Zm Z<|Zm Z<|Zm Z<|z0n fun x4 h5=>Zq (ixR Z Z h5 tu22 z23 Z)<|Zq (ldR Z z3s)<|Zc [1] [(1,1)] Tryz.func34 Z (zkd _ _ _ _) fun r6 n7=>Zq (I.lss Z Z)<|Zj Z (fun h8=>?_) (fun h8=>?_)
   ·
    refine gSR<|Zb Z<|z0l<|z3t<|z0v<|z6o<|z6l<|Ze [] [1] Z
   ·
    refine z2d<|z2v<|z0k<|z2a<|Zm Z<|Zq (I.add Z Z)<|Za Z<|z1q<|z1d (fun aa ww h=>Zu h [1])
  ·
   refine z1p<|z0w<|z0x<|z6h (fun aa ww h=>Zu h [1])
 ·
  refine gSR<|Zb Z<|z0l<|Ze [] [1] Z
def z43 (a0:z00) (s6:(List Int) × (List V3) × (List Bool) × Bool) (s9:Int):Option (Sum (Sum ((List Int)) ((List Int) × (List V3) × (List Bool) × Bool)) Int) :=
 if decide (s9<(a0.Ops.length:Int)) then
  (idx s6.2.2.1 s9 >>= fun x12 =>
  if !x12 then
   idx a0.Ops s9 >>= fun x15 =>
   z3d s6.2.1 x15.Preds >>= fun r17 =>
   some r17
  else
   some false) >>= fun s11 =>
  if s11 then
   app 8 s6.1 [s9] >>= fun x20 =>
   idx a0.IDs s9 >>= fun x22 =>
   app 32 s6.2.1 [x22] >>= fun x24 =>
   idx s6.2.2.1 s9 >>= fun x26 =>
   some (.inl (.inr (x20,x24,s6.2.2.1.set (s9:Int).toNat true,true)))
  else
   some (.inr (w64 (s9+1)))
 else
  some (.inl (.inr (s6.1,s6.2.1,s6.2.2.1,false)))
def z47 (a0:z00) (s6:(List Int) × (List V3) × (List Bool) × Bool):Option (Sum ((List Int)) ((List Int) × (List V3) × (List Bool) × Bool)) :=
 if s6.2.2.2 then
  iter (z43 a0 s6) 0
 else
  some (.inl s6.1)
def z4w (a0:z00):Option ((List Int)) :=
 mkn 1 false (a0.Ops.length:Int) >>= fun x2 =>
 (iter (z47 a0) ([],[],x2,true)) >>= fun s5 =>
 some s5
set_option maxHeartbeats 4000000 in
theorem zk6 (a0:z00):z1s Tryz.prog 109 [.rd z01 a0] [] (z4w a0) (fun r nv=>⟨[.val (nv 0)],[(100,some (nv 0,.list z0d 3 r))]⟩):=by
 refine z2b 51 Tryz.func109 Z Z Z fun H w=>?_
 refine gSR<|Eb Z (bx 1 Z) fun v1=>Zb Z<|gSR<|Zb Z<|gSR<|Zb Z<|gSR<|Zq (faB 1 Z Z Tryz.underlying25 Z (by exact zad))<|Zq (ld 1 Z Z (fP (z0a _)) zea Z)<|Zq (z3e Z .rd Z tu23)<|z0n fun x2 h3=>Ef Z (mks (R:=z0j) 2 Z Z h3 tu152 ti4 Zr.bool Z) fun v4=>Zb Z<|z8i (fun (s5:(List Int)) aa ww=>∃ nv:Nat→Value,Sta (ctx 51 H [] w) [(3,.val (nv 0))] [(3,some ((nv 0),.list z0d 3 s5))] aa ww) ?_ (fun s5=>?_)
 ·
  refine gSR<|Zb Z<|zup z0d 3 6<|zup aZ 62 7<|z1t (fun (s6:(List Int) × (List V3) × (List Bool) × Bool) aa ww=>∃ nv:Nat→Value,Sta (ctx 51 H [] w) [(1,.val (z04 v1 0)),(3,.val (nv 0)),(4,.val (nv 1)),(5,.val v4),(6,.rd z0j s6.2.2.2)] [(1,some (v1,.box 25 [.rd z01 a0])),(4,some ((nv 0),.list z0d 3 s6.1)),(5,some ((nv 1),.list aZ 62 s6.2.1)),(2,some (v4,.list z0j 4 s6.2.2.1))] aa ww) (fun aa ww h=>⟨nvl [(.slice none 0 0),(.slice none 0 0)],Zu h [1,6,7,2]⟩) (fun s6=>?_)
  refine gEx fun n7=>z0p<|gSR<|Zm Z<|Zj Z (fun h8=>?_) (fun h8=>?_)
  ·
   refine gKn 6 Z h8<|Zt<|z4t<|gSR<|Zb Z<|gSR<|Zb Z<|z1t (fun (s9:Int) aa ww=>Sta (ctx 51 H [] w) [(1,.val (z04 v1 0)),(3,.val (n7 0)),(4,.val (n7 1)),(5,.val v4),(6,.rd z0j false),(7,.rd z0d s9)] [(1,some (v1,.box 25 [.rd z01 a0])),(4,some ((n7 0),.list z0d 3 s6.1)),(5,some ((n7 1),.list aZ 62 s6.2.1)),(2,some (v4,.list z0j 4 s6.2.2.1))] aa ww) (fun aa ww h=>Zu h [1,4,5,2]) (fun s9=>?_)
   refine z0p<|gSR<|Zm Z<|Zq (faB 1 Z Z Tryz.underlying25 Z (by exact zad))<|Zq (ld 1 Z Z (fP (z0a _)) zea Z)<|Zq (z3e Z .rd Z tu23)<|Zq (I.lss Z Z)<|Zj Z (fun h10=>?_) (fun h10=>?_)
   ·
    refine Zt<|z0p<|z4t<|z8i (fun (s11:Bool) aa ww=>Sta (ctx 51 H [] w) [(1,.val (z04 v1 0)),(3,.val (n7 0)),(4,.val (n7 1)),(5,.val v4),(6,.rd z0j false),(7,.rd z0d s9),(34,.rd z0j s11)] [(1,some (v1,.box 25 [.rd z01 a0])),(4,some ((n7 0),.list z0d 3 s6.1)),(5,some ((n7 1),.list aZ 62 s6.2.1)),(2,some (v4,.list z0j 4 s6.2.2.1))] aa ww) ?_ (fun s11=>?_)
    ·
     refine z2a<|Zm Z<|Zm Z<|z0n fun x12 h13=>Zq (ixO 2 Z Z Z h13 tu152 ti4)<|Zq (ld 2 Z Z (Foc.el h13) ty4 Z)<|Zq (zf4 Z)<|Zm Z<|z1l 25 Z (fun h14=>?_) (fun h14=>?_)
     ·
      refine lKn 24 Z h14<|z1a Zx Z Z (mv Z)<|z1a Zx Z Z (faB 1 Z Z Tryz.underlying25 Z (by exact zad))<|z1a Zx Z Z (ld 1 Z Z (fP (z0a _)) zea Z)<|z1a Zx Z Z (mv Z)<|z0n fun x15 h16=>z1a Zx Z Z (ixR Z Z h16 tu23 z64 Z)<|z1a Zx Z Z (faR Z (z0y _) Tryz.underlying73 Z Z (by exact z5l))<|z1a Zx Z Z (ldR Z z71)<|zfg [5] [(1,5)] Zx Z Tryz.func31 Z Z (zjc _ _ _ _) (aW Z<|aQ Z<|aN) (y1 Z) fun r17 n18=>Zq (pkT Z Z)<|z1q<|z3m (fun aa ww h=>Zu h [1,4,5,2])
     ·
      refine lKn 24 Z h14<|Zk Z<|Zk Z<|Zk Z<|Zk Z<|Zk Z<|Zk Z<|Zk Z<|Zk Z<|Zq (pkF Z Z)<|z1q<|z3m (fun aa ww h=>Zu h [1,4,5,2])
    ·
     refine gIf Z Z (fun h19=>?_) (fun h19=>?_)
     ·
      refine z0p<|zs3 [(3,.val (n7 0)),(4,.val (n7 1)),(1,.val (z04 v1 0)),(5,.val v4),(7,.rd z0d s9)] [(1,some (v1,.box 25 [.rd z01 a0])),(4,some ((n7 0),.list z0d 3 s6.1)),(5,some ((n7 1),.list aZ 62 s6.2.1)),(2,some (v4,.list z0j 4 s6.2.2.1))] [1,4,5,2] (Zs Z Z Z Z<|sS Z<|sN) (Zi Z<|Zi Z<|Zi Z<|Zi Z<|rN)<|z4n fun x20 h21=>z4n fun x22 h23=>z4n fun x24 h25=>z4n fun x26 h27=>gOr [(3,.val (n7 0),14),(4,.val (n7 1),15)] [⟨8,none,[(4,some ([1], fun nv=>((nv 1),.list z0d 3 [s9])))]⟩,⟨4,some ([], fun nv=>((n7 0),.list z0d 3 s6.1)),[(5,some ([2], fun nv=>((nv 2),.list z0d 3 x20)))]⟩,⟨1,some ([], fun nv=>(v1,.box 25 [.rd z01 a0])),[]⟩,⟨9,none,[(12,none)]⟩,⟨5,some ([], fun nv=>((n7 1),.list aZ 62 s6.2.1)),[(13,some ([4], fun nv=>((nv 4),.list aZ 62 x24)))]⟩,⟨2,some ([], fun nv=>(v4,.list z0j 4 s6.2.2.1)),[(17,some ([], fun nv=>(v4,.list z0j 4 (s6.2.2.1.set (s9:Int).toNat true))))]⟩] [pd 35 (.val v4),pd 36 (.rd z0d s9),⟨some (37,[], fun nv=>.val (n7 0)),[],[],[0]⟩,pd 38 (.rd z0d s9),⟨some (39,[1], fun nv=>.val (nv 1)),[(0,0,true)],[1],[]⟩,⟨some (40,[2], fun nv=>.val (nv 2)),[(1,0,true),(0,1,false)],[2],[]⟩,⟨some (41,[], fun nv=>.val (n7 1)),[],[],[1]⟩,pk 42 (.val (z04 v1 (0+0))) [(2,0,false)],pk 43 (.rd (z02 aZ) a0.IDs) [(2,0,false)],pd 44 (.rd z0d s9),pd 45 (.rp aZ x22),pd 46 (.rd aZ x22),⟨some (47,[], fun nv=>.rd (z02 aZ) [x22]),[(3,0,true)],[3],[]⟩,⟨some (48,[4], fun nv=>.val (nv 4)),[(4,0,true)],[4],[]⟩,⟨some (3,[2], fun nv=>.val (nv 2)),[],[],[]⟩,⟨some (4,[4], fun nv=>.val (nv 4)),[],[],[]⟩,pk 49 (.val (z04 v4 ((s9:Int).toNat * 1))) [(5,0,false)],⟨none,[(5,0,true)],[],[]⟩,pd 6 (.rd z0j true)] mixed (oC (oRn (fun nv E=>mv Z))<|oC (oRn (fun nv E=>mv Z))<|oC (oRn (fun nv E=>mv Z))<|oC (oRn (fun nv E=>mv Z))<|oC (oEf 8 1 (fun nv E=>lit (R:=z0d) ([s9]:List Int) 8 (pP Z Z<|pN) Z tu142 ti3 Z Z))<|oC (oEf 4 2 (fun nv E=>apn 4 Z Z Z (.own 8 Z) h21 tu142 ti3 Z Z Z))<|oC (oRn (fun nv E=>mv Z))<|oC (oRn (fun nv E=>faB 1 Z Z Tryz.underlying25 Z (by exact z5l)))<|oC (oRn (fun nv E=>ld 1 Z Z (fP (z09 _)) z71 Z))<|oC (oRn (fun nv E=>mv Z))<|oC (oRn (fun nv E=>ixR Z Z h23 tu22 z23 Z))<|oC (oRn (fun nv E=>ldR Z z3s))<|oC (oFz (A1:=fun nv=>[(9,some ((nv 3),.list aZ 62 [x22]))]) 9 3 (oEf 9 3 (fun nv E=>lit (R:=aZ) ([x22]:List V3) 9 (pP Z Z<|pN) Z tu22 z23 Z Z)))<|oC (oEf 5 4 (fun nv E=>apn 5 Z Z Z .rd h25 tu22 z23 Z Z Z))<|oC (oRn (fun nv E=>asg Z))<|oC (oRn (fun nv E=>asg Z))<|oC (oRn (fun nv E=>ixO 2 Z Z Z h27 tu152 ti4))<|oC (oEs 2 (fun nv E=>sto 2 Z Z (Foc.el h27) Z ti4))<|oC (oRn (fun nv E=>asg Z))<|oN) fun n28=>z0k<|z1p<|z17c Z<|z0w<|z0x<|z2v<|z1d (fun aa ww h=>⟨nvl [(n28 2),(n28 4)],Zu h [1,4,5,2]⟩)
     ·
      refine z2d<|z2v<|z0k<|z2a<|Zm Z<|Zq (I.add Z Z)<|Za Z<|z1q<|z1d (fun aa ww h=>Zu h [1,4,5,2])
   ·
    refine z1p<|z0w<|z0x<|z2v<|z1d (fun aa ww h=>⟨nvl [(n7 0),(n7 1)],Zu h [1,4,5,2]⟩)
  ·
   refine gKn 6 Z h8<|z1p<|z0w<|z0x<|z3m (fun aa ww h=>⟨nvl [(n7 0)],Zu h [4]⟩)
 ·
  refine gEx fun n29=>gSR<|Zm Z<|Zb Z<|z0l<|Ze [(n29 0)] [3] Z
def z6p (a0:z00) (s6:Int):Option (Sum (Sum Int Unit) Int) :=
 if decide (s6<(a0.Ops.length:Int)) then
  idx a0.Ops s6 >>= fun x8 =>
  z3d a0.IDs x8.Preds >>= fun r10 =>
  if !r10 then
   some (.inl (.inl 40))
  else
   some (.inr (w64 (s6+1)))
 else
  some (.inl (.inr ()))
def z7m (a0:z00):Option (Int) :=
 z94 a0.IDs >>= fun r2 =>
 if !r2 then
  some 32
 else
  z58 (iter (z6p a0) 0) fun s5 =>
  z4w a0 >>= fun r13 =>
  if decide ((r13.length:Int)<(a0.Ops.length:Int)) then
   some 36
  else
   some 0
theorem zca (a0:z00):z1s Tryz.prog 70 [.rd z01 a0] [] (z7m a0) (fun r nv=>⟨[.rd z0d r],[]⟩):=by
 refine z2b 32 Tryz.func70 Z Z Z fun H w=>?_
 refine gSR<|Eb Z (bx 1 Z) fun v1=>Zb Z<|z0p<|gSR<|Zq (faB 1 Z Z Tryz.underlying25 Z (by exact z5l))<|Zq (ld 1 Z Z (fP (z09 _)) z71 Z)<|Zc [] [] Tryz.func108 Z (zeo _) fun r2 n3=>Zq (zf4 Z)<|Zj Z (fun h4=>?_) (fun h4=>?_)
 ·
  refine gSR<|Zb Z<|z0l<|z0v<|Ze [] [] Z
 ·
  refine Zt<|z7e (fun (s5:Unit) aa ww=>Sta (ctx 32 H [] w) [(1,.val (z04 v1 0))] [(1,some (v1,.box 25 [.rd z01 a0]))] aa ww) ?_ (fun s5=>?_)
  ·
   refine gSR<|Zb Z<|z1t (fun (s6:Int) aa ww=>Sta (ctx 32 H [] w) [(1,.val (z04 v1 0)),(3,.rd z0d s6)] [(1,some (v1,.box 25 [.rd z01 a0]))] aa ww) (fun aa ww h=>Zu h [1]) (fun s6=>?_)
   refine z0p<|gSR<|Zm Z<|Zq (faB 1 Z Z Tryz.underlying25 Z (by exact zad))<|Zq (ld 1 Z Z (fP (z0a _)) zea Z)<|Zq (z3e Z .rd Z tu23)<|Zq (I.lss Z Z)<|Zj Z (fun h7=>?_) (fun h7=>?_)
   ·
    refine Zt<|z0p<|z4t<|z0p<|z8h [] mixed Z Z<|hTk 0 Z Z (faB 1 Z Z Tryz.underlying25 Z (by exact z5l))<|hTk 1 Z Z (ld 1 Z Z (fP (z09 _)) z71 Z)<|hTk 2 Z Z (faB 1 Z Z Tryz.underlying25 Z (by exact zad))<|hTk 3 Z Z (ld 1 Z Z (fP (z0a _)) zea Z)<|hTk 4 Z Z (mv Z)<|z5h fun x8 h9=>hTk 5 Z Z (ixR Z Z h9 tu23 z64 Z)<|hTk 6 Z Z (faR Z (z0y _) Tryz.underlying73 Z Z (by exact z5l))<|hTk 7 Z Z (ldR Z z71)<|z3v 8 [] [] Z (by kernel_rfl) Z (gd0 Z) Z Tryz.func31 Z Z (zgs _ _) (Y2 Z Z) rN Z (fun _ _=>zai) fun r10 n11=>hTk 9 Z Z (zf4 Z)<|z4s (by kernel_rfl)<|z0k<|gIf Z Z (fun h12=>?_) (fun h12=>?_)
    ·
     refine gSR<|Zb Z<|z0l<|z3t<|z0v<|z6o<|z6l<|Ze [] [] Z
    ·
     refine z2d<|z2v<|z0k<|z2a<|Zm Z<|Zq (I.add Z Z)<|Za Z<|z1q<|z1d (fun aa ww h=>Zu h [1])
   ·
    refine z1p<|z0w<|z0x<|z6h (fun aa ww h=>Zu h [1])
  ·
   refine z0p<|z0p<|z8h [38] mixed Z Z<|hTk 0 Z Z (ld 1 Z Z fH z4d Z)<|hTk 3 Z Z (faB 1 Z Z Tryz.underlying25 Z (by exact zad))<|hTk 4 Z Z (ld 1 Z Z (fP (z0a _)) zea Z)<|hTk 5 Z Z (z3e Z .rd Z tu23)<|z3v 1 [] [(100,38)] Z (by kernel_rfl) Z (gd0 Z) Z Tryz.func109 Z Z (zk6 _) (Y1 Z) rN Z (fun _ _=>z3p) fun r13 n14=>Zf 2 Z Z z30 (z3e Z (.own 38 Z) Z tu142)<|hTk 6 Z Z (I.lss Z Z)<|z4s (by kernel_rfl)<|z0k<|gIf Z Z (fun h15=>?_) (fun h15=>?_)
   ·
    refine gSR<|Zb Z<|z0l<|z0v<|Ze [] [] Z
   ·
    refine Zt<|gSR<|Zb Z<|z0l<|Ze [] [] Z
def z6w (a0:z00) (s5:Int):Option (Sum (Sum Int Unit) Int) :=
 if decide (s5<(a0.Ops.length:Int)) then
  idx a0.Ops s5 >>= fun x7 =>
  z4f x7 >>= fun r9 =>
  if r9 != 0 then
   some (.inl (.inl 8))
  else
   idx a0.Ops s5 >>= fun x12 =>
   idx a0.IDs s5 >>= fun x14 =>
   z3q x12 >>= fun r16 =>
   if !decide (r16=x14) then
    some (.inl (.inl 8))
   else
    some (.inr (w64 (s5+1)))
 else
  some (.inl (.inr ()))
def z0e (a0:z00):Option (Int) :=
 if decide (60<(a0.Ops.length:Int)) then
  some 4
 else
  if (a0.IDs.length:Int) != (a0.Ops.length:Int) then
   some 8
  else
   z58 (iter (z6w a0) 0) fun s4 =>
   z7m a0 >>= fun r19 =>
   some r19
theorem z44 (a0:z00):z1s Tryz.prog 38 [.rd z01 a0] [] (z0e a0) (fun r nv=>⟨[.rd z0d r],[]⟩):=by
 refine z2b 45 Tryz.func38 Z Z Z fun H w=>?_
 refine gSR<|Eb Z (bx 1 Z) fun v1=>Zb Z<|z0p<|gSR<|Zq (faB 1 Z Z Tryz.underlying25 Z (by exact zad))<|Zq (ld 1 Z Z (fP (z0a _)) zea Z)<|Zq (z3e Z .rd Z tu23)<|Zq (I.gtr Z Z)<|Zj Z (fun h2=>?_) (fun h2=>?_)
 ·
  refine gSR<|Zb Z<|z0l<|z0v<|Ze [] [] Z
 ·
  refine Zt<|z0p<|gSR<|Zq (faB 1 Z Z Tryz.underlying25 Z (by exact z5l))<|Zq (ld 1 Z Z (fP (z09 _)) z71 Z)<|Zq (z3e Z .rd Z tu22)<|Zq (faB 1 Z Z Tryz.underlying25 Z (by exact zad))<|Zq (ld 1 Z Z (fP (z0a _)) zea Z)<|Zq (z3e Z .rd Z tu23)<|Zq (I.neq Z Z)<|Zj Z (fun h3=>?_) (fun h3=>?_)
  ·
   refine gSR<|Zb Z<|z0l<|z0v<|Ze [] [] Z
  ·
   refine Zt<|z7e (fun (s4:Unit) aa ww=>Sta (ctx 45 H [] w) [(1,.val (z04 v1 0))] [(1,some (v1,.box 25 [.rd z01 a0]))] aa ww) ?_ (fun s4=>?_)
   ·
    refine gSR<|Zb Z<|z1t (fun (s5:Int) aa ww=>Sta (ctx 45 H [] w) [(1,.val (z04 v1 0)),(3,.rd z0d s5)] [(1,some (v1,.box 25 [.rd z01 a0]))] aa ww) (fun aa ww h=>Zu h [1]) (fun s5=>?_)
    refine z0p<|gSR<|Zm Z<|Zq (faB 1 Z Z Tryz.underlying25 Z (by exact zad))<|Zq (ld 1 Z Z (fP (z0a _)) zea Z)<|Zq (z3e Z .rd Z tu23)<|Zq (I.lss Z Z)<|Zj Z (fun h6=>?_) (fun h6=>?_)
    ·
     refine Zt<|z0p<|z4t<|z0p<|z8h [] mixed Z Z<|hTk 0 Z Z (faB 1 Z Z Tryz.underlying25 Z (by exact zad))<|hTk 1 Z Z (ld 1 Z Z (fP (z0a _)) zea Z)<|hTk 2 Z Z (mv Z)<|z5h fun x7 h8=>hTk 3 Z Z (ixR Z Z h8 tu23 z64 Z)<|hTk 4 Z Z (ldR Z zaa)<|z3v 5 [] [] Z (by kernel_rfl) Z (gd0 Z) Z Tryz.func69 Z Z (zbg _) (Y1 Z) rN Z (fun _ _=>z30) fun r9 n10=>hTk 6 Z Z (I.neq Z Z)<|hTk 7 Z Z (mv Z)<|hIf 29 Z Z (fun h11=>?_) (fun h11=>?_)
     ·
      refine hKn 28 Z Z h11<|hSk 8 Z Z<|hSk 9 Z Z<|hSk 10 Z Z<|hSk 11 Z Z<|hSk 12 Z Z<|hSk 13 Z Z<|hSk 14 Z Z<|hSk 15 Z Z<|hSk 16 Z Z<|hSk 17 Z Z<|hSk 18 Z Z<|hSk 19 Z Z<|hTk 20 Z Z (pkT Z Z)<|z4s (by kernel_rfl)<|z0k<|zhz Z<|gSR<|Zb Z<|z0l<|z3t<|z0v<|z6o<|z6l<|Ze [] [] Z
     ·
      refine hKn 28 Z Z h11<|Zg 8 Z Z (faB 1 Z Z Tryz.underlying25 Z (by exact zad))<|Zg 9 Z Z (ld 1 Z Z (fP (z0a _)) zea Z)<|Zg 10 Z Z (mv Z)<|z5h fun x12 h13=>Zg 11 Z Z (ixR Z Z h13 tu23 z64 Z)<|Zg 12 Z Z (ldR Z zaa)<|Zg 14 Z Z (faB 1 Z Z Tryz.underlying25 Z (by exact z5l))<|Zg 15 Z Z (ld 1 Z Z (fP (z09 _)) z71 Z)<|Zg 16 Z Z (mv Z)<|z5h fun x14 h15=>Zg 17 Z Z (ixR Z Z h15 tu22 z23 Z)<|Zg 18 Z Z (ldR Z z3s)<|zks 13 [] [] Z (by kernel_rfl) Z Zx Z Tryz.func58 Z Z (z4v _) (Y1 Z) rN Z fun r16 n17=>zzr 19 Z (by kernel_rfl) (by kernel_rfl) (by kernel_rfl) Zx Z Z zai (neA Z Z eq62 Z Z gq62)<|hTk 20 Z Z (pkF Z Z)<|z4s (by kernel_rfl)<|z0k<|gIf Z Z (fun h18=>?_) (fun h18=>?_)
      ·
       refine gKn 41 Z h18<|gSR<|Zb Z<|z0l<|z3t<|z0v<|z6o<|z6l<|Ze [] [] Z
      ·
       refine gKn 41 Z h18<|z2d<|z2v<|z0k<|z2a<|Zm Z<|Zq (I.add Z Z)<|Za Z<|z1q<|z1d (fun aa ww h=>Zu h [1])
    ·
     refine z1p<|z0w<|z0x<|z6h (fun aa ww h=>Zu h [1])
   ·
    refine gSR<|Zq (ld 1 Z Z fH z4d Z)<|Zc [] [] Tryz.func70 Z (zca _) fun r19 n20=>Zb Z<|z0l<|Ze [] [] Z
end
section
open Go Go.RowKit
set_option maxRecDepth 100000
def z4o (a0:z00) (s4:(List (V3 × Int)) × Int):Option (Sum ((List (V3 × Int))) ((List (V3 × Int)) × Int)) :=
 if decide (s4.2<(a0.IDs.length:Int)) then
  idx a0.IDs s4.2 >>= fun x6 =>
  some (.inr (zvo s4.1 x6 s4.2,w64 (s4.2+1)))
 else
  some (.inl s4.1)
def z4j (a0:z00):Option ((List (V3 × Int))) :=
 (iter (z4o a0) (([]:List (V3 × Int)),0)) >>= fun s3 =>
 some s3
theorem za9 (a0:z00):z1s Tryz.prog 123 [.rd z01 a0] [] (z4j a0) (fun r nv=>⟨[.val (nv 0)],[(100,some (nv 0,.map aZ z0d r))]⟩):=by
 refine z2b 23 Tryz.func123 Z Z Z fun H w=>?_
 refine gSR<|Eb Z (bx 1 Z) fun v1=>Zb Z<|gSR<|Zq (faB 1 Z Z Tryz.underlying25 Z (by exact z5l))<|Zq (ld 1 Z Z (fP (z09 _)) z71 Z)<|Zq (z3e Z .rd Z tu22)<|Ef Z (mkm aZ z0d 2 (Or.inr ⟨_,_,Z,rfl⟩) Tryz.underlying156) fun v2=>Zb Z<|z8i (fun (s3:(List (V3 × Int))) aa ww=>Sta (ctx 23 H [] w) [(3,.val v2)] [(2,some (v2,.map aZ z0d s3))] aa ww) ?_ (fun s3=>?_)
 ·
  refine gSR<|Zq (faB 1 Z Z Tryz.underlying25 Z (by exact z5l))<|Zq (ld 1 Z Z (fP (z09 _)) z71 Z)<|Zq (z3e Z .rd Z tu22)<|Zm Z<|Zn<|z1t (fun (s4:(List (V3 × Int)) × Int) aa ww=>Sta (ctx 23 H [] w) [(3,.val v2),(11,.rd (z02 aZ) a0.IDs),(12,.rd z0d (a0.IDs.length:Int)),(13,.rd z0d s4.2)] [(2,some (v2,.map aZ z0d s4.1))] aa ww) (fun aa ww h=>Zu h [2]) (fun s4=>?_)
  refine gSR<|Zq (I.lss Z Z)<|Zn<|z0p<|gIf Z Z (fun h5=>?_) (fun h5=>?_)
  ·
   refine Zt<|z0p<|z4t<|gSR<|Zm Z<|z0n fun x6 h7=>Zq (ixR Z Z h7 tu22 z23 Z)<|Zq (ldR Z z3s)<|Eb Z (z5o 3 z23 (.zr (R:=aZ) (x:=(Vector.replicate 32 0)) zge)) fun v8=>Za Z<|Es (sto 3 Z Z fH Z z23)<|Zn<|z2a<|Zm Z<|Zq (ld 3 Z Z fH z3s Z)<|Zm Z<|Es (mup 2 Z Z Z Z ky62 Tryz.underlying156)<|z1q<|z2v<|z0k<|z2a<|Zq (I.add Z Z)<|Zm Z<|z1q<|z1d (fun aa ww h=>Zu h [2])
  ·
   refine z1p<|z0w<|z0x<|z3m (fun aa ww h=>Zu h [2])
 ·
  refine gSR<|Zm Z<|Zb Z<|z0l<|Ze [v2] [2] Z
def z85 (a0:z00) (a1:List Bool) (s3:(List V3) × Int):Option (Sum ((List V3)) ((List V3) × Int)) :=
 if decide (s3.2<(a1.length:Int)) then
  idx a1 s3.2 >>= fun x6 =>
  if x6 then
   idx a0.IDs s3.2 >>= fun x9 =>
   app 32 s3.1 [x9] >>= fun x12 =>
   some (.inr (x12,w64 (s3.2+1)))
  else
   some (.inr (s3.1,w64 (s3.2+1)))
 else
  some (.inl s3.1)
def zcx (a0:z00) (a1:List Bool):Option ((List V3)) :=
 (iter (z85 a0 a1) ([],0)) >>= fun s2 =>
 some s2
theorem zl3 (a0:z00) (a1:List Bool):z1s Tryz.prog 133 [.rd z01 a0,.rd (z02 z0j) a1] [] (zcx a0 a1) (fun r nv=>⟨[.val (nv 0)],[(100,some (nv 0,.list aZ 62 r))]⟩):=by
 refine z2b 26 Tryz.func133 Z Z Z fun H w=>?_
 refine gSR<|Eb Z (bx 1 Z) fun v1=>Zb Z<|gSR<|Zb Z<|z8i (fun (s2:(List V3)) aa ww=>∃ nv:Nat→Value,Sta (ctx 26 H [] w) [(5,.val (nv 0))] [(3,some ((nv 0),.list aZ 62 s2))] aa ww) ?_ (fun s2=>?_)
 ·
  refine gSR<|Zm Z<|Zq (z3e Z .rd Z tu152)<|Zm Z<|Zn<|zup aZ 62 6<|z1t (fun (s3:(List V3) × Int) aa ww=>∃ nv:Nat→Value,Sta (ctx 26 H [] w) [(1,.rd (z02 z0j) a1),(2,.val (z04 v1 0)),(5,.val (nv 0)),(8,.rd z0d (a1.length:Int)),(9,.rd z0d s3.2)] [(1,some (v1,.box 25 [.rd z01 a0])),(5,some ((nv 0),.list aZ 62 s3.1))] aa ww) (fun aa ww h=>⟨nvl [(.slice none 0 0)],Zu h [1,6]⟩) (fun s3=>?_)
  refine gEx fun n4=>gSR<|Zq (I.lss Z Z)<|Zn<|z0p<|gIf Z Z (fun h5=>?_) (fun h5=>?_)
  ·
   refine Zt<|z0p<|z4t<|gSR<|Zm Z<|Zb Z<|gSR<|Zm Z<|Zm Z<|z0n fun x6 h7=>Zq (ixR Z Z h7 tu152 ti4 Z)<|Zq (ldR Z ty4)<|Zj Z (fun h8=>?_) (fun h8=>?_)
   ·
    refine z2a<|Zm Z<|Zq (faB 1 Z Z Tryz.underlying25 Z (by exact z5l))<|Zq (ld 1 Z Z (fP (z09 _)) z71 Z)<|Zm Z<|z0n fun x9 h10=>Zq (ixR Z Z h10 tu22 z23 Z)<|Zq (ldR Z z3s)<|Ef Z (lit (R:=aZ) ([x9]:List V3) 7 (pP Z Z<|pN) Z tu22 z23 Z Z) fun v11=>zgc 7 [22] Z (fS Z<|fN)<|z0n fun x12 h13=>Ef Z (apn 5 Z Z Z .rd h13 tu22 z23 Z Z Z) fun v14=>Za Z<|z1q<|z2v<|z0k<|z2a<|Zq (I.add Z Z)<|Zm Z<|z1q<|z1d (fun aa ww h=>⟨nvl [v14],Zu h [1,5]⟩)
   ·
    refine z2d<|z2v<|z0k<|z2a<|Zq (I.add Z Z)<|Zm Z<|z1q<|z1d (fun aa ww h=>⟨nvl [(n4 0)],Zu h [1,5]⟩)
  ·
   refine z1p<|z0w<|z0x<|z3m (fun aa ww h=>⟨nvl [(n4 0)],Zu h [5]⟩)
 ·
  refine gEx fun n15=>gSR<|Zm Z<|Zb Z<|z0l<|Ze [(n15 0)] [3] Z
def z8z (x7:List Bool) (s11:(List Bool) × Int):Option (Sum ((List Bool)) ((List Bool) × Int)) :=
 if decide (s11.2<(x7.length:Int)) then
  idx s11.1 s11.2 >>= fun x13 =>
  some (.inr (s11.1.set (s11.2:Int).toNat true,w64 (s11.2+1)))
 else
  some (.inl s11.1)
def z8y (r5:(List (V3 × Int))) (x19:z08) (s22:(List Bool) × Int):Option (Sum ((List Bool)) ((List Bool) × Int)) :=
 if decide (s22.2<(x19.Preds.length:Int)) then
  idx x19.Preds s22.2 >>= fun x24 =>
  idx s22.1 ((zk4 r5 x24).getD 0) >>= fun x27 =>
  some (.inr (s22.1.set ((zk4 r5 x24).getD 0:Int).toNat false,w64 (s22.2+1)))
 else
  some (.inl s22.1)
def z92 (a0:z00) (r5:(List (V3 × Int))) (s16:(List Bool) × Int):Option (Sum ((List Bool)) ((List Bool) × Int)) :=
 if decide (s16.2<(a0.Ops.length:Int)) then
  (idx a0.Ops s16.2 >>= fun x19 =>
  iter (z8y r5 x19) (s16.1,0)) >>= fun s18 =>
  some (.inr (s18,w64 (s16.2+1)))
 else
  some (.inl s16.1)
def zbt (a0:z00):Option ((List V3) × Int) :=
 z18 a0 >>= fun r2 =>
 if r2 != 0 then
  some ([],r2)
 else
  z4j a0 >>= fun r5 =>
  mkn 1 false (a0.IDs.length:Int) >>= fun x7 =>
  (iter (z8z x7) (x7,0)) >>= fun s10 =>
  (iter (z92 a0 r5) (s10,0)) >>= fun s15 =>
  zcx a0 s15 >>= fun r29 =>
  some (r29,0)
theorem zgm (a0:z00):z1s Tryz.prog 92 [.rd z01 a0] [zG1] (zbt a0) (fun r nv=>⟨[.val (nv 0),.rd z0d r.2],[(1001,some (.bool true,.glob 1 (z3j 64 z0q) z6a)),(100,some (nv 0,.list aZ 62 r.1))]⟩):=by
 refine z2b 56 Tryz.func92 Z Z Z fun H w=>?_
 refine gSR<|Eb Z (bx 1 Z) fun v1=>Za Z<|Zb Z<|z0p<|gSR<|Zq (ld 1 Z Z fH z4d Z)<|Zc [1001] [] Tryz.func74 Z (zau _) fun r2 n3=>Zb Z<|gSR<|Zm Z<|Zq (I.neq Z Z)<|Zj Z (fun h4=>?_) (fun h4=>?_)
 ·
  refine gSR<|Zm Z<|Za Z<|Zb Z<|z0l<|z0v<|zs6 aZ 62 2<|Ze [(.slice none 0 0)] [1001,2] Z
 ·
  refine Zt<|gSR<|Zq (ld 1 Z Z fH z4d Z)<|Zc [] [(100,3)] Tryz.func123 Z (za9 _) fun r5 n6=>Zb Z<|gSR<|Zq (faB 1 Z Z Tryz.underlying25 Z (by exact z5l))<|Zq (ld 1 Z Z (fP (z09 _)) z71 Z)<|Zq (z3e Z .rd Z tu22)<|z0n fun x7 h8=>Ef Z (mks (R:=z0j) 4 Z Z h8 tu152 ti4 Zr.bool Z) fun v9=>Zb Z<|z8i (fun (s10:(List Bool)) aa ww=>Sta (ctx 56 H [zG1] w) [(1,.val (z04 v1 0)),(5,.val (n6 0)),(6,.val v9)] [(1,some (v1,.box 25 [.rd z01 a0])),(3,some ((n6 0),.map aZ z0d r5)),(4,some (v9,.list z0j 4 s10)),zG1] aa ww) ?_ (fun s10=>?_)
  ·
   refine gSR<|Zm Z<|Zq (z3e Z (.own 4 Z) Z tu152)<|Zm Z<|Zn<|z1t (fun (s11:(List Bool) × Int) aa ww=>Sta (ctx 56 H [zG1] w) [(1,.val (z04 v1 0)),(5,.val (n6 0)),(6,.val v9),(24,.rd z0d (x7.length:Int)),(25,.rd z0d s11.2)] [(1,some (v1,.box 25 [.rd z01 a0])),(3,some ((n6 0),.map aZ z0d r5)),(4,some (v9,.list z0j 4 s11.1)),zG1] aa ww) (fun aa ww h=>Zu h [1,3,4,1001]) (fun s11=>?_)
   refine gSR<|Zq (I.lss Z Z)<|Zn<|z0p<|gIf Z Z (fun h12=>?_) (fun h12=>?_)
   ·
    refine Zt<|z0p<|z4t<|gSR<|Zm Z<|Zb Z<|z2a<|Zm Z<|Zm Z<|z0n fun x13 h14=>Zq (ixO 4 Z Z Z h14 tu152 ti4)<|Es (sto 4 Z Z (Foc.el h14) Z ti4)<|z1q<|z2v<|z0k<|z2a<|Zq (I.add Z Z)<|Zm Z<|z1q<|z1d (fun aa ww h=>Zu h [1,3,4,1001])
   ·
    refine z1p<|z0w<|z0x<|z3m (fun aa ww h=>Zu h [1,3,4,1001])
  ·
   refine z8i (fun (s15:(List Bool)) aa ww=>Sta (ctx 56 H [zG1] w) [(1,.val (z04 v1 0)),(6,.val v9)] [(1,some (v1,.box 25 [.rd z01 a0])),(4,some (v9,.list z0j 4 s15)),zG1] aa ww) ?_ (fun s15=>?_)
   ·
    refine gSR<|Zq (faB 1 Z Z Tryz.underlying25 Z (by exact zad))<|Zq (ld 1 Z Z (fP (z0a _)) zea Z)<|Zq (z3e Z .rd Z tu23)<|Zm Z<|Zn<|z1t (fun (s16:(List Bool) × Int) aa ww=>Sta (ctx 56 H [zG1] w) [(1,.val (z04 v1 0)),(5,.val (n6 0)),(6,.val v9),(33,.rd (z02 z03) a0.Ops),(34,.rd z0d (a0.Ops.length:Int)),(35,.rd z0d s16.2)] [(1,some (v1,.box 25 [.rd z01 a0])),(3,some ((n6 0),.map aZ z0d r5)),(4,some (v9,.list z0j 4 s16.1)),zG1] aa ww) (fun aa ww h=>Zu h [1,3,4,1001]) (fun s16=>?_)
    refine gSR<|Zq (I.lss Z Z)<|Zn<|z0p<|gIf Z Z (fun h17=>?_) (fun h17=>?_)
    ·
     refine Zt<|z8i (fun (s18:(List Bool)) aa ww=>Sta (ctx 56 H [zG1] w) [(1,.val (z04 v1 0)),(5,.val (n6 0)),(6,.val v9),(33,.rd (z02 z03) a0.Ops),(34,.rd z0d (a0.Ops.length:Int)),(35,.rd z0d s16.2)] [(1,some (v1,.box 25 [.rd z01 a0])),(3,some ((n6 0),.map aZ z0d r5)),(4,some (v9,.list z0j 4 s18)),zG1] aa ww) ?_ (fun s18=>?_)
     ·
      refine z4t<|gSR<|z0n fun x19 h20=>Zq (ixR Z Z h20 tu23 z64 Z)<|Zq (ldR Z zaa)<|Eb Z (z5o 1100 z64 (ZrE.rd (R:=z0q) (x:=0) (Zr.num Z) (ZrE.nilS (ZrE.rd (R:=z2c) (x:=0) (Zr.num Z) (ZrE.rd (R:=z0f) (x:=(⟨0,[],(⟨0,0,0,[]⟩:z06)⟩:z0i)) znv (ZrE.rd (R:=z0g) (x:=(⟨0,0⟩:z0c)) zn4 ZrE.nil Z) Z) Z)) Z)) fun v21=>zcg aZ [.rd z0q 0,.rd (z02 aZ) [],.rd z2c 0,.rd z0f (⟨0,[],(⟨0,0,0,[]⟩:z06)⟩:z0i),.rd z0g (⟨0,0⟩:z0c)] 1100 [.rd z0q 0] [.rd z2c 0,.rd z0f (⟨0,[],(⟨0,0,0,[]⟩:z06)⟩:z0i),.rd z0g (⟨0,0⟩:z0c)] Z Z Z<|zec (R:=z03) (⟨0,[],0,(⟨0,[],(⟨0,0,0,[]⟩:z06)⟩:z0i),(⟨0,0⟩:z0c)⟩:z08) 1100 Z (Sp.via (Sp.prod (Sp.prod (Sp.prod (Sp.prod (Sp.prod Sp.unit))))))<|Es (sto 1100 Z Z fH Z z64)<|Zn<|gSR<|Zq (faB 1100 Z Z Tryz.underlying73 Z (by exact z5l))<|Zq (ld 1100 Z Z (fP (z0y _)) z71 Z)<|Zq (z3e Z .rd Z tu22)<|Zm Z<|Zn<|z1t (fun (s22:(List Bool) × Int) aa ww=>Sta (ctx 56 H [zG1] w) [(1,.val (z04 v1 0)),(5,.val (n6 0)),(6,.val v9),(33,.rd (z02 z03) a0.Ops),(34,.rd z0d (a0.Ops.length:Int)),(35,.rd z0d s16.2),(40,.rd (z02 aZ) x19.Preds),(41,.rd z0d (x19.Preds.length:Int)),(42,.rd z0d s22.2)] [(1,some (v1,.box 25 [.rd z01 a0])),(3,some ((n6 0),.map aZ z0d r5)),(4,some (v9,.list z0j 4 s22.1)),zG1] aa ww) (fun aa ww h=>Zu h [1,3,4,1001]) (fun s22=>?_)
      refine gSR<|Zq (I.lss Z Z)<|Zn<|z0p<|gIf Z Z (fun h23=>?_) (fun h23=>?_)
      ·
       refine Zt<|z0p<|z4t<|gSR<|z0n fun x24 h25=>Zq (ixR Z Z h25 tu22 z23 Z)<|Zq (ldR Z z3s)<|Eb Z (z5o 1101 z23 (.zr (R:=aZ) (x:=(Vector.replicate 32 0)) zge)) fun v26=>Es (sto 1101 Z Z fH Z z23)<|Zn<|z2a<|Zm Z<|Zm Z<|Zq (ld 1101 Z Z fH z3s Z)<|Zq (mlk Z (.own 3 Z Z) Z ky62 Tryz.underlying156 ti3 (Zr.num Z) Z)<|z0n fun x27 h28=>Zq (ixO 4 Z Z Z h28 tu152 ti4)<|Es (sto 4 Z Z (Foc.el h28) Z ti4)<|z1q<|z2v<|z0k<|z2a<|Zq (I.add Z Z)<|Zm Z<|z1q<|z1d (fun aa ww h=>Zu h [1,3,4,1001])
      ·
       refine z1p<|z0w<|z0x<|z2v<|z3m (fun aa ww h=>Zu h [1,3,4,1001])
     ·
      refine z2a<|Zq (I.add Z Z)<|Zm Z<|z1q<|z1d (fun aa ww h=>Zu h [1,3,4,1001])
    ·
     refine z1p<|z0w<|z0x<|z3m (fun aa ww h=>Zu h [1,4,1001])
   ·
    refine gSR<|Zq (ld 1 Z Z fH z4d Z)<|Zm Z<|zgc 4 [6,54] Z (fS Z<|fS Z<|fN)<|Zc [] [(100,1102)] Tryz.func133 Z (zl3 _ _) fun r29 n30=>Za Z<|Zb Z<|z0l<|Ze [(n30 0)] [1001,1102] Z
def z90 (a0:z00) (s3:(List V3) × Int):Option (Sum ((List V3)) ((List V3) × Int)) :=
 if decide (s3.2<(a0.Ops.length:Int)) then
  idx a0.Ops s3.2 >>= fun x6 =>
  app 32 s3.1 x6.Preds >>= fun x8 =>
  some (w64 (s3.2+1)) >>= fun y11 =>
  some (.inr (x8,y11))
 else
  some (.inl s3.1)
def z96 (a0:z00) (s14:(List V3) × (List V3) × Int):Option (Sum ((List V3)) ((List V3) × (List V3) × Int)) :=
 if decide (s14.2.2<(a0.IDs.length:Int)) then
  idx a0.IDs s14.2.2 >>= fun x17 =>
  z33 s14.1 x17 >>= fun r19 =>
  if decide (r19<0) then
   idx a0.IDs s14.2.2 >>= fun x22 =>
   app 32 s14.2.1 [x22] >>= fun x25 =>
   some (w64 (s14.2.2+1)) >>= fun y28 =>
   some (.inr (s14.1,x25,y28))
  else
   some (w64 (s14.2.2+1)) >>= fun y29 =>
   some (.inr (s14.1,s14.2.1,y29))
 else
  some (.inl s14.2.1)
def zdy (a0:z00):Option ((List V3)) :=
 (iter (z90 a0) ([],0)) >>= fun s2 =>
 (iter (z96 a0) (s2,[],0)) >>= fun s13 =>
 some s13
theorem zm8 (a0:z00):z1s Tryz.prog 61 [.rd z01 a0] [] (zdy a0) (fun r nv=>⟨[.val (nv 0)],[(100,some (nv 0,.list aZ 62 r))]⟩):=by
 refine z2b 46 Tryz.func61 Z Z Z fun H w=>?_
 refine gSR<|Eb Z (bx 1 Z) fun v1=>Zb Z<|gSR<|Za Z<|Zb Z<|z8i (fun (s2:(List V3)) aa ww=>∃ nv:Nat→Value,Sta (ctx 46 H [] w) [(1,.val (z04 v1 0)),(3,.val (nv 0)),(4,.val (.slice none 0 0))] [(1,some (v1,.box 25 [.rd z01 a0])),(2,some ((nv 0),.list aZ 62 s2))] aa ww) ?_ (fun s2=>?_)
 ·
  refine gSR<|Zb Z<|zup aZ 62 4<|z1t (fun (s3:(List V3) × Int) aa ww=>∃ nv:Nat→Value,Sta (ctx 46 H [] w) [(1,.val (z04 v1 0)),(3,.val (nv 0)),(4,.val (.slice none 0 0)),(5,.rd z0d s3.2)] [(1,some (v1,.box 25 [.rd z01 a0])),(3,some ((nv 0),.list aZ 62 s3.1))] aa ww) (fun aa ww h=>⟨nvl [(.slice none 0 0)],Zu h [1,4]⟩) (fun s3=>?_)
  refine gEx fun n4=>z0p<|gSR<|Zm Z<|Zq (faB 1 Z Z Tryz.underlying25 Z (by exact zad))<|Zq (ld 1 Z Z (fP (z0a _)) zea Z)<|Zq (z3e Z .rd Z tu23)<|Zq (I.lss Z Z)<|Zj Z (fun h5=>?_) (fun h5=>?_)
  ·
   refine Zt<|z0p<|z4t<|z2a<|Zm Z<|Zq (faB 1 Z Z Tryz.underlying25 Z (by exact zad))<|Zq (ld 1 Z Z (fP (z0a _)) zea Z)<|Zm Z<|z0n fun x6 h7=>Zq (ixR Z Z h7 tu23 z64 Z)<|Zq (faR Z (z0y _) Tryz.underlying73 Z Z (by exact z5l))<|Zq (ldR Z z71)<|z0n fun x8 h9=>Ef Z (apn 3 Z Z Z .rd h9 tu22 z23 Z Z Z) fun v10=>Za Z<|z1q<|z2v<|z0k<|z2a<|Zm Z<|Zq (I.add Z Z)<|Za Z<|z1n 5 Z fun y11=>z1q<|z1d (fun aa ww h=>⟨nvl [v10],Zu h [1,3]⟩)
  ·
   refine z1p<|z0w<|z0x<|z3m (fun aa ww h=>⟨nvl [(n4 0)],Zu h [1,3]⟩)
 ·
  refine gEx fun n12=>z8i (fun (s13:(List V3)) aa ww=>∃ nv:Nat→Value,Sta (ctx 46 H [] w) [(4,.val (nv 0))] [(6,some ((nv 0),.list aZ 62 s13))] aa ww) ?_ (fun s13=>?_)
  ·
   refine gSR<|Zb Z<|gFrz 2 [3] Z (fS Z<|fN)<|zup aZ 62 9<|z1t (fun (s14:(List V3) × (List V3) × Int) aa ww=>∃ nv:Nat→Value,Sta (ctx 46 H [] w) [(1,.val (z04 v1 0)),(3,.rd (z02 aZ) s14.1),(4,.val (nv 0)),(6,.rd z0d s14.2.2)] [(1,some (v1,.box 25 [.rd z01 a0])),(8,some ((nv 0),.list aZ 62 s14.2.1))] aa ww) (fun aa ww h=>⟨nvl [(.slice none 0 0)],Zu h [1,9]⟩) (fun s14=>?_)
   refine gEx fun n15=>z0p<|gSR<|Zm Z<|Zq (faB 1 Z Z Tryz.underlying25 Z (by exact z5l))<|Zq (ld 1 Z Z (fP (z09 _)) z71 Z)<|Zq (z3e Z .rd Z tu22)<|Zq (I.lss Z Z)<|Zj Z (fun h16=>?_) (fun h16=>?_)
   ·
    refine Zt<|z0p<|z4t<|gSR<|Zm Z<|Zq (faB 1 Z Z Tryz.underlying25 Z (by exact z5l))<|Zq (ld 1 Z Z (fP (z09 _)) z71 Z)<|Zm Z<|z0n fun x17 h18=>Zq (ixR Z Z h18 tu22 z23 Z)<|Zq (ldR Z z3s)<|Zc [] [] Tryz.func34 Z (z9r _ _) fun r19 n20=>Zq (I.lss Z Z)<|Zj Z (fun h21=>?_) (fun h21=>?_)
    ·
     refine z2a<|Zm Z<|Zq (faB 1 Z Z Tryz.underlying25 Z (by exact z5l))<|Zq (ld 1 Z Z (fP (z09 _)) z71 Z)<|Zm Z<|z0n fun x22 h23=>Zq (ixR Z Z h23 tu22 z23 Z)<|Zq (ldR Z z3s)<|Ef Z (lit (R:=aZ) ([x22]:List V3) 10 (pP Z Z<|pN) Z tu22 z23 Z Z) fun v24=>zgc 10 [43] Z (fS Z<|fN)<|z0n fun x25 h26=>Ef Z (apn 8 Z Z Z .rd h26 tu22 z23 Z Z Z) fun v27=>Za Z<|z1q<|z2v<|z0k<|z2a<|Zm Z<|Zq (I.add Z Z)<|Za Z<|z1n 6 Z fun y28=>z1q<|z1d (fun aa ww h=>⟨nvl [v27],Zu h [1,8]⟩)
    ·
     refine z2d<|z2v<|z0k<|z2a<|Zm Z<|Zq (I.add Z Z)<|Za Z<|z1n 6 Z fun y29=>z1q<|z1d (fun aa ww h=>⟨nvl [(n15 0)],Zu h [1,8]⟩)
   ·
    refine z1p<|z0w<|z0x<|z3m (fun aa ww h=>⟨nvl [(n15 0)],Zu h [8]⟩)
  ·
   refine gEx fun n30=>gSR<|Zm Z<|Zb Z<|z0l<|Ze [(n30 0)] [6] Z
def z9n (a0:z00):Option ((List V3) × Int) :=
 z0e a0 >>= fun r2 =>
 if r2 != 0 then
  some ([],r2)
 else
  zdy a0 >>= fun r5 =>
  some (r5,0)
theorem zfi (a0:z00):z1s Tryz.prog 30 [.rd z01 a0] [] (z9n a0) (fun r nv=>⟨[.val (nv 0),.rd z0d r.2],[(100,some (nv 0,.list aZ 62 r.1))]⟩):=by
 refine z2b 12 Tryz.func30 Z Z Z fun H w=>?_
 refine gSR<|Eb Z (bx 1 Z) fun v1=>Za Z<|Zb Z<|z0p<|gSR<|Zq (ld 1 Z Z fH z4d Z)<|Zc [] [] Tryz.func38 Z (z44 _) fun r2 n3=>Zb Z<|gSR<|Zm Z<|Zq (I.neq Z Z)<|Zj Z (fun h4=>?_) (fun h4=>?_)
 ·
  refine gSR<|Zm Z<|Za Z<|Zb Z<|z0l<|z0v<|zs6 aZ 62 2<|Ze [(.slice none 0 0)] [2] Z
 ·
  refine Zt<|gSR<|Zq (ld 1 Z Z fH z4d Z)<|Zc [] [(100,3)] Tryz.func61 Z (zm8 _) fun r5 n6=>Za Z<|Zb Z<|z0l<|Ze [(n6 0)] [3] Z
def z8l (a0:z00) (r2:(List Int)) (s5:(List V3) × Int):Option (Sum ((List V3)) ((List V3) × Int)) :=
 if decide (s5.2<(r2.length:Int)) then
  idx r2 s5.2 >>= fun x8 =>
  idx a0.IDs x8 >>= fun x10 =>
  app 32 s5.1 [x10] >>= fun x13 =>
  some (w64 (s5.2+1)) >>= fun y16 =>
  some (.inr (x13,y16))
 else
  some (.inl s5.1)
def zdl (a0:z00):Option ((List V3)) :=
 z4w a0 >>= fun r2 =>
 (iter (z8l a0 r2) ([],0)) >>= fun s4 =>
 some s4
def zbw (a0:z00):Option ((List V3) × Int) :=
 z0e a0 >>= fun r2 =>
 if r2 != 0 then
  some ([],r2)
 else
  zdl a0 >>= fun r5 =>
  some (r5,0)
def zco (a0:V3) (c1_0:List Bool) (c2_0:List (V3 × Int)):Option (Bool) :=
 idx c1_0 ((zk4 c2_0 a0).getD 0) >>= fun x2 =>
 some (!x2)
theorem zi5 (a0:V3) (p1_0:Value) (q1_0:Value) (c1_0:List Bool) (p2_0:Value) (q2_0:Value) (c2_0:List (V3 × Int)):z1s Tryz.prog 126 [.rd aZ a0,.val (z04 p1_0 0),.val (z04 p2_0 0)] [(1,some (p1_0,.box 152 [.val q1_0])),(2,some (q1_0,.list z0j 4 c1_0)),(3,some (p2_0,.box 156 [.val q2_0])),(4,some (q2_0,.map aZ z0d c2_0))] (zco a0 c1_0 c2_0) (fun r nv=>⟨[.rd z0j r],[(1,some (p1_0,.box 152 [.val q1_0])),(2,some (q1_0,.list z0j 4 c1_0)),(3,some (p2_0,.box 156 [.val q2_0])),(4,some (q2_0,.map aZ z0d c2_0))]⟩):=by
 refine z2b 12 Tryz.func126 Z Z Z fun H w=>?_
 refine gSR<|Eb Z (bx 5 Z) fun v1=>Zb Z<|z0p<|zik mixed (by kernel_rfl)<|Rq Z (ldV 1 Z Z .here zyq Z)<|Rq Z (ldV 3 Z Z .here z15r Z)<|Rq Z (ld 5 Z Z fH z3s Z)<|Rq Z (mlk Z (.own 4 Z Z) Z ky62 Tryz.underlying156 ti3 (Zr.num Z) Z)<|z8t fun x2 h3=>Rq Z (ixO 2 Z Z Z h3 tu152 ti4)<|Rq Z (ld 2 Z Z (Foc.el h3) ty4 Z)<|Rq Z (zf4 Z)<|Rq Z (asg Z)<|zt9<|z0k<|z0l<|Ze [] [1,2,3,4] Z
def z14 (a0:List V3) (c1_0:List Bool) (c1_1:List (V3 × Int)) (s2:Int):Option (Sum (Sum Int Unit) Int) :=
 if decide (s2<(a0.length:Int)) then
  idx a0 s2 >>= fun x4 =>
  zco x4 c1_0 c1_1 >>= fun r6 =>
  if r6 then
   some (.inl (.inl s2))
  else
   some (.inr (w64 (s2+1)))
 else
  some (.inl (.inr ()))
def z2f (a0:List V3) (c1_0:List Bool) (c1_1:List (V3 × Int)):Option (Int) :=
 z58 (iter (z14 a0 c1_0 c1_1) 0) fun s1 =>
 some (-1)
theorem z6i (a0:List V3) (p1_0:Value) (q1_0:Value) (c1_0:List Bool) (p1_1:Value) (q1_1:Value) (c1_1:List (V3 × Int)):z1s Tryz.prog 114 [.rd (z02 aZ) a0,.val (.func (.func 126) #[] #[z04 p1_0 0,z04 p1_1 0])] [(1,some (p1_0,.box 152 [.val q1_0])),(2,some (q1_0,.list z0j 4 c1_0)),(3,some (p1_1,.box 156 [.val q1_1])),(4,some (q1_1,.map aZ z0d c1_1))] (z2f a0 c1_0 c1_1) (fun r nv=>⟨[.rd z0d r],[(1,some (p1_0,.box 152 [.val q1_0])),(2,some (q1_0,.list z0j 4 c1_0)),(3,some (p1_1,.box 156 [.val q1_1])),(4,some (q1_1,.map aZ z0d c1_1))]⟩):=by
 refine z2b 19 Tryz.func114 Z Z Z fun H w=>?_
 refine gSR<|Zb Z<|z7e (fun (s1:Unit) aa ww=>Sta (ctx 19 H [(1,some (p1_0,.box 152 [.val q1_0])),(2,some (q1_0,.list z0j 4 c1_0)),(3,some (p1_1,.box 156 [.val q1_1])),(4,some (q1_1,.map aZ z0d c1_1))] w) [] [(2,some (q1_0,.list z0j 4 c1_0)),(1,some (p1_0,.box 152 [.val q1_0])),(4,some (q1_1,.map aZ z0d c1_1)),(3,some (p1_1,.box 156 [.val q1_1]))] aa ww) ?_ (fun s1=>?_)
 ·
  refine gSR<|Zm Z<|Zq (z3e Z .rd Z tu22)<|Zm Z<|Zn<|z1t (fun (s2:Int) aa ww=>Sta (ctx 19 H [(1,some (p1_0,.box 152 [.val q1_0])),(2,some (q1_0,.list z0j 4 c1_0)),(3,some (p1_1,.box 156 [.val q1_1])),(4,some (q1_1,.map aZ z0d c1_1))] w) [(0,.rd (z02 aZ) a0),(1,.val (.func (.func 126) #[] #[z04 p1_0 0,z04 p1_1 0])),(7,.rd z0d (a0.length:Int)),(8,.rd z0d s2)] [(2,some (q1_0,.list z0j 4 c1_0)),(1,some (p1_0,.box 152 [.val q1_0])),(4,some (q1_1,.map aZ z0d c1_1)),(3,some (p1_1,.box 156 [.val q1_1]))] aa ww) (fun aa ww h=>Zu h [2,1,4,3]) (fun s2=>?_)
  refine gSR<|Zq (I.lss Z Z)<|Zn<|z0p<|gIf Z Z (fun h3=>?_) (fun h3=>?_)
  ·
   refine Zt<|z0p<|z4t<|gSR<|Zm Z<|Zb Z<|gSR<|Zm Z<|Zm Z<|Zm Z<|z0n fun x4 h5=>Zq (ixR Z Z h5 tu22 z23 Z)<|Zq (ldR Z z3s)<|zhx [1,2,3,4] [(1,1),(2,2),(3,3),(4,4)] (gd0 Z) Z Z Tryz.func126 Z Z (zi5 _ _ _ _ _ _ _) (Y1 Z) (cQ 1 Z<|cQ 3 Z<|cN) (Zi Z<|Zi Z<|Zi Z<|Zi Z<|rN) fun r6 n7=>Zj Z (fun h8=>?_) (fun h8=>?_)
   ·
    refine gSR<|Zm Z<|Zb Z<|z0l<|z3t<|z0v<|z6o<|z6l<|Ze [] [1,2,3,4] Z
   ·
    refine z2d<|z2v<|z0k<|z2a<|Zq (I.add Z Z)<|Zm Z<|z1q<|z1d (fun aa ww h=>Zu h [2,1,4,3])
  ·
   refine z1p<|z0w<|z0x<|z6h (fun aa ww h=>Zu h [2,1,4,3])
 ·
  refine gSR<|Zb Z<|z0l<|Ze [] [1,2,3,4] Z
def z1g (a0:List V3) (c1_0:List Bool) (c1_1:List (V3 × Int)):Option (Bool) :=
 z2f a0 c1_0 c1_1 >>= fun r1 =>
 some (decide (0≤r1)) >>= fun y3 =>
 some y3
theorem z5t (a0:List V3) (p1_0:Value) (q1_0:Value) (c1_0:List Bool) (p1_1:Value) (q1_1:Value) (c1_1:List (V3 × Int)):z1s Tryz.prog 125 [.rd (z02 aZ) a0,.val (.func (.func 126) #[] #[z04 p1_0 0,z04 p1_1 0])] [(1,some (p1_0,.box 152 [.val q1_0])),(2,some (q1_0,.list z0j 4 c1_0)),(3,some (p1_1,.box 156 [.val q1_1])),(4,some (q1_1,.map aZ z0d c1_1))] (z1g a0 c1_0 c1_1) (fun r nv=>⟨[.rd z0j r],[(1,some (p1_0,.box 152 [.val q1_0])),(2,some (q1_0,.list z0j 4 c1_0)),(3,some (p1_1,.box 156 [.val q1_1])),(4,some (q1_1,.map aZ z0d c1_1))]⟩):=by
 refine z2b 9 Tryz.func125 Z Z Z fun H w=>?_
 refine gSR<|Zb Z<|gSR<|Zm Z<|Zm Z<|Zc [1,2,3,4] [(1,1),(2,2),(3,3),(4,4)] Tryz.func114 Z (z6i _ _ _ _ _ _ _) fun r1 n2=>Zq (I.geq Z Z)<|Za Z<|z1n 4 Z fun y3=>Zn<|z0l<|Ze [] [1,2,3,4] Z
def zby (a0:Int) (c1_0:List Bool) (c2_0:z00) (c3_0:List (V3 × Int)):Option (Bool) :=
 idx c1_0 a0 >>= fun x1 =>
 if !x1 then
  idx c2_0.Ops a0 >>= fun x4 =>
  z1g x4.Preds c1_0 c3_0 >>= fun r6 =>
  some (!r6)
 else
  some false
theorem zk2 (a0:Int) (p1_0:Value) (q1_0:Value) (c1_0:List Bool) (p2_0:Value) (c2_0:z00) (p3_0:Value) (q3_0:Value) (c3_0:List (V3 × Int)):z1s Tryz.prog 124 [.rd z0d a0,.val (z04 p1_0 0),.val (z04 p2_0 0),.val (z04 p3_0 0)] [(1,some (p1_0,.box 152 [.val q1_0])),(2,some (q1_0,.list z0j 4 c1_0)),(3,some (p2_0,.box 25 [.rd z01 c2_0])),(4,some (p3_0,.box 156 [.val q3_0])),(5,some (q3_0,.map aZ z0d c3_0))] (zby a0 c1_0 c2_0 c3_0) (fun r nv=>⟨[.rd z0j r],[(1,some (p1_0,.box 152 [.val q1_0])),(2,some (q1_0,.list z0j 4 c1_0)),(3,some (p2_0,.box 25 [.rd z01 c2_0])),(4,some (p3_0,.box 156 [.val q3_0])),(5,some (q3_0,.map aZ z0d c3_0))]⟩):=by
 refine z2b 22 Tryz.func124 Z Z Z fun H w=>?_
 refine gSR<|Zb Z<|gSR<|Zq (ldV 1 Z Z .here zyq Z)<|Zm Z<|z0n fun x1 h2=>Zq (ixO 2 Z Z Z h2 tu152 ti4)<|Zq (ld 2 Z Z (Foc.el h2) ty4 Z)<|Zq (zf4 Z)<|Zm Z<|z1l 11 Z (fun h3=>?_) (fun h3=>?_)
 ·
  refine lKn 10 Z h3<|z1a Zx Z Z (faB 3 Z Z Tryz.underlying25 Z (by exact zad))<|z1a Zx Z Z (ld 3 Z Z (fP (z0a _)) zea Z)<|z1a Zx Z Z (mv Z)<|z0n fun x4 h5=>z1a Zx Z Z (ixR Z Z h5 tu23 z64 Z)<|z1a Zx Z Z (faR Z (z0y _) Tryz.underlying73 Z Z (by exact z5l))<|z1a Zx Z Z (ldR Z z71)<|z1a Zx Z Z (mkf mp0 (mp2 Z Z))<|zfg [1,2,4,5] [(1,1),(2,2),(3,4),(4,5)] Zx Z Tryz.func125 Z Z (z5t _ _ _ _ _ _ _) (Y2 Z Z) (Zi Z<|Zi Z<|Zi Z<|Zi Z<|rN) fun r6 n7=>z1a Zx Z Z (zf4 Z)<|Zq (pkT Z Z)<|Zb Z<|z0l<|Ze [] [1,2,3,4,5] Z
 ·
  refine lKn 10 Z h3<|Zk Z<|Zk Z<|Zk Z<|Zk Z<|Zk Z<|Zk Z<|Zk Z<|Zk Z<|Zk Z<|Zq (pkF Z Z)<|Zb Z<|z0l<|Ze [] [1,2,3,4,5] Z
def z8p (a0:z00) (r5:(List (V3 × Int))) (s13:(List Bool) × (List V3) × Int) (s17:Int):Option (Sum Int Int) :=
 zby s17 s13.1 a0 r5 >>= fun r18 =>
 if !r18 then
  some (w64 (s17+1)) >>= fun y21 =>
  some (.inr y21)
 else
  some (.inl s17)
def zb8 (a0:z00) (r5:(List (V3 × Int))) (s13:(List Bool) × (List V3) × Int):Option (Sum ((List V3)) ((List Bool) × (List V3) × Int)) :=
 if decide (s13.2.2<(a0.IDs.length:Int)) then
  (iter (z8p a0 r5 s13) 0) >>= fun s16 =>
  idx s13.1 s16 >>= fun x22 =>
  idx a0.IDs s16 >>= fun x24 =>
  app 32 s13.2.1 [x24] >>= fun x27 =>
  some (.inr (s13.1.set (s16:Int).toNat true,x27,w64 (s13.2.2+1)))
 else
  some (.inl s13.2.1)
def z9y (a0:z00):Option ((List V3) × Int) :=
 z18 a0 >>= fun r2 =>
 if r2 != 0 then
  some ([],r2)
 else
  z4j a0 >>= fun r5 =>
  mkn 1 false (a0.IDs.length:Int) >>= fun x8 =>
  (iter (zb8 a0 r5) (x8,[],0)) >>= fun s12 =>
  some (s12,0)
theorem zm9 (a0:z00):z1s Tryz.prog 85 [.rd z01 a0] [zG1] (z9y a0) (fun r nv=>⟨[.val (nv 0),.rd z0d r.2],[(1001,some (.bool true,.glob 1 (z3j 64 z0q) z6a)),(100,some (nv 0,.list aZ 62 r.1))]⟩):=by
 refine z2b 46 Tryz.func85 Z Z Z fun H w=>?_
 refine gSR<|Eb Z (bx 1 Z) fun v1=>Za Z<|Zb Z<|z0p<|gSR<|Zq (ld 1 Z Z fH z4d Z)<|Zc [1001] [] Tryz.func74 Z (zau _) fun r2 n3=>Zb Z<|gSR<|Zm Z<|Zq (I.neq Z Z)<|Zj Z (fun h4=>?_) (fun h4=>?_)
 ·
  refine gSR<|Zm Z<|Za Z<|Zb Z<|z0l<|z0v<|zs6 aZ 62 2<|Ze [(.slice none 0 0)] [1001,2] Z
 ·
  refine Zt<|gSR<|Zq (ld 1 Z Z fH z4d Z)<|Zc [] [(100,3)] Tryz.func123 Z (za9 _) fun r5 n6=>Eb Z (z5o 4 zy1 (.val Z)) fun v7=>Es (zp7 4 Z Z (.here z05) Z z0r z05 zy1)<|Zn<|gSR<|Zq (faB 1 Z Z Tryz.underlying25 Z (by exact z5l))<|Zq (ld 1 Z Z (fP (z09 _)) z71 Z)<|Zq (z3e Z .rd Z tu22)<|z0n fun x8 h9=>Ef Z (mks (R:=z0j) 5 Z Z h9 tu152 ti4 Zr.bool Z) fun v10=>Eb Z (z5o 6 z14b (.val Z)) fun v11=>Es (zp7 6 Z Z (.here z05) Z z0r z05 z14b)<|Zn<|gSR<|Zq (mkf mp0 (mp3 Z Z Z))<|Zb Z<|gSR<|Zb Z<|z8i (fun (s12:(List V3)) aa ww=>∃ nv:Nat→Value,Sta (ctx 46 H [zG1] w) [(8,.val (nv 0))] [(1101,some ((nv 0),.list aZ 62 s12)),zG1] aa ww) ?_ (fun s12=>?_)
  ·
   refine gSR<|Zq (faB 1 Z Z Tryz.underlying25 Z (by exact z5l))<|Zq (ld 1 Z Z (fP (z09 _)) z71 Z)<|Zq (z3e Z .rd Z tu22)<|Zm Z<|Zn<|zup aZ 62 1104<|z1t (fun (s13:(List Bool) × (List V3) × Int) aa ww=>∃ nv:Nat→Value,Sta (ctx 46 H [zG1] w) [(1,.val (z04 v1 0)),(6,.val (z04 v11 0)),(7,.val (.func (.func 124) #[] #[z04 v11 0,z04 v1 0,z04 v7 0])),(8,.val (nv 0)),(24,.rd z0d (a0.IDs.length:Int)),(25,.rd z0d s13.2.2)] [(1,some (v1,.box 25 [.rd z01 a0])),(5,some (v10,.list z0j 4 s13.1)),(6,some (v11,.box 152 [.val v10])),(3,some ((n6 0),.map aZ z0d r5)),(4,some (v7,.box 156 [.val (n6 0)])),(1103,some ((nv 0),.list aZ 62 s13.2.1)),zG1] aa ww) (fun aa ww h=>⟨nvl [(.slice none 0 0)],Zu h [1,5,6,3,4,1104,1001]⟩) (fun s13=>?_)
   refine gEx fun n14=>gSR<|Zq (I.lss Z Z)<|Zn<|z0p<|gIf Z Z (fun h15=>?_) (fun h15=>?_)
   ·
    refine Zt<|z0p<|z4t<|gSR<|Zb Z<|z8i (fun (s16:Int) aa ww=>Sta (ctx 46 H [zG1] w) [(1,.val (z04 v1 0)),(6,.val (z04 v11 0)),(7,.val (.func (.func 124) #[] #[z04 v11 0,z04 v1 0,z04 v7 0])),(8,.val (n14 0)),(9,.rd z0d s16),(24,.rd z0d (a0.IDs.length:Int)),(25,.rd z0d s13.2.2)] [(1,some (v1,.box 25 [.rd z01 a0])),(5,some (v10,.list z0j 4 s13.1)),(6,some (v11,.box 152 [.val v10])),(3,some ((n6 0),.map aZ z0d r5)),(4,some (v7,.box 156 [.val (n6 0)])),(1103,some ((n14 0),.list aZ 62 s13.2.1)),zG1] aa ww) ?_ (fun s16=>?_)
    ·
     refine z1t (fun (s17:Int) aa ww=>Sta (ctx 46 H [zG1] w) [(1,.val (z04 v1 0)),(6,.val (z04 v11 0)),(7,.val (.func (.func 124) #[] #[z04 v11 0,z04 v1 0,z04 v7 0])),(8,.val (n14 0)),(9,.rd z0d s17),(24,.rd z0d (a0.IDs.length:Int)),(25,.rd z0d s13.2.2)] [(1,some (v1,.box 25 [.rd z01 a0])),(5,some (v10,.list z0j 4 s13.1)),(6,some (v11,.box 152 [.val v10])),(3,some ((n6 0),.map aZ z0d r5)),(4,some (v7,.box 156 [.val (n6 0)])),(1103,some ((n14 0),.list aZ 62 s13.2.1)),zG1] aa ww) (fun aa ww h=>Zu h [1,5,6,3,4,1103,1001]) (fun s17=>?_)
     refine z0p<|gSR<|Zm Z<|Zm Z<|zhx [6,5,1,4,3] [(1,6),(2,5),(3,1),(4,4),(5,3)] (gd0 Z) Z Z Tryz.func124 Z Z (zk2 _ _ _ _ _ _ _ _ _) (Y1 Z) (cQ 6 Z<|cQ 1 Z<|cQ 4 Z<|cN) (Zi Z<|Zi Z<|Zi Z<|Zi Z<|Zi Z<|rN) fun r18 n19=>Zq (zf4 Z)<|Zj Z (fun h20=>?_) (fun h20=>?_)
     ·
      refine Zt<|z4t<|z2a<|Zm Z<|Zq (I.add Z Z)<|Za Z<|z1n 9 Z fun y21=>z1q<|z2v<|z1d (fun aa ww h=>Zu h [1,5,6,3,4,1103,1001])
     ·
      refine z1p<|z0w<|z0x<|z3m (fun aa ww h=>Zu h [1,5,6,3,4,1103,1001])
    ·
     refine gSR<|Zq (ldV 6 Z Z .here zyq Z)<|Zm Z<|z0n fun x22 h23=>Zq (ixO 5 Z Z Z h23 tu152 ti4)<|Es (sto 5 Z Z (Foc.el h23) Z ti4)<|Zn<|z2a<|Zm Z<|Zq (faB 1 Z Z Tryz.underlying25 Z (by exact z5l))<|Zq (ld 1 Z Z (fP (z09 _)) z71 Z)<|Zm Z<|z0n fun x24 h25=>Zq (ixR Z Z h25 tu22 z23 Z)<|Zq (ldR Z z3s)<|Ef Z (lit (R:=aZ) ([x24]:List V3) 1105 (pP Z Z<|pN) Z tu22 z23 Z Z) fun v26=>zgc 1105 [42] Z (fS Z<|fN)<|z0n fun x27 h28=>Ef Z (apn 1103 Z Z Z .rd h28 tu22 z23 Z Z Z) fun v29=>Za Z<|z1q<|z2v<|z0k<|z2a<|Zq (I.add Z Z)<|Zm Z<|z1q<|z1d (fun aa ww h=>⟨nvl [v29],Zu h [1,5,6,3,4,1103,1001]⟩)
   ·
    refine z1p<|z0w<|z0x<|z3m (fun aa ww h=>⟨nvl [(n14 0)],Zu h [1103,1001]⟩)
  ·
   refine gEx fun n30=>gSR<|Zm Z<|Za Z<|Zb Z<|z0l<|Ze [(n30 0)] [1001,1101] Z
def zee (a0:z00) (a1:List V3):Option (Int) :=
 z0e a0 >>= fun r2 =>
 if r2 != 0 then
  z0e a0 >>= fun r5 =>
  some r5
 else
  z3d a0.IDs a1 >>= fun r7 =>
  if !r7 then
   some 6
  else
   some 0
def zc3 (a0:z00) (a1:V3):Option ((List V3)) :=
 z33 a0.IDs a1 >>= fun r3 =>
 idx a0.Ops r3 >>= fun x5 =>
 some x5.Preds
def z4p (a0:List V3) (s2:(List V3) × Int) (s6:Int):Option (Sum Int Int) :=
 if decide (s6<(s2.1.length:Int)) then
  idx s2.1 s6 >>= fun x8 =>
  idx a0 s2.2 >>= fun x10 =>
  z89 x8 x10 >>= fun r12 =>
  if decide (r12<0) then
   some (.inr (w64 (s6+1)))
  else
   some (.inl s6)
 else
  some (.inl s6)
def z62 (a0:List V3) (s2:(List V3) × Int):Option (Sum ((List V3)) ((List V3) × Int)) :=
 if decide (s2.2<(a0.length:Int)) then
  (iter (z4p a0 s2) 0) >>= fun s5 =>
  (if s5==(s2.1.length:Int) then
   some true
  else
   idx s2.1 s5 >>= fun x17 =>
   idx a0 s2.2 >>= fun x19 =>
   some (!decide (x17=x19))) >>= fun s15 =>
  if s15 then
   cut s2.1 0 s5 >>= fun x22 =>
   idx a0 s2.2 >>= fun x24 =>
   cut s2.1 s5 (s2.1.length:Int) >>= fun x26 =>
   app 32 ([]:List V3) x22 >>= fun x29 =>
   app 32 x29 [x24] >>= fun x33 =>
   app 32 x33 x26 >>= fun x36 =>
   some (w64 (s2.2+1)) >>= fun y39 =>
   some (.inr (x36,y39))
  else
   some (w64 (s2.2+1)) >>= fun y63 =>
   some (.inr (s2.1,y63))
 else
  some (.inl s2.1)
def zdh (a0:List V3):Option ((List V3)) :=
 (iter (z62 a0) ([],0)) >>= fun s1 =>
 some s1
def z61 (a0:z00) (s10:(List V3) × (List V3)):Option (Sum ((List V3)) ((List V3) × (List V3))) :=
 if decide (0<(s10.2.length:Int)) then
  idx s10.2 0 >>= fun x13 =>
  cut s10.2 1 (s10.2.length:Int) >>= fun x16 =>
  z33 s10.1 x13 >>= fun r19 =>
  if decide (r19<0) then
   app 32 s10.1 [x13] >>= fun x23 =>
   zc3 a0 x13 >>= fun r26 =>
   app 32 x16 r26 >>= fun x28 =>
   some (.inr (x23,x28))
  else
   some (.inr (s10.1,x16))
 else
  some (.inl s10.1)
def zdc (a0:z00) (a1:V3):Option ((List V3)) :=
 zc3 a0 a1 >>= fun r4 =>
 app 32 ([]:List V3) r4 >>= fun x6 =>
 (iter (z61 a0) ([],x6)) >>= fun s9 =>
 zdh s9 >>= fun r32 =>
 some r32
def zbi (a0:z00) (a1:V3):Option ((List V3) × Int) :=
 zee a0 [a1] >>= fun r4 =>
 if r4 != 0 then
  some ([],r4)
 else
  zdc a0 a1 >>= fun r7 =>
  some (r7,0)
def z9c (c1_0:List (V3 × Int)) (c3_0:z00) (rec:V3→(List (V3 × Int))→(List Bool)→z00→Option ((List Bool))) (x8:z08) (s10:(List Bool) × Int):Option (Sum ((List Bool)) ((List Bool) × Int)) :=
 if decide (s10.2<(x8.Preds.length:Int)) then
  idx x8.Preds s10.2 >>= fun x12 =>
  rec x12 c1_0 s10.1 c3_0 >>= fun r15 =>
  some (.inr (r15,w64 (s10.2+1)))
 else
  some (.inl s10.1)
def z7x (rec:V3→(List (V3 × Int))→(List Bool)→z00→Option ((List Bool))) (a0:V3) (c1_0:List (V3 × Int)) (c2_0:List Bool) (c3_0:z00):Option ((List Bool)) :=
 some ((zk4 c1_0 a0).getD 0) >>= fun y2 =>
 idx c2_0 y2 >>= fun x3 =>
 if x3 then
  some c2_0
 else
  idx c2_0 y2 >>= fun x6 =>
  idx c3_0.Ops y2 >>= fun x8 =>
  iter (z9c c1_0 c3_0 rec x8) (c2_0.set (y2:Int).toNat true,0)
def z35:Nat→V3→(List (V3 × Int))→(List Bool)→z00→Option ((List Bool))
 | 0,_,_,_,_=>none
 | N+1,a0,c1_0,c2_0,c3_0=>z7x (z35 N) a0 c1_0 c2_0 c3_0
theorem zk9 (rec:V3→(List (V3 × Int))→(List Bool)→z00→Option ((List Bool))) (ih:∀ (a0:V3) (p1_0:Value) (q1_0:Value) (c1_0:List (V3 × Int)) (p2_0:Value) (q2_0:Value) (c2_0:List Bool) (p3_0:Value) (c3_0:z00) (p4_0:Value),z1s Tryz.prog 166 [.rd aZ a0,.val (z04 p1_0 0),.val (z04 p2_0 0),.val (z04 p3_0 0),.val (z04 p4_0 0)] [(1,some (p1_0,.box 156 [.val q1_0])),(2,some (q1_0,.map aZ z0d c1_0)),(3,some (p2_0,.box 152 [.val q2_0])),(4,some (q2_0,.list z0j 4 c2_0)),(5,some (p3_0,.box 25 [.rd z01 c3_0])),(6,some (p4_0,.box 186 [.val (.func (.func 166) #[] #[z04 p1_0 0,z04 p2_0 0,z04 p3_0 0,z04 p4_0 0])]))] (rec a0 c1_0 c2_0 c3_0) (fun r nv=>⟨[],[(1,some (p1_0,.box 156 [.val q1_0])),(2,some (q1_0,.map aZ z0d c1_0)),(3,some (p2_0,.box 152 [.val q2_0])),(4,some (q2_0,.list z0j 4 r)),(5,some (p3_0,.box 25 [.rd z01 c3_0])),(6,some (p4_0,.box 186 [.val (.func (.func 166) #[] #[z04 p1_0 0,z04 p2_0 0,z04 p3_0 0,z04 p4_0 0])]))]⟩)) (a0:V3) (p1_0:Value) (q1_0:Value) (c1_0:List (V3 × Int)) (p2_0:Value) (q2_0:Value) (c2_0:List Bool) (p3_0:Value) (c3_0:z00) (p4_0:Value):z1s Tryz.prog 166 [.rd aZ a0,.val (z04 p1_0 0),.val (z04 p2_0 0),.val (z04 p3_0 0),.val (z04 p4_0 0)] [(1,some (p1_0,.box 156 [.val q1_0])),(2,some (q1_0,.map aZ z0d c1_0)),(3,some (p2_0,.box 152 [.val q2_0])),(4,some (q2_0,.list z0j 4 c2_0)),(5,some (p3_0,.box 25 [.rd z01 c3_0])),(6,some (p4_0,.box 186 [.val (.func (.func 166) #[] #[z04 p1_0 0,z04 p2_0 0,z04 p3_0 0,z04 p4_0 0])]))] (z7x rec a0 c1_0 c2_0 c3_0) (fun r nv=>⟨[],[(1,some (p1_0,.box 156 [.val q1_0])),(2,some (q1_0,.map aZ z0d c1_0)),(3,some (p2_0,.box 152 [.val q2_0])),(4,some (q2_0,.list z0j 4 r)),(5,some (p3_0,.box 25 [.rd z01 c3_0])),(6,some (p4_0,.box 186 [.val (.func (.func 166) #[] #[z04 p1_0 0,z04 p2_0 0,z04 p3_0 0,z04 p4_0 0])]))]⟩):=by
 refine z2b 34 Tryz.func166 Z Z Z fun H w=>?_
 refine gSR<|Eb Z (bx 7 Z) fun v1=>Zn<|gSR<|Zq (ldV 1 Z Z .here z15r Z)<|Zq (ld 7 Z Z fH z3s Z)<|Zq (mlk Z (.own 2 Z Z) Z ky62 Tryz.underlying156 ti3 (Zr.num Z) Z)<|Za Z<|z1n 6 Z fun y2=>Zn<|z0p<|gSR<|Zq (ldV 3 Z Z .here zyq Z)<|Zm Z<|z0n fun x3 h4=>Zq (ixO 4 Z Z Z h4 tu152 ti4)<|Zq (ld 4 Z Z (Foc.el h4) ty4 Z)<|Zj Z (fun h5=>?_) (fun h5=>?_)
 ·
  refine z0l<|z0v<|Ze [] [1,2,3,4,5,6] Z
 ·
  refine Zt<|gSR<|Zq (ldV 3 Z Z .here zyq Z)<|Zm Z<|z0n fun x6 h7=>Zq (ixO 4 Z Z Z h7 tu152 ti4)<|Es (sto 4 Z Z (Foc.el h7) Z ti4)<|Zn<|gSR<|Zq (faB 5 Z Z Tryz.underlying25 Z (by exact zad))<|Zq (ld 5 Z Z (fP (z0a _)) zea Z)<|Zm Z<|z0n fun x8 h9=>Zq (ixR Z Z h9 tu23 z64 Z)<|Zq (faR Z (z0y _) Tryz.underlying73 Z Z (by exact z5l))<|Zq (ldR Z z71)<|Zq (z3e Z .rd Z tu22)<|Zm Z<|Zn<|z1t (fun (s10:(List Bool) × Int) aa ww=>Sta (ctx 34 H [(1,some (p1_0,.box 156 [.val q1_0])),(2,some (q1_0,.map aZ z0d c1_0)),(3,some (p2_0,.box 152 [.val q2_0])),(4,some (q2_0,.list z0j 4 c2_0)),(5,some (p3_0,.box 25 [.rd z01 c3_0])),(6,some (p4_0,.box 186 [.val (.func (.func 166) #[] #[z04 p1_0 0,z04 p2_0 0,z04 p3_0 0,z04 p4_0 0])]))] w) [(4,.val (z04 p4_0 0)),(24,.rd (z02 aZ) x8.Preds),(25,.rd z0d (x8.Preds.length:Int)),(26,.rd z0d s10.2)] [(6,some (p4_0,.box 186 [.val (.func (.func 166) #[] #[z04 p1_0 0,z04 p2_0 0,z04 p3_0 0,z04 p4_0 0])])),(2,some (q1_0,.map aZ z0d c1_0)),(1,some (p1_0,.box 156 [.val q1_0])),(4,some (q2_0,.list z0j 4 s10.1)),(3,some (p2_0,.box 152 [.val q2_0])),(5,some (p3_0,.box 25 [.rd z01 c3_0]))] aa ww) (fun aa ww h=>Zu h [6,2,1,4,3,5]) (fun s10=>?_)
  refine gSR<|Zq (I.lss Z Z)<|Zn<|z0p<|gIf Z Z (fun h11=>?_) (fun h11=>?_)
  ·
   refine Zt<|z0p<|z4t<|gSR<|z0n fun x12 h13=>Zq (ixR Z Z h13 tu22 z23 Z)<|Zq (ldR Z z3s)<|Eb Z (z5o 8 z23 (.zr (R:=aZ) (x:=(Vector.replicate 32 0)) zge)) fun v14=>Es (sto 8 Z Z fH Z z23)<|Zn<|z2a<|Zq (ldV 6 Z Z .here z17z Z)<|Zq (ld 8 Z Z fH z3s Z)<|zhx [1,2,3,4,5,6] [(1,1),(2,2),(3,3),(4,4),(5,5),(6,6)] (gd0 Z) Z Z Tryz.func166 Z Z (ih _ _ _ _ _ _ _ _ _ _) (Y1 Z) (cQ 1 Z<|cQ 3 Z<|cQ 5 Z<|cQ 6 Z<|cN) (Zi Z<|Zi Z<|Zi Z<|Zi Z<|Zi Z<|Zi Z<|rN) fun r15 n16=>z1q<|z2v<|z0k<|z2a<|Zq (I.add Z Z)<|Zm Z<|z1q<|z1d (fun aa ww h=>Zu h [6,2,1,4,3,5])
  ·
   refine z1p<|z0w<|z0x<|Ze [] [1,2,3,4,5,6] Z
theorem zep:∀ (N:Nat) (a0:V3) (p1_0:Value) (q1_0:Value) (c1_0:List (V3 × Int)) (p2_0:Value) (q2_0:Value) (c2_0:List Bool) (p3_0:Value) (c3_0:z00) (p4_0:Value),z1s Tryz.prog 166 [.rd aZ a0,.val (z04 p1_0 0),.val (z04 p2_0 0),.val (z04 p3_0 0),.val (z04 p4_0 0)] [(1,some (p1_0,.box 156 [.val q1_0])),(2,some (q1_0,.map aZ z0d c1_0)),(3,some (p2_0,.box 152 [.val q2_0])),(4,some (q2_0,.list z0j 4 c2_0)),(5,some (p3_0,.box 25 [.rd z01 c3_0])),(6,some (p4_0,.box 186 [.val (.func (.func 166) #[] #[z04 p1_0 0,z04 p2_0 0,z04 p3_0 0,z04 p4_0 0])]))] (z35 N a0 c1_0 c2_0 c3_0) (fun r nv=>⟨[],[(1,some (p1_0,.box 156 [.val q1_0])),(2,some (q1_0,.map aZ z0d c1_0)),(3,some (p2_0,.box 152 [.val q2_0])),(4,some (q2_0,.list z0j 4 r)),(5,some (p3_0,.box 25 [.rd z01 c3_0])),(6,some (p4_0,.box 186 [.val (.func (.func 166) #[] #[z04 p1_0 0,z04 p2_0 0,z04 p3_0 0,z04 p4_0 0])]))]⟩)
 | 0,a0,p1_0,q1_0,c1_0,p2_0,q2_0,c2_0,p3_0,c3_0,p4_0=>fun r hr=>absurd hr (by simp [z35])
 | N+1,a0,p1_0,q1_0,c1_0,p2_0,q2_0,c2_0,p3_0,c3_0,p4_0=>zk9 (z35 N) (zep N) a0 p1_0 q1_0 c1_0 p2_0 q2_0 c2_0 p3_0 c3_0 p4_0
theorem zkl (a0:V3) (p1_0:Value) (q1_0:Value) (c1_0:List (V3 × Int)) (p2_0:Value) (q2_0:Value) (c2_0:List Bool) (p3_0:Value) (c3_0:z00) (p4_0:Value):z1s Tryz.prog 166 [.rd aZ a0,.val (z04 p1_0 0),.val (z04 p2_0 0),.val (z04 p3_0 0),.val (z04 p4_0 0)] [(1,some (p1_0,.box 156 [.val q1_0])),(2,some (q1_0,.map aZ z0d c1_0)),(3,some (p2_0,.box 152 [.val q2_0])),(4,some (q2_0,.list z0j 4 c2_0)),(5,some (p3_0,.box 25 [.rd z01 c3_0])),(6,some (p4_0,.box 186 [.val (.func (.func 166) #[] #[z04 p1_0 0,z04 p2_0 0,z04 p3_0 0,z04 p4_0 0])]))] (z35 1000 a0 c1_0 c2_0 c3_0) (fun r nv=>⟨[],[(1,some (p1_0,.box 156 [.val q1_0])),(2,some (q1_0,.map aZ z0d c1_0)),(3,some (p2_0,.box 152 [.val q2_0])),(4,some (q2_0,.list z0j 4 r)),(5,some (p3_0,.box 25 [.rd z01 c3_0])),(6,some (p4_0,.box 186 [.val (.func (.func 166) #[] #[z04 p1_0 0,z04 p2_0 0,z04 p3_0 0,z04 p4_0 0])]))]⟩):=zep 1000 a0 p1_0 q1_0 c1_0 p2_0 q2_0 c2_0 p3_0 c3_0 p4_0
def zbb (a0:z00) (a1:List V3) (r2:(List (V3 × Int))) (s11:(List Bool) × Int):Option (Sum ((List Bool)) ((List Bool) × Int)) :=
 if decide (s11.2<(a1.length:Int)) then
  idx a1 s11.2 >>= fun x13 =>
  (z35 1000) x13 r2 s11.1 a0 >>= fun r16 =>
  some (.inr (r16,w64 (s11.2+1)))
 else
  some (.inl s11.1)
def zdr (a0:z00) (a1:List V3):Option ((List Bool)) :=
 z4j a0 >>= fun r2 =>
 mkn 1 false (a0.IDs.length:Int) >>= fun x5 =>
 (iter (zbb a0 a1 r2) (x5,0)) >>= fun s10 =>
 some s10
theorem zmb (a0:z00) (a1:List V3):z1s Tryz.prog 120 [.rd z01 a0,.rd (z02 aZ) a1] [] (zdr a0 a1) (fun r nv=>⟨[.val (nv 0)],[(100,some (nv 0,.list z0j 4 r))]⟩):=by
 refine z2b 28 Tryz.func120 Z Z Z fun H w=>?_
 refine gSR<|Eb Z (bx 1 Z) fun v1=>Zb Z<|gSR<|Zq (ld 1 Z Z fH z4d Z)<|Zc [] [(100,2)] Tryz.func123 Z (za9 _) fun r2 n3=>Eb Z (z5o 3 zy1 (.val Z)) fun v4=>Es (zp7 3 Z Z (.here z05) Z z0r z05 zy1)<|Zn<|gSR<|Zq (faB 1 Z Z Tryz.underlying25 Z (by exact z5l))<|Zq (ld 1 Z Z (fP (z09 _)) z71 Z)<|Zq (z3e Z .rd Z tu22)<|z0n fun x5 h6=>Ef Z (mks (R:=z0j) 4 Z Z h6 tu152 ti4 Zr.bool Z) fun v7=>Eb Z (z5o 5 z14b (.val Z)) fun v8=>Es (zp7 5 Z Z (.here z05) Z z0r z05 z14b)<|Zn<|gSR<|Eb Z (z5o 6 z197 (.val Z)) fun v9=>Zn<|gSR<|Zq (mkf mp0 (mp4 Z Z Z Z))<|Es (zp7 6 Z Z (.here z05) Z z0r z05 z197)<|Zn<|z8i (fun (s10:(List Bool)) aa ww=>Sta (ctx 28 H [] w) [(6,.val (z04 v8 0))] [(4,some (v7,.list z0j 4 s10)),(5,some (v8,.box 152 [.val v7]))] aa ww) ?_ (fun s10=>?_)
 ·
  refine gSR<|Zm Z<|Zq (z3e Z .rd Z tu22)<|Zm Z<|Zn<|z1t (fun (s11:(List Bool) × Int) aa ww=>Sta (ctx 28 H [] w) [(6,.val (z04 v8 0)),(7,.val (z04 v9 0)),(17,.rd (z02 aZ) a1),(18,.rd z0d (a1.length:Int)),(19,.rd z0d s11.2)] [(4,some (v7,.list z0j 4 s11.1)),(5,some (v8,.box 152 [.val v7])),(6,some (v9,.box 186 [.val (.func (.func 166) #[] #[z04 v4 0,z04 v8 0,z04 v1 0,z04 v9 0])])),(2,some ((n3 0),.map aZ z0d r2)),(3,some (v4,.box 156 [.val (n3 0)])),(1,some (v1,.box 25 [.rd z01 a0]))] aa ww) (fun aa ww h=>Zu h [4,5,6,2,3,1]) (fun s11=>?_)
  refine gSR<|Zq (I.lss Z Z)<|Zn<|z0p<|gIf Z Z (fun h12=>?_) (fun h12=>?_)
  ·
   refine Zt<|z0p<|z4t<|gSR<|z0n fun x13 h14=>Zq (ixR Z Z h14 tu22 z23 Z)<|Zq (ldR Z z3s)<|Eb Z (z5o 7 z23 (.zr (R:=aZ) (x:=(Vector.replicate 32 0)) zge)) fun v15=>Es (sto 7 Z Z fH Z z23)<|Zn<|z2a<|Zq (ldV 6 Z Z .here z17z Z)<|Zq (ld 7 Z Z fH z3s Z)<|zhx [3,2,5,4,1,6] [(1,3),(2,2),(3,5),(4,4),(5,1),(6,6)] (gd0 Z) Z Z Tryz.func166 Z Z (zkl _ _ _ _ _ _ _ _ _ _) (Y1 Z) (cQ 3 Z<|cQ 5 Z<|cQ 1 Z<|cQ 6 Z<|cN) (Zi Z<|Zi Z<|Zi Z<|Zi Z<|Zi Z<|Zi Z<|rN) fun r16 n17=>z1q<|z2v<|z0k<|z2a<|Zq (I.add Z Z)<|Zm Z<|z1q<|z1d (fun aa ww h=>Zu h [4,5,6,2,3,1])
  ·
   refine z1p<|z0w<|z0x<|z3m (fun aa ww h=>Zu h [4,5])
 ·
  refine gSR<|Zq (ldV 5 Z Z .here zyq Z)<|Zb Z<|z0l<|Ze [v7] [4] Z
def zak (a0:z08):Option (z08) :=
 app 32 ([]:List V3) a0.Preds >>= fun x4 =>
 some (⟨a0.Author,x4,a0.Stamp,a0.Act,a0.Sig⟩:z08)
theorem zg0 (a0:z08):z1s Tryz.prog 42 [.rd z03 a0] [] (zak a0) (fun r nv=>⟨[.rd z03 r],[]⟩):=by
 refine z2b 9 Tryz.func42 Z Z Z fun H w=>?_
 refine gSR<|Eb Z (bx 1 Z) fun v1=>Eb Z (z5o 2 z64 (ZrE.rd (R:=z0q) (x:=0) (Zr.num Z) (ZrE.nilS (ZrE.rd (R:=z2c) (x:=0) (Zr.num Z) (ZrE.rd (R:=z0f) (x:=(⟨0,[],(⟨0,0,0,[]⟩:z06)⟩:z0i)) znv (ZrE.rd (R:=z0g) (x:=(⟨0,0⟩:z0c)) zn4 ZrE.nil Z) Z) Z)) Z)) fun v2=>Zn<|gSR<|Ef Z (lit (R:=aZ) (([]:List V3):List V3) 3 (pN) Z tu22 z23 Z Z) fun v3=>Zq (faB 1 Z Z Tryz.underlying73 Z (by exact z5l))<|Zq (ld 1 Z Z (fP (z0y _)) z71 Z)<|z0n fun x4 h5=>Ef Z (apn 3 Z Z Z .rd h5 tu22 z23 Z Z Z) fun v6=>Zq (faB 1 Z Z Tryz.underlying73 Z (by exact z5l))<|lSpl (R:=z03) 1 Z (Sp.via (Sp.prod (Sp.prod (Sp.prod (Sp.prod (Sp.prod Sp.unit))))))<|Es (zp7 1 Z Z (zaf.cast (zaf.next z15 (zaf.here z15)) Z) Z z0r z05 z5l)<|Zn<|gSR<|zyi [.rd z0q a0.Author,.rd (z02 aZ) x4,.rd z2c a0.Stamp,.rd z0f a0.Act,.rd z0g a0.Sig] 1 3 [.rd z0q a0.Author] [.rd z2c a0.Stamp,.rd z0f a0.Act,.rd z0g a0.Sig] Z Z Z Z Z<|zec (R:=z03) (⟨a0.Author,x4,a0.Stamp,a0.Act,a0.Sig⟩:z08) 1 Z (Sp.via (Sp.prod (Sp.prod (Sp.prod (Sp.prod (Sp.prod Sp.unit))))))<|Zq (ld 1 Z Z fH zaa Z)<|zcg aZ [.rd z0q 0,.rd (z02 aZ) [],.rd z2c 0,.rd z0f (⟨0,[],(⟨0,0,0,[]⟩:z06)⟩:z0i),.rd z0g (⟨0,0⟩:z0c)] 2 [.rd z0q 0] [.rd z2c 0,.rd z0f (⟨0,[],(⟨0,0,0,[]⟩:z06)⟩:z0i),.rd z0g (⟨0,0⟩:z0c)] Z Z Z<|zec (R:=z03) (⟨0,[],0,(⟨0,[],(⟨0,0,0,[]⟩:z06)⟩:z0i),(⟨0,0⟩:z0c)⟩:z08) 2 Z (Sp.via (Sp.prod (Sp.prod (Sp.prod (Sp.prod (Sp.prod Sp.unit))))))<|Es (sto 2 Z Z fH Z z64)<|Zn<|z0l<|zbm [] [] Z (eC 2 Z Z zaa<|eN) (rN)
def zab (a0:z00) (s9:(List z08) × Int):Option (Sum ((List z08)) ((List z08) × Int)) :=
 if decide (s9.2<(a0.Ops.length:Int)) then
  idx a0.Ops s9.2 >>= fun x12 =>
  zak x12 >>= fun r14 =>
  app 112 s9.1 [r14] >>= fun x17 =>
  some (w64 (s9.2+1)) >>= fun y20 =>
  some (.inr (x17,y20))
 else
  some (.inl s9.1)
def zal (a0:z00):Option (z00) :=
 app 32 ([]:List V3) a0.IDs >>= fun x4 =>
 (iter (zab a0) ([],0)) >>= fun s8 =>
 some (⟨x4,s8⟩:z00)
set_option maxHeartbeats 4000000 in
theorem zfx (a0:z00):z1s Tryz.prog 11 [.rd z01 a0] [] (zal a0) (fun r nv=>⟨[.rd z01 r],[]⟩):=by
 refine z2b 29 Tryz.func11 Z Z Z fun H w=>?_
 refine gSR<|Eb Z (bx 1 Z) fun v1=>Eb Z (z5o 2 z4y (ZrE.nilS (ZrE.nilS ZrE.nil))) fun v2=>Zn<|gSR<|Ef Z (lit (R:=aZ) (([]:List V3):List V3) 3 (pN) Z tu22 z23 Z Z) fun v3=>Zq (faB 1 Z Z Tryz.underlying25 Z (by exact z5l))<|Zq (ld 1 Z Z (fP (z09 _)) z71 Z)<|z0n fun x4 h5=>Ef Z (apn 3 Z Z Z .rd h5 tu22 z23 Z Z Z) fun v6=>Zq (zm2 [(0,1),(1,1)] Tryz.underlying25 z4y (ZrE.nilS (ZrE.nilS ZrE.nil)) Z (zgd.cons Z Z z05 (zaf.cast (zaf.here z05) Z)<|zgd.done Z))<|Eb Z (z5o 4 z4y (ZrE.nilS (ZrE.nilS ZrE.nil))) fun v7=>Es (zm1 4 Z Z (z07.cast (z07.cons z05 (z07.cons z05 z07.nil)) Z) Z (z20.cons z0r (z20.cons z0r z20.nil)) (z07.cast (z07.cons z05 (z07.cons z05 z07.nil)) Z) z4y)<|Zn<|z8i (fun (s8:(List z08)) aa ww=>∃ nv:Nat→Value,Sta (ctx 29 H [] w) [(2,.val (z04 v2 0)),(3,.val (z04 v7 0))] [(2,some (v2,.box 25 [.val (.slice none 0 0),.val (.slice none 0 0)])),(3,some (v6,.list aZ 62 x4)),(5,some ((nv 0),.list z03 73 s8)),(4,some (v7,.box 25 [.val v6,.val (nv 0)]))] aa ww) ?_ (fun s8=>?_)
 ·
  refine gSR<|Zb Z<|zup z03 73 7<|z1t (fun (s9:(List z08) × Int) aa ww=>∃ nv:Nat→Value,Sta (ctx 29 H [] w) [(1,.val (z04 v1 0)),(2,.val (z04 v2 0)),(3,.val (z04 v7 0)),(4,.rd z0d s9.2)] [(1,some (v1,.box 25 [.rd z01 a0])),(2,some (v2,.box 25 [.val (.slice none 0 0),.val (.slice none 0 0)])),(3,some (v6,.list aZ 62 x4)),(6,some ((nv 0),.list z03 73 s9.1)),(4,some (v7,.box 25 [.val v6,.val (nv 0)]))] aa ww) (fun aa ww h=>⟨nvl [(.slice none 0 0)],Zu h [1,2,3,7,4]⟩) (fun s9=>?_)
  refine gEx fun n10=>z0p<|gSR<|Zm Z<|Zq (faB 1 Z Z Tryz.underlying25 Z (by exact zad))<|Zq (ld 1 Z Z (fP (z0a _)) zea Z)<|Zq (z3e Z .rd Z tu23)<|Zq (I.lss Z Z)<|Zj Z (fun h11=>?_) (fun h11=>?_)
  ·
   refine Zt<|z0p<|z4t<|zs3 [(1,.val (z04 v1 0)),(2,.val (z04 v2 0)),(3,.val (z04 v7 0)),(4,.rd z0d s9.2)] [(1,some (v1,.box 25 [.rd z01 a0])),(2,some (v2,.box 25 [.val (.slice none 0 0),.val (.slice none 0 0)])),(3,some (v6,.list aZ 62 x4)),(6,some ((n10 0),.list z03 73 s9.1)),(4,some (v7,.box 25 [.val v6,.val (n10 0)]))] [1,2,3,6,4] (Zs Z Z Z Z<|sN) (Zi Z<|Zi Z<|Zi Z<|Zi Z<|Zi Z<|rN)<|z4n fun x12 h13=>z4n fun r14 h16=>z4n fun x17 h18=>gOr [] [⟨4,some ([], fun nv=>(v7,.box 25 [.val v6,.val (n10 0)])),[(11,some ([2], fun nv=>(v7,.box 25 [.val v6,.val (nv 2)])))]⟩,⟨1,some ([], fun nv=>(v1,.box 25 [.rd z01 a0])),[]⟩,⟨8,none,[(8,none)]⟩,⟨6,some ([], fun nv=>((n10 0),.list z03 73 s9.1)),[(9,some ([2], fun nv=>((nv 2),.list z03 73 x17)))]⟩] [pk 17 (.val (z04 v7 (0+1))) [(0,0,false)],pk 18 (.val (n10 0)) [(0,0,false)],pk 19 (.val (z04 v1 (0+1))) [(1,0,false)],pk 20 (.rd (z02 z03) a0.Ops) [(1,0,false)],pd 21 (.rd z0d s9.2),pd 22 (.rp z03 x12),pd 23 (.rd z03 x12),pd 24 (.rd z03 r14),⟨some (25,[], fun nv=>.rd (z02 z03) [r14]),[(2,0,true)],[1],[]⟩,⟨some (26,[2], fun nv=>.val (nv 2)),[(3,0,true)],[2],[]⟩,pk 27 (.val (z04 v7 (0+1))) [(0,0,false)],⟨none,[(3,1,false),(0,0,true)],[],[]⟩] mixed (oC (oRn (fun nv E=>faB 4 Z Z Tryz.underlying25 Z (by exact zad)))<|oC (oRn (fun nv E=>ldV 4 Z Z (At.cast (At.next z05 At.here) Z) sc23 Z))<|oC (oRn (fun nv E=>faB 1 Z Z Tryz.underlying25 Z (by exact zad)))<|oC (oRn (fun nv E=>ld 1 Z Z (fP (z0a _)) zea Z))<|oC (oRn (fun nv E=>mv Z))<|oC (oRn (fun nv E=>ixR Z Z h13 tu23 z64 Z))<|oC (oRn (fun nv E=>ldR Z zaa))<|oC (oCl [] [] [] h16 Tryz.func42 Z (fun nv=>(zg0 _)) (fun nv=>(Y1 Z)) (fun nv E=>rN))<|oC (oFz (A1:=fun nv=>[(8,some ((nv 1),.list z03 73 [r14]))]) 8 1 (oEf 8 1 (fun nv E=>lit (R:=z03) ([r14]:List z08) 8 (pP Z Z<|pN) Z tu23 z64 Z Z)))<|oC (oEf 6 2 (fun nv E=>apn 6 Z Z Z .rd h18 tu23 z64 Z Z Z))<|oC (oRn (fun nv E=>faB 4 Z Z Tryz.underlying25 Z (by exact zad)))<|oC (oEs 4 (fun nv E=>zp7 4 Z Z (zaf.cast (zaf.next z05 (zaf.here z05)) Z) Z z0r z05 zad))<|oN) fun n19=>z2v<|z0k<|z2a<|Zm Z<|Zq (I.add Z Z)<|Za Z<|z1n 4 Z fun y20=>z1q<|z1d (fun aa ww h=>⟨nvl [(n19 2)],Zu h [1,2,3,6,4]⟩)
  ·
   refine z1p<|z0w<|z0x<|z3m (fun aa ww h=>⟨nvl [(n10 0)],Zu h [2,3,6,4]⟩)
 ·
  refine gEx fun n21=>gSR<|zyi [.rd (z02 aZ) x4,.val (n21 0)] 4 3 [] [.val (n21 0)] Z Z Z Z Z<|zyi [.rd (z02 aZ) x4,.rd (z02 z03) s8] 4 5 [.rd (z02 aZ) x4] [] Z Z Z Z Z<|zec (R:=z01) (⟨x4,s8⟩:z00) 4 Z (Sp.via (Sp.prod (Sp.prod Sp.unit)))<|Zq (ld 4 Z Z fH z4d Z)<|zcg aZ [.rd (z02 aZ) [],.val (.slice none 0 0)] 2 [] [.val (.slice none 0 0)] Z Z Z<|zcg z03 [.rd (z02 aZ) [],.rd (z02 z03) []] 2 [.rd (z02 aZ) []] [] Z Z Z<|zec (R:=z01) (⟨[],[]⟩:z00) 2 Z (Sp.via (Sp.prod (Sp.prod Sp.unit)))<|Es (sto 2 Z Z fH Z z4y)<|Zn<|z0l<|zbm [] [] Z (eC 2 Z Z z4d<|eN) (rN)
def z2i (a0:List V3) (a1:List V3) (s3:Int):Option (Sum (Sum Bool Unit) Int) :=
 if decide (s3<(a0.length:Int)) then
  idx a0 s3 >>= fun x5 =>
  idx a1 s3 >>= fun x7 =>
  if !decide (x5=x7) then
   some (.inl (.inl false))
  else
   some (.inr (w64 (s3+1)))
 else
  some (.inl (.inr ()))
def z4i (a0:List V3) (a1:List V3):Option (Bool) :=
 if (a0.length:Int) != (a1.length:Int) then
  some false
 else
  z58 (iter (z2i a0 a1) 0) fun s2 =>
  some true
theorem ze1 (a0:List V3) (a1:List V3):z1s Tryz.prog 53 [.rd (z02 aZ) a0,.rd (z02 aZ) a1] [] (z4i a0 a1) (fun r nv=>⟨[.rd z0j r],[]⟩):=by
 refine z2b 26 Tryz.func53 Z Z Z fun H w=>?_
 refine gSR<|Zb Z<|z0p<|gSR<|Zm Z<|Zq (z3e Z .rd Z tu22)<|Zm Z<|Zq (z3e Z .rd Z tu22)<|Zq (I.neq Z Z)<|Zj Z (fun h1=>?_) (fun h1=>?_)
 ·
  refine gSR<|Zb Z<|z0l<|z0v<|Ze [] [] Z
 ·
  refine Zt<|z7e (fun (s2:Unit) aa ww=>Sta (ctx 26 H [] w) [] [] aa ww) ?_ (fun s2=>?_)
  ·
   refine gSR<|Zb Z<|z1t (fun (s3:Int) aa ww=>Sta (ctx 26 H [] w) [(0,.rd (z02 aZ) a0),(1,.rd (z02 aZ) a1),(5,.rd z0d s3)] [] aa ww) (fun aa ww h=>Zu h []) (fun s3=>?_)
   refine z0p<|gSR<|Zm Z<|Zm Z<|Zq (z3e Z .rd Z tu22)<|Zq (I.lss Z Z)<|Zj Z (fun h4=>?_) (fun h4=>?_)
   ·
    refine Zt<|z0p<|z4t<|z0p<|zik mixed (by kernel_rfl)<|Rq Z (mv Z)<|Rq Z (mv Z)<|z8t fun x5 h6=>Rq Z (ixR Z Z h6 tu22 z23 Z)<|Rq Z (ldR Z z3s)<|Rq Z (mv Z)<|Rq Z (mv Z)<|z8t fun x7 h8=>Rq Z (ixR Z Z h8 tu22 z23 Z)<|Rq Z (ldR Z z3s)<|Rq Z (neA Z Z eq62 Z Z gq62)<|zt9<|z0k<|gIf Z Z (fun h9=>?_) (fun h9=>?_)
    ·
     refine gSR<|Zb Z<|z0l<|z3t<|z0v<|z6o<|z6l<|Ze [] [] Z
    ·
     refine z2d<|z2v<|z0k<|z2a<|Zm Z<|Zq (I.add Z Z)<|Za Z<|z1q<|z1d (fun aa ww h=>Zu h [])
   ·
    refine z1p<|z0w<|z0x<|z6h (fun aa ww h=>Zu h [])
  ·
   refine gSR<|Zb Z<|z0l<|Ze [] [] Z
def z6q (a0:z08) (a1:z08):Option (Bool) :=
 if a0.Author==a1.Author then
  z4i a0.Preds a1.Preds >>= fun r4 =>
  if r4 then
   if a0.Stamp==a1.Stamp then
    if decide (a0.Act=a1.Act) then
     some (decide (a0.Sig=a1.Sig)) >>= fun y9 =>
     some y9
    else
     some false
   else
    some false
  else
   some false
 else
  some false
theorem zg1 (a0:z08) (a1:z08):z1s Tryz.prog 54 [.rd z03 a0,.rd z03 a1] [] (z6q a0 a1) (fun r nv=>⟨[.rd z0j r],[]⟩):=by
 refine z2b 38 Tryz.func54 Z Z Z fun H w=>?_
 refine gSR<|Eb Z (bx 1 Z) fun v1=>Eb Z (bx 2 Z) fun v2=>Zb Z<|gSR<|Zq (faB 1 Z Z Tryz.underlying73 Z (by exact z6m))<|Zq (ld 1 Z Z (fP (z3a _)) zae Z)<|Zq (faB 2 Z Z Tryz.underlying73 Z (by exact z6m))<|Zq (ld 2 Z Z (fP (z3a _)) zae Z)<|Zq (W.eql Z Z)<|Zm Z<|z1l 10 Z (fun h3=>?_) (fun h3=>?_)
 ·
  refine lKn 9 Z h3<|z1a Zx Z Z (faB 1 Z Z Tryz.underlying73 Z (by exact z5l))<|z1a Zx Z Z (ld 1 Z Z (fP (z0y _)) z71 Z)<|z1a Zx Z Z (faB 2 Z Z Tryz.underlying73 Z (by exact z5l))<|z1a Zx Z Z (ld 2 Z Z (fP (z0y _)) z71 Z)<|zfg [] [] Zx Z Tryz.func53 Z Z (ze1 _ _) (Y2 Z Z) rN fun r4 n5=>Zq (pkT Z Z)<|Zm Z<|z1l 17 Z (fun h6=>?_) (fun h6=>?_)
  ·
   refine lKn 15 Z h6<|lKn 16 Z h6<|z1a Zx Z Z (faB 1 Z Z Tryz.underlying73 Z (by exact zs2))<|z1a Zx Z Z (ld 1 Z Z (fP (z4k _)) zqy Z)<|z1a Zx Z Z (faB 2 Z Z Tryz.underlying73 Z (by exact zs2))<|z1a Zx Z Z (ld 2 Z Z (fP (z4k _)) zqy Z)<|z1a Zx Z Z (U.eql Z Z)<|Zq (pkT Z Z)<|Zm Z<|z1l 24 Z (fun h7=>?_) (fun h7=>?_)
   ·
    refine lKn 22 Z h7<|lKn 23 Z h7<|z1a Zx Z Z (faB 1 Z Z Tryz.underlying73 Z (by exact zpj))<|z1a Zx Z Z (ld 1 Z Z (fP (z29 _)) ty69 Z)<|z1a Zx Z Z (faB 2 Z Z Tryz.underlying73 Z (by exact zpj))<|z1a Zx Z Z (ld 2 Z Z (fP (z29 _)) ty69 Z)<|z1a Zx Z Z (eqA Z Z eq69 Z Z gq69)<|Zq (pkT Z Z)<|Zm Z<|z1l 31 Z (fun h8=>?_) (fun h8=>?_)
    ·
     refine lKn 29 Z h8<|lKn 30 Z h8<|z1a Zx Z Z (faB 1 Z Z Tryz.underlying73 Z (by exact zn3))<|z1a Zx Z Z (ld 1 Z Z (fP (z2j _)) ty71 Z)<|z1a Zx Z Z (faB 2 Z Z Tryz.underlying73 Z (by exact zn3))<|z1a Zx Z Z (ld 2 Z Z (fP (z2j _)) ty71 Z)<|z1a Zx Z Z (eqA Z Z eq71 Z Z gq71)<|Zq (pkT Z Z)<|Za Z<|z1n 4 Z fun y9=>Zn<|z0l<|Ze [] [] Z
    ·
     refine lKn 29 Z h8<|lKn 30 Z h8<|Zk Z<|Zk Z<|Zk Z<|Zk Z<|Zk Z<|Zq (pkF Z Z)<|Zb Z<|z0l<|Ze [] [] Z
   ·
    refine lKn 22 Z h7<|lKn 23 Z h7<|Zk Z<|Zk Z<|Zk Z<|Zk Z<|Zk Z<|Zq (pkF Z Z)<|Zm Z<|Zk Z<|Zk Z<|Zk Z<|Zk Z<|Zk Z<|Zq (pkF Z Z)<|Zb Z<|z0l<|Ze [] [] Z
  ·
   refine lKn 15 Z h6<|lKn 16 Z h6<|Zk Z<|Zk Z<|Zk Z<|Zk Z<|Zk Z<|Zq (pkF Z Z)<|Zm Z<|Zk Z<|Zk Z<|Zk Z<|Zk Z<|Zk Z<|Zq (pkF Z Z)<|Zm Z<|Zk Z<|Zk Z<|Zk Z<|Zk Z<|Zk Z<|Zq (pkF Z Z)<|Zb Z<|z0l<|Ze [] [] Z
 ·
  refine lKn 9 Z h3<|Zk Z<|Zk Z<|Zk Z<|Zk Z<|Zk Z<|Zq (pkF Z Z)<|Zm Z<|Zk Z<|Zk Z<|Zk Z<|Zk Z<|Zk Z<|Zq (pkF Z Z)<|Zm Z<|Zk Z<|Zk Z<|Zk Z<|Zk Z<|Zk Z<|Zq (pkF Z Z)<|Zm Z<|Zk Z<|Zk Z<|Zk Z<|Zk Z<|Zk Z<|Zq (pkF Z Z)<|Zb Z<|z0l<|Ze [] [] Z
def za4 (a0:z00) (a1:z00) (s8:Int):Option (Sum (Sum Bool Unit) Int) :=
 if decide (s8<(a0.Ops.length:Int)) then
  idx a0.Ops s8 >>= fun x10 =>
  idx a1.Ops s8 >>= fun x12 =>
  z6q x10 x12 >>= fun r14 =>
  if !r14 then
   some (.inl (.inl false))
  else
   some (.inr (w64 (s8+1)))
 else
  some (.inl (.inr ()))
def zat (a0:z00) (a1:z00):Option (Bool) :=
 z4i a0.IDs a1.IDs >>= fun r3 =>
 if !r3 then
  some false
 else
  if (a0.Ops.length:Int) != (a1.Ops.length:Int) then
   some false
  else
   z58 (iter (za4 a0 a1) 0) fun s7 =>
   some true
end
section
open Go Go.RowKit
set_option maxRecDepth 100000
theorem zfq (a0:z00) (a1:z00):z1s Tryz.prog 22 [.rd z01 a0,.rd z01 a1] [] (zat a0 a1) (fun r nv=>⟨[.rd z0j r],[]⟩):=by
 refine z2b 40 Tryz.func22 Z Z Z fun H w=>?_
 refine gSR<|Eb Z (bx 1 Z) fun v1=>Eb Z (bx 2 Z) fun v2=>Zb Z<|z0p<|gSR<|Zq (faB 1 Z Z Tryz.underlying25 Z (by exact z5l))<|Zq (ld 1 Z Z (fP (z09 _)) z71 Z)<|Zq (faB 2 Z Z Tryz.underlying25 Z (by exact z5l))<|Zq (ld 2 Z Z (fP (z09 _)) z71 Z)<|Zc [] [] Tryz.func53 Z (ze1 _ _) fun r3 n4=>Zq (zf4 Z)<|Zm Z<|z1l 12 Z (fun h5=>?_) (fun h5=>?_)
 ·
  refine lKn 11 Z h5<|Zk Z<|Zk Z<|Zk Z<|Zk Z<|Zk Z<|Zk Z<|Zk Z<|Zq (pkT Z Z)<|Zn<|zhz Z<|gSR<|Zb Z<|z0l<|z0v<|Ze [] [] Z
 ·
  refine lKn 11 Z h5<|z1a Zx Z Z (faB 1 Z Z Tryz.underlying25 Z (by exact zad))<|z1a Zx Z Z (ld 1 Z Z (fP (z0a _)) zea Z)<|z1a Zx Z Z (z3e Z .rd Z tu23)<|z1a Zx Z Z (faB 2 Z Z Tryz.underlying25 Z (by exact zad))<|z1a Zx Z Z (ld 2 Z Z (fP (z0a _)) zea Z)<|z1a Zx Z Z (z3e Z .rd Z tu23)<|z1a Zx Z Z (I.neq Z Z)<|Zq (pkF Z Z)<|Zj Z (fun h6=>?_) (fun h6=>?_)
  ·
   refine gKn 19 Z h6<|gSR<|Zb Z<|z0l<|z0v<|Ze [] [] Z
  ·
   refine gKn 19 Z h6<|Zt<|z7e (fun (s7:Unit) aa ww=>Sta (ctx 40 H [] w) [] [] aa ww) ?_ (fun s7=>?_)
   ·
    refine gSR<|Zb Z<|z1t (fun (s8:Int) aa ww=>Sta (ctx 40 H [] w) [(2,.val (z04 v1 0)),(3,.val (z04 v2 0)),(5,.rd z0d s8)] [(1,some (v1,.box 25 [.rd z01 a0])),(2,some (v2,.box 25 [.rd z01 a1]))] aa ww) (fun aa ww h=>Zu h [1,2]) (fun s8=>?_)
    refine z0p<|gSR<|Zm Z<|Zq (faB 1 Z Z Tryz.underlying25 Z (by exact zad))<|Zq (ld 1 Z Z (fP (z0a _)) zea Z)<|Zq (z3e Z .rd Z tu23)<|Zq (I.lss Z Z)<|Zj Z (fun h9=>?_) (fun h9=>?_)
    ·
     refine Zt<|z0p<|z4t<|z0p<|z8h [] mixed Z Z<|hTk 0 Z Z (faB 1 Z Z Tryz.underlying25 Z (by exact zad))<|hTk 1 Z Z (ld 1 Z Z (fP (z0a _)) zea Z)<|hTk 2 Z Z (mv Z)<|z5h fun x10 h11=>hTk 3 Z Z (ixR Z Z h11 tu23 z64 Z)<|hTk 4 Z Z (ldR Z zaa)<|hTk 5 Z Z (faB 2 Z Z Tryz.underlying25 Z (by exact zad))<|hTk 6 Z Z (ld 2 Z Z (fP (z0a _)) zea Z)<|hTk 7 Z Z (mv Z)<|z5h fun x12 h13=>hTk 8 Z Z (ixR Z Z h13 tu23 z64 Z)<|hTk 9 Z Z (ldR Z zaa)<|z3v 10 [] [] Z (by kernel_rfl) Z (gd0 Z) Z Tryz.func54 Z Z (zg1 _ _) (Y2 Z Z) rN Z (fun _ _=>zai) fun r14 n15=>hTk 11 Z Z (zf4 Z)<|z4s (by kernel_rfl)<|z0k<|gIf Z Z (fun h16=>?_) (fun h16=>?_)
     ·
      refine gSR<|Zb Z<|z0l<|z3t<|z0v<|z6o<|z6l<|Ze [] [] Z
     ·
      refine z2d<|z2v<|z0k<|z2a<|Zm Z<|Zq (I.add Z Z)<|Za Z<|z1q<|z1d (fun aa ww h=>Zu h [1,2])
    ·
     refine z1p<|z0w<|z0x<|z6h (fun aa ww h=>Zu h [])
   ·
    refine gSR<|Zb Z<|z0l<|Ze [] [] Z
def z7n (a0:z08):Option (Bool) :=
 if decide (20<(a0.Preds.length:Int)) then
  some true
 else
  if decide (100<(a0.Act.Key.length:Int)) then
   some true
  else
   some (decide (100<(a0.Act.Value.Text.length:Int))) >>= fun y4 =>
   some y4
theorem zkf (a0:z08):z1s Tryz.prog 55 [.rd z03 a0] [] (z7n a0) (fun r nv=>⟨[.rd z0j r],[]⟩):=by
 refine z2b 22 Tryz.func55 Z Z Z fun H w=>?_
 refine gSR<|Eb Z (bx 1 Z) fun v1=>Zb Z<|gSR<|Zq (faB 1 Z Z Tryz.underlying73 Z (by exact z5l))<|Zq (ld 1 Z Z (fP (z0y _)) z71 Z)<|Zq (z3e Z .rd Z tu22)<|Zq (I.gtr Z Z)<|Zm Z<|z1l 7 Z (fun h2=>?_) (fun h2=>?_)
 ·
  refine lKn 6 Z h2<|Zk Z<|Zk Z<|Zk Z<|Zk Z<|Zk Z<|Zq (pkT Z Z)<|Zm Z<|Zk Z<|Zk Z<|Zk Z<|Zk Z<|Zk Z<|Zk Z<|Zq (pkT Z Z)<|Zb Z<|z0l<|Ze [] [] Z
 ·
  refine lKn 6 Z h2<|z1a Zx Z Z (faB 1 Z Z Tryz.underlying73 Z (by exact zpj))<|z1a Zx Z Z (faB 1 Z Z Tryz.underlying69 Z (by exact ti9))<|z1a Zx Z Z (ld 1 Z Z ((fP (z29 _)).part (z6f _)) ty9 Z)<|z1a Zx Z Z (lenT Z Z tu9)<|z1a Zx Z Z (I.gtr Z Z)<|Zq (pkF Z Z)<|Zm Z<|z1l 14 Z (fun h3=>?_) (fun h3=>?_)
  ·
   refine lKn 12 Z h3<|lKn 13 Z h3<|Zk Z<|Zk Z<|Zk Z<|Zk Z<|Zk Z<|Zk Z<|Zq (pkT Z Z)<|Zb Z<|z0l<|Ze [] [] Z
  ·
   refine lKn 12 Z h3<|lKn 13 Z h3<|z1a Zx Z Z (faB 1 Z Z Tryz.underlying73 Z (by exact zpj))<|z1a Zx Z Z (faB 1 Z Z Tryz.underlying69 Z (by exact zmf))<|z1a Zx Z Z (faB 1 Z Z Tryz.underlying67 Z (by exact ti9))<|z1a Zx Z Z (ld 1 Z Z (((fP (z29 _)).part (z5q _)).part (z3o _)) ty9 Z)<|z1a Zx Z Z (lenT Z Z tu9)<|z1a Zx Z Z (I.gtr Z Z)<|Zq (pkF Z Z)<|Za Z<|z1n 2 Z fun y4=>Zn<|z0l<|Ze [] [] Z
def z54 (a0:z00) (s3:Int):Option (Sum (Sum Bool Unit) Int) :=
 if decide (s3<(a0.Ops.length:Int)) then
  if decide (s3≤70) then
   idx a0.Ops s3 >>= fun x6 =>
   z7n x6 >>= fun r8 =>
   if r8 then
    some (.inl (.inl true))
   else
    some (.inr (w64 (s3+1)))
  else
   some (.inl (.inr ()))
 else
  some (.inl (.inr ()))
def z36 (a0:z00):Option (Bool) :=
 z58 (iter (z54 a0) 0) fun s2 =>
 if decide (16<(a0.Ops.length:Int)) then
  if decide ((a0.Ops.length:Int)≤60) then
   some true
  else
   if decide (70<(a0.Ops.length:Int)) then
    some true
   else
    some (decide (70<(a0.IDs.length:Int))) >>= fun y14 =>
    some y14
 else
  if decide (70<(a0.Ops.length:Int)) then
   some true
  else
   some (decide (70<(a0.IDs.length:Int))) >>= fun y16 =>
   some y16
theorem zez (a0:z00):z1s Tryz.prog 23 [.rd z01 a0] [] (z36 a0) (fun r nv=>⟨[.rd z0j r],[]⟩):=by
 refine z2b 43 Tryz.func23 Z Z Z fun H w=>?_
 refine gSR<|Eb Z (bx 1 Z) fun v1=>Zb Z<|z7e (fun (s2:Unit) aa ww=>Sta (ctx 43 H [] w) [(1,.val (z04 v1 0))] [(1,some (v1,.box 25 [.rd z01 a0]))] aa ww) ?_ (fun s2=>?_)
 ·
  refine gSR<|Zb Z<|z1t (fun (s3:Int) aa ww=>Sta (ctx 43 H [] w) [(1,.val (z04 v1 0)),(3,.rd z0d s3)] [(1,some (v1,.box 25 [.rd z01 a0]))] aa ww) (fun aa ww h=>Zu h [1]) (fun s3=>?_)
  refine z0p<|gSR<|Zm Z<|Zq (faB 1 Z Z Tryz.underlying25 Z (by exact zad))<|Zq (ld 1 Z Z (fP (z0a _)) zea Z)<|Zq (z3e Z .rd Z tu23)<|Zq (I.lss Z Z)<|Zm Z<|z1l 9 Z (fun h4=>?_) (fun h4=>?_)
  ·
   refine lKn 8 Z h4<|z1a Zx Z Z (mv Z)<|z1a Zx Z Z (I.leq Z Z)<|Zq (pkT Z Z)<|Zj Z (fun h5=>?_) (fun h5=>?_)
   ·
    refine gKn 11 Z h5<|Zt<|z0p<|z4t<|gSR<|Zq (faB 1 Z Z Tryz.underlying25 Z (by exact zad))<|Zq (ld 1 Z Z (fP (z0a _)) zea Z)<|Zm Z<|z0n fun x6 h7=>Zq (ixR Z Z h7 tu23 z64 Z)<|Zq (ldR Z zaa)<|Zc [] [] Tryz.func55 Z (zkf _) fun r8 n9=>Zj Z (fun h10=>?_) (fun h10=>?_)
    ·
     refine gSR<|Zb Z<|z0l<|z3t<|z0v<|z6o<|z6l<|Ze [] [] Z
    ·
     refine z2d<|z2v<|z0k<|z2a<|Zm Z<|Zq (I.add Z Z)<|Za Z<|z1q<|z1d (fun aa ww h=>Zu h [1])
   ·
    refine gKn 11 Z h5<|z1p<|z0w<|z0x<|z6h (fun aa ww h=>Zu h [1])
  ·
   refine lKn 8 Z h4<|Zk Z<|Zk Z<|Zq (pkF Z Z)<|Zn<|zf0 Z<|z1p<|z0w<|z0x<|z6h (fun aa ww h=>Zu h [1])
 ·
  refine gSR<|Zq (faB 1 Z Z Tryz.underlying25 Z (by exact zad))<|Zq (ld 1 Z Z (fP (z0a _)) zea Z)<|Zq (z3e Z .rd Z tu23)<|Zq (I.gtr Z Z)<|Zm Z<|z1l 25 Z (fun h11=>?_) (fun h11=>?_)
  ·
   refine lKn 24 Z h11<|z1a Zx Z Z (faB 1 Z Z Tryz.underlying25 Z (by exact zad))<|z1a Zx Z Z (ld 1 Z Z (fP (z0a _)) zea Z)<|z1a Zx Z Z (z3e Z .rd Z tu23)<|z1a Zx Z Z (I.leq Z Z)<|Zq (pkT Z Z)<|Zm Z<|z1l 31 Z (fun h12=>?_) (fun h12=>?_)
   ·
    refine lKn 29 Z h12<|lKn 30 Z h12<|Zk Z<|Zk Z<|Zk Z<|Zk Z<|Zq (pkT Z Z)<|Zm Z<|Zk Z<|Zk Z<|Zk Z<|Zk Z<|Zq (pkT Z Z)<|Zb Z<|z0l<|Ze [] [] Z
   ·
    refine lKn 29 Z h12<|lKn 30 Z h12<|z1a Zx Z Z (faB 1 Z Z Tryz.underlying25 Z (by exact zad))<|z1a Zx Z Z (ld 1 Z Z (fP (z0a _)) zea Z)<|z1a Zx Z Z (z3e Z .rd Z tu23)<|z1a Zx Z Z (I.gtr Z Z)<|Zq (pkF Z Z)<|Zm Z<|z1l 37 Z (fun h13=>?_) (fun h13=>?_)
    ·
     refine lKn 35 Z h13<|lKn 36 Z h13<|Zk Z<|Zk Z<|Zk Z<|Zk Z<|Zq (pkT Z Z)<|Zb Z<|z0l<|Ze [] [] Z
    ·
     refine lKn 35 Z h13<|lKn 36 Z h13<|z1a Zx Z Z (faB 1 Z Z Tryz.underlying25 Z (by exact z5l))<|z1a Zx Z Z (ld 1 Z Z (fP (z09 _)) z71 Z)<|z1a Zx Z Z (z3e Z .rd Z tu22)<|z1a Zx Z Z (I.gtr Z Z)<|Zq (pkF Z Z)<|Za Z<|z1n 2 Z fun y14=>Zn<|z0l<|Ze [] [] Z
  ·
   refine lKn 24 Z h11<|Zk Z<|Zk Z<|Zk Z<|Zk Z<|Zq (pkF Z Z)<|Zm Z<|z1a Zx Z Z (faB 1 Z Z Tryz.underlying25 Z (by exact zad))<|z1a Zx Z Z (ld 1 Z Z (fP (z0a _)) zea Z)<|z1a Zx Z Z (z3e Z .rd Z tu23)<|z1a Zx Z Z (I.gtr Z Z)<|Zq (pkF Z Z)<|Zm Z<|z1l 37 Z (fun h15=>?_) (fun h15=>?_)
   ·
    refine lKn 35 Z h15<|lKn 36 Z h15<|Zk Z<|Zk Z<|Zk Z<|Zk Z<|Zq (pkT Z Z)<|Zb Z<|z0l<|Ze [] [] Z
   ·
    refine lKn 35 Z h15<|lKn 36 Z h15<|z1a Zx Z Z (faB 1 Z Z Tryz.underlying25 Z (by exact z5l))<|z1a Zx Z Z (ld 1 Z Z (fP (z09 _)) z71 Z)<|z1a Zx Z Z (z3e Z .rd Z tu22)<|z1a Zx Z Z (I.gtr Z Z)<|Zq (pkF Z Z)<|Za Z<|z1n 2 Z fun y16=>Zn<|z0l<|Ze [] [] Z
def zeq (a0:z08):Option (z08) :=
 z0u a0.Preds >>= fun r3 =>
 some (⟨a0.Author,r3,a0.Stamp,a0.Act,a0.Sig⟩:z08)
theorem zf9 (a0:z08):z1s Tryz.prog 67 [.rd z03 a0] [] (zeq a0) (fun r nv=>⟨[.rd z03 r],[]⟩):=by
 refine z2b 8 Tryz.func67 Z Z Z fun H w=>?_
 refine gSR<|Eb Z (bx 1 Z) fun v1=>Eb Z (z5o 2 z64 (ZrE.rd (R:=z0q) (x:=0) (Zr.num Z) (ZrE.nilS (ZrE.rd (R:=z2c) (x:=0) (Zr.num Z) (ZrE.rd (R:=z0f) (x:=(⟨0,[],(⟨0,0,0,[]⟩:z06)⟩:z0i)) znv (ZrE.rd (R:=z0g) (x:=(⟨0,0⟩:z0c)) zn4 ZrE.nil Z) Z) Z)) Z)) fun v2=>Zn<|gSR<|Zq (faB 1 Z Z Tryz.underlying73 Z (by exact z5l))<|Zq (ld 1 Z Z (fP (z0y _)) z71 Z)<|Zc [] [(100,3)] Tryz.func46 Z (z1m _) fun r3 n4=>Zq (faB 1 Z Z Tryz.underlying73 Z (by exact z5l))<|lSpl (R:=z03) 1 Z (Sp.via (Sp.prod (Sp.prod (Sp.prod (Sp.prod (Sp.prod Sp.unit))))))<|Es (zp7 1 Z Z (zaf.cast (zaf.next z15 (zaf.here z15)) Z) Z z0r z05 z5l)<|Zn<|gSR<|zyi [.rd z0q a0.Author,.rd (z02 aZ) r3,.rd z2c a0.Stamp,.rd z0f a0.Act,.rd z0g a0.Sig] 1 3 [.rd z0q a0.Author] [.rd z2c a0.Stamp,.rd z0f a0.Act,.rd z0g a0.Sig] Z Z Z Z Z<|zec (R:=z03) (⟨a0.Author,r3,a0.Stamp,a0.Act,a0.Sig⟩:z08) 1 Z (Sp.via (Sp.prod (Sp.prod (Sp.prod (Sp.prod (Sp.prod Sp.unit))))))<|Zq (ld 1 Z Z fH zaa Z)<|zcg aZ [.rd z0q 0,.rd (z02 aZ) [],.rd z2c 0,.rd z0f (⟨0,[],(⟨0,0,0,[]⟩:z06)⟩:z0i),.rd z0g (⟨0,0⟩:z0c)] 2 [.rd z0q 0] [.rd z2c 0,.rd z0f (⟨0,[],(⟨0,0,0,[]⟩:z06)⟩:z0i),.rd z0g (⟨0,0⟩:z0c)] Z Z Z<|zec (R:=z03) (⟨0,[],0,(⟨0,[],(⟨0,0,0,[]⟩:z06)⟩:z0i),(⟨0,0⟩:z0c)⟩:z08) 2 Z (Sp.via (Sp.prod (Sp.prod (Sp.prod (Sp.prod (Sp.prod Sp.unit))))))<|Es (sto 2 Z Z fH Z z64)<|Zn<|z0l<|zbm [] [] Z (eC 2 Z Z zaa<|eN) (rN)
def zk7 (a0:z00) (a1:V3):Option (z08 × Int) :=
 z18 a0 >>= fun r4 =>
 if r4 != 0 then
  some ((⟨0,[],0,(⟨0,[],(⟨0,0,0,[]⟩:z06)⟩:z0i),(⟨0,0⟩:z0c)⟩:z08),r4)
 else
  zds a0 a1 >>= fun r7 =>
  if !r7.2 then
   some ((⟨0,[],0,(⟨0,[],(⟨0,0,0,[]⟩:z06)⟩:z0i),(⟨0,0⟩:z0c)⟩:z08),6)
  else
   idx a0.Ops r7.1 >>= fun x10 =>
   zeq x10 >>= fun r12 =>
   some (r12,0)
theorem zq7 (a0:z00) (a1:V3):z1s Tryz.prog 88 [.rd z01 a0,.rd aZ a1] [zG1] (zk7 a0 a1) (fun r nv=>⟨[.rd z03 r.1,.rd z0d r.2],[(1001,some (.bool true,.glob 1 (z3j 64 z0q) z6a))]⟩):=by
 refine z2b 30 Tryz.func88 Z Z Z fun H w=>?_
 refine gSR<|Eb Z (bx 1 Z) fun v1=>Eb Z (bx 2 Z) fun v2=>Eb Z (z5o 3 z64 (ZrE.rd (R:=z0q) (x:=0) (Zr.num Z) (ZrE.nilS (ZrE.rd (R:=z2c) (x:=0) (Zr.num Z) (ZrE.rd (R:=z0f) (x:=(⟨0,[],(⟨0,0,0,[]⟩:z06)⟩:z0i)) znv (ZrE.rd (R:=z0g) (x:=(⟨0,0⟩:z0c)) zn4 ZrE.nil Z) Z) Z)) Z)) fun v3=>Zb Z<|z0p<|gSR<|Zq (ld 1 Z Z fH z4d Z)<|Zc [1001] [] Tryz.func74 Z (zau _) fun r4 n5=>Zb Z<|gSR<|Zm Z<|Zq (I.neq Z Z)<|Zj Z (fun h6=>?_) (fun h6=>?_)
 ·
  refine gSR<|Zq (zm2 [(0,1),(1,1),(2,1),(3,6),(9,2)] Tryz.underlying73 z64 (ZrE.rd (R:=z0q) (x:=0) (Zr.num Z) (ZrE.nilS (ZrE.rd (R:=z2c) (x:=0) (Zr.num Z) (ZrE.rd (R:=z0f) (x:=(⟨0,[],(⟨0,0,0,[]⟩:z06)⟩:z0i)) znv (ZrE.rd (R:=z0g) (x:=(⟨0,0⟩:z0c)) zn4 ZrE.nil Z) Z) Z)) Z) Z (zgd.done Z))<|Zm Z<|Es (zm1 3 Z Z (z07.cast (z07.cons z15 (z07.cons z05 (z07.cons z15 (z07.cons z15 (z07.cons z15 z07.nil))))) Z) Z (z20.cons z8w (z20.cons z0r (z20.cons z8w (z20.cons z8w (z20.cons z8w z20.nil))))) (z07.cast (z07.cons z15 (z07.cons z05 (z07.cons z15 (z07.cons z15 (z07.cons z15 z07.nil))))) Z) z64)<|Zb Z<|z0l<|z0v<|zga aZ [.rd z0q 0,.rd (z02 aZ) [],.rd z2c 0,.rd z0f (⟨0,[],(⟨0,0,0,[]⟩:z06)⟩:z0i),.rd z0g (⟨0,0⟩:z0c)] 3 [.rd z0q 0] [.rd z2c 0,.rd z0f (⟨0,[],(⟨0,0,0,[]⟩:z06)⟩:z0i),.rd z0g (⟨0,0⟩:z0c)] Z Z Z<|znn (R:=z03) (⟨0,[],0,(⟨0,[],(⟨0,0,0,[]⟩:z06)⟩:z0i),(⟨0,0⟩:z0c)⟩:z08) 3 Z (Sp.via (Sp.prod (Sp.prod (Sp.prod (Sp.prod (Sp.prod Sp.unit))))))<|zbm [] [1001] Z (eC 3 Z Z zaa<|eE Z<|eN) (y1 Z)
 ·
  refine Zt<|gSR<|Zq (ld 1 Z Z fH z4d Z)<|Zq (ld 2 Z Z fH z3s Z)<|Zc [] [] Tryz.func65 Z (zex _ _) fun r7 n8=>Zm Z<|Zq (ext Z Z)<|Zq (ext Z Z)<|Za Z<|Zb Z<|z0p<|gSR<|Zm Z<|Zq (zf4 Z)<|Zj Z (fun h9=>?_) (fun h9=>?_)
  ·
   refine gSR<|Zq (zm2 [(0,1),(1,1),(2,1),(3,6),(9,2)] Tryz.underlying73 z64 (ZrE.rd (R:=z0q) (x:=0) (Zr.num Z) (ZrE.nilS (ZrE.rd (R:=z2c) (x:=0) (Zr.num Z) (ZrE.rd (R:=z0f) (x:=(⟨0,[],(⟨0,0,0,[]⟩:z06)⟩:z0i)) znv (ZrE.rd (R:=z0g) (x:=(⟨0,0⟩:z0c)) zn4 ZrE.nil Z) Z) Z)) Z) Z (zgd.done Z))<|Es (zm1 3 Z Z (z07.cast (z07.cons z15 (z07.cons z05 (z07.cons z15 (z07.cons z15 (z07.cons z15 z07.nil))))) Z) Z (z20.cons z8w (z20.cons z0r (z20.cons z8w (z20.cons z8w (z20.cons z8w z20.nil))))) (z07.cast (z07.cons z15 (z07.cons z05 (z07.cons z15 (z07.cons z15 (z07.cons z15 z07.nil))))) Z) z64)<|Zb Z<|z0l<|z0v<|zga aZ [.rd z0q 0,.rd (z02 aZ) [],.rd z2c 0,.rd z0f (⟨0,[],(⟨0,0,0,[]⟩:z06)⟩:z0i),.rd z0g (⟨0,0⟩:z0c)] 3 [.rd z0q 0] [.rd z2c 0,.rd z0f (⟨0,[],(⟨0,0,0,[]⟩:z06)⟩:z0i),.rd z0g (⟨0,0⟩:z0c)] Z Z Z<|znn (R:=z03) (⟨0,[],0,(⟨0,[],(⟨0,0,0,[]⟩:z06)⟩:z0i),(⟨0,0⟩:z0c)⟩:z08) 3 Z (Sp.via (Sp.prod (Sp.prod (Sp.prod (Sp.prod (Sp.prod Sp.unit))))))<|zbm [] [1001] Z (eC 3 Z Z zaa<|eE Z<|eN) (y1 Z)
  ·
   refine Zt<|gSR<|Zq (faB 1 Z Z Tryz.underlying25 Z (by exact zad))<|Zq (ld 1 Z Z (fP (z0a _)) zea Z)<|Zm Z<|z0n fun x10 h11=>Zq (ixR Z Z h11 tu23 z64 Z)<|Zq (ldR Z zaa)<|Zc [] [] Tryz.func67 Z (zf9 _) fun r12 n13=>zcg aZ [.rd z0q 0,.rd (z02 aZ) [],.rd z2c 0,.rd z0f (⟨0,[],(⟨0,0,0,[]⟩:z06)⟩:z0i),.rd z0g (⟨0,0⟩:z0c)] 3 [.rd z0q 0] [.rd z2c 0,.rd z0f (⟨0,[],(⟨0,0,0,[]⟩:z06)⟩:z0i),.rd z0g (⟨0,0⟩:z0c)] Z Z Z<|zec (R:=z03) (⟨0,[],0,(⟨0,[],(⟨0,0,0,[]⟩:z06)⟩:z0i),(⟨0,0⟩:z0c)⟩:z08) 3 Z (Sp.via (Sp.prod (Sp.prod (Sp.prod (Sp.prod (Sp.prod Sp.unit))))))<|Es (sto 3 Z Z fH Z z64)<|Zb Z<|z0l<|zbm [] [1001] Z (eC 3 Z Z zaa<|eE Z<|eN) (y1 Z)
end
section
open Go Go.Shelf
def z10l:Go.Shelf.Ren:=⟨fun | 6=>78 | 15=>117 | 14=>116 | 28=>163 | 29=>146 | 20=>155 | 21=>156 | 22=>157 | 23=>158 | 24=>159 | 25=>160 | 26=>161 | 27=>162 | 46=>196 | 47=>197 | 48=>198 | 49=>199 | 50=>200 | 57=>221 | n=>n, fun | 22=>22 | 24=>62 | 25=>115 | 3=>3 | 39=>150 | 0=>0 | 53=>65 | 55=>41 | 4=>4 | 46=>181 | 45=>180 | 50=>103 | 5=>5 | 9=>9 | 66=>209 | 70=>213 | 76=>235 | 77=>236 | n=>n, fun | n=>n⟩
theorem z141:Go.Proofs.SlLaysF0.n6 Tryz.prog z10l:={
 mixed:=by kernel_rfl
 f6:=⟨Tryz.f78.name, by decide,Tryz.func78.trans (congrArg some (by kernel_rfl))⟩
 f14:=⟨Tryz.f116.name, by decide,Tryz.func116.trans (congrArg some (by kernel_rfl))⟩
 f15:=Tryz.func117.trans (congrArg some (by kernel_rfl))
 f20:=⟨Tryz.f155.name, by decide,Tryz.func155.trans (congrArg some (by kernel_rfl))⟩
 f21:=⟨Tryz.f156.name, by decide,Tryz.func156.trans (congrArg some (by kernel_rfl))⟩
 f22:=⟨Tryz.f157.name, by decide,Tryz.func157.trans (congrArg some (by kernel_rfl))⟩
 f23:=⟨Tryz.f158.name, by decide,Tryz.func158.trans (congrArg some (by kernel_rfl))⟩
 f24:=⟨Tryz.f159.name, by decide,Tryz.func159.trans (congrArg some (by kernel_rfl))⟩
 f25:=⟨Tryz.f160.name, by decide,Tryz.func160.trans (congrArg some (by kernel_rfl))⟩
 f26:=⟨Tryz.f161.name, by decide,Tryz.func161.trans (congrArg some (by kernel_rfl))⟩
 f27:=⟨Tryz.f162.name, by decide,Tryz.func162.trans (congrArg some (by kernel_rfl))⟩
 f28:=Tryz.func163.trans (congrArg some (by kernel_rfl))
 f29:=Tryz.func146.trans (congrArg some (by kernel_rfl))
 f46:=⟨Tryz.f196.name, by decide,Tryz.func196.trans (congrArg some (by kernel_rfl))⟩
 f47:=Tryz.func197.trans (congrArg some (by kernel_rfl))
 f48:=Tryz.func198.trans (congrArg some (by kernel_rfl))
 f49:=⟨Tryz.f199.name, by decide,Tryz.func199.trans (congrArg some (by kernel_rfl))⟩
 f50:=⟨Tryz.f200.name, by decide,Tryz.func200.trans (congrArg some (by kernel_rfl))⟩
 f57:=⟨Tryz.f221.name, by decide,Tryz.func221.trans (congrArg some (by kernel_rfl))⟩
 t0:=Tryz.underlying0
 a0:=Tryz.isAgg0
 z0:=Tryz.sizeOf0
 v0:=Tryz.zeroValue0
 t3:=Tryz.underlying3
 a3:=Tryz.isAgg3
 z3:=Tryz.sizeOf3
 v3:=Tryz.zeroValue3
 t4:=Tryz.underlying4
 a4:=Tryz.isAgg4
 z4:=Tryz.sizeOf4
 v4:=Tryz.zeroValue4
 t5:=Tryz.underlying5
 a5:=Tryz.isAgg5
 z5:=Tryz.sizeOf5
 v5:=Tryz.zeroValue5
 t9:=Tryz.underlying9
 a9:=Tryz.isAgg9
 z9:=Tryz.sizeOf9
 v9:=Tryz.zeroValue9
 t22:=Tryz.underlying22
 a22:=Tryz.isAgg22
 z22:=Tryz.sizeOf22
 v22:=Tryz.zeroValue22
 t25:=Tryz.underlying115
 a25:=Tryz.isAgg115
 z25:=Tryz.sizeOf115
 v25:=Tryz.zeroValue115
 t39:=Tryz.underlying150
 a39:=Tryz.isAgg150
 z39:=Tryz.sizeOf150
 v39:=Tryz.zeroValue150
 t45:=Tryz.underlying180
 a45:=Tryz.isAgg180
 z45:=Tryz.sizeOf180
 v45:=Tryz.zeroValue180
 t46:=Tryz.underlying181
 a46:=Tryz.isAgg181
 z46:=Tryz.sizeOf181
 v46:=Tryz.zeroValue181
 t50:=Tryz.underlying103
 a50:=Tryz.isAgg103
 z50:=Tryz.sizeOf103
 v50:=Tryz.zeroValue103
 t53:=Tryz.underlying65
 a53:=Tryz.isAgg65
 z53:=Tryz.sizeOf65
 v53:=Tryz.zeroValue65
 t55:=Tryz.underlying41
 a55:=Tryz.isAgg41
 z55:=Tryz.sizeOf41
 v55:=Tryz.zeroValue41
 t66:=Tryz.underlying209
 a66:=Tryz.isAgg209
 z66:=Tryz.sizeOf209
 v66:=Tryz.zeroValue209
 t70:=Tryz.underlying213
 a70:=Tryz.isAgg213
 z70:=Tryz.sizeOf213
 v70:=Tryz.zeroValue213
 t76:=Tryz.underlying235
 a76:=Tryz.isAgg235
 z76:=Tryz.sizeOf235
 v76:=Tryz.zeroValue235
 t77:=Tryz.underlying236
 a77:=Tryz.isAgg236
 z77:=Tryz.sizeOf236
 v77:=Tryz.zeroValue236 }
end
section
open Go Go.Shelf Go.RowKit Go.Lib Go.Sort
def z9s (x:V3):List Value:=x.toList.map fun c=>Value.int .u8 (c.toNat:Int)
theorem zgk (x:V3):(z9s x).length=32:=by simp [z9s]
theorem z138 (x y:V3) (b c:Nat) (W:World) (hx:∀ j u,(z9s x)[j]? = some u→W.cell? ⟨b,0+j,none⟩=some u) (hy:∀ j u,(z9s y)[j]? = some u→W.cell? ⟨c,0+j,none⟩=some u) :
  (callFunc 164 #[.slice (some ⟨b,0,none⟩) 32 32,.slice (some ⟨c,0,none⟩) 32 32]).run Tryz.prog W=.ok (.value (.int .i64 (Lib.compareBytes x.toList y.toList))) W:=by
 have lx:x.toList.length=32:=by simp
 have ly:y.toList.length=32:=by simp
 have e:=zmy (P:=Tryz.prog) (w:=W) (p:=some ⟨b,0,none⟩) (q:=some ⟨c,0,none⟩) (c:=32) (d:=32) (x:=x.toList) (y:=y.toList) (xs:=z9s x) (ys:=z9s y)
  ⟨by rw [zgk,lx],.inr ⟨b,0,none,32, by rfl, by omega, by decide,.inr rfl,hx⟩⟩ rfl ⟨by rw [zgk,ly],.inr ⟨c,0,none,32, by rfl, by omega, by decide,.inr rfl,hy⟩⟩ rfl
 rw [lx,ly] at e
 rw [run_callFunc_extern Tryz.func164 rfl rfl (by kernel_rfl) (by kernel_rfl),e]
 rfl
set_option maxHeartbeats 1000000 in
set_option maxRecDepth 100000 in
theorem zll (x y:V3) (b c:Nat) (W:World) (hx:∀ j u,(z9s x)[j]? = some u→W.cell? ⟨b,0+j,none⟩=some u) (hy:∀ j u,(z9s y)[j]? = some u→W.cell? ⟨c,0+j,none⟩=some u) :
  Calls Tryz.prog 118 #[.slice (some ⟨b,0,none⟩) 32 32,.slice (some ⟨c,0,none⟩) 32 32] W fun e w'=>e=.returned (.int .i64 (Lib.compareBytes x.toList y.toList))∧w'=W:=by
 have e:=z138 x y b c W hx hy
 go_enter Tryz.func118,Tryz.ntmps118
 go_wp2
 go_ret
 exact ⟨rfl,rfl⟩
theorem zvy {w:World} {b j:Nat} {c:Array Value} {T:TypeId} {fr:Nat × Nat} {u:Value} (h:w.heap[b]? = some (.cells c T fr)) (hj:c[j]? = some u):w.cell? ⟨b,0+j,none⟩=some u:=by
 unfold World.cell?
 rw [h]
 simpa using hj
theorem zzn (W:World) (xs ys:List Value) (n j:Nat) (u:Value) (h:xs[j]? = some u):(((W.alloc (.cells xs.toArray 62)).alloc (.cells ys.toArray 62)).drewN n).cell? ⟨W.heap.size,0+j,none⟩=some u :=
 zvy (c:=xs.toArray) (T:=62) (fr:=(0,0)) (by
  show ((W.heap.push _).push _)[W.heap.size]? = _
  rw [Array.getElem?_push_lt (by simp)]; simp) (by simpa using h)
theorem z11f (W:World) (xs ys:List Value) (n j:Nat) (u:Value) (h:ys[j]? = some u):(((W.alloc (.cells xs.toArray 62)).alloc (.cells ys.toArray 62)).drewN n).cell? ⟨W.heap.size+1,0+j,none⟩=some u :=
 zvy (c:=ys.toArray) (T:=62) (fr:=(0,0)) (by
  show ((W.heap.push _).push _)[W.heap.size+1]? = _
  have:W.heap.size+1=(W.heap.push (Obj.cells xs.toArray 62)).size:=by simp
  rw [this,Array.getElem?_push_size]) (by simpa using h)
set_option maxHeartbeats 1000000 in
set_option maxRecDepth 100000 in
theorem zyo (x y:V3) (W:World):Calls Tryz.prog 105 #[.agg (z9s x).toArray,.agg (z9s y).toArray] W fun e w'=>e=.returned (.int .i64 (Lib.compareBytes x.toList y.toList))∧∃ q os',w'=grow (W.drewN q) os':=by
 have c0:=zzn W (z9s x) (z9s y)
 have c1:=z11f W (z9s x) (z9s y)
 go_enter Tryz.func105,Tryz.ntmps105
 go_wp2
 go_quiet (first | (go_at_call 118; refine Calls.quiet_of_same (zll x y _ _ _ (c0 _) (c1 _))))
 go_wp2
 go_ret
 exact ⟨rfl,nq,#[.cells (z9s x).toArray 62,.cells (z9s y).toArray 62],rfl⟩
set_option maxHeartbeats 1000000 in
set_option maxRecDepth 100000 in
theorem zve (x y:V3) (W:World):Calls Tryz.prog 79 #[.agg (z9s x).toArray,.agg (z9s y).toArray] W fun e w'=>e=.returned (.int .i64 (Lib.compareBytes x.toList y.toList))∧∃ q os',w'=grow (W.drewN q) os':=by
 have c0:=zzn W (z9s x) (z9s y)
 have c1:=z11f W (z9s x) (z9s y)
 go_enter Tryz.func79,Tryz.ntmps79
 go_wp2
 go_quiet (first | (go_at_call 118; refine Calls.quiet_of_same (zll x y _ _ _ (c0 _) (c1 _))))
 go_wp2
 go_ret
 exact ⟨rfl,nq,#[.cells (z9s x).toArray 62,.cells (z9s y).toArray 62],rfl⟩
end
section
open Go Go.RowKit Go.Sort
theorem z15h {α:Type} [Inhabited α] (enc:α→List Value) (k:Nat) (hk:∀ x,(enc x).length=k):∀ (l:List α) (t:Nat),t<l.length * k→(l.flatMap enc)[t]! = (enc l[t / k]!)[t % k]!
  | [],t,h=>by simp at h
  | x::l,t,h=>by
    have hx:=hk x
    have k0 : 0 < k := by rcases Nat.eq_zero_or_pos k with e | e; · subst e; simp at h
                          · exact e
    rw [List.flatMap_cons]
    by_cases ht:t<k
    · rw [List.getElem!_eq_getElem?_getD,List.getElem?_append_left (by omega),Nat.div_eq_of_lt ht,Nat.mod_eq_of_lt ht]
      simp
    · have hl : t - k < l.length * k := by
        simp only [List.length_cons,Nat.add_mul,Nat.one_mul] at h; omega
      have ih:=z15h enc k hk l (t - k) hl
      have e1:t / k=(t - k) / k+1:=by
        have h2:=Nat.add_div_right (t - k) k0
        rw [Nat.sub_add_cancel (by omega)] at h2; exact h2
      have e2:t % k=(t - k) % k:=by rw [Nat.mod_eq_sub_mod (by omega)]
      rw [List.getElem!_eq_getElem?_getD,List.getElem?_append_right (by omega),hx,e1,e2,← List.getElem!_eq_getElem?_getD,ih]
      simp
theorem zt4 {α:Type} (enc:α→List Value) (k:Nat) (hk:∀ x,(enc x).length=k):∀ l:List α,(l.flatMap enc).length=l.length * k
  | []=>by simp
  | x::l=>by rw [List.flatMap_cons,List.length_append,hk,zt4 enc k hk l,List.length_cons,Nat.add_mul,Nat.one_mul,Nat.add_comm]
theorem z113 {α:Type} [Inhabited α] (enc:α→List Value) (k:Nat) (hk:∀ x,(enc x).length=k) (l:List α):flatK enc k l.toArray=(l.flatMap enc).toArray:=by
  refine ext_get! (by rw [size_flatK]; simp only [List.size_toArray,zt4 enc k hk]) fun t ht=>?_
  rw [size_flatK,List.size_toArray] at ht
  rw [get_flatK _ _ _ _ (by simpa using ht)]
  have:=z15h enc k hk l t ht
  simp at this ⊢
  rw [this]
theorem ztm {α:Type} [Inhabited α] (enc:α→List Value) (k:Nat) (hk:∀ x,(enc x).length=k) {w:World} {b:Nat} {C:Array Value} {T:TypeId} (l:List α) (hb:w.heap[b]? = some (.cells C T (0,0))) (hc:C.toList.take (l.length * k)=l.flatMap enc):HoldsK enc k w b 0 l.toArray:=by
  intro j hj
  rw [z113 enc k hk] at hj ⊢
  have hj':j<(l.flatMap enc).length:=by simpa using hj
  constructor
  · refine zvy hb ?_
    have e:(C.toList.take (l.length * k))[j]? = (l.flatMap enc)[j]? := by rw [hc]
    rw [List.getElem?_take_of_lt (by rw [zt4 enc k hk] at hj'; exact hj'),List.getElem?_eq_getElem hj'] at e
    rw [← Array.getElem?_toList,e]
    have:((l.flatMap enc).toArray)[j]! = (l.flatMap enc)[j]:=by rw [getElem!_pos _ j (by simpa using hj')]; simp
    rw [this]; rfl
  · simp [World.frozen?,hb]
theorem zya {α:Type} [Inhabited α] (enc:α→List Value) (k:Nat) (w:World) (b n:Nat) (d:Array α) (os:Array Obj) {i:Nat} (hi:i<w.heap.size) (hne:i≠b):(sortWorldK enc k w b 0 n d os).heap[i]? = w.heap[i]? := by
  show (w.heap.modify b _++os)[i]? = _
  rw [Array.getElem?_append_left (by simpa using hi),Array.getElem?_modify,if_neg (fun e=>hne e.symm)]
theorem z17i {α:Type} [Inhabited α] (enc:α→List Value) (k:Nat) (w:World) {b:Nat} (n:Nat) (d:Array α) (os:Array Obj) {C:Array Value} {T:TypeId} {fr:Nat × Nat} (hb:w.heap[b]? = some (.cells C T fr)):(sortWorldK enc k w b 0 n d os).heap[b]? = some (.cells (putCells id 0 (flatK enc k d) C) T fr):=by
  have hlt:b<w.heap.size:=(Array.getElem?_eq_some_iff.1 hb).1
  show (w.heap.modify b _++os)[b]? = _
  rw [Array.getElem?_append_left (by simpa using hlt),Array.getElem?_modify,if_pos rfl,hb]
  rfl
theorem z13h {α:Type} [Inhabited α] (enc:α→List Value) (k:Nat) (hk:∀ x,(enc x).length=k) (l:List α) (C:Array Value) (hC:l.length * k≤C.size):(putCells id 0 (flatK enc k l.toArray) C).toList.take (l.length * k)=l.flatMap enc:=by
  rw [z113 enc k hk]
  apply List.ext_getElem?
  intro t
  by_cases ht:t<l.length * k
  · rw [List.getElem?_take_of_lt ht,Array.getElem?_toList]
    have hl:t<(l.flatMap enc).length:=by rw [zt4 enc k hk]; exact ht
    simp only [putCells,Array.getElem?_mapIdx,Nat.sub_zero,Nat.zero_add,List.size_toArray,Nat.zero_le,true_and]
    rw [Array.getElem?_eq_getElem (by omega),Option.map_some,if_pos hl,List.getElem?_eq_getElem hl]
    have:((l.flatMap enc).toArray)[t]! = (l.flatMap enc)[t]:=by rw [getElem!_pos _ t (by simpa using hl)]; simp
    rw [this]; rfl
  · rw [List.getElem?_eq_none (by simp; omega),List.getElem?_eq_none (by rw [zt4 enc k hk]; omega)]
theorem zsa {S:Blk} {w:World}:∀ {l:List V3} {cs:List Value},z7p (z3j 32 u8R) S w cs l→cs=l.flatMap z9s
  | [],cs,h=>h
  | x::l,cs,h=>by
    obtain ⟨c,d,rfl,h1,h2⟩:=h
    rw [List.flatMap_cons,zsa h2,zrx h1]; rfl
theorem zso {S:Blk} {w:World}:∀ (l:List V3),z7p (z3j 32 u8R) S w (l.flatMap z9s) l
  | []=>rfl
  | x::l=>⟨z9s x,l.flatMap z9s,List.flatMap_cons,zoy x.toList,zso l⟩
theorem zx8 {P : Program} {f g T : Nat} (srt : List V3 → List V3) (hlen : ∀ l, (srt l).length = l.length)
    (hnone:∀ (cap:Nat) (w:World),Calls P f #[.slice none 0 cap,.func (.func g) #[] #[]] w fun e w'=>e=.returned (.tuple #[])∧w'=w)
    (hsome:∀ (blk cap:Nat) (d:Array V3) (w:World),HoldsK z9s 32 w blk 0 d→blk<w.heap.size→d.size<4611686018427387904 →
      Calls P f #[.slice (some ⟨blk,0,none⟩) d.size cap,.func (.func g) #[] #[]] w fun e w'=>e=.returned (.tuple #[])∧∃ n os,w'=sortWorldK z9s 32 w blk 0 n (srt d.toList).toArray os)
    (p0:Value) (c0:List V3):z1s P f [.val p0,.val (.func (.func g) #[] #[])] [(1,some (p0,.list (z3j 32 u8R) T c0))] (chk (c0.length≤1000000) >>= fun _=>some (srt c0))
      (fun r nv=>⟨[],[(1,some (p0,.list (z3j 32 u8R) T r))]⟩):=by
  intro r hr H vs w hvs hres
  have hb:c0.length≤1000000∧r=srt c0:=by
    unfold chk at hr
    split at hr
    · rename_i h; simp at hr; exact ⟨h,hr.symm⟩
    · simp at hr
  obtain ⟨hlen0,rfl⟩:=hb
  match vs,hvs with
  | [v0,v1],hvs =>
  obtain ⟨h0,h1,_⟩:=hvs
  have e0:v0=p0:=h0.1
  have e1:v1=.func (.func g) #[] #[]:=h1.1
  subst e0; subst e1
  have hc:=hres.conts 1 v0 _ rfl
  have only:∀ r v c (q:z5m),lr [(1,some (v0,q))] r=some (v,c)→r=1∧v=v0∧c=q:=fun r v c q h=>by
    rw [z1i] at h
    split at h
    · rename_i e; cases h; exact ⟨e.symm,rfl,rfl⟩
    · simp [lr,lk] at h
  rcases hc with ⟨rfl,rfl⟩ | ⟨b,o,k1,k2,b',cap,C,k3,rfl,k4,k5,k6,k7⟩
  · refine (hnone 0 w).mono fun e w' ⟨he,hw⟩=>?_
    subst hw
    refine ⟨fun _=>undef,[],he,trivial, fun r v c h=>?_, fun r v c r' v' c' h h' hne=>?_, fun r v c h b hb=>?_,znw.rfl'⟩
    · obtain ⟨rfl,rfl,rfl⟩:=only _ _ _ _ h
      have:srt []=[]:=List.eq_nil_of_length_eq_zero (by rw [hlen]; rfl)
      exact .inl ⟨rfl,this⟩
    · exact absurd ((only _ _ _ _ h).1.trans (only _ _ _ _ h').1.symm) hne
    · obtain ⟨rfl,rfl,rfl⟩:=only _ _ _ _ h; cases hb
  · subst k3
    simp only [z6e,Option.some.injEq] at k1
    subst k1
    have hlt:b'<w.heap.size:=(Array.getElem?_eq_some_iff.1 k2).1
    have hrow:=zsa k7
    have hsz:(z3j 32 u8R).sz=32:=rfl
    rw [hsz] at k6 hrow
    have hC:c0.length * 32≤C.size:=by rw [k6]; exact Nat.mul_le_mul_right _ k4
    refine (hsome b' cap c0.toArray w (ztm z9s 32 zgk c0 k2 hrow) hlt (by simp; omega)).mono fun e w' ⟨he,n,os,hw⟩=>?_
    subst hw
    refine ⟨fun _=>undef,[],he,trivial, fun r v c h=>?_, fun r v c r' v' c' h h' hne=>?_, fun r v c h b hb=>?_,rfl,rfl,rfl,?_, fun i hi=>?_⟩
    · obtain ⟨rfl,rfl,rfl⟩:=only _ _ _ _ h
      refine .inr ⟨b',_,rfl,z17i z9s 32 w n _ os k2,b',cap,_, by rw [hlen],rfl, by rw [hlen]; exact k4,k5,?_,?_⟩
      · rw [hsz,← k6]; simp [putCells]
      · rw [hsz,z13h z9s 32 zgk (srt c0) C (by rw [hlen]; exact hC)]
        exact zso _
    · exact absurd ((only _ _ _ _ h).1.trans (only _ _ _ _ h').1.symm) hne
    · obtain ⟨rfl,rfl,rfl⟩:=only _ _ _ _ h
      exact .inr ⟨1,_,_,rfl,hb⟩
    · show w.heap.size≤(w.heap.modify b' _++os).size
      simp
    · exact zya z9s 32 w b' n _ os hi.1 fun e=>hi.2 ⟨1,_,_,rfl, by rw [e]; rfl⟩
end
section
open Go
section
variable {σ β α ρ τ:Type}
theorem bs (x:α) (f:α→Option β):(some x >>= f)=f x:=rfl
theorem bS (x:α) (f:α→Option β):(some x >>= f)=f x:=Eq.trans (rfl:(some x >>= f)=f x) rfl
theorem or_l (r:ρ) (k:τ→Option ρ):z58 (some (.inl r)) k=some r:=rfl
theorem zub (t:τ) (k:τ→Option ρ):z58 (some (.inr t)) k=k t:=rfl
theorem z1o {F:σ→Option (Sum β σ)} {s:σ} {b:β} (h:F s=some (.inl b)):iter F s=some b:=by rw [iter,h]; rfl
theorem z21 {F:σ→Option (Sum β σ)} {s s':σ} (h:F s=some (.inr s')):iter F s=iter F s':=by rw [iter,h]; rfl
theorem za5 {F:σ→Option (Sum β σ)} (I:σ→Prop) (μ:σ→Nat) (Q:β→Prop) (h:∀ s,I s→(∃ b,F s=some (.inl b)∧Q b)∨∃ s',F s=some (.inr s')∧I s'∧μ s'<μ s) (s:σ) (hs:I s):∃ b,iter F s=some b∧Q b:=by
 have key:∀ n s,μ s=n→I s→∃ b,iter F s=some b∧Q b:=by
  intro n
  induction n using Nat.strongRecOn with
  | _ n ih =>
   intro s hn hs
   rcases h s hs with ⟨b,h1,h2⟩ | ⟨s',h1,h2,h3⟩
   ·
    exact ⟨b,z1o h1,h2⟩
   ·
    rw [z21 h1]; exact ih (μ s') (hn ▸ h3) s' rfl h2
 exact key _ s rfl hs
theorem z7g {F:σ→Option (Sum β σ)} (n:Nat) (I:Nat→σ→Prop) (Q:β→Prop) (h1:∀ i s,i<n→I i s→∃ s',F s=some (.inr s')∧I (i+1) s') (h2:∀ s,I n s→∃ b,F s=some (.inl b)∧Q b) (s:σ) (i:Nat) (hi:i≤n) (hs:I i s):∃ b,iter F s=some b∧Q b:=by
 have key:∀ k i s,n - i=k→i≤n→I i s→∃ b,iter F s=some b∧Q b:=by
  intro k
  induction k with
  | zero =>
   intro i s hk hi hs
   have:i=n:=by omega
   subst this
   obtain ⟨b,h3,h4⟩:=h2 s hs
   exact ⟨b,z1o h3,h4⟩
  | succ k ih =>
   intro i s hk hi hs
   obtain ⟨s',h3,h4⟩:=h1 i s (by omega) hs
   rw [z21 h3]; exact ih (i+1) s' (by omega) (by omega) h4
 exact key _ i s rfl hi hs
theorem z1x {F:σ→Option (Sum β σ)} (n:Nat) (g:Nat→σ) {b:β} (h1:∀ i,i<n→F (g i)=some (.inr (g (i+1)))) (h2:F (g n)=some (.inl b)):iter F (g 0)=some b:=by
 obtain ⟨b',h3,rfl⟩:=z7g n (fun i s=>s=g i) (fun x=>x=b) (fun i s hi hs=>⟨_, by rw [hs]; exact h1 i hi,rfl⟩) (fun s hs=>⟨_, by rw [hs]; exact h2,rfl⟩) (g 0) 0 (Nat.zero_le _) rfl
 exact h3
theorem z0b {l:List α} {i:Nat} (h:i<l.length):idx l (i:Int)=some l[i]:=by simp [idx,h]
theorem z16w {l:List α} {i:Int} (h0:0≤i) (h:i.toNat<l.length):idx l i=some l[i.toNat]:=by simp [idx,h0,h]
theorem zac {n:Nat} {v:Vector α n} {i:Nat} (h:i<n):z98 v (i:Int)=some v[i]:=by unfold z98; rw [z0b (by simpa using h)]; simp
theorem ziu {n:Nat} {v:Vector α n} {i:Int} {x:α} {j:Nat} (hj:j<n):(zkn v i x)[j]=if i.toNat=j then x else v[j]:=by
 unfold zkn; rw [Vector.getElem_setIfInBounds hj]
theorem z3r {p:Prop} [Decidable p] (h:p):chk p=some ():=by simp [chk,h]
theorem z1e {by_:Nat} {b c:List α} (h:(b.length+c.length) * by_≤140737488355328):app by_ b c=some (b++c):=by simp [app,h]
theorem zjv {by_:Nat} {x:α} {n:Nat} (h:by_ * n≤281474976710656) (h2:n≤9223372036854775807):mkn by_ x (n:Int)=some (List.replicate n x):=by
 unfold mkn; rw [if_pos ⟨by omega, by simpa using h, by omega⟩]; simp
theorem zd7 {b:List α} {i j:Nat} (h:i≤j) (hj:j≤b.length):cut b (i:Int) (j:Int)=some ((b.drop i).take (j - i)):=by
 unfold cut; rw [if_pos ⟨by omega, by omega, by omega⟩]; simp
end
theorem z19 {x:Int} (h1:-9223372036854775808≤x) (h2:x≤9223372036854775807):w64 x=x:=zih h1 h2
theorem z0h {n:Nat} (h:n<9223372036854775807):w64 ((n:Int)+1)=((n+1:Nat):Int):=by rw [z19 (by omega) (by omega)]; omega
theorem zfc (a:UInt64) (n:Nat):(z99 a n).toNat=a.toNat / 2 ^ (min n 64):=by
 unfold z99
 have h1:=UInt64.toNat_lt a
 have h2:a.toNat / 2 ^ (min n 64)≤a.toNat:=Nat.div_le_self _ _
 simp; omega
theorem zo9 (a:UInt64) (n:Nat):(zrl a n).toNat=a.toNat * 2 ^ (min n 64) % 18446744073709551616:=by
 unfold zrl; simp
theorem z1a9 (a:UInt64) (k:Nat) (hk:k<64):((z99 a k &&& 1)==1)=a.toNat.testBit k:=by
 rw [Bool.eq_iff_iff,beq_iff_eq,← UInt64.toNat_inj,UInt64.toNat_and,zfc,Nat.min_eq_left (by omega)]
 have:(1:UInt64).toNat=1:=rfl
 rw [this,Nat.and_one_is_mod,Nat.testBit_eq_decide_div_mod_eq]
 simp
end
section
open Go
def z8f (n:Nat):Nat:=if n=0 then 0 else n.log2+1
theorem zfu (n k:Nat) (h:2 ^ k≤n):z8f n=k+z8f (n / 2 ^ k):=by
 have hp:0<2 ^ k:=Nat.pow_pos (by decide)
 have h1:n / 2 ^ k≠0:=by
  have:1≤n / 2 ^ k:=(Nat.le_div_iff_mul_le hp).2 (by rw [Nat.one_mul]; exact h)
  omega
 have h2:n≠0:=by omega
 unfold z8f
 rw [if_neg h1,if_neg h2]
 have h3:n.log2=k+(n / 2 ^ k).log2:=by
  rw [Nat.log2_eq_iff h2]
  have h4:=(Nat.log2_eq_iff h1).1 rfl
  refine ⟨?_,?_⟩
  ·
   rw [Nat.pow_add,Nat.mul_comm]; exact (Nat.le_div_iff_mul_le hp).1 h4.1
  ·
   rw [Nat.add_assoc,Nat.pow_add,Nat.mul_comm]; exact (Nat.div_lt_iff_lt_mul hp).1 h4.2
 omega
theorem zla (n k:Nat) (h:n<2 ^ k):z8f n≤k:=by
 unfold z8f; split
 ·
  omega
 ·
  rename_i h0; have:=(Nat.log2_lt h0).2 h; omega
def z10y:ByteArray:=⟨#[0,1,2,2,3,3,3,3,4,4,4,4,4,4,4,4,5,5,5,5,5,5,5,5,5,5,5,5,5,5,5,5,6,6,6,6,6,6,6,6,6,6,6,6,6,6,6,6,6,6,6,6,6,6,6,6,6,6,6,6,6,6,6,6,7,7,7,7,7,7,7,7,7,7,7,7,7,7,7,7,7,7,7,7,7,7,7,7,7,7,7,7,7,7,7,7,7,7,7,7,7,7,7,7,7,7,7,7,7,7,7,7,7,7,7,7,7,7,7,7,7,7,7,7,7,7,7,7,8,8,8,8,8,8,8,8,8,8,8,8,8,8,8,8,8,8,8,8,8,8,8,8,8,8,8,8,8,8,8,8,8,8,8,8,8,8,8,8,8,8,8,8,8,8,8,8,8,8,8,8,8,8,8,8,8,8,8,8,8,8,8,8,8,8,8,8,8,8,8,8,8,8,8,8,8,8,8,8,8,8,8,8,8,8,8,8,8,8,8,8,8,8,8,8,8,8,8,8,8,8,8,8,8,8,8,8,8,8,8,8,8,8,8,8,8,8,8,8,8,8,8,8,8,8,8,8]⟩
set_option maxRecDepth 100000 in
theorem z14h:∀ x:Fin 256,z10y.data[x.val]? = some (UInt8.ofNat (z8f x.val)):=by decide +kernel
def z3k (n:Nat):List UInt8:=if h:n=0 then [] else UInt8.ofNat n::z3k (n / 256)
termination_by n
theorem zew:z3k 0=[]:=by rw [z3k]; simp
theorem zj2 (n:Nat) (h:n≠0):z3k n=UInt8.ofNat n::z3k (n / 256):=by rw [z3k]; simp [h]
def z1r (n:Nat):List UInt8:=if n≤247 then [UInt8.ofNat n] else UInt8.ofNat (247+(z3k n).length)::(z3k n).reverse
theorem zqf (n:Nat):(z3k n).length=(z8f n+7) / 8:=by
 induction n using Nat.strongRecOn with
 | _ n ih =>
  by_cases h:n=0
  ·
   subst h; rw [zew]; simp [z8f]
  ·
   rw [zj2 n h,List.length_cons,ih (n / 256) (by omega)]
   by_cases h2:n<256
   ·
    have:n / 256=0:=by omega
    rw [this]
    have h3:z8f n≤8:=zla n 8 h2
    have h4:1≤z8f n:=by unfold z8f; rw [if_neg h]; omega
    simp [z8f] at h3 h4 ⊢
    rw [if_neg h] at h3 h4 ⊢; omega
   ·
    have:=zfu n 8 (by omega)
    rw [show (2:Nat) ^ 8=256 from rfl] at this
    omega
theorem zyk (n:Nat):∀ (i:Nat),i<(z3k n).length→(z3k n)[i]? = some (UInt8.ofNat (n / 256 ^ i)):=by
 induction n using Nat.strongRecOn with
 | _ n ih =>
  intro i hi
  by_cases h:n=0
  ·
   subst h; rw [zew] at hi; simp at hi
  ·
   rw [zj2 n h] at hi ⊢
   cases i with
   | zero=>simp
   | succ i =>
    simp only [List.length_cons] at hi
    rw [List.getElem?_cons_succ,ih (n / 256) (by omega) i (by omega),Nat.div_div_eq_div_mul]
    congr 3
    rw [Nat.pow_succ,Nat.mul_comm]
theorem zov (n:Nat) (h:n<18446744073709551616):(z3k n).length≤8:=by
 rw [zqf]; have:=zla n 64 (by simpa using h); omega
theorem z13 (n:Nat) (h:n<18446744073709551616):1≤(z1r n).length∧(z1r n).length≤9:=by
 unfold z1r; have:=zov n h; split <;> simp <;> omega
def zei (n i:Nat):List UInt8:=UInt8.ofNat (247+(z3k n).length)::(List.replicate ((z3k n).length - i) 0++((z3k n).take i).reverse)
theorem zuk (n i:Nat) (h:i≤(z3k n).length):(zei n i).length=(z3k n).length+1:=by simp [zei]; omega
theorem zu8 (n:Nat):(List.replicate ((z3k n).length+1) (0:UInt8)).set 0 (UInt8.ofNat (247+(z3k n).length))=zei n 0:=by
 simp [zei,List.replicate_succ]
theorem zt7 (n i:Nat) (h:i<(z3k n).length):(zei n i).set ((z3k n).length - i) (UInt8.ofNat (n / 2 ^ (8 * i)))=zei n (i+1):=by
 have hg:=zyk n i h
 have he:n / 2 ^ (8 * i)=n / 256 ^ i:=by rw [Nat.pow_mul]
 rw [he]
 unfold zei
 obtain ⟨m,hm⟩:∃ m,(z3k n).length - i=m+1:=⟨(z3k n).length - i - 1, by omega⟩
 have hm2:(z3k n).length - (i+1)=m:=by omega
 rw [hm,hm2,List.set_cons_succ,List.take_succ_eq_append_getElem h,List.reverse_append,List.reverse_singleton,List.replicate_succ']
 rw [List.getElem?_eq_getElem h,Option.some.injEq] at hg
 rw [hg,List.append_assoc,List.set_append_right _ _ (by simp)]
 simp
theorem zt0 (n:Nat) (h:247<n):zei n (z3k n).length=z1r n:=by
 unfold zei z1r; rw [if_neg (by omega)]; simp
theorem zs5 (n m:Nat) (ds:List UInt8) (hm:m≠0) (h:z3k n=ds++z3k m):z3k n=(ds++[UInt8.ofNat (m % 256)])++z3k (m / 256):=by
 rw [h,zj2 m hm,List.append_assoc]
 have:UInt8.ofNat (m % 256)=UInt8.ofNat m:=by
  apply UInt8.toNat_inj.1; simp
 rw [this]; rfl
theorem zps {α} {l a b:List α} (h:l=a++b):a.length≤l.length:=by rw [h]; simp
def zig (n:Int):Nat:=if 0≤n then (2 * n).toNat else (-2 * n - 1).toNat
theorem z19e {n:Int} (h1:-9223372036854775808≤n) (h2:n≤9223372036854775807):zig n<18446744073709551616:=by unfold zig; split <;> omega
end
section
open Go Go.RowKit
def zie (x:z06):Prop:=(fun _=>True) x.Kind∧inI x.Num∧(fun _=>True) x.Bits∧(fun s:List UInt8=>s.length≤9223372036854775807) x.Text∧True
def zm4 (x:z0i):Prop:=(fun _=>True) x.Kind∧(fun s:List UInt8=>s.length≤9223372036854775807) x.Key∧zie x.Value∧True
def zmh (x:z0c):Prop:=(fun _=>True) x.E∧(fun _=>True) x.S∧True
def zbs (x:z08):Prop:=(fun _=>True) x.Author∧(fun l:List V3=>(∀ x∈l,(fun v:V3=>∀ x∈v.toList,(fun _=>True) x) x)∧l.length≤9223372036854775807) x.Preds∧(fun _=>True) x.Stamp∧zm4 x.Act∧zmh x.Sig∧True
def z1b (x:z00):Prop:=(fun l:List V3=>(∀ x∈l,(fun v:V3=>∀ x∈v.toList,(fun _=>True) x) x)∧l.length≤9223372036854775807) x.IDs∧(fun l:List z08=>(∀ x∈l,zbs x)∧l.length≤9223372036854775807) x.Ops∧True
end
end Go.Proofs.YtefkialcgmohkaaGreatDoor
