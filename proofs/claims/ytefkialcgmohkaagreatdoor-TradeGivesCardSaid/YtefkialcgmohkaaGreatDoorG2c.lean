import Derived.Test.YtefkialcgmohkaaGreatDoorG2b
set_option linter.unusedSimpArgs false
set_option linter.unusedVariables false
namespace Go.Proofs.YtefkialcgmohkaaGreatDoor
section
open Go Go.RowKit
set_option maxRecDepth 100000
theorem zgb (a1:Int):z1w Tryz.prog 173 [.val (.slice none 0 0),.rd z0c a1] [] (z4b a1) (fun r nv=>⟨[.val (nv 0)],[(100,some (nv 0,.list u8R 5 r))]⟩):=by
 refine z2e 27 Tryz.func173 Z Z Z fun H w=>?_
 refine gSR<|Zb Z<|z0l<|gSR<|Zm Z<|Zq (I.lss Z Z)<|Zj Z (fun h1=>?_) (fun h1=>?_)
 ·
  refine z16v
 ·
  refine Zt<|z0l<|gSR<|Zm Z<|Zm Z<|Zq (capN Z Z tu75)<|Zm Z<|z136 u8R 11 Z<|Zq (z2w Z .rd Z tu75)<|Zq (I.sub Z Z)<|Zq (I.sub Z Z)<|Za Z<|z1i 1 Z fun y2=>Zn<|gSR<|Zm Z<|Zq (I.gtr Z Z)<|Zj Z (fun h3=>?_) (fun h3=>?_)
  ·
   refine z1y<|Zm Z<|Zm Z<|Zq (capN Z Z tu75)<|Zq (cutN Z Z tu75 ti5)<|Zm Z<|z0j fun x4 h5=>Ef Z (apZ 1 Z Z h5 tu75 tu3 ti5 (Zr.num Z) Z) fun v6=>Zm Z<|z136 u8R 23 Z<|Zq (z2w Z .rd Z tu75)<|z0j fun x7 h8=>Ef Z (cutO 1 Z Z Z h8 tu75 ti5) fun v9=>Zb Z<|gSR<|Zm Z<|Zb Z<|z0i<|Ze [v9] [1] Z
  ·
   refine Zt<|gSR<|Zm Z<|Zb Z<|z0i<|zr1 u8R 5 2<|Ze [(.slice none 0 0)] [2] Z
def z15 (a0:List (List UInt8)) (s2:Int × Int):Option (Sum Int (Int × Int)) :=
 if decide (s2.2<(a0.length:Int)) then
  idx a0 s2.2 >>= fun x4 =>
  some (w64 (s2.1+(x4.length:Int))) >>= fun y6 =>
  if decide (y6<0) then
   none
  else
   some (.inr (y6,w64 (s2.2+1)))
 else
  some (.inl s2.1)
def z16 (a0:List (List UInt8)) (s11:(List UInt8) × Int):Option (Sum ((List UInt8)) ((List UInt8) × Int)) :=
 if decide (s11.2<(a0.length:Int)) then
  idx a0 s11.2 >>= fun x14 =>
  app 1 s11.1 x14 >>= fun x16 =>
  some (.inr (x16,w64 (s11.2+1)))
 else
  some (.inl s11.1)
def z2o (a0:List (List UInt8)):Option ((List UInt8)) :=
 (iter (z15 a0) (0,0)) >>= fun s1 =>
 z4b s1 >>= fun r8 =>
 (iter (z16 a0) (r8,0)) >>= fun s10 =>
 some s10
theorem z72 (a0:List (List UInt8)):z1w Tryz.prog 130 [.rd (z02 (z02 u8R)) a0] [] (z2o a0) (fun r nv=>⟨[.val (nv 0)],[(100,some (nv 0,.list u8R 5 r))]⟩):=by
 refine z2e 36 Tryz.func130 Z Z Z fun H w=>?_
 refine gSR<|Zb Z<|gSR<|Zb Z<|z5q (fun (s1:Int) aa ww=>Sta (ctx 36 H [] w) [(0,.rd (z02 (z02 u8R)) a0),(3,.rd z0c s1)] [] aa ww) ?_ (fun s1=>?_)
 ·
  refine gSR<|Zm Z<|Zq (z2w Z .rd Z tu42)<|Zm Z<|Zn<|z1v (fun (s2:Int × Int) aa ww=>Sta (ctx 36 H [] w) [(0,.rd (z02 (z02 u8R)) a0),(3,.rd z0c s2.1),(9,.rd (z02 (z02 u8R)) a0),(10,.rd z0c (a0.length:Int)),(11,.rd z0c s2.2)] [] aa ww) (fun aa ww h=>Zu h []) (fun s2=>?_)
  refine gSR<|Zq (I.lss Z Z)<|Zn<|z0l<|gIf Z Z (fun h3=>?_) (fun h3=>?_)
  ·
   refine Zt<|z0l<|z49<|gSR<|z0j fun x4 h5=>Zq (ixR Z Z h5 tu42 zlr Z)<|Zq (ldR Z ty75)<|Zb Z<|gSR<|Zm Z<|Zm Z<|Zq (z2w Z .rd Z tu75)<|Zq (I.add Z Z)<|Za Z<|z1i 3 Z fun y6=>Zn<|gSR<|Zm Z<|Zq (I.lss Z Z)<|Zj Z (fun h7=>?_) (fun h7=>?_)
   ·
    refine z16v
   ·
    refine z29<|z2q<|z0f<|z1y<|Zq (I.add Z Z)<|Zm Z<|z1q<|z19 (fun aa ww h=>Zu h [])
  ·
   refine z1k<|z0o<|z0r<|z3b (fun aa ww h=>Zu h [])
 ·
  refine gSR<|Zm Z<|Zc [] [(100,1)] Tryz.func173 Z (zgb _) fun r8 n9=>Zb Z<|z5q (fun (s10:(List UInt8)) aa ww=>∃ nv:Nat→Value,Sta (ctx 36 H [] w) [(6,.val (nv 0))] [(1,some ((nv 0),.list u8R 5 s10))] aa ww) ?_ (fun s10=>?_)
  ·
   refine gSR<|Zm Z<|Zq (z2w Z .rd Z tu42)<|Zm Z<|Zn<|z1v (fun (s11:(List UInt8) × Int) aa ww=>∃ nv:Nat→Value,Sta (ctx 36 H [] w) [(6,.val (nv 0)),(25,.rd (z02 (z02 u8R)) a0),(26,.rd z0c (a0.length:Int)),(27,.rd z0c s11.2)] [(1,some ((nv 0),.list u8R 5 s11.1))] aa ww) (fun aa ww h=>⟨nvl [(n9 0)],Zu h [1]⟩) (fun s11=>?_)
   refine gEx fun n12=>gSR<|Zq (I.lss Z Z)<|Zn<|z0l<|gIf Z Z (fun h13=>?_) (fun h13=>?_)
   ·
    refine Zt<|z0l<|z49<|gSR<|z0j fun x14 h15=>Zq (ixR Z Z h15 tu42 zlr Z)<|Zq (ldR Z ty75)<|Zb Z<|z1y<|Zm Z<|Zm Z<|z0j fun x16 h17=>Ef Z (apn 1 Z Z Z .rd h17 tu75 ti5 Z Z Z) fun v18=>Za Z<|z1q<|z2q<|z0f<|z1y<|Zq (I.add Z Z)<|Zm Z<|z1q<|z19 (fun aa ww h=>⟨nvl [v18],Zu h [1]⟩)
   ·
    refine z1k<|z0o<|z0r<|z3b (fun aa ww h=>⟨nvl [(n12 0)],Zu h [1]⟩)
  ·
   refine gEx fun n19=>gSR<|Zm Z<|Zb Z<|z0i<|Ze [(n19 0)] [1] Z
def zd2 (a0:List UInt8):Option ((List UInt8) × Int) :=
 if decide (10000<(a0.length:Int)) then
  some ([],4)
 else
  z4t (UInt64.ofInt (a0.length:Int)) >>= fun r2 =>
  app 1 r2 a0 >>= fun x4 =>
  some (x4,0)
theorem zgk (a0:List UInt8):z1w Tryz.prog 102 [.rd (z02 u8R) a0] [] (zd2 a0) (fun r nv=>⟨[.val (nv 0),.rd z0c r.2],[(100,some (nv 0,.list u8R 5 r.1))]⟩):=by
 refine z2e 13 Tryz.func102 Z Z Z fun H w=>?_
 refine gSR<|Za Z<|Zb Z<|z0l<|gSR<|Zm Z<|Zq (z2w Z .rd Z tu75)<|Zq (I.gtr Z Z)<|Zj Z (fun h1=>?_) (fun h1=>?_)
 ·
  refine gSR<|Za Z<|Zb Z<|z0i<|z0v<|zr1 u8R 5 1<|Ze [(.slice none 0 0)] [1] Z
 ·
  refine Zt<|gSR<|Zm Z<|Zq (z2w Z .rd Z tu75)<|Zq (I.toU Z tu3 tu41)<|Zc [] [(100,2)] Tryz.func101 Z (z51 _) fun r2 n3=>Zm Z<|z0j fun x4 h5=>Ef Z (apn 2 Z Z Z .rd h5 tu75 ti5 Z Z Z) fun v6=>Za Z<|Zb Z<|z0i<|Ze [v6] [2] Z
def zgr (a0:Int):Option ((List UInt8)) :=
 z4t ((zqx (UInt64.ofInt a0) 1) ^^^ (UInt64.ofInt (shrI a0 63))) >>= fun r1 =>
 some r1
theorem zp4 (a0:Int):z1w Tryz.prog 204 [.rd z0c a0] [] (zgr a0) (fun r nv=>⟨[.val (nv 0)],[(100,some (nv 0,.list u8R 5 r))]⟩):=by
 refine z2e 11 Tryz.func204 Z Z Z fun H w=>?_
 refine gSR<|Zb Z<|gSR<|Zm Z<|Zq (I.toU Z Tryz.underlying2 tu41)<|Zq (U.shl Z Z (Int.natCast_nonneg _))<|Zm Z<|Zq (I.shr Z Z (Int.natCast_nonneg _))<|Zq (I.toU Z Tryz.underlying2 tu41)<|Zq (U.xor Z Z)<|Zc [] [(100,1)] Tryz.func101 Z (z51 _) fun r1 n2=>Zb Z<|z0i<|Ze [(n2 0)] [1] Z
def zad (a0:z09) (s14:(List UInt8) × Int):Option (Sum ((List UInt8)) ((List UInt8) × Int)) :=
 if decide (0≤s14.2) then
  chk (0≤s14.2) >>= fun u17 =>
  app 1 s14.1 [(z8r a0.Bits ((s14.2:Int).toNat)).toUInt8] >>= fun x20 =>
  some (w64 (s14.2 - 8)) >>= fun y23 =>
  some (.inr (x20,y23))
 else
  some (.inl s14.1)
def zff (a0:z09):Option ((List UInt8) × Int) :=
 zej a0 >>= fun r2 =>
 if r2 != 0 then
  some ([],r2)
 else
  (if a0.Kind==1 then
   zgr a0.Num >>= fun r8 =>
   app 1 [a0.Kind] r8 >>= fun x10 =>
   some x10
  else
   if a0.Kind==2 then
    iter (zad a0) ([a0.Kind],56)
   else
    if a0.Kind==3 then
     chk (a0.Text.length≤281474976710656) >>= fun u25 =>
     zd2 a0.Text >>= fun r27 =>
     app 1 [a0.Kind] r27.1 >>= fun x29 =>
     some x29
    else
     some [a0.Kind]) >>= fun s6 =>
  some (s6,0)
theorem zo2 (a0:z09):z1w Tryz.prog 172 [.rd z2d a0] [] (zff a0) (fun r nv=>⟨[.val (nv 0),.rd z0c r.2],[(100,some (nv 0,.list u8R 5 r.1))]⟩):=by
 refine z2e 53 Tryz.func172 Z Z Z fun H w=>?_
 refine gSR<|Eb Z (bx 1 Z) fun v1=>Za Z<|Zb Z<|z0l<|gSR<|Zq (ld 1 Z Z fH ztm Z)<|Zc [] [] Tryz.func203 Z (zjj _) fun r2 n3=>Zb Z<|gSR<|Zm Z<|Zq (I.neq Z Z)<|Zj Z (fun h4=>?_) (fun h4=>?_)
 ·
  refine gSR<|Zm Z<|Za Z<|Zb Z<|z0i<|z0v<|zr1 u8R 5 2<|Ze [(.slice none 0 0)] [2] Z
 ·
  refine Zt<|gSR<|Zq (faB 1 Z Z Tryz.underlying67 Z (by exact ti5))<|Zq (ld 1 Z Z (fP (z3g _)) ty5 Z)<|Ef Z (lit (R:=u8R) ([a0.Kind]:List UInt8) 3 (pP Z Z<|pN) Z tu75 ti5 Z Z) fun v5=>Zb Z<|z5q (fun (s6:(List UInt8)) aa ww=>∃ nv:Nat→Value,Sta (ctx 53 H [] w) [(5,.val (nv 0))] [(3,some ((nv 0),.list u8R 5 s6))] aa ww) ?_ (fun s6=>?_)
  ·
   refine gSR<|Zq (faB 1 Z Z Tryz.underlying67 Z (by exact ti5))<|Zq (ld 1 Z Z (fP (z3g _)) ty5 Z)<|Zn<|z49<|gSR<|Zq (B.eql Z Z)<|Zb Z<|gIf Z Z (fun h7=>?_) (fun h7=>?_)
   ·
    refine gKn 20 Z h7<|z1y<|Zm Z<|Zq (faB 1 Z Z Tryz.underlying67 Z (by exact ti2))<|Zq (ld 1 Z Z (fP (z78 _)) ty2 Z)<|Zc [] [(100,4)] Tryz.func204 Z (zp4 _) fun r8 n9=>z0j fun x10 h11=>Ef Z (apn 3 Z Z Z (.own 4 Z) h11 tu75 ti5 Z Z Z) fun v12=>Za Z<|z1q<|z2q<|z3b (fun aa ww h=>⟨nvl [v12],Zu h [3]⟩)
   ·
    refine gKn 20 Z h7<|gSR<|Zq (B.eql Z Z)<|Zb Z<|gIf Z Z (fun h13=>?_) (fun h13=>?_)
    ·
     refine gKn 27 Z h13<|gSR<|Zb Z<|z1v (fun (s14:(List UInt8) × Int) aa ww=>∃ nv:Nat→Value,Sta (ctx 53 H [] w) [(1,.val (z05 v1 0)),(5,.val (nv 0)),(6,.rd z0c s14.2)] [(1,some (v1,.box 67 [.rd z2d a0])),(3,some ((nv 0),.list u8R 5 s14.1))] aa ww) (fun aa ww h=>⟨nvl [v5],Zu h [1,3]⟩) (fun s14=>?_)
     refine gEx fun n15=>z0l<|gSR<|Zm Z<|Zq (I.geq Z Z)<|Zj Z (fun h16=>?_) (fun h16=>?_)
     ·
      refine Zt<|z0l<|z49<|z1y<|Zm Z<|Zq (faB 1 Z Z Tryz.underlying67 Z (by exact zpy))<|Zq (ld 1 Z Z (fP (z4a _)) zp8 Z)<|Zm Z<|z0j fun u17 h18=>Zq (U.shr Z Z (z4e h18))<|Zq (U.toB Z tu41 tu5)<|Ef Z (lit (R:=u8R) ([(z8r a0.Bits ((s14.2:Int).toNat)).toUInt8]:List UInt8) 5 (pP Z Z<|pN) Z tu75 ti5 Z Z) fun v19=>z0j fun x20 h21=>Ef Z (apn 3 Z Z Z (.own 5 Z) h21 tu75 ti5 Z Z Z) fun v22=>Za Z<|z1q<|z2q<|z0f<|z1y<|Zm Z<|Zq (I.sub Z Z)<|Za Z<|z1i 6 Z fun y23=>z1q<|z19 (fun aa ww h=>⟨nvl [v22],Zu h [1,3]⟩)
     ·
      refine z1k<|z0o<|z0r<|z2q<|z3b (fun aa ww h=>⟨nvl [(n15 0)],Zu h [3]⟩)
    ·
     refine gKn 27 Z h13<|gSR<|Zq (B.eql Z Z)<|Zb Z<|gIf Z Z (fun h24=>?_) (fun h24=>?_)
     ·
      refine gKn 41 Z h24<|gSR<|Zq (faB 1 Z Z Tryz.underlying67 Z (by exact ti9))<|Zq (ld 1 Z Z (fP (z3x _)) ty9 Z)<|z0j fun u25 h26=>z121 Z Z h26 tu9 tu75 tu5<|Zc [] [(100,6)] Tryz.func102 Z (zgk _) fun r27 n28=>Zm Z<|Zq (ext Z Z)<|Zq (ext Z Z)<|Za Z<|Zb Z<|z1y<|Zm Z<|Zm Z<|z0j fun x29 h30=>Ef Z (apn 3 Z Z Z (.own 6 Z) h30 tu75 ti5 Z Z Z) fun v31=>Za Z<|z1q<|z2q<|z3b (fun aa ww h=>⟨nvl [v31],Zu h [3]⟩)
     ·
      refine gKn 41 Z h24<|z29<|z2q<|z3b (fun aa ww h=>⟨nvl [v5],Zu h [3]⟩)
  ·
   refine gEx fun n32=>gSR<|Zm Z<|Za Z<|Zb Z<|z0i<|Ze [(n32 0)] [3] Z
def zg5 (a0:z0b):Option ((List UInt8) × Int) :=
 zgi ({ a0 with Sig:=(⟨0,0⟩:z0q) }) >>= fun r2 =>
 if r2 != 0 then
  some ([],r2)
 else
  zkm (({ a0 with Sig:=(⟨0,0⟩:z0q) }).Preds) >>= fun r5 =>
  z4t ((({ a0 with Sig:=(⟨0,0⟩:z0q) }).Author).toUInt64) >>= fun r7 =>
  z4t (({ a0 with Sig:=(⟨0,0⟩:z0q) }).Stamp) >>= fun r10 =>
  z2o [[111],r7,r5.1,r10,[(({ a0 with Sig:=(⟨0,0⟩:z0q) }).Act).Kind]] >>= fun r13 =>
  if ((({ a0 with Sig:=(⟨0,0⟩:z0q) }).Act).Kind)==1 then
   some (r13,0)
  else
   chk (((({ a0 with Sig:=(⟨0,0⟩:z0q) }).Act).Key).length≤281474976710656) >>= fun u18 =>
   zd2 ((({ a0 with Sig:=(⟨0,0⟩:z0q) }).Act).Key) >>= fun r20 =>
   app 1 r13 r20.1 >>= fun x22 =>
   if ((({ a0 with Sig:=(⟨0,0⟩:z0q) }).Act).Kind)==4 then
    zff ((({ a0 with Sig:=(⟨0,0⟩:z0q) }).Act).Value) >>= fun r26 =>
    app 1 x22 r26.1 >>= fun x28 =>
    some (x28,0)
   else
    some (x22,0)
set_option maxHeartbeats 4000000 in
theorem zkw (a0:z0b):z1w Tryz.prog 129 [.rd z03 a0] [] (zg5 a0) (fun r nv=>⟨[.val (nv 0),.rd z0c r.2],[(100,some (nv 0,.list u8R 5 r.1))]⟩):=by
 refine z2e 71 Tryz.func129 Z Z Z fun H w=>?_
 refine gSR<|Eb Z (bx 1 Z) fun v1=>Za Z<|Zb Z<|gSR<|Zq (bld (x':=(⟨0,0⟩:z0q)) [(0,1),(1,1)] Tryz.underlying71 zra Z zx6 Z (Bld.done Z))<|Zq (faB 1 Z Z Tryz.underlying73 Z (by exact zra))<|Es (sto 1 Z Z (fP (z3a _)) Z zra)<|Zn<|z0l<|gSR<|Zq (ld 1 Z Z fH zcs Z)<|Zc [] [] Tryz.func128 Z (zkd _) fun r2 n3=>Zb Z<|gSR<|Zm Z<|Zq (I.neq Z Z)<|Zj Z (fun h4=>?_) (fun h4=>?_)
 ·
  refine gSR<|Zm Z<|Za Z<|Zb Z<|z0i<|z0v<|zr1 u8R 5 2<|Ze [(.slice none 0 0)] [2] Z
 ·
  refine Zt<|gSR<|Zq (faB 1 Z Z Tryz.underlying73 Z (by exact z4q))<|Zq (ld 1 Z Z (fP (z0x _)) z5j Z)<|Zc [] [(100,3)] Tryz.func100 Z (zoq _) fun r5 n6=>Zm Z<|Zq (ext Z Z)<|Zq (ext Z Z)<|Za Z<|Zb Z<|z0l<|gFrz 3 [23,5] Z (fS Z<|fS Z<|fN)<|zro [(1,.val (z05 v1 0)),(5,.rd (z02 u8R) r5.1)] [(1,some (v1,.box 73 [.rd z03 ({ a0 with Sig:=(⟨0,0⟩:z0q) })]))] [1] (sS Z<|sS Z<|sN) (y1 Z)<|z4s fun r7 h9=>z4s fun r10 h12=>z4s fun r13 h15=>gOr [] [⟨4,none,[(0,none)]⟩,⟨1,some ([], fun nv=>(v1,.box 73 [.rd z03 ({ a0 with Sig:=(⟨0,0⟩:z0q) })])),[]⟩,⟨5,none,[(4,none)]⟩,⟨6,none,[(8,none)]⟩,⟨7,none,[(12,none)]⟩,⟨8,none,[(13,none)]⟩,⟨9,none,[(14,some ([6], fun nv=>((nv 6),.list u8R 5 r13)))]⟩] [⟨some (25,[], fun nv=>.rd (z02 u8R) [111]),[(0,0,true)],[1],[]⟩,pk 26 (.val (z05 v1 (0+0))) [(1,0,false)],pk 27 (.rd z10 (({ a0 with Sig:=(⟨0,0⟩:z0q) }).Author)) [(1,0,false)],pd 28 (.rd z2k ((({ a0 with Sig:=(⟨0,0⟩:z0q) }).Author).toUInt64)),⟨some (29,[], fun nv=>.rd (z02 u8R) r7),[(2,0,true)],[2],[]⟩,pd 30 (.rd (z02 u8R) r5.1),pk 31 (.val (z05 v1 (0+2))) [(1,0,false)],pk 32 (.rd z2k (({ a0 with Sig:=(⟨0,0⟩:z0q) }).Stamp)) [(1,0,false)],⟨some (33,[], fun nv=>.rd (z02 u8R) r10),[(3,0,true)],[3],[]⟩,pk 34 (.val (z05 v1 (0+3))) [(1,0,false)],pk 35 (.val (z05 v1 (0+3+0))) [(1,0,false)],pk 36 (.rd u8R ((({ a0 with Sig:=(⟨0,0⟩:z0q) }).Act).Kind)) [(1,0,false)],⟨some (37,[], fun nv=>.rd (z02 u8R) [(({ a0 with Sig:=(⟨0,0⟩:z0q) }).Act).Kind]),[(4,0,true)],[4],[]⟩,⟨some (38,[], fun nv=>.rd (z02 (z02 u8R)) [[111],r7,r5.1,r10,[(({ a0 with Sig:=(⟨0,0⟩:z0q) }).Act).Kind]]),[(5,0,true)],[5],[]⟩,⟨some (39,[6], fun nv=>.val (nv 6)),[(6,0,true)],[6],[]⟩,⟨some (7,[6], fun nv=>.val (nv 6)),[],[],[]⟩] mixed (oC (oFz (A1:=fun nv=>[(4,some ((nv 1),.list u8R 5 [111]))]) 4 1 (oEf 4 1 (fun nv E=>lit (R:=u8R) ([111]:List UInt8) 4 (pP Z Z<|pN) Z tu75 ti5 Z Z)))<|oC (oRn (fun nv E=>faB 1 Z Z Tryz.underlying73 Z (by exact z6s)))<|oC (oRn (fun nv E=>ld 1 Z Z (fP (z3u _)) za4 Z))<|oC (oRn (fun nv E=>W.toU Z tu65 tu41))<|oC (oFz (A1:=fun nv=>[(5,some ((nv 2),.list u8R 5 r7))]) 5 2 (oCl [2] [] [(100,5)] h9 Tryz.func101 Z (fun nv=>(z51 _)) (fun nv=>(Y1 Z)) (fun nv E=>rN)))<|oC (oRn (fun nv E=>mv Z))<|oC (oRn (fun nv E=>faB 1 Z Z Tryz.underlying73 Z (by exact zpy)))<|oC (oRn (fun nv E=>ld 1 Z Z (fP (z5c _)) zp8 Z))<|oC (oFz (A1:=fun nv=>[(6,some ((nv 3),.list u8R 5 r10))]) 6 3 (oCl [3] [] [(100,6)] h12 Tryz.func101 Z (fun nv=>(z51 _)) (fun nv=>(Y1 Z)) (fun nv E=>rN)))<|oC (oRn (fun nv E=>faB 1 Z Z Tryz.underlying73 Z (by exact zpt)))<|oC (oRn (fun nv E=>faB 1 Z Z Tryz.underlying69 Z (by exact ti5)))<|oC (oRn (fun nv E=>ld 1 Z Z ((fP (z2h _)).part (z4i _)) ty5 Z))<|oC (oFz (A1:=fun nv=>[(7,some ((nv 4),.list u8R 5 [(({ a0 with Sig:=(⟨0,0⟩:z0q) }).Act).Kind]))]) 7 4 (oEf 7 4 (fun nv E=>lit (R:=u8R) ([(({ a0 with Sig:=(⟨0,0⟩:z0q) }).Act).Kind]:List UInt8) 7 (pP Z Z<|pN) Z tu75 ti5 Z Z)))<|oC (oFz (A1:=fun nv=>[(8,some ((nv 5),.list (z02 u8R) 75 [[111],r7,r5.1,r10,[(({ a0 with Sig:=(⟨0,0⟩:z0q) }).Act).Kind]]))]) 8 5 (oEf 8 5 (fun nv E=>lit (R:=(z02 u8R)) ([[111],r7,r5.1,r10,[(({ a0 with Sig:=(⟨0,0⟩:z0q) }).Act).Kind]]:List (List UInt8)) 8 (pP Z Z<|pP Z Z<|pP Z Z<|pP Z Z<|pP Z Z<|pN) Z tu42 zlr Z Z)))<|oC (oCl [6] [] [(100,9)] h15 Tryz.func130 Z (fun nv=>(z72 _)) (fun nv=>(Y1 Z)) (fun nv E=>rN))<|oC (oRn (fun nv E=>asg Z))<|oN) fun n16=>z0f<|z0l<|gSR<|Zq (faB 1 Z Z Tryz.underlying73 Z (by exact zpt))<|Zq (faB 1 Z Z Tryz.underlying69 Z (by exact ti5))<|Zq (ld 1 Z Z ((fP (z2h _)).part (z4i _)) ty5 Z)<|Zq (B.eql Z Z)<|Zj Z (fun h17=>?_) (fun h17=>?_)
  ·
   refine gSR<|Zm Z<|Za Z<|Zb Z<|z0i<|z0v<|Ze [(n16 6)] [9] Z
  ·
   refine Zt<|gSR<|Zq (faB 1 Z Z Tryz.underlying73 Z (by exact zpt))<|Zq (faB 1 Z Z Tryz.underlying69 Z (by exact ti9))<|Zq (ld 1 Z Z ((fP (z2h _)).part (z64 _)) ty9 Z)<|z0j fun u18 h19=>z121 Z Z h19 tu9 tu75 tu5<|Zc [] [(100,10)] Tryz.func102 Z (zgk _) fun r20 n21=>Zm Z<|Zq (ext Z Z)<|Zq (ext Z Z)<|Za Z<|Zb Z<|gSR<|Zm Z<|Zm Z<|z0j fun x22 h23=>Ef Z (apn 9 Z Z Z (.own 10 Z) h23 tu75 ti5 Z Z Z) fun v24=>Zb Z<|z0l<|gSR<|Zq (faB 1 Z Z Tryz.underlying73 Z (by exact zpt))<|Zq (faB 1 Z Z Tryz.underlying69 Z (by exact ti5))<|Zq (ld 1 Z Z ((fP (z2h _)).part (z4i _)) ty5 Z)<|Zq (B.eql Z Z)<|Zj Z (fun h25=>?_) (fun h25=>?_)
   ·
    refine gSR<|Zq (faB 1 Z Z Tryz.underlying73 Z (by exact zpt))<|Zq (faB 1 Z Z Tryz.underlying69 Z (by exact zlz))<|Zq (ld 1 Z Z ((fP (z2h _)).part (z5l _)) ztm Z)<|Zc [] [(100,11)] Tryz.func172 Z (zo2 _) fun r26 n27=>Zm Z<|Zq (ext Z Z)<|Zq (ext Z Z)<|Za Z<|Zb Z<|z1y<|Zm Z<|Zm Z<|z0j fun x28 h29=>Ef Z (apn 9 Z Z Z (.own 11 Z) h29 tu75 ti5 Z Z Z) fun v30=>Zb Z<|gSR<|Zm Z<|Za Z<|Zb Z<|z0i<|Ze [v30] [9] Z
   ·
    refine Zt<|gSR<|Zm Z<|Za Z<|Zb Z<|z0i<|Ze [v24] [9] Z
def zdk (a0:z0b):Option ((List UInt8) × Int) :=
 zgi a0 >>= fun r2 =>
 if r2 != 0 then
  some ([],r2)
 else
  zg5 a0 >>= fun r5 =>
  z4t a0.Sig.E.toUInt64 >>= fun r7 =>
  z4t a0.Sig.S.toUInt64 >>= fun r9 =>
  z2o [r5.1,r7,r9] >>= fun r12 =>
  some (r12,0)
theorem zmp (a0:z0b):z1w Tryz.prog 89 [.rd z03 a0] [] (zdk a0) (fun r nv=>⟨[.val (nv 0),.rd z0c r.2],[(100,some (nv 0,.list u8R 5 r.1))]⟩):=by
 refine z2e 30 Tryz.func89 Z Z Z fun H w=>?_
 refine gSR<|Eb Z (bx 1 Z) fun v1=>Za Z<|Zb Z<|z0l<|gSR<|Zq (ld 1 Z Z fH zcs Z)<|Zc [] [] Tryz.func128 Z (zkd _) fun r2 n3=>Zb Z<|gSR<|Zm Z<|Zq (I.neq Z Z)<|Zj Z (fun h4=>?_) (fun h4=>?_)
 ·
  refine gSR<|Zm Z<|Za Z<|Zb Z<|z0i<|z0v<|zr1 u8R 5 2<|Ze [(.slice none 0 0)] [2] Z
 ·
  refine Zt<|gSR<|Zq (ld 1 Z Z fH zcs Z)<|Zc [] [(100,3)] Tryz.func129 Z (zkw _) fun r5 n6=>Zm Z<|Zq (ext Z Z)<|Zq (ext Z Z)<|Za Z<|Zb Z<|z0l<|z57 [19,34,37,40] mixed Z Z<|hTk 0 Z Z (mv Z)<|hTk 1 Z Z (faB 1 Z Z Tryz.underlying73 Z (by exact zra))<|hTk 2 Z Z (faB 1 Z Z Tryz.underlying71 Z (by exact z6s))<|hTk 3 Z Z (ld 1 Z Z ((fP (z3a _)).part (z63 _)) za4 Z)<|hTk 4 Z Z (W.toU Z tu65 tu41)<|hTk 6 Z Z (faB 1 Z Z Tryz.underlying73 Z (by exact zra))<|hTk 7 Z Z (faB 1 Z Z Tryz.underlying71 Z (by exact z6s))<|hTk 8 Z Z (ld 1 Z Z ((fP (z3a _)).part (z8u _)) za4 Z)<|hTk 9 Z Z (W.toU Z tu65 tu41)<|z3h 5 [] [(100,19)] Z (by kernel_rfl) Z (gd0 Z) Z Tryz.func101 Z Z (z51 _) (Y1 Z) rN Z (fun _ _=>z2t) fun r7 n8=>z3h 10 [] [(100,34)] Z (by kernel_rfl) Z (gd0 Z) Z Tryz.func101 Z Z (z51 _) (Y1 Z) rN Z (fun _ _=>z2t) fun r9 n10=>zr7 3 [15,5,17] Z (fS Z<|fS Z<|fS Z<|fN)<|zr7 19 [22] Z (fS Z<|fN)<|zr7 34 [27] Z (fS Z<|fN)<|Zo 11 Z Z Z (lit (R:=(z02 u8R)) ([r5.1,r7,r9]:List (List UInt8)) 37 (pP Z Z<|pP Z Z<|pP Z Z<|pN) Z tu42 zlr Z Z) fun v11=>zr7 37 [28] Z (fS Z<|fN)<|z3h 12 [] [(100,40)] Z (by kernel_rfl) Z (gd0 Z) Z Tryz.func130 Z Z (z72 _) (Y1 Z) rN Z (fun _ _=>z2t) fun r12 n13=>Zf 13 Z Z z2t (asg Z)<|hTk 14 Z Z (asg Z)<|z3q (by kernel_rfl)<|z0f<|z0i<|Ze [(n13 0)] [40] Z
def zen (a0:List UInt8):Option (Bool) :=
 some (decide (10000<(a0.length:Int))) >>= fun y1 =>
 some y1
theorem zkx (a0:List UInt8):z1w Tryz.prog 214 [.rd (z02 u8R) a0] [] (zen a0) (fun r nv=>⟨[.rd z0g r],[]⟩):=by
 refine z2e 6 Tryz.func214 Z Z Z fun H w=>?_
 refine gSR<|Zb Z<|gSR<|Zm Z<|Zq (z2w Z .rd Z tu75)<|Zq (I.gtr Z Z)<|Za Z<|z1i 2 Z fun y1=>Zn<|z0i<|Ze [] [] Z
def zfb  : Option (z2y) :=
 some (⟨(#v[1779033703,3144134277,1013904242,2773480762,1359893119,2600822924,528734635,1541459225]:Vector UInt32 8),[],0⟩:z2y)
theorem zog  : z1w Tryz.prog 215 [] [] (zfb) (fun r nv=>⟨[.rd z37 r],[]⟩):=by
 refine z2e 3 Tryz.func215 Z Z Z fun H w=>?_
 refine gSR<|Eb Z (z52 1 zp0 (ZrE.rd (R:=(z3r 8 z10)) (x:=(Vector.replicate 8 0)) zsn (ZrE.nilS (ZrE.rd (R:=z0c) (x:=0) (Zr.num Z) ZrE.nil Z)) Z)) fun v1=>Zn<|gSR<|Zq (litA (R:=z10) [1779033703,3144134277,1013904242,2773480762,1359893119,2600822924,528734635,1541459225] (#v[1779033703,3144134277,1013904242,2773480762,1359893119,2600822924,528734635,1541459225]:Vector UInt32 8) (pP Z Z<|pP Z Z<|pP Z Z<|pP Z Z<|pP Z Z<|pP Z Z<|pP Z Z<|pP Z Z<|pN) Z tu164 ziv Z z6s)<|Zq (zii [(0,8),(8,1),(9,1)] Tryz.underlying227 zp0 (ZrE.rd (R:=(z3r 8 z10)) (x:=(Vector.replicate 8 0)) zsn (ZrE.nilS (ZrE.rd (R:=z0c) (x:=0) (Zr.num Z) ZrE.nil Z)) Z) Z (zds.cons Z Z z0u (z81.cast (z81.here z0u) Z)<|zds.done Z))<|Es (zit 1 Z Z (z06.cast (z06.cons z0u (z06.cons z04 (z06.cons z0u z06.nil))) Z) Z (z1n.cons z9t (z1n.cons z0h (z1n.cons z9t z1n.nil))) (z06.cast (z06.cons z0u (z06.cons z04 (z06.cons z0u z06.nil))) Z) zp0)<|Zn<|z0i<|zdz u8R [.rd (z3r 8 z10) (#v[1779033703,3144134277,1013904242,2773480762,1359893119,2600822924,528734635,1541459225]:Vector UInt32 8),.rd (z02 u8R) [],.rd z0c 0] 1 [.rd (z3r 8 z10) (#v[1779033703,3144134277,1013904242,2773480762,1359893119,2600822924,528734635,1541459225]:Vector UInt32 8)] [.rd z0c 0] Z Z Z<|zly (R:=z37) (⟨(#v[1779033703,3144134277,1013904242,2773480762,1359893119,2600822924,528734635,1541459225]:Vector UInt32 8),[],0⟩:z2y) 1 Z (Sp.via (Sp.prod (Sp.prod (Sp.prod Sp.unit))))<|zb6 [] [] Z (eC 1 Z Z zrn<|eN) (rN)
def z28 (a0:UInt32) (a1:Int):Option (UInt32) :=
 some ((UInt64.ofInt a1) &&& 31) >>= fun y1 =>
 some ((zqn a0 y1.toNat) ||| (z5d a0 ((32 - y1).toNat))) >>= fun y2 =>
 some y2
theorem z2r (a0:UInt32) (a1:Int):z1w Tryz.prog 240 [.rd z10 a0,.rd z0c a1] [] (z28 a0 a1) (fun r nv=>⟨[.rd z10 r],[]⟩):=by
 refine z2e 17 Tryz.func240 Z Z Z fun H w=>?_
 refine gSR<|Zb Z<|gSR<|Zm Z<|Zq (I.toU Z tu3 Tryz.underlying150)<|Zq (U.and Z Z)<|Za Z<|z1i 5 Z fun y1=>Zn<|gSR<|Zm Z<|Zm Z<|Zq (W.shl Z Z (Int.natCast_nonneg _))<|Zm Z<|Zm Z<|Zq (U.sub Z Z)<|Zq (W.shr Z Z (Int.natCast_nonneg _))<|Zq (W.or Z Z)<|Za Z<|z1i 4 Z fun y2=>Zn<|z0i<|Ze [] [] Z
def z7l (x3:List UInt8) (s5:(Vector UInt32 64) × Int):Option (Sum ((Vector UInt32 64)) ((Vector UInt32 64) × Int)) :=
 if decide (s5.2<(x3.length:Int)) then
  idx x3 s5.2 >>= fun x7 =>
  z8s s5.1 (w64 (Int.tdiv s5.2 4)) >>= fun x9 =>
  z8s s5.1 (w64 (Int.tdiv s5.2 4)) >>= fun x11 =>
  some (.inr (zki s5.1 (w64 (Int.tdiv s5.2 4)) ((zqn x9 8) ||| x7.toUInt32),w64 (s5.2+1)))
 else
  some (.inl s5.1)
def z5i (s14:(Vector UInt32 64) × Int):Option (Sum ((Vector UInt32 64)) ((Vector UInt32 64) × Int)) :=
 if decide (s14.2<64) then
  z8s s14.1 (w64 (s14.2 - 15)) >>= fun x16 =>
  z8s s14.1 (w64 (s14.2 - 2)) >>= fun x18 =>
  z28 x16 (-7) >>= fun r20 =>
  z28 x16 (-18) >>= fun r22 =>
  some ((r20 ^^^ r22) ^^^ (z5d x16 3)) >>= fun y24 =>
  z28 x18 (-17) >>= fun r25 =>
  z28 x18 (-19) >>= fun r27 =>
  some ((r25 ^^^ r27) ^^^ (z5d x18 10)) >>= fun y29 =>
  z8s s14.1 (w64 (s14.2 - 16)) >>= fun x30 =>
  z8s s14.1 (w64 (s14.2 - 7)) >>= fun x32 =>
  z8s s14.1 s14.2 >>= fun x34 =>
  some (w64 (s14.2+1)) >>= fun y37 =>
  some (.inr (zki s14.1 s14.2 (((x30+x32)+y24)+y29),y37))
 else
  some (.inl s14.1)
def zf0 (a0:List UInt8):Option ((Vector UInt32 64)) :=
 (cut a0 0 64 >>= fun x3 =>
 iter (z7l x3) ((Vector.replicate 64 0),0)) >>= fun s2 =>
 (iter (z5i) (s2,16)) >>= fun s13 =>
 some s13
set_option maxHeartbeats 4000000 in
theorem zlc (a0:List UInt8):z1w Tryz.prog 237 [.rd (z02 u8R) a0] [] (zf0 a0) (fun r nv=>⟨[.rd (z3r 64 z10) r],[]⟩):=by
 refine z2e 74 Tryz.func237 Z Z Z fun H w=>?_
 refine gSR<|Eb Z (z52 1 zyd (.zr (R:=(z3r 64 z10)) (x:=(Vector.replicate 64 0)) z174)) fun v1=>Zn<|z5q (fun (s2:(Vector UInt32 64)) aa ww=>Sta (ctx 74 H [] w) [(2,.val (z05 v1 0))] [(1,some (v1,.box 249 [.rd (z3r 64 z10) s2]))] aa ww) ?_ (fun s2=>?_)
 ·
  refine gSR<|Zm Z<|z0j fun x3 h4=>Zq (zxj Z .no (.to Z) h4 tu75 ti5)<|Zq (z2w Z .rd Z tu75)<|Zm Z<|Zn<|z1v (fun (s5:(Vector UInt32 64) × Int) aa ww=>Sta (ctx 74 H [] w) [(2,.val (z05 v1 0)),(11,.rd (z02 u8R) x3),(12,.rd z0c (x3.length:Int)),(13,.rd z0c s5.2)] [(1,some (v1,.box 249 [.rd (z3r 64 z10) s5.1]))] aa ww) (fun aa ww h=>Zu h [1]) (fun s5=>?_)
  refine gSR<|Zq (I.lss Z Z)<|Zn<|z0l<|gIf Z Z (fun h6=>?_) (fun h6=>?_)
  ·
   refine Zt<|z0l<|z49<|gSR<|Zm Z<|z0j fun x7 h8=>Zq (ixR Z Z h8 tu75 ti5 Z)<|Zq (ldR Z ty5)<|Za Z<|Zb Z<|z1y<|Zm Z<|Zq (I.quo Z Z (by decide))<|Zm Z<|Zq (I.quo Z Z (by decide))<|z0j fun x9 h10=>Zq (ixB 1 Z Z Z h10 Tryz.underlying249 z6s)<|Zq (ld 1 Z Z (fP (.el h10)) za4 Z)<|Zq (W.shl Z Z (Int.natCast_nonneg _))<|Zm Z<|Zq (B.toW Z tu5 tu65)<|Zq (W.or Z Z)<|z0j fun x11 h12=>Zq (ixB 1 Z Z Z h12 Tryz.underlying249 z6s)<|Es (sto 1 Z Z (fP (.el h12)) Z z6s)<|z1q<|z2q<|z0f<|z1y<|Zq (I.add Z Z)<|Zm Z<|z1q<|z19 (fun aa ww h=>Zu h [1])
  ·
   refine z1k<|z0o<|z0r<|z3b (fun aa ww h=>Zu h [1])
 ·
  refine z5q (fun (s13:(Vector UInt32 64)) aa ww=>Sta (ctx 74 H [] w) [(2,.val (z05 v1 0))] [(1,some (v1,.box 249 [.rd (z3r 64 z10) s13]))] aa ww) ?_ (fun s13=>?_)
  ·
   refine gSR<|Zb Z<|z1v (fun (s14:(Vector UInt32 64) × Int) aa ww=>Sta (ctx 74 H [] w) [(2,.val (z05 v1 0)),(5,.rd z0c s14.2)] [(1,some (v1,.box 249 [.rd (z3r 64 z10) s14.1]))] aa ww) (fun aa ww h=>Zu h [1]) (fun s14=>?_)
   refine z0l<|gSR<|Zm Z<|Zq (I.lss Z Z)<|Zj Z (fun h15=>?_) (fun h15=>?_)
   ·
    refine Zt<|z0l<|z49<|z0l<|zgc mixed (by kernel_rfl)<|Rq Z (mv Z)<|Rq Z (I.sub Z Z)<|z80 fun x16 h17=>Rq Z (ixB 1 Z Z Z h17 Tryz.underlying249 z6s)<|Rq Z (ld 1 Z Z (fP (.el h17)) za4 Z)<|Rq Z (mv Z)<|Rq Z (I.sub Z Z)<|z80 fun x18 h19=>Rq Z (ixB 1 Z Z Z h19 Tryz.underlying249 z6s)<|Rq Z (ld 1 Z Z (fP (.el h19)) za4 Z)<|Rq Z (asg Z)<|Rq Z (asg Z)<|zov<|z0f<|gSR<|Zm Z<|Zc [] [] Tryz.func240 Z (z2r _ _) fun r20 n21=>Zm Z<|Zc [] [] Tryz.func240 Z (z2r _ _) fun r22 n23=>Zq (W.xor Z Z)<|Zm Z<|Zq (W.shr Z Z (Int.natCast_nonneg _))<|Zq (W.xor Z Z)<|Za Z<|z1i 8 Z fun y24=>Zn<|gSR<|Zm Z<|Zc [] [] Tryz.func240 Z (z2r _ _) fun r25 n26=>Zm Z<|Zc [] [] Tryz.func240 Z (z2r _ _) fun r27 n28=>Zq (W.xor Z Z)<|Zm Z<|Zq (W.shr Z Z (Int.natCast_nonneg _))<|Zq (W.xor Z Z)<|Za Z<|z1i 9 Z fun y29=>Zn<|zro [(2,.val (z05 v1 0)),(5,.rd z0c s14.2),(8,.rd z10 y24),(9,.rd z10 y29)] [(1,some (v1,.box 249 [.rd (z3r 64 z10) s14.1]))] [1] (Zs Z Z Z Z<|sN) (y1 Z)<|z4s fun x30 h31=>z4s fun x32 h33=>z4s fun x34 h35=>gOr [] [⟨1,some ([], fun nv=>(v1,.box 249 [.rd (z3r 64 z10) s14.1])),[(15,some ([], fun nv=>(v1,.box 249 [.rd (z3r 64 z10) (zki s14.1 s14.2 (((x30+x32)+y24)+y29))])))]⟩] [pd 58 (.rd z0c s14.2),pd 59 (.rd z0c s14.2),pd 60 (.rd z0c (w64 (s14.2 - 16))),pk 61 (.val (z05 v1 (0+(w64 (s14.2 - 16):Int).toNat * 1))) [(0,0,false)],pk 62 (.rd z10 x30) [(0,0,false)],pd 63 (.rd z0c s14.2),pd 64 (.rd z0c (w64 (s14.2 - 7))),pk 65 (.val (z05 v1 (0+(w64 (s14.2 - 7):Int).toNat * 1))) [(0,0,false)],pk 66 (.rd z10 x32) [(0,0,false)],pd 67 (.rd z10 (x30+x32)),pd 68 (.rd z10 y24),pd 69 (.rd z10 ((x30+x32)+y24)),pd 70 (.rd z10 y29),pd 71 (.rd z10 (((x30+x32)+y24)+y29)),pk 72 (.val (z05 v1 (0+(s14.2:Int).toNat * 1))) [(0,0,false)],⟨none,[(0,0,true)],[],[]⟩] mixed (oC (oRn (fun nv E=>mv Z))<|oC (oRn (fun nv E=>mv Z))<|oC (oRn (fun nv E=>I.sub Z Z))<|oC (oRn (fun nv E=>ixB 1 Z Z Z h31 Tryz.underlying249 z6s))<|oC (oRn (fun nv E=>ld 1 Z Z (fP (.el h31)) za4 Z))<|oC (oRn (fun nv E=>mv Z))<|oC (oRn (fun nv E=>I.sub Z Z))<|oC (oRn (fun nv E=>ixB 1 Z Z Z h33 Tryz.underlying249 z6s))<|oC (oRn (fun nv E=>ld 1 Z Z (fP (.el h33)) za4 Z))<|oC (oRn (fun nv E=>W.add Z Z))<|oC (oRn (fun nv E=>mv Z))<|oC (oRn (fun nv E=>W.add Z Z))<|oC (oRn (fun nv E=>mv Z))<|oC (oRn (fun nv E=>W.add Z Z))<|oC (oRn (fun nv E=>ixB 1 Z Z Z h35 Tryz.underlying249 z6s))<|oC (oEs 1 (fun nv E=>sto 1 Z Z (fP (.el h35)) Z z6s))<|oN) fun n36=>z2q<|z0f<|z1y<|Zm Z<|Zq (I.add Z Z)<|Za Z<|z1i 5 Z fun y37=>z1q<|z19 (fun aa ww h=>Zu h [1])
   ·
    refine z1k<|z0o<|z0r<|z3b (fun aa ww h=>Zu h [1])
  ·
   refine gSR<|Zq (ld 1 Z Z fH z177 Z)<|Es (sto 1 Z Z fH Z zyd)<|Zn<|z0i<|zb6 [] [] Z (eC 1 Z Z z177<|eN) (rN)
def zg4 (a0:UInt32) (a1:Int) (a2:Int) (a3:Int):Option (UInt32) :=
 z28 a0 (w64 (0 - a1)) >>= fun r1 =>
 z28 a0 (w64 (0 - a2)) >>= fun r3 =>
 z28 a0 (w64 (0 - a3)) >>= fun r5 =>
 some ((r1 ^^^ r3) ^^^ r5) >>= fun y7 =>
 some y7
theorem zlq (a0:UInt32) (a1:Int) (a2:Int) (a3:Int):z1w Tryz.prog 238 [.rd z10 a0,.rd z0c a1,.rd z0c a2,.rd z0c a3] [] (zg4 a0 a1 a2 a3) (fun r nv=>⟨[.rd z10 r],[]⟩):=by
 refine z2e 23 Tryz.func238 Z Z Z fun H w=>?_
 refine gSR<|Zb Z<|gSR<|Zm Z<|Zm Z<|Zq (I.neg Z)<|Zc [] [] Tryz.func240 Z (z2r _ _) fun r1 n2=>Zm Z<|Zm Z<|Zq (I.neg Z)<|Zc [] [] Tryz.func240 Z (z2r _ _) fun r3 n4=>Zq (W.xor Z Z)<|Zm Z<|Zm Z<|Zq (I.neg Z)<|Zc [] [] Tryz.func240 Z (z2r _ _) fun r5 n6=>Zq (W.xor Z Z)<|Za Z<|z1i 8 Z fun y7=>Zn<|z0i<|Ze [] [] Z
def z9r (a0:List UInt8):Option ((List UInt8)) :=
 app 1 ([]:List UInt8) a0 >>= fun x3 =>
 some x3
theorem zbg (a0:List UInt8):z1w Tryz.prog 231 [.rd (z02 u8R) a0] [] (z9r a0) (fun r nv=>⟨[.val (nv 0)],[(100,some (nv 0,.list u8R 5 r))]⟩):=by
 refine z2e 8 Tryz.func231 Z Z Z fun H w=>?_
 refine gSR<|Zb Z<|z0l<|gSR<|Zm Z<|z14i Z Z .rd Z tu75 (fun h1=>?_) ?_
 ·
  subst h1
  refine Zn<|zf9 Z<|gSR<|Zb Z<|z0i<|z0v<|zr1 u8R 5 1<|Ze [(.slice none 0 0)] [1] Z
 ·
  refine Zn<|zc3 Z<|Zt<|gSR<|Ef Z (lit (R:=u8R) (([]:List UInt8):List UInt8) 2 (pN) Z tu75 ti5 Z Z) fun v2=>Zm Z<|z0j fun x3 h4=>Ef Z (apn 2 Z Z Z .rd h4 tu75 ti5 Z Z Z) fun v5=>Zb Z<|z0i<|Ze [v5] [2] Z
def z6h (r1:(Vector UInt32 64)) (s21:UInt32 × UInt32 × UInt32 × UInt32 × UInt32 × UInt32 × UInt32 × UInt32 × Int):Option (Sum (UInt32 × UInt32 × UInt32 × UInt32 × UInt32 × UInt32 × UInt32 × UInt32) (UInt32 × UInt32 × UInt32 × UInt32 × UInt32 × UInt32 × UInt32 × UInt32 × Int)) :=
 if decide (s21.2.2.2.2.2.2.2.2<64) then
  z8s z8a s21.2.2.2.2.2.2.2.2 >>= fun x23 =>
  z8s r1 s21.2.2.2.2.2.2.2.2 >>= fun x25 =>
  zg4 s21.2.2.2.2.1 6 11 25 >>= fun r27 =>
  some ((((s21.2.2.2.2.2.2.2.1+r27)+((s21.2.2.2.2.1 &&& s21.2.2.2.2.2.1) ^^^ ((~~~s21.2.2.2.2.1) &&& s21.2.2.2.2.2.2.1)))+x23)+x25) >>= fun y29 =>
  zg4 s21.1 2 13 22 >>= fun r30 =>
  some (r30+(((s21.1 &&& s21.2.1) ^^^ (s21.1 &&& s21.2.2.1)) ^^^ (s21.2.1 &&& s21.2.2.1))) >>= fun y32 =>
  some (s21.2.2.2.1+y29) >>= fun y33 =>
  some (.inr (y29+y32,s21.1,s21.2.1,s21.2.2.1,y33,s21.2.2.2.2.1,s21.2.2.2.2.2.1,s21.2.2.2.2.2.2.1,w64 (s21.2.2.2.2.2.2.2.2+1)))
 else
  some (.inl (s21.1,s21.2.1,s21.2.2.1,s21.2.2.2.1,s21.2.2.2.2.1,s21.2.2.2.2.2.1,s21.2.2.2.2.2.2.1,s21.2.2.2.2.2.2.2.1))
def zeu (s20:UInt32 × UInt32 × UInt32 × UInt32 × UInt32 × UInt32 × UInt32 × UInt32) (s34:(Vector UInt32 8) × Int):Option (Sum ((Vector UInt32 8)) ((Vector UInt32 8) × Int)) :=
 if decide (s34.2<8) then
  z8s (#v[s20.1,s20.2.1,s20.2.2.1,s20.2.2.2.1,s20.2.2.2.2.1,s20.2.2.2.2.2.1,s20.2.2.2.2.2.2.1,s20.2.2.2.2.2.2.2]:Vector UInt32 8) s34.2 >>= fun x36 =>
  z8s s34.1 s34.2 >>= fun x38 =>
  z8s s34.1 s34.2 >>= fun x40 =>
  some (.inr (zki s34.1 s34.2 (x38+x36),w64 (s34.2+1)))
 else
  some (.inl s34.1)
def zfd (c0:Vector UInt32 8) (a1:List UInt8):Option ((Vector UInt32 8)) :=
 zf0 a1 >>= fun r1 =>
 z8s c0 0 >>= fun x4 =>
 z8s c0 1 >>= fun x6 =>
 z8s c0 2 >>= fun x8 =>
 z8s c0 3 >>= fun x10 =>
 z8s c0 4 >>= fun x12 =>
 z8s c0 5 >>= fun x14 =>
 z8s c0 6 >>= fun x16 =>
 z8s c0 7 >>= fun x18 =>
 (iter (z6h r1) (x4,x6,x8,x10,x12,x14,x16,x18,0)) >>= fun s20 =>
 iter (zeu s20) (c0,0)
theorem zo8 (ph0:Value) (kh0:Nat) (uh0:(Vector UInt32 8)→z5f) (hh0:∀ y,Foc (uh0 y) kh0 (z3r 8 z10) y uh0) (c0:Vector UInt32 8) (a1:List UInt8):z1w Tryz.prog 230 [.val (z05 ph0 kh0),.rd (z02 u8R) a1] [(1,some (ph0,uh0 c0)),zG1] (zfd c0 a1) (fun r nv=>⟨[],[(1,some (ph0,uh0 r)),(1001,some (.bool true,.glob 1 (z3r 64 z10) z8a))]⟩):=by
 refine z2e 126 Tryz.func230 Z Z Z fun H w=>?_
 refine gSR<|Zm Z<|Zc [] [] Tryz.func237 Z (zlc _) fun r1 n2=>Eb Z (z52 2 zyd (.zr (R:=(z3r 64 z10)) (x:=(Vector.replicate 64 0)) z174)) fun v3=>Es (sto 2 Z Z fH Z zyd)<|Zn<|z0l<|zgc mixed (by kernel_rfl)<|Rq Z (mv Z)<|Rq Z (nckP 1 Z Z (hh0 _))<|z80 fun x4 h5=>Rq Z (ixH 1 Z Z (hh0 _) Z h5 tu164 z6s)<|Rq Z (ld 1 Z Z ((hh0 _).part (.el h5)) za4 Z)<|Rq Z (mv Z)<|Rq Z (nckP 1 Z Z (hh0 _))<|z80 fun x6 h7=>Rq Z (ixH 1 Z Z (hh0 _) Z h7 tu164 z6s)<|Rq Z (ld 1 Z Z ((hh0 _).part (.el h7)) za4 Z)<|Rq Z (mv Z)<|Rq Z (nckP 1 Z Z (hh0 _))<|z80 fun x8 h9=>Rq Z (ixH 1 Z Z (hh0 _) Z h9 tu164 z6s)<|Rq Z (ld 1 Z Z ((hh0 _).part (.el h9)) za4 Z)<|Rq Z (mv Z)<|Rq Z (nckP 1 Z Z (hh0 _))<|z80 fun x10 h11=>Rq Z (ixH 1 Z Z (hh0 _) Z h11 tu164 z6s)<|Rq Z (ld 1 Z Z ((hh0 _).part (.el h11)) za4 Z)<|Rq Z (mv Z)<|Rq Z (nckP 1 Z Z (hh0 _))<|z80 fun x12 h13=>Rq Z (ixH 1 Z Z (hh0 _) Z h13 tu164 z6s)<|Rq Z (ld 1 Z Z ((hh0 _).part (.el h13)) za4 Z)<|Rq Z (mv Z)<|Rq Z (nckP 1 Z Z (hh0 _))<|z80 fun x14 h15=>Rq Z (ixH 1 Z Z (hh0 _) Z h15 tu164 z6s)<|Rq Z (ld 1 Z Z ((hh0 _).part (.el h15)) za4 Z)<|Rq Z (mv Z)<|Rq Z (nckP 1 Z Z (hh0 _))<|z80 fun x16 h17=>Rq Z (ixH 1 Z Z (hh0 _) Z h17 tu164 z6s)<|Rq Z (ld 1 Z Z ((hh0 _).part (.el h17)) za4 Z)<|Rq Z (mv Z)<|Rq Z (nckP 1 Z Z (hh0 _))<|z80 fun x18 h19=>Rq Z (ixH 1 Z Z (hh0 _) Z h19 tu164 z6s)<|Rq Z (ld 1 Z Z ((hh0 _).part (.el h19)) za4 Z)<|Rq Z (asg Z)<|Rq Z (asg Z)<|Rq Z (asg Z)<|Rq Z (asg Z)<|Rq Z (asg Z)<|Rq Z (asg Z)<|Rq Z (asg Z)<|Rq Z (asg Z)<|zov<|z0f<|z5q (fun (s20:UInt32 × UInt32 × UInt32 × UInt32 × UInt32 × UInt32 × UInt32 × UInt32) aa ww=>Sta (ctx 126 H [(1,some (ph0,uh0 c0)),zG1] w) [(0,.val (z05 ph0 kh0)),(5,.rd z10 s20.1),(6,.rd z10 s20.2.1),(7,.rd z10 s20.2.2.1),(8,.rd z10 s20.2.2.2.1),(9,.rd z10 s20.2.2.2.2.1),(10,.rd z10 s20.2.2.2.2.2.1),(11,.rd z10 s20.2.2.2.2.2.2.1),(12,.rd z10 s20.2.2.2.2.2.2.2)] [(1,some (ph0,uh0 c0)),zG1] aa ww) ?_ (fun s20=>?_)
 ·
  refine gSR<|Zm Z<|Zn<|z1v (fun (s21:UInt32 × UInt32 × UInt32 × UInt32 × UInt32 × UInt32 × UInt32 × UInt32 × Int) aa ww=>Sta (ctx 126 H [(1,some (ph0,uh0 c0)),zG1] w) [(0,.val (z05 ph0 kh0)),(4,.val (z05 v3 0)),(5,.rd z10 s21.1),(6,.rd z10 s21.2.1),(7,.rd z10 s21.2.2.1),(8,.rd z10 s21.2.2.2.1),(9,.rd z10 s21.2.2.2.2.1),(10,.rd z10 s21.2.2.2.2.2.1),(11,.rd z10 s21.2.2.2.2.2.2.1),(12,.rd z10 s21.2.2.2.2.2.2.2.1),(52,.rd z0c s21.2.2.2.2.2.2.2.2)] [(1,some (ph0,uh0 c0)),(2,some (v3,.box 249 [.rd (z3r 64 z10) r1])),zG1] aa ww) (fun aa ww h=>Zu h [1,2,1001]) (fun s21=>?_)
  refine gSR<|Zq (I.lss Z Z)<|Zn<|z0l<|gIf Z Z (fun h22=>?_) (fun h22=>?_)
  ·
   refine Zt<|z0l<|z49<|gSR<|Zm Z<|Zb Z<|z0l<|z57 [] mixed Z Z<|hTk 0 Z Z (mv Z)<|hTk 1 Z Z (mv Z)<|hTk 4 Z Z (mv Z)<|hTk 5 Z Z (mv Z)<|hTk 6 Z Z (W.and Z Z)<|hTk 7 Z Z (mv Z)<|hTk 8 Z Z (W.cpl Z)<|hTk 9 Z Z (mv Z)<|hTk 10 Z Z (W.and Z Z)<|hTk 11 Z Z (W.xor Z Z)<|hTk 13 Z Z (mv Z)<|z3j fun x23 h24=>hTk 14 Z Z (ixG 1001 Z Z h24 Tryz.underlying249 z6s)<|hTk 15 Z Z (ldR Z za4)<|hTk 17 Z Z (mv Z)<|z3j fun x25 h26=>hTk 18 Z Z (ixB 2 Z Z Z h26 Tryz.underlying249 z6s)<|hTk 19 Z Z (ld 2 Z Z (fP (.el h26)) za4 Z)<|z3h 2 [] [] Z (by kernel_rfl) Z (gd0 Z) Z Tryz.func238 Z Z (zlq _ _ _ _) (aQ Z<|aQ Z<|aQ Z<|aQ Z<|aN) rN Z (fun _ _=>z2j) fun r27 n28=>hTk 3 Z Z (W.add Z Z)<|hTk 12 Z Z (W.add Z Z)<|hTk 16 Z Z (W.add Z Z)<|hTk 20 Z Z (W.add Z Z)<|hTk 21 Z Z (asg Z)<|zu0 14 Z Z fun y29=>z3q (by kernel_rfl)<|z0f<|gSR<|Zm Z<|Zc [] [] Tryz.func238 Z (zlq _ _ _ _) fun r30 n31=>Zm Z<|Zm Z<|Zq (W.and Z Z)<|Zm Z<|Zm Z<|Zq (W.and Z Z)<|Zq (W.xor Z Z)<|Zm Z<|Zm Z<|Zq (W.and Z Z)<|Zq (W.xor Z Z)<|Zq (W.add Z Z)<|Za Z<|z1i 15 Z fun y32=>Zn<|z1y<|Zm Z<|Zm Z<|Zq (W.add Z Z)<|Zm Z<|Zm Z<|Zm Z<|Zm Z<|Zm Z<|Zq (W.add Z Z)<|Zm Z<|Zm Z<|Zm Z<|Za Z<|Za Z<|Za Z<|Za Z<|Za Z<|z1i 9 Z fun y33=>Za Z<|Za Z<|Za Z<|z1q<|z2q<|z0f<|z1y<|Zq (I.add Z Z)<|Zm Z<|z1q<|z19 (fun aa ww h=>Zu h [1,2,1001])
  ·
   refine z1k<|z0o<|z0r<|z3b (fun aa ww h=>Zu h [1,1001])
 ·
  refine gSR<|Zm Z<|Zm Z<|Zm Z<|Zm Z<|Zm Z<|Zm Z<|Zm Z<|Zm Z<|Zq (litA (R:=z10) [s20.1,s20.2.1,s20.2.2.1,s20.2.2.2.1,s20.2.2.2.2.1,s20.2.2.2.2.2.1,s20.2.2.2.2.2.2.1,s20.2.2.2.2.2.2.2] (#v[s20.1,s20.2.1,s20.2.2.1,s20.2.2.2.1,s20.2.2.2.2.1,s20.2.2.2.2.2.1,s20.2.2.2.2.2.2.1,s20.2.2.2.2.2.2.2]:Vector UInt32 8) (pP Z Z<|pP Z Z<|pP Z Z<|pP Z Z<|pP Z Z<|pP Z Z<|pP Z Z<|pP Z Z<|pN) Z tu164 ziv Z z6s)<|Zm Z<|Zn<|z1v (fun (s34:(Vector UInt32 8) × Int) aa ww=>Sta (ctx 126 H [(1,some (ph0,uh0 c0)),zG1] w) [(0,.val (z05 ph0 kh0)),(111,.rd (z3r 8 z10) (#v[s20.1,s20.2.1,s20.2.2.1,s20.2.2.2.1,s20.2.2.2.2.1,s20.2.2.2.2.2.1,s20.2.2.2.2.2.2.1,s20.2.2.2.2.2.2.2]:Vector UInt32 8)),(112,.rd z0c s34.2)] [(1,some (ph0,uh0 s34.1)),zG1] aa ww) (fun aa ww h=>Zu h [1,1001]) (fun s34=>?_)
  refine gSR<|Zq (I.lss Z Z)<|Zn<|z0l<|gIf Z Z (fun h35=>?_) (fun h35=>?_)
  ·
   refine Zt<|z0l<|z49<|gSR<|Zm Z<|z0j fun x36 h37=>Zq (idxV Z Z h37 tu164 z6s za4)<|Za Z<|Zb Z<|z57 [1] mixed Z Z<|hTk 0 Z Z (mv Z)<|hTk 1 Z Z (mv Z)<|hTk 2 Z Z (nckP 1 Z Z (hh0 _))<|z3j fun x38 h39=>hTk 3 Z Z (ixH 1 Z Z (hh0 _) Z h39 tu164 z6s)<|hTk 5 Z Z (mv Z)<|hTk 7 Z Z (nckP 1 Z Z (hh0 _))<|hRun 4 Z (by kernel_rfl) (gd0 Z) Z Z z2j (ld 1 Z Z ((hh0 _).part (.el h39)) za4 Z)<|hTk 6 Z Z (W.add Z Z)<|z3j fun x40 h41=>hTk 8 Z Z (ixH 1 Z Z (hh0 _) Z h41 tu164 z6s)<|Zp 9 Z Z Z Z Z (sto 1 Z Z ((hh0 _).part (.el h41)) Z z6s)<|z3q (by kernel_rfl)<|z2q<|z0f<|z1y<|Zq (I.add Z Z)<|Zm Z<|z1q<|z19 (fun aa ww h=>Zu h [1,1001])
  ·
   refine z1k<|z0o<|z0r<|Ze [] [1,1001] Z
def zbi (s7:z2y × (List UInt8)):Option (Sum (z2y × (List UInt8)) (z2y × (List UInt8))) :=
 if decide (64≤(s7.2.length:Int)) then
  zfd s7.1.Words s7.2 >>= fun r10 =>
  cut s7.2 64 (s7.2.length:Int) >>= fun x12 =>
  some (.inr ({ s7.1 with Words:=r10 },x12))
 else
  some (.inl (s7.1,s7.2))
def zd7 (a0:z2y) (a1:List UInt8):Option (z2y) :=
 z2o [a0.Rest,a1] >>= fun r4 =>
 (iter (zbi) (a0,r4)) >>= fun s6 =>
 z9r s6.2 >>= fun r14 =>
 some (⟨({ s6.1 with N:=w64 (s6.1.N+(a1.length:Int)) }).Words,r14,({ s6.1 with N:=w64 (s6.1.N+(a1.length:Int)) }).N⟩:z2y)
theorem zjc (a0:z2y) (a1:List UInt8):z1w Tryz.prog 216 [.rd z37 a0,.rd (z02 u8R) a1] [zG1] (zd7 a0 a1) (fun r nv=>⟨[.rd z37 r],[(1001,some (.bool true,.glob 1 (z3r 64 z10) z8a))]⟩):=by
 refine z2e 29 Tryz.func216 Z Z Z fun H w=>?_
 refine gSR<|Eb Z (bx 1 Z) fun v1=>Eb Z (z52 2 zp0 (ZrE.rd (R:=(z3r 8 z10)) (x:=(Vector.replicate 8 0)) zsn (ZrE.nilS (ZrE.rd (R:=z0c) (x:=0) (Zr.num Z) ZrE.nil Z)) Z)) fun v2=>Zn<|gSR<|Zq (faB 1 Z Z Tryz.underlying227 Z (by exact zlr))<|Zq (ld 1 Z Z (fP (zn3 _)) ty75 Z)<|Zm Z<|Ef Z (lit (R:=(z02 u8R)) ([a0.Rest,a1]:List (List UInt8)) 3 (pP Z Z<|pP Z Z<|pN) Z tu42 zlr Z Z) fun v3=>zjd 3 [9] Z (fS Z<|fN)<|Zc [] [(100,4)] Tryz.func130 Z (z72 _) fun r4 n5=>Zb Z<|z5q (fun (s6:z2y × (List UInt8)) aa ww=>Sta (ctx 29 H [zG1] w) [(1,.rd (z02 u8R) a1),(2,.val (z05 v1 0)),(4,.val (z05 v2 0)),(5,.rd (z02 u8R) s6.2)] [(1,some (v1,.box 227 [.rd z37 s6.1])),(2,some (v2,.box 227 [.rd (z3r 8 z10) (Vector.replicate 8 0),.val (.slice none 0 0),.rd z0c 0])),zG1] aa ww) ?_ (fun s6=>?_)
 ·
  refine gFrz 4 [10,5] Z (fS Z<|fS Z<|fN)<|z1v (fun (s7:z2y × (List UInt8)) aa ww=>Sta (ctx 29 H [zG1] w) [(1,.rd (z02 u8R) a1),(2,.val (z05 v1 0)),(4,.val (z05 v2 0)),(5,.rd (z02 u8R) s7.2)] [(1,some (v1,.box 227 [.rd z37 s7.1])),(2,some (v2,.box 227 [.rd (z3r 8 z10) (Vector.replicate 8 0),.val (.slice none 0 0),.rd z0c 0])),zG1] aa ww) (fun aa ww h=>Zu h [1,2,1001]) (fun s7=>?_)
  refine z0l<|gSR<|Zm Z<|Zq (z2w Z .rd Z tu75)<|Zq (I.geq Z Z)<|Zj Z (fun h8=>?_) (fun h8=>?_)
  ·
   refine Zt<|z49<|gSR<|Zq (faB 1 Z Z Tryz.underlying227 Z (by exact ziv))<|Zm Z<|call [1,1001] [(1,1)] Z Tryz.func230 Z Z (zo8 _ _ (fun y9=>.box 227 [.rd z37 ({ s7.1 with Words:=y9 })]) (fun _=>(fP (zgd _))) _ _) (Y2 Z Z) (Zi Z<|Zi Z<|rN) fun r10 n11=>Zn<|z1y<|Zm Z<|z0j fun x12 h13=>Zq (zxj Z (.to Z) .no h13 tu75 ti5)<|Za Z<|z1q<|z2q<|z19 (fun aa ww h=>Zu h [1,2,1001])
  ·
   refine z1k<|z0o<|z0r<|z3b (fun aa ww h=>Zu h [1,2,1001])
 ·
  refine z0l<|z57 [1,1020] mixed Z Z<|hTk 0 Z Z (faB 1 Z Z Tryz.underlying227 Z (by exact ti3))<|hTk 2 Z Z (mv Z)<|hTk 3 Z Z (z2w Z .rd Z tu75)<|hTk 5 Z Z (mv Z)<|hAlt [1,6] (by kernel_rfl) Z ⟨?_,?_,trivial⟩
  ·
   refine oRun 1 Z (gd0 Z) Z Z z2j (ld 1 Z Z (fP (zav _)) ty3 Z)<|hTk 4 Z Z (I.add Z Z)<|z3h 6 [] [(100,1020)] Z (by kernel_rfl) Z (gd0 Z) Z Tryz.func231 Z Z (zbg _) (Y1 Z) rN Z (fun _ _=>z2t) fun r14 n15=>hTk 7 Z Z (faB 1 Z Z Tryz.underlying227 Z (by exact ti3))<|Zp 8 Z Z Z Z Z (sto 1 Z Z (fP (zav _)) Z ti3)<|Zf 9 Z Z z2t (faB 1 Z Z Tryz.underlying227 Z (by exact zlr))<|hSpl (R:=z37) 1 Z (Sp.via (Sp.prod (Sp.prod (Sp.prod Sp.unit))))<|Zp 10 Z Z Z Z Z (znn 1 Z Z (z81.cast (z81.next z0u (z81.here z0u)) Z) Z z0h z04 zlr)<|z3q (by kernel_rfl)<|z0f<|gSR<|ztl [.rd (z3r 8 z10) (({ s6.1 with N:=w64 (s6.1.N+(a1.length:Int)) }).Words),.rd (z02 u8R) r14,.rd z0c (({ s6.1 with N:=w64 (s6.1.N+(a1.length:Int)) }).N)] 1 1020 [.rd (z3r 8 z10) (({ s6.1 with N:=w64 (s6.1.N+(a1.length:Int)) }).Words)] [.rd z0c (({ s6.1 with N:=w64 (s6.1.N+(a1.length:Int)) }).N)] Z Z Z Z Z<|zch (R:=z37) (⟨({ s6.1 with N:=w64 (s6.1.N+(a1.length:Int)) }).Words,r14,({ s6.1 with N:=w64 (s6.1.N+(a1.length:Int)) }).N⟩:z2y) 1 Z (Sp.via (Sp.prod (Sp.prod (Sp.prod Sp.unit))))<|Zq (ld 1 Z Z fH zrn Z)<|z99 u8R [.rd (z3r 8 z10) (Vector.replicate 8 0),.rd (z02 u8R) [],.rd z0c 0] 2 [.rd (z3r 8 z10) (Vector.replicate 8 0)] [.rd z0c 0] Z Z Z<|zch (R:=z37) (⟨(Vector.replicate 8 0),[],0⟩:z2y) 2 Z (Sp.via (Sp.prod (Sp.prod (Sp.prod Sp.unit))))<|Es (sto 2 Z Z fH Z zp0)<|Zn<|z0i<|zb6 [] [1001] Z (eC 2 Z Z zrn<|eN) (y1 Z)
  ·
   refine z13l 6 [] [(100,1020)] Z Z (gd0 Z) Z Tryz.func231 Z Z (zbg _) (Y1 Z) rN Z (fun _ _=>z2t) fun r16 n17=>hRun 1 Z (by kernel_rfl) (gd0 Z) Z Z z2j (ld 1 Z Z (fP (zav _)) ty3 Z)<|hTk 4 Z Z (I.add Z Z)<|hTk 7 Z Z (faB 1 Z Z Tryz.underlying227 Z (by exact ti3))<|Zp 8 Z Z Z Z Z (sto 1 Z Z (fP (zav _)) Z ti3)<|Zf 9 Z Z z2t (faB 1 Z Z Tryz.underlying227 Z (by exact zlr))<|hSpl (R:=z37) 1 Z (Sp.via (Sp.prod (Sp.prod (Sp.prod Sp.unit))))<|Zp 10 Z Z Z Z Z (znn 1 Z Z (z81.cast (z81.next z0u (z81.here z0u)) Z) Z z0h z04 zlr)<|z3q (by kernel_rfl)<|z0f<|gSR<|ztl [.rd (z3r 8 z10) (({ s6.1 with N:=w64 (s6.1.N+(a1.length:Int)) }).Words),.rd (z02 u8R) r16,.rd z0c (({ s6.1 with N:=w64 (s6.1.N+(a1.length:Int)) }).N)] 1 1020 [.rd (z3r 8 z10) (({ s6.1 with N:=w64 (s6.1.N+(a1.length:Int)) }).Words)] [.rd z0c (({ s6.1 with N:=w64 (s6.1.N+(a1.length:Int)) }).N)] Z Z Z Z Z<|zch (R:=z37) (⟨({ s6.1 with N:=w64 (s6.1.N+(a1.length:Int)) }).Words,r16,({ s6.1 with N:=w64 (s6.1.N+(a1.length:Int)) }).N⟩:z2y) 1 Z (Sp.via (Sp.prod (Sp.prod (Sp.prod Sp.unit))))<|Zq (ld 1 Z Z fH zrn Z)<|z99 u8R [.rd (z3r 8 z10) (Vector.replicate 8 0),.rd (z02 u8R) [],.rd z0c 0] 2 [.rd (z3r 8 z10) (Vector.replicate 8 0)] [.rd z0c 0] Z Z Z<|zch (R:=z37) (⟨(Vector.replicate 8 0),[],0⟩:z2y) 2 Z (Sp.via (Sp.prod (Sp.prod (Sp.prod Sp.unit))))<|Es (sto 2 Z Z fH Z zp0)<|Zn<|z0i<|zb6 [] [1001] Z (eC 2 Z Z zrn<|eN) (y1 Z)
def zcj (y3:UInt64) (s9:(List UInt8) × Int):Option (Sum ((List UInt8)) ((List UInt8) × Int)) :=
 if decide (0≤s9.2) then
  chk (0≤s9.2) >>= fun u12 =>
  app 1 s9.1 [(z8r y3 ((s9.2:Int).toNat)).toUInt8] >>= fun x15 =>
  some (w64 (s9.2 - 8)) >>= fun y18 =>
  some (.inr (x15,y18))
 else
  some (.inl s9.1)
def zar (r21:z2y) (s23:V3 × Int):Option (Sum (V3) (V3 × Int)) :=
 if decide (s23.2<8) then
  z8s r21.Words s23.2 >>= fun x25 =>
  z8s s23.1 (w64 (4 * s23.2)) >>= fun x27 =>
  z8s (zki s23.1 (w64 (4 * s23.2)) ((z5d x25 24).toUInt8)) (w64 ((w64 (4 * s23.2))+1)) >>= fun x29 =>
  z8s (zki (zki s23.1 (w64 (4 * s23.2)) ((z5d x25 24).toUInt8)) (w64 ((w64 (4 * s23.2))+1)) ((z5d x25 16).toUInt8)) (w64 ((w64 (4 * s23.2))+2)) >>= fun x31 =>
  z8s (zki (zki (zki s23.1 (w64 (4 * s23.2)) ((z5d x25 24).toUInt8)) (w64 ((w64 (4 * s23.2))+1)) ((z5d x25 16).toUInt8)) (w64 ((w64 (4 * s23.2))+2)) ((z5d x25 8).toUInt8)) (w64 ((w64 (4 * s23.2))+3)) >>= fun x33 =>
  some (.inr (zki (zki (zki (zki s23.1 (w64 (4 * s23.2)) ((z5d x25 24).toUInt8)) (w64 ((w64 (4 * s23.2))+1)) ((z5d x25 16).toUInt8)) (w64 ((w64 (4 * s23.2))+2)) ((z5d x25 8).toUInt8)) (w64 ((w64 (4 * s23.2))+3)) x25.toUInt8,w64 (s23.2+1)))
 else
  some (.inl s23.1)
def zim (a0:z2y):Option (V3) :=
 some ((UInt64.ofInt a0.N) * 8) >>= fun y3 =>
 appz 1 [128] 0 (Int.tmod (w64 (119 - (Int.tmod a0.N 64))) 64) >>= fun x5 =>
 (iter (zcj y3) (x5,56)) >>= fun s8 =>
 (zd7 a0 s8 >>= fun r21 =>
 iter (zar r21) ((Vector.replicate 32 0),0)) >>= fun s20 =>
 some s20
theorem zqw (a0:z2y):z1w Tryz.prog 217 [.rd z37 a0] [zG1] (zim a0) (fun r nv=>⟨[.rd aZ r],[(1001,some (.bool true,.glob 1 (z3r 64 z10) z8a))]⟩):=by
 refine z2e 66 Tryz.func217 Z Z Z fun H w=>?_
 refine gSR<|Eb Z (bx 1 Z) fun v1=>Eb Z (z52 2 z1g (.zr (R:=aZ) (x:=(Vector.replicate 32 0)) zf5)) fun v2=>Zn<|gSR<|Zq (faB 1 Z Z Tryz.underlying227 Z (by exact ti3))<|Zq (ld 1 Z Z (fP (zav _)) ty3 Z)<|Zq (I.toU Z tu3 tu41)<|Zq (U.mul Z Z)<|Za Z<|z1i 3 Z fun y3=>Zn<|gSR<|Ef Z (lit (R:=u8R) ([128]:List UInt8) 3 (pP Z Z<|pN) Z tu75 ti5 Z Z) fun v4=>Zq (faB 1 Z Z Tryz.underlying227 Z (by exact ti3))<|Zq (ld 1 Z Z (fP (zav _)) ty3 Z)<|Zq (I.rem Z Z (by decide))<|Zq (I.sub Z Z)<|Zq (I.rem Z Z (by decide))<|z0j fun x5 h6=>Ef Z (apZO 3 Z Z Z h6 tu75 tu3 ti5 (Zr.num Z) Z) fun v7=>Zb Z<|z5q (fun (s8:(List UInt8)) aa ww=>∃ nv:Nat→Value,Sta (ctx 66 H [zG1] w) [(1,.val (z05 v1 0)),(2,.val (z05 v2 0)),(4,.val (nv 0))] [(1,some (v1,.box 227 [.rd z37 a0])),(2,some (v2,.box 62 [.rd aZ (Vector.replicate 32 0)])),(3,some ((nv 0),.list u8R 5 s8)),zG1] aa ww) ?_ (fun s8=>?_)
 ·
  refine gSR<|Zb Z<|z1v (fun (s9:(List UInt8) × Int) aa ww=>∃ nv:Nat→Value,Sta (ctx 66 H [zG1] w) [(1,.val (z05 v1 0)),(2,.val (z05 v2 0)),(3,.rd z2k y3),(4,.val (nv 0)),(5,.rd z0c s9.2)] [(1,some (v1,.box 227 [.rd z37 a0])),(2,some (v2,.box 62 [.rd aZ (Vector.replicate 32 0)])),(3,some ((nv 0),.list u8R 5 s9.1)),zG1] aa ww) (fun aa ww h=>⟨nvl [v7],Zu h [1,2,3,1001]⟩) (fun s9=>?_)
  refine gEx fun n10=>z0l<|gSR<|Zm Z<|Zq (I.geq Z Z)<|Zj Z (fun h11=>?_) (fun h11=>?_)
  ·
   refine Zt<|z0l<|z49<|z1y<|Zm Z<|Zm Z<|Zm Z<|z0j fun u12 h13=>Zq (U.shr Z Z (z4e h13))<|Zq (U.toB Z tu41 tu5)<|Ef Z (lit (R:=u8R) ([(z8r y3 ((s9.2:Int).toNat)).toUInt8]:List UInt8) 1100 (pP Z Z<|pN) Z tu75 ti5 Z Z) fun v14=>z0j fun x15 h16=>Ef Z (apn 3 Z Z Z (.own 1100 Z) h16 tu75 ti5 Z Z Z) fun v17=>Za Z<|z1q<|z2q<|z0f<|z1y<|Zm Z<|Zq (I.sub Z Z)<|Za Z<|z1i 5 Z fun y18=>z1q<|z19 (fun aa ww h=>⟨nvl [v17],Zu h [1,2,3,1001]⟩)
  ·
   refine z1k<|z0o<|z0r<|z3b (fun aa ww h=>⟨nvl [(n10 0)],Zu h [1,2,3,1001]⟩)
 ·
  refine gEx fun n19=>z5q (fun (s20:V3) aa ww=>Sta (ctx 66 H [zG1] w) [(2,.val (z05 v2 0))] [(2,some (v2,.box 62 [.rd aZ s20])),zG1] aa ww) ?_ (fun s20=>?_)
  ·
   refine gSR<|Zq (ld 1 Z Z fH zrn Z)<|Zm Z<|zjd 3 [4,31] Z (fS Z<|fS Z<|fN)<|Zc [1001] [] Tryz.func216 Z (zjc _ _) fun r21 n22=>Zq (fldV Z (zgd _) Z Tryz.underlying227 Z zsk)<|Zm Z<|Zn<|z1v (fun (s23:V3 × Int) aa ww=>Sta (ctx 66 H [zG1] w) [(2,.val (z05 v2 0)),(33,.rd (z3r 8 z10) r21.Words),(34,.rd z0c s23.2)] [(2,some (v2,.box 62 [.rd aZ s23.1])),zG1] aa ww) (fun aa ww h=>Zu h [2,1001]) (fun s23=>?_)
   refine gSR<|Zq (I.lss Z Z)<|Zn<|z0l<|gIf Z Z (fun h24=>?_) (fun h24=>?_)
   ·
    refine Zt<|z0l<|z49<|gSR<|Zm Z<|z0j fun x25 h26=>Zq (idxV Z Z h26 tu164 z6s za4)<|Za Z<|Zb Z<|z1y<|Zm Z<|Zq (I.mul Z Z)<|Zm Z<|Zq (I.mul Z Z)<|Zq (I.add Z Z)<|Zm Z<|Zq (I.mul Z Z)<|Zq (I.add Z Z)<|Zm Z<|Zq (I.mul Z Z)<|Zq (I.add Z Z)<|Zm Z<|Zq (W.shr Z Z (Int.natCast_nonneg _))<|Zq (W.toB Z tu65 tu5)<|Zm Z<|Zq (W.shr Z Z (Int.natCast_nonneg _))<|Zq (W.toB Z tu65 tu5)<|Zm Z<|Zq (W.shr Z Z (Int.natCast_nonneg _))<|Zq (W.toB Z tu65 tu5)<|Zm Z<|Zq (W.toB Z tu65 tu5)<|z0j fun x27 h28=>Zq (ixB 2 Z Z Z h28 tu62 ti5)<|Es (sto 2 Z Z (fP (.el h28)) Z ti5)<|z0j fun x29 h30=>Zq (ixB 2 Z Z Z h30 tu62 ti5)<|Es (sto 2 Z Z (fP (.el h30)) Z ti5)<|z0j fun x31 h32=>Zq (ixB 2 Z Z Z h32 tu62 ti5)<|Es (sto 2 Z Z (fP (.el h32)) Z ti5)<|z0j fun x33 h34=>Zq (ixB 2 Z Z Z h34 tu62 ti5)<|Es (sto 2 Z Z (fP (.el h34)) Z ti5)<|z1q<|z2q<|z0f<|z1y<|Zq (I.add Z Z)<|Zm Z<|z1q<|z19 (fun aa ww h=>Zu h [2,1001])
   ·
    refine z1k<|z0o<|z0r<|z3b (fun aa ww h=>Zu h [2,1001])
  ·
   refine gSR<|Zq (ld 2 Z Z fH z36 Z)<|Es (sto 2 Z Z fH Z z1g)<|Zn<|z0i<|zb6 [] [1001] Z (eC 2 Z Z z36<|eN) (y1 Z)
def z1h (a0:List (List UInt8)) (s2:Int):Option (Sum (Sum Int Unit) Int) :=
 if decide (s2<(a0.length:Int)) then
  idx a0 s2 >>= fun x4 =>
  zen x4 >>= fun r6 =>
  if r6 then
   some (.inl (.inl s2))
  else
   some (.inr (w64 (s2+1)))
 else
  some (.inl (.inr ()))
def z3c (a0:List (List UInt8)):Option (Int) :=
 z61 (iter (z1h a0) 0) fun s1 =>
 some (-1)
theorem z8o (a0:List (List UInt8)):z1w Tryz.prog 229 [.rd (z02 (z02 u8R)) a0,.val (.func (.func 214) #[] #[])] [] (z3c a0) (fun r nv=>⟨[.rd z0c r],[]⟩):=by
 refine z2e 19 Tryz.func229 Z Z Z fun H w=>?_
 refine gSR<|Zb Z<|z83 (fun (s1:Unit) aa ww=>Sta (ctx 19 H [] w) [] [] aa ww) ?_ (fun s1=>?_)
 ·
  refine gSR<|Zm Z<|Zq (z2w Z .rd Z tu42)<|Zm Z<|Zn<|z1v (fun (s2:Int) aa ww=>Sta (ctx 19 H [] w) [(0,.rd (z02 (z02 u8R)) a0),(1,.val (.func (.func 214) #[] #[])),(7,.rd z0c (a0.length:Int)),(8,.rd z0c s2)] [] aa ww) (fun aa ww h=>Zu h []) (fun s2=>?_)
  refine gSR<|Zq (I.lss Z Z)<|Zn<|z0l<|gIf Z Z (fun h3=>?_) (fun h3=>?_)
  ·
   refine Zt<|z0l<|z49<|gSR<|Zm Z<|Zb Z<|gSR<|Zm Z<|Zm Z<|Zm Z<|z0j fun x4 h5=>Zq (ixR Z Z h5 tu42 zlr Z)<|Zq (ldR Z ty75)<|zhf [] [] (gd0 Z) Z Z Tryz.func214 Z Z (zkx _) (Y1 Z) (cN) rN fun r6 n7=>Zj Z (fun h8=>?_) (fun h8=>?_)
   ·
    refine gSR<|Zm Z<|Zb Z<|z0i<|z47<|z0v<|z7z<|z5h<|Ze [] [] Z
   ·
    refine z29<|z2q<|z0f<|z1y<|Zq (I.add Z Z)<|Zm Z<|z1q<|z19 (fun aa ww h=>Zu h [])
  ·
   refine z1k<|z0o<|z0r<|z4y (fun aa ww h=>Zu h [])
 ·
  refine gSR<|Zb Z<|z0i<|Ze [] [] Z
def z21 (a0:List (List UInt8)):Option (Bool) :=
 z3c a0 >>= fun r1 =>
 some (decide (0≤r1)) >>= fun y3 =>
 some y3
theorem z7f (a0:List (List UInt8)):z1w Tryz.prog 213 [.rd (z02 (z02 u8R)) a0,.val (.func (.func 214) #[] #[])] [] (z21 a0) (fun r nv=>⟨[.rd z0g r],[]⟩):=by
 refine z2e 9 Tryz.func213 Z Z Z fun H w=>?_
 refine gSR<|Zb Z<|gSR<|Zm Z<|Zm Z<|Zc [] [] Tryz.func229 Z (z8o _) fun r1 n2=>Zq (I.geq Z Z)<|Za Z<|z1i 4 Z fun y3=>Zn<|z0i<|Ze [] [] Z
def z9c (a0:List (List UInt8)) (s11:z2y × Int):Option (Sum z2y (z2y × Int)) :=
 if decide (s11.2<(a0.length:Int)) then
  idx a0 s11.2 >>= fun x13 =>
  zd7 s11.1 x13 >>= fun r15 =>
  some (.inr (r15,w64 (s11.2+1)))
 else
  some (.inl s11.1)
def zcc (a0:List (List UInt8)):Option (V3 × Int) :=
 (if decide (20<(a0.length:Int)) then
  some true
 else
  z21 a0 >>= fun r4 =>
  some r4) >>= fun s2 =>
 if s2 then
  some ((Vector.replicate 32 0),4)
 else
  zfb >>= fun r7 =>
  (iter (z9c a0) (r7,0)) >>= fun s10 =>
  zim s10 >>= fun r17 =>
  some (r17,0)
theorem zh5 (a0:List (List UInt8)):z1w Tryz.prog 191 [.rd (z02 (z02 u8R)) a0] [zG1] (zcc a0) (fun r nv=>⟨[.rd aZ r.1,.rd z0c r.2],[(1001,some (.bool true,.glob 1 (z3r 64 z10) z8a))]⟩):=by
 refine z2e 28 Tryz.func191 Z Z Z fun H w=>?_
 refine gSR<|Eb Z (z52 1 z1g (.zr (R:=aZ) (x:=(Vector.replicate 32 0)) zf5)) fun v1=>Zb Z<|z0l<|z5q (fun (s2:Bool) aa ww=>Sta (ctx 28 H [zG1] w) [(0,.rd (z02 (z02 u8R)) a0),(2,.val (z05 v1 0)),(13,.rd z0g s2)] [(1,some (v1,.box 62 [.rd aZ (Vector.replicate 32 0)])),zG1] aa ww) ?_ (fun s2=>?_)
 ·
  refine z1y<|Zm Z<|Zq (z2w Z .rd Z tu42)<|Zq (I.gtr Z Z)<|Zm Z<|z1d 10 Z (fun h3=>?_) (fun h3=>?_)
  ·
   refine lKn 9 Z h3<|Zk Z<|Zk Z<|Zq (pkT Z Z)<|z1q<|z3b (fun aa ww h=>Zu h [1,1001])
  ·
   refine lKn 9 Z h3<|z0y Zx Z Z (mv Z)<|ze0 [] [] Zx Z Tryz.func213 Z Z (z7f _) (Y2 Z Z) rN fun r4 n5=>Zq (pkF Z Z)<|z1q<|z3b (fun aa ww h=>Zu h [1,1001])
 ·
  refine gIf Z Z (fun h6=>?_) (fun h6=>?_)
  ·
   refine gSR<|Zq (zzp (x':=((Vector.replicate 32 0):V3)) tu62 z1g zf5 ti5 (Bld.done Z))<|Es (sto 1 Z Z fH Z z1g)<|Zb Z<|z0i<|z0v<|zb6 [] [1001] Z (eC 1 Z Z z36<|eE Z<|eN) (y1 Z)
  ·
   refine Zt<|gSR<|Zc [] [] Tryz.func215 Z (zog) fun r7 n8=>Eb Z (z52 1100 zp0 (ZrE.rd (R:=(z3r 8 z10)) (x:=(Vector.replicate 8 0)) zsn (ZrE.nilS (ZrE.rd (R:=z0c) (x:=0) (Zr.num Z) ZrE.nil Z)) Z)) fun v9=>z99 u8R [.rd (z3r 8 z10) (Vector.replicate 8 0),.rd (z02 u8R) [],.rd z0c 0] 1100 [.rd (z3r 8 z10) (Vector.replicate 8 0)] [.rd z0c 0] Z Z Z<|zch (R:=z37) (⟨(Vector.replicate 8 0),[],0⟩:z2y) 1100 Z (Sp.via (Sp.prod (Sp.prod (Sp.prod Sp.unit))))<|Es (sto 1100 Z Z fH Z zp0)<|Zn<|z5q (fun (s10:z2y) aa ww=>Sta (ctx 28 H [zG1] w) [(2,.val (z05 v1 0)),(4,.val (z05 v9 0))] [(1,some (v1,.box 62 [.rd aZ (Vector.replicate 32 0)])),(1100,some (v9,.box 227 [.rd z37 s10])),zG1] aa ww) ?_ (fun s10=>?_)
   ·
    refine gSR<|Zm Z<|Zq (z2w Z .rd Z tu42)<|Zm Z<|Zn<|z1v (fun (s11:z2y × Int) aa ww=>Sta (ctx 28 H [zG1] w) [(2,.val (z05 v1 0)),(4,.val (z05 v9 0)),(16,.rd (z02 (z02 u8R)) a0),(17,.rd z0c (a0.length:Int)),(18,.rd z0c s11.2)] [(1,some (v1,.box 62 [.rd aZ (Vector.replicate 32 0)])),(1100,some (v9,.box 227 [.rd z37 s11.1])),zG1] aa ww) (fun aa ww h=>Zu h [1,1100,1001]) (fun s11=>?_)
    refine gSR<|Zq (I.lss Z Z)<|Zn<|z0l<|gIf Z Z (fun h12=>?_) (fun h12=>?_)
    ·
     refine Zt<|z0l<|z49<|gSR<|z0j fun x13 h14=>Zq (ixR Z Z h14 tu42 zlr Z)<|Zq (ldR Z ty75)<|Zb Z<|z1y<|Zq (ld 1100 Z Z fH zrn Z)<|Zm Z<|Zc [1001] [] Tryz.func216 Z (zjc _ _) fun r15 n16=>Es (sto 1100 Z Z fH Z zp0)<|z1q<|z2q<|z0f<|z1y<|Zq (I.add Z Z)<|Zm Z<|z1q<|z19 (fun aa ww h=>Zu h [1,1100,1001])
    ·
     refine z1k<|z0o<|z0r<|z3b (fun aa ww h=>Zu h [1,1100,1001])
   ·
    refine gSR<|Zq (ld 1100 Z Z fH zrn Z)<|Zc [1001] [] Tryz.func217 Z (zqw _) fun r17 n18=>Es (sto 1 Z Z fH Z z1g)<|Zb Z<|z0i<|zb6 [] [1001] Z (eC 1 Z Z z36<|eE Z<|eN) (y1 Z)
def zid (a0:List UInt8):Option (V3 × Int) :=
 zcc [a0] >>= fun r3 =>
 some (r3.1,r3.2)
theorem zqb (a0:List UInt8):z1w Tryz.prog 153 [.rd (z02 u8R) a0] [zG1] (zid a0) (fun r nv=>⟨[.rd aZ r.1,.rd z0c r.2],[(1001,some (.bool true,.glob 1 (z3r 64 z10) z8a))]⟩):=by
 refine z2e 9 Tryz.func153 Z Z Z fun H w=>?_
 refine gSR<|Eb Z (z52 1 z1g (.zr (R:=aZ) (x:=(Vector.replicate 32 0)) zf5)) fun v1=>Zb Z<|gSR<|Zm Z<|Ef Z (lit (R:=(z02 u8R)) ([a0]:List (List UInt8)) 2 (pP Z Z<|pN) Z tu42 zlr Z Z) fun v2=>zjd 2 [5] Z (fS Z<|fN)<|Zc [1001] [] Tryz.func191 Z (zh5 _) fun r3 n4=>Zq (ext Z Z)<|Zq (ext Z Z)<|Es (sto 1 Z Z fH Z z1g)<|Zb Z<|z0i<|zb6 [] [1001] Z (eC 1 Z Z z36<|eE Z<|eN) (y1 Z)
def zxz (a0:z0b):Option (V3 × Int) :=
 zdk a0 >>= fun r3 =>
 if r3.2 != 0 then
  some ((Vector.replicate 32 0),r3.2)
 else
  zid r3.1 >>= fun r6 =>
  some (r6.1,r6.2)
theorem zvp (a0:z0b):z1w Tryz.prog 111 [.rd z03 a0] [zG1] (zxz a0) (fun r nv=>⟨[.rd aZ r.1,.rd z0c r.2],[(1001,some (.bool true,.glob 1 (z3r 64 z10) z8a))]⟩):=by
 refine z2e 19 Tryz.func111 Z Z Z fun H w=>?_
 refine gSR<|Eb Z (bx 1 Z) fun v1=>Eb Z (z52 2 z1g (.zr (R:=aZ) (x:=(Vector.replicate 32 0)) zf5)) fun v2=>Zb Z<|gSR<|Zq (ld 1 Z Z fH zcs Z)<|Zc [] [(100,3)] Tryz.func89 Z (zmp _) fun r3 n4=>Zm Z<|Zq (ext Z Z)<|Zq (ext Z Z)<|Za Z<|Zb Z<|z0l<|gSR<|Zm Z<|Zq (I.neq Z Z)<|Zj Z (fun h5=>?_) (fun h5=>?_)
 ·
  refine gSR<|Zq (zzp (x':=((Vector.replicate 32 0):V3)) tu62 z1g zf5 ti5 (Bld.done Z))<|Zm Z<|Es (sto 2 Z Z fH Z z1g)<|Zb Z<|z0i<|z0v<|zb6 [] [1001] Z (eC 2 Z Z z36<|eE Z<|eN) (y1 Z)
 ·
  refine Zt<|gSR<|Zm Z<|zjd 3 [9,4,15] Z (fS Z<|fS Z<|fS Z<|fN)<|Zc [1001] [] Tryz.func153 Z (zqb _) fun r6 n7=>Zq (ext Z Z)<|Zq (ext Z Z)<|Es (sto 2 Z Z fH Z z1g)<|Zb Z<|z0i<|zb6 [] [1001] Z (eC 2 Z Z z36<|eE Z<|eN) (y1 Z)
def z56 (a0:List UInt32) (s2:Int):Option (Sum (Sum Bool Unit) Int) :=
 if decide (s2<(a0.length:Int)) then
  idx a0 s2 >>= fun x4 =>
  zih x4 >>= fun r6 =>
  if !r6 then
   some (.inl (.inl false))
  else
   some (.inr (w64 (s2+1)))
 else
  some (.inl (.inr ()))
def zey (a0:List UInt32):Option (Bool) :=
 z61 (iter (z56 a0) 0) fun s1 =>
 some true
theorem zmy (a0:List UInt32):z1w Tryz.prog 218 [.rd (z02 z10) a0] [] (zey a0) (fun r nv=>⟨[.rd z0g r],[]⟩):=by
 refine z2e 15 Tryz.func218 Z Z Z fun H w=>?_
 refine gSR<|Zb Z<|z83 (fun (s1:Unit) aa ww=>Sta (ctx 15 H [] w) [] [] aa ww) ?_ (fun s1=>?_)
 ·
  refine gSR<|Zm Z<|Zq (z2w Z .rd Z tu217)<|Zm Z<|Zn<|z1v (fun (s2:Int) aa ww=>Sta (ctx 15 H [] w) [(5,.rd (z02 z10) a0),(6,.rd z0c (a0.length:Int)),(7,.rd z0c s2)] [] aa ww) (fun aa ww h=>Zu h []) (fun s2=>?_)
  refine gSR<|Zq (I.lss Z Z)<|Zn<|z0l<|gIf Z Z (fun h3=>?_) (fun h3=>?_)
  ·
   refine Zt<|z0l<|z49<|gSR<|z0j fun x4 h5=>Zq (ixR Z Z h5 tu217 z6s Z)<|Zq (ldR Z za4)<|Zb Z<|gSR<|Zm Z<|Zc [] [] Tryz.func170 Z (zjq _) fun r6 n7=>Zq (zdi Z)<|Zj Z (fun h8=>?_) (fun h8=>?_)
   ·
    refine gSR<|Zb Z<|z0i<|z47<|z0v<|z7z<|z5h<|Ze [] [] Z
   ·
    refine z29<|z2q<|z0f<|z1y<|Zq (I.add Z Z)<|Zm Z<|z1q<|z19 (fun aa ww h=>Zu h [])
  ·
   refine z1k<|z0o<|z0r<|z4y (fun aa ww h=>Zu h [])
 ·
  refine gSR<|Zb Z<|z0i<|Ze [] [] Z
def zo5 (a0:UInt32) (a1:UInt64):Option (UInt32 × Int) :=
 zey [a0] >>= fun r2 =>
 if !r2 then
  some (0,2)
 else
  zg9 a0 a1 >>= fun r5 =>
  some (r5,0)
end
section
open Go Go.RowKit
set_option maxRecDepth 100000
theorem zs4 (a0:UInt32) (a1:UInt64):z1w Tryz.prog 192 [.rd z10 a0,.rd z2k a1] [] (zo5 a0 a1) (fun r nv=>⟨[.rd z10 r.1,.rd z0c r.2],[]⟩):=by
 refine z2e 13 Tryz.func192 Z Z Z fun H w=>?_
 refine gSR<|Za Z<|Zb Z<|z0l<|gSR<|Zm Z<|Ef Z (lit (R:=z10) ([a0]:List UInt32) 1 (pP Z Z<|pN) Z tu217 z6s Z Z) fun v1=>zjd 1 [7] Z (fS Z<|fN)<|Zc [] [] Tryz.func218 Z (zmy _) fun r2 n3=>Zq (zdi Z)<|Zj Z (fun h4=>?_) (fun h4=>?_)
 ·
  refine gSR<|Za Z<|Zb Z<|z0i<|z0v<|Ze [] [] Z
 ·
  refine Zt<|gSR<|Zm Z<|Zm Z<|Zc [] [] Tryz.func201 Z (zhz _ _) fun r5 n6=>Za Z<|Zb Z<|z0i<|Ze [] [] Z
def zma (a0:UInt64):Option (UInt32) :=
 zg9 4 a0 >>= fun r1 =>
 some r1
theorem zqs (a0:UInt64):z1w Tryz.prog 194 [.rd z2k a0] [] (zma a0) (fun r nv=>⟨[.rd z10 r],[]⟩):=by
 refine z2e 5 Tryz.func194 Z Z Z fun H w=>?_
 refine gSR<|Zb Z<|gSR<|Zm Z<|Zc [] [] Tryz.func201 Z (zhz _ _) fun r1 n2=>Zb Z<|z0i<|Ze [] [] Z
def znq (a0:UInt32) (a1:UInt32):Option (UInt32 × Int) :=
 zey [a0,a1] >>= fun r2 =>
 if !r2 then
  some (0,2)
 else
  zfz 1000000007 [a0,a1] >>= fun r6 =>
  some (r6,0)
theorem zt2 (a0:UInt32) (a1:UInt32):z1w Tryz.prog 193 [.rd z10 a0,.rd z10 a1] [] (znq a0 a1) (fun r nv=>⟨[.rd z10 r.1,.rd z0c r.2],[]⟩):=by
 refine z2e 15 Tryz.func193 Z Z Z fun H w=>?_
 refine gSR<|Za Z<|Zb Z<|z0l<|gSR<|Zm Z<|Zm Z<|Ef Z (lit (R:=z10) ([a0,a1]:List UInt32) 1 (pP Z Z<|pP Z Z<|pN) Z tu217 z6s Z Z) fun v1=>zjd 1 [8] Z (fS Z<|fN)<|Zc [] [] Tryz.func218 Z (zmy _) fun r2 n3=>Zq (zdi Z)<|Zj Z (fun h4=>?_) (fun h4=>?_)
 ·
  refine gSR<|Za Z<|Zb Z<|z0i<|z0v<|Ze [] [] Z
 ·
  refine Zt<|gSR<|Zm Z<|Zm Z<|Ef Z (lit (R:=z10) ([a0,a1]:List UInt32) 2 (pP Z Z<|pP Z Z<|pN) Z tu217 z6s Z Z) fun v5=>zjd 2 [13] Z (fS Z<|fN)<|Zc [] [] Tryz.func219 Z (zhw _ _) fun r6 n7=>Za Z<|Zb Z<|z0i<|Ze [] [] Z
def z8t (a2:List UInt32) (s4:(List UInt8) × Int):Option (Sum ((List UInt8)) ((List UInt8) × Int)) :=
 if decide (s4.2<(a2.length:Int)) then
  idx a2 s4.2 >>= fun x7 =>
  app 1 s4.1 [(z5d x7 24).toUInt8,(z5d x7 16).toUInt8,(z5d x7 8).toUInt8,x7.toUInt8] >>= fun x10 =>
  some (.inr (x10,w64 (s4.2+1)))
 else
  some (.inl s4.1)
def zdm (r15:V3 × Int) (s19:UInt64 × Int):Option (Sum UInt64 (UInt64 × Int)) :=
 if decide (s19.2<(((r15.1.toList.drop 0).take 8).length:Int)) then
  idx ((r15.1.toList.drop 0).take 8) s19.2 >>= fun x21 =>
  some ((zqx s19.1 8) ||| x21.toUInt64) >>= fun y23 =>
  some (.inr (y23,w64 (s19.2+1)))
 else
  some (.inl s19.1)
def zlj (a0:UInt8) (a1:List UInt8) (a2:List UInt32):Option (UInt64 × Int) :=
 if decide (9991<(a1.length:Int)) then
  some (0,4)
 else
  (iter (z8t a2) ([a0],0)) >>= fun s3 =>
  zcc [s3,a1] >>= fun r15 =>
  (iter (zdm r15) (0,0)) >>= fun s18 =>
  some (s18,r15.2)
theorem zrh (a0:UInt8) (a1:List UInt8) (a2:List UInt32):z1w Tryz.prog 220 [.rd u8R a0,.rd (z02 u8R) a1,.rd (z02 z10) a2] [zG1] (zlj a0 a1 a2) (fun r nv=>⟨[.rd z2k r.1,.rd z0c r.2],[(1001,some (.bool true,.glob 1 (z3r 64 z10) z8a))]⟩):=by
 refine z2e 63 Tryz.func220 Z Z Z fun H w=>?_
 refine gSR<|Za Z<|Zb Z<|z0l<|gSR<|Zm Z<|Zq (z2w Z .rd Z tu75)<|Zq (I.gtr Z Z)<|Zj Z (fun h1=>?_) (fun h1=>?_)
 ·
  refine gSR<|Za Z<|Zb Z<|z0i<|z0v<|Ze [] [1001] Z
 ·
  refine Zt<|gSR<|Zm Z<|Ef Z (lit (R:=u8R) ([a0]:List UInt8) 1 (pP Z Z<|pN) Z tu75 ti5 Z Z) fun v2=>Zb Z<|z5q (fun (s3:(List UInt8)) aa ww=>∃ nv:Nat→Value,Sta (ctx 63 H [zG1] w) [(1,.rd (z02 u8R) a1),(8,.val (nv 0))] [(1,some ((nv 0),.list u8R 5 s3)),zG1] aa ww) ?_ (fun s3=>?_)
  ·
   refine gSR<|Zm Z<|Zq (z2w Z .rd Z tu217)<|Zm Z<|Zn<|z1v (fun (s4:(List UInt8) × Int) aa ww=>∃ nv:Nat→Value,Sta (ctx 63 H [zG1] w) [(1,.rd (z02 u8R) a1),(8,.val (nv 0)),(21,.rd (z02 z10) a2),(22,.rd z0c (a2.length:Int)),(23,.rd z0c s4.2)] [(1,some ((nv 0),.list u8R 5 s4.1)),zG1] aa ww) (fun aa ww h=>⟨nvl [v2],Zu h [1,1001]⟩) (fun s4=>?_)
   refine gEx fun n5=>gSR<|Zq (I.lss Z Z)<|Zn<|z0l<|gIf Z Z (fun h6=>?_) (fun h6=>?_)
   ·
    refine Zt<|z0l<|z49<|gSR<|z0j fun x7 h8=>Zq (ixR Z Z h8 tu217 z6s Z)<|Zq (ldR Z za4)<|Zb Z<|z1y<|Zm Z<|Zm Z<|Zq (W.shr Z Z (Int.natCast_nonneg _))<|Zq (W.toB Z tu65 tu5)<|Zm Z<|Zq (W.shr Z Z (Int.natCast_nonneg _))<|Zq (W.toB Z tu65 tu5)<|Zm Z<|Zq (W.shr Z Z (Int.natCast_nonneg _))<|Zq (W.toB Z tu65 tu5)<|Zm Z<|Zq (W.toB Z tu65 tu5)<|Ef Z (lit (R:=u8R) ([(z5d x7 24).toUInt8,(z5d x7 16).toUInt8,(z5d x7 8).toUInt8,x7.toUInt8]:List UInt8) 1100 (pP Z Z<|pP Z Z<|pP Z Z<|pP Z Z<|pN) Z tu75 ti5 Z Z) fun v9=>z0j fun x10 h11=>Ef Z (apn 1 Z Z Z (.own 1100 Z) h11 tu75 ti5 Z Z Z) fun v12=>Za Z<|z1q<|z2q<|z0f<|z1y<|Zq (I.add Z Z)<|Zm Z<|z1q<|z19 (fun aa ww h=>⟨nvl [v12],Zu h [1,1001]⟩)
   ·
    refine z1k<|z0o<|z0r<|z3b (fun aa ww h=>⟨nvl [(n5 0)],Zu h [1,1001]⟩)
  ·
   refine gEx fun n13=>gSR<|Zm Z<|Zm Z<|zjd 1 [8,43] Z (fS Z<|fS Z<|fN)<|Ef Z (lit (R:=(z02 u8R)) ([s3,a1]:List (List UInt8)) 1101 (pP Z Z<|pP Z Z<|pN) Z tu42 zlr Z Z) fun v14=>zjd 1101 [45] Z (fS Z<|fN)<|Zc [1001] [] Tryz.func191 Z (zh5 _) fun r15 n16=>Zm Z<|Zq (ext Z Z)<|Zq (ext Z Z)<|Eb Z (z52 1102 z1g (.zr (R:=aZ) (x:=(Vector.replicate 32 0)) zf5)) fun v17=>Es (sto 1102 Z Z fH Z z1g)<|Zb Z<|gSR<|Zb Z<|z5q (fun (s18:UInt64) aa ww=>Sta (ctx 63 H [zG1] w) [(12,.rd z0c r15.2),(13,.rd z2k s18)] [zG1] aa ww) ?_ (fun s18=>?_)
   ·
    refine gSR<|z16i 1102 11 Z Z<|Zq (z17q (i:=0) (j:=8) Z .no (.to Z) tu62 ti5 (by decide) Z Z Z)<|Zq (z2w Z .rd Z tu75)<|Zm Z<|Zn<|z1v (fun (s19:UInt64 × Int) aa ww=>Sta (ctx 63 H [zG1] w) [(12,.rd z0c r15.2),(13,.rd z2k s19.1),(49,.rd (z02 u8R) ((r15.1.toList.drop 0).take 8)),(50,.rd z0c (((r15.1.toList.drop 0).take 8).length:Int)),(51,.rd z0c s19.2)] [zG1] aa ww) (fun aa ww h=>Zu h [1001]) (fun s19=>?_)
    refine gSR<|Zq (I.lss Z Z)<|Zn<|z0l<|gIf Z Z (fun h20=>?_) (fun h20=>?_)
    ·
     refine Zt<|z0l<|z49<|gSR<|z0j fun x21 h22=>Zq (ixR Z Z h22 tu75 ti5 Z)<|Zq (ldR Z ty5)<|Zb Z<|z1y<|Zm Z<|Zq (U.shl Z Z (Int.natCast_nonneg _))<|Zm Z<|Zq (B.toU Z tu5 tu41)<|Zq (U.or Z Z)<|Za Z<|z1i 13 Z fun y23=>z1q<|z2q<|z0f<|z1y<|Zq (I.add Z Z)<|Zm Z<|z1q<|z19 (fun aa ww h=>Zu h [1001])
    ·
     refine z1k<|z0o<|z0r<|z3b (fun aa ww h=>Zu h [1001])
   ·
    refine gSR<|Zm Z<|Zm Z<|Za Z<|Zb Z<|z0i<|Ze [] [1001] Z
def zde (a0:UInt32) (a1:UInt32) (a2:List UInt8):Option (UInt32 × Int) :=
 zlj 99 a2 [a0,a1] >>= fun r2 =>
 if r2.2 != 0 then
  some (0,r2.2)
 else
  some ((r2.1 % 500000003).toUInt32) >>= fun y5 =>
  some (y5,0)
theorem zls (a0:UInt32) (a1:UInt32) (a2:List UInt8):z1w Tryz.prog 195 [.rd z10 a0,.rd z10 a1,.rd (z02 u8R) a2] [zG1] (zde a0 a1 a2) (fun r nv=>⟨[.rd z10 r.1,.rd z0c r.2],[(1001,some (.bool true,.glob 1 (z3r 64 z10) z8a))]⟩):=by
 refine z2e 24 Tryz.func195 Z Z Z fun H w=>?_
 refine gSR<|Za Z<|Zb Z<|gSR<|Zm Z<|Zm Z<|Zm Z<|Ef Z (lit (R:=z10) ([a0,a1]:List UInt32) 1 (pP Z Z<|pP Z Z<|pN) Z tu217 z6s Z Z) fun v1=>zjd 1 [14] Z (fS Z<|fN)<|Zc [1001] [] Tryz.func220 Z (zrh _ _ _) fun r2 n3=>Zm Z<|Zq (ext Z Z)<|Zq (ext Z Z)<|Za Z<|Zb Z<|z0l<|gSR<|Zm Z<|Zq (I.neq Z Z)<|Zj Z (fun h4=>?_) (fun h4=>?_)
 ·
  refine gSR<|Zm Z<|Za Z<|Zb Z<|z0i<|z0v<|Ze [] [1001] Z
 ·
  refine Zt<|gSR<|Zm Z<|Zq (U.rem Z Z (by decide))<|Zq (U.toW Z tu41 tu65)<|Za Z<|z1i 6 Z fun y5=>Zb Z<|z0i<|Ze [] [1001] Z
def zgs (a0:UInt32) (a1:List UInt8) (a2:z0q):Option (Int) :=
 zih a0 >>= fun r2 =>
 if !r2 then
  some 2
 else
  if decide (9991<(a1.length:Int)) then
   some 4
  else
   if decide (500000003≤(max a2.E a2.S)) then
    some 22
   else
    zo5 a0 (500000003 - a2.E.toUInt64) >>= fun r7 =>
    zma a2.S.toUInt64 >>= fun r9 =>
    znq r9 r7.1 >>= fun r11 =>
    zde r11.1 a0 a1 >>= fun r13 =>
    if r13.2 != 0 then
     some 22
    else
     if r13.1 != a2.E then
      some 22
     else
      some 0
theorem zp3 (a0:UInt32) (a1:List UInt8) (a2:z0q):z1w Tryz.prog 154 [.rd z10 a0,.rd (z02 u8R) a1,.rd z13 a2] [zG1] (zgs a0 a1 a2) (fun r nv=>⟨[.rd z0c r],[(1001,some (.bool true,.glob 1 (z3r 64 z10) z8a))]⟩):=by
 refine z2e 58 Tryz.func154 Z Z Z fun H w=>?_
 refine gSR<|Eb Z (bx 1 Z) fun v1=>Zb Z<|z0l<|gSR<|Zm Z<|Zc [] [] Tryz.func170 Z (zjq _) fun r2 n3=>Zq (zdi Z)<|Zj Z (fun h4=>?_) (fun h4=>?_)
 ·
  refine gSR<|Zb Z<|z0i<|z0v<|Ze [] [1001] Z
 ·
  refine Zt<|z0l<|gSR<|Zm Z<|Zq (z2w Z .rd Z tu75)<|Zq (I.gtr Z Z)<|Zj Z (fun h5=>?_) (fun h5=>?_)
  ·
   refine gSR<|Zb Z<|z0i<|z0v<|Ze [] [1001] Z
  ·
   refine Zt<|z0l<|gSR<|Zq (faB 1 Z Z Tryz.underlying71 Z (by exact z6s))<|Zq (ld 1 Z Z (fP (z63 _)) za4 Z)<|Zq (faB 1 Z Z Tryz.underlying71 Z (by exact z6s))<|Zq (ld 1 Z Z (fP (z8u _)) za4 Z)<|Zq (W.max Z Z)<|Zq (W.geq Z Z)<|Zj Z (fun h6=>?_) (fun h6=>?_)
   ·
    refine gSR<|Zb Z<|z0i<|z0v<|Ze [] [1001] Z
   ·
    refine Zt<|gSR<|Zm Z<|Zq (faB 1 Z Z Tryz.underlying71 Z (by exact z6s))<|Zq (ld 1 Z Z (fP (z63 _)) za4 Z)<|Zq (W.toU Z tu65 tu41)<|Zq (U.sub Z Z)<|Zc [] [] Tryz.func192 Z (zs4 _ _) fun r7 n8=>Zm Z<|Zq (ext Z Z)<|Zq (ext Z Z)<|Za Z<|Zb Z<|gSR<|Zq (faB 1 Z Z Tryz.underlying71 Z (by exact z6s))<|Zq (ld 1 Z Z (fP (z8u _)) za4 Z)<|Zq (W.toU Z tu65 tu41)<|Zc [] [] Tryz.func194 Z (zqs _) fun r9 n10=>Zm Z<|Zc [] [] Tryz.func193 Z (zt2 _ _) fun r11 n12=>Zm Z<|Zq (ext Z Z)<|Zq (ext Z Z)<|Za Z<|Zb Z<|z0l<|gSR<|Zm Z<|Zm Z<|Zm Z<|Zc [1001] [] Tryz.func195 Z (zls _ _ _) fun r13 n14=>Zm Z<|Zq (ext Z Z)<|Zq (ext Z Z)<|Za Z<|Zb Z<|gSR<|Zm Z<|Zq (I.neq Z Z)<|Zm Z<|z1d 52 Z (fun h15=>?_) (fun h15=>?_)
    ·
     refine lKn 51 Z h15<|Zk Z<|Zk Z<|Zk Z<|Zk Z<|Zq (pkT Z Z)<|Zn<|zf9 Z<|gSR<|Zb Z<|z0i<|z0v<|Ze [] [1001] Z
    ·
     refine lKn 51 Z h15<|z0y Zx Z Z (mv Z)<|z0y Zx Z Z (faB 1 Z Z Tryz.underlying71 Z (by exact z6s))<|z0y Zx Z Z (ld 1 Z Z (fP (z63 _)) za4 Z)<|z0y Zx Z Z (W.neq Z Z)<|Zq (pkF Z Z)<|Zj Z (fun h16=>?_) (fun h16=>?_)
     ·
      refine gKn 56 Z h16<|gSR<|Zb Z<|z0i<|z0v<|Ze [] [1001] Z
     ·
      refine gKn 56 Z h16<|Zt<|gSR<|Zb Z<|z0i<|Ze [] [1001] Z
def zhu (a0:z0b):Option (Int) :=
 zgi a0 >>= fun r2 =>
 if r2 != 0 then
  some r2
 else
  zg5 a0 >>= fun r5 =>
  zgs a0.Author r5.1 a0.Sig >>= fun r7 =>
  some r7
theorem zmu (a0:z0b):z1w Tryz.prog 112 [.rd z03 a0] [zG1] (zhu a0) (fun r nv=>⟨[.rd z0c r],[(1001,some (.bool true,.glob 1 (z3r 64 z10) z8a))]⟩):=by
 refine z2e 22 Tryz.func112 Z Z Z fun H w=>?_
 refine gSR<|Eb Z (bx 1 Z) fun v1=>Zb Z<|z0l<|gSR<|Zq (ld 1 Z Z fH zcs Z)<|Zc [] [] Tryz.func128 Z (zkd _) fun r2 n3=>Zb Z<|gSR<|Zm Z<|Zq (I.neq Z Z)<|Zj Z (fun h4=>?_) (fun h4=>?_)
 ·
  refine gSR<|Zm Z<|Zb Z<|z0i<|z0v<|Ze [] [1001] Z
 ·
  refine Zt<|gSR<|Zq (ld 1 Z Z fH zcs Z)<|Zc [] [(100,2)] Tryz.func129 Z (zkw _) fun r5 n6=>Zm Z<|Zq (ext Z Z)<|Zq (ext Z Z)<|Za Z<|Zb Z<|gSR<|Zq (faB 1 Z Z Tryz.underlying73 Z (by exact z6s))<|Zq (ld 1 Z Z (fP (z3u _)) za4 Z)<|Zm Z<|Zq (faB 1 Z Z Tryz.underlying73 Z (by exact zra))<|Zq (ld 1 Z Z (fP (z3a _)) ty71 Z)<|zjd 2 [14,4,18] Z (fS Z<|fS Z<|fS Z<|fN)<|Zc [1001] [] Tryz.func154 Z (zp3 _ _ _) fun r7 n8=>Zb Z<|z0i<|Ze [] [1001] Z
def z5p (s4:UInt64 × (List UInt8)):Option (Sum ((List UInt8)) (UInt64 × (List UInt8))) :=
 if decide (0<s4.1) then
  app 1 s4.2 [(s4.1 % 256).toUInt8] >>= fun x8 =>
  some (.inr (s4.1 / 256,x8))
 else
  some (.inl s4.2)
def z5w (s3:(List UInt8)) (s15:(List UInt8) × Int):Option (Sum ((List UInt8)) ((List UInt8) × Int)) :=
 if decide (0≤s15.2) then
  idx s3 s15.2 >>= fun x18 =>
  app 1 s15.1 [x18] >>= fun x21 =>
  some (w64 (s15.2 - 1)) >>= fun y24 =>
  some (.inr (x21,y24))
 else
  some (.inl s15.1)
def z20 (a0:UInt64):Option ((List UInt8)) :=
 if decide (a0≤247) then
  some [a0.toUInt8]
 else
  (iter (z5p) (a0,[])) >>= fun s3 =>
  (some (w64 ((s3.length:Int) - 1)) >>= fun y14 =>
  iter (z5w s3) ([UInt8.ofInt (w64 (247+(s3.length:Int)))],y14)) >>= fun s13 =>
  some s13
theorem z2i (a0:UInt64):z1w Tryz.prog 140 [.rd z2k a0] [] (z20 a0) (fun r nv=>⟨[.val (nv 0)],[(100,some (nv 0,.list u8R 5 r))]⟩):=by
 refine z2e 41 Tryz.func140 Z Z Z fun H w=>?_
 refine gSR<|Zb Z<|z0l<|gSR<|Zm Z<|Zq (U.leq Z Z)<|Zj Z (fun h1=>?_) (fun h1=>?_)
 ·
  refine gSR<|Zm Z<|Zq (U.toB Z tu41 tu5)<|Ef Z (lit (R:=u8R) ([a0.toUInt8]:List UInt8) 1 (pP Z Z<|pN) Z tu75 ti5 Z Z) fun v2=>Zb Z<|z0i<|z0v<|Ze [v2] [1] Z
 ·
  refine Zt<|gSR<|Zb Z<|z5q (fun (s3:(List UInt8)) aa ww=>∃ nv:Nat→Value,Sta (ctx 41 H [] w) [(3,.val (nv 0))] [(3,some ((nv 0),.list u8R 5 s3))] aa ww) ?_ (fun s3=>?_)
  ·
   refine zpu u8R 5 6<|z1v (fun (s4:UInt64 × (List UInt8)) aa ww=>∃ nv:Nat→Value,Sta (ctx 41 H [] w) [(0,.rd z2k s4.1),(3,.val (nv 0))] [(5,some ((nv 0),.list u8R 5 s4.2))] aa ww) (fun aa ww h=>⟨nvl [(.slice none 0 0)],Zu h [6]⟩) (fun s4=>?_)
   refine gEx fun n5=>z0l<|gSR<|Zm Z<|Zq (U.gtr Z Z)<|Zj Z (fun h6=>?_) (fun h6=>?_)
   ·
    refine Zt<|z49<|gSR<|Zm Z<|Zm Z<|Zq (U.rem Z Z (by decide))<|Zq (U.toB Z tu41 tu5)<|Ef Z (lit (R:=u8R) ([(s4.1 % 256).toUInt8]:List UInt8) 7 (pP Z Z<|pN) Z tu75 ti5 Z Z) fun v7=>z0j fun x8 h9=>Ef Z (apn 5 Z Z Z (.own 7 Z) h9 tu75 ti5 Z Z Z) fun v10=>Zb Z<|z1y<|Zm Z<|Zq (U.quo Z Z (by decide))<|Za Z<|z1q<|z2q<|z19 (fun aa ww h=>⟨nvl [v10],Zu h [5]⟩)
   ·
    refine z1k<|z0o<|z0r<|z3b (fun aa ww h=>⟨nvl [(n5 0)],Zu h [5]⟩)
  ·
   refine gEx fun n11=>gSR<|Zm Z<|Zq (z2w Z (.own 3 Z) Z tu75)<|Zq (I.add Z Z)<|Zq (I.toB Z tu3 tu5)<|Ef Z (lit (R:=u8R) ([UInt8.ofInt (w64 (247+(s3.length:Int)))]:List UInt8) 8 (pP Z Z<|pN) Z tu75 ti5 Z Z) fun v12=>Zb Z<|z5q (fun (s13:(List UInt8)) aa ww=>∃ nv:Nat→Value,Sta (ctx 41 H [] w) [(4,.val (nv 0))] [(8,some ((nv 0),.list u8R 5 s13))] aa ww) ?_ (fun s13=>?_)
   ·
    refine gSR<|Zm Z<|Zq (z2w Z (.own 3 Z) Z tu75)<|Zq (I.sub Z Z)<|Za Z<|z1i 5 Z fun y14=>Zn<|z1v (fun (s15:(List UInt8) × Int) aa ww=>∃ nv:Nat→Value,Sta (ctx 41 H [] w) [(3,.val (n11 0)),(4,.val (nv 0)),(5,.rd z0c s15.2)] [(3,some ((n11 0),.list u8R 5 s3)),(8,some ((nv 0),.list u8R 5 s15.1))] aa ww) (fun aa ww h=>⟨nvl [v12],Zu h [3,8]⟩) (fun s15=>?_)
    refine gEx fun n16=>z0l<|gSR<|Zm Z<|Zq (I.geq Z Z)<|Zj Z (fun h17=>?_) (fun h17=>?_)
    ·
     refine Zt<|z0l<|z49<|z1y<|Zm Z<|Zm Z<|Zm Z<|z0j fun x18 h19=>Zq (ixO 3 Z Z Z h19 tu75 ti5)<|Zq (ld 3 Z Z (Foc.el h19) ty5 Z)<|Ef Z (lit (R:=u8R) ([x18]:List UInt8) 9 (pP Z Z<|pN) Z tu75 ti5 Z Z) fun v20=>z0j fun x21 h22=>Ef Z (apn 8 Z Z Z (.own 9 Z) h22 tu75 ti5 Z Z Z) fun v23=>Za Z<|z1q<|z2q<|z0f<|z1y<|Zm Z<|Zq (I.sub Z Z)<|Za Z<|z1i 5 Z fun y24=>z1q<|z19 (fun aa ww h=>⟨nvl [v23],Zu h [3,8]⟩)
    ·
     refine z1k<|z0o<|z0r<|z3b (fun aa ww h=>⟨nvl [(n16 0)],Zu h [8]⟩)
   ·
    refine gEx fun n25=>gSR<|Zm Z<|Zb Z<|z0i<|Ze [(n25 0)] [8] Z
def z7o (a0:List V3) (s4:(List UInt8) × Int):Option (Sum ((List UInt8)) ((List UInt8) × Int)) :=
 if decide (s4.2<(a0.length:Int)) then
  idx a0 s4.2 >>= fun x7 =>
  app 1 s4.1 x7.toList >>= fun x9 =>
  some (w64 (s4.2+1)) >>= fun y12 =>
  some (.inr (x9,y12))
 else
  some (.inl s4.1)
def zab (a0:List V3):Option ((List UInt8)) :=
 z20 (UInt64.ofInt (a0.length:Int)) >>= fun r1 =>
 (iter (z7o a0) (r1,0)) >>= fun s3 =>
 some s3
theorem zfp (a0:List V3):z1w Tryz.prog 174 [.rd (z02 aZ) a0] [] (zab a0) (fun r nv=>⟨[.val (nv 0)],[(100,some (nv 0,.list u8R 5 r))]⟩):=by
 refine z2e 22 Tryz.func174 Z Z Z fun H w=>?_
 refine gSR<|Zb Z<|gSR<|Zm Z<|Zq (z2w Z .rd Z tu22)<|Zq (I.toU Z tu3 tu41)<|Zc [] [(100,1)] Tryz.func140 Z (z2i _) fun r1 n2=>Zb Z<|z5q (fun (s3:(List UInt8)) aa ww=>∃ nv:Nat→Value,Sta (ctx 22 H [] w) [(3,.val (nv 0))] [(1,some ((nv 0),.list u8R 5 s3))] aa ww) ?_ (fun s3=>?_)
 ·
  refine gSR<|Zb Z<|z1v (fun (s4:(List UInt8) × Int) aa ww=>∃ nv:Nat→Value,Sta (ctx 22 H [] w) [(0,.rd (z02 aZ) a0),(3,.val (nv 0)),(4,.rd z0c s4.2)] [(1,some ((nv 0),.list u8R 5 s4.1))] aa ww) (fun aa ww h=>⟨nvl [(n2 0)],Zu h [1]⟩) (fun s4=>?_)
  refine gEx fun n5=>z0l<|gSR<|Zm Z<|Zm Z<|Zq (z2w Z .rd Z tu22)<|Zq (I.lss Z Z)<|Zj Z (fun h6=>?_) (fun h6=>?_)
  ·
   refine Zt<|z0l<|z49<|z1y<|Zm Z<|Zm Z<|Zm Z<|z0j fun x7 h8=>Zq (ixR Z Z h8 tu22 z1g Z)<|Zq (cutV Z tu62 ti5 Z Z Z)<|z0j fun x9 h10=>Ef Z (apn 1 Z Z Z .rd h10 tu75 ti5 Z Z Z) fun v11=>Za Z<|z1q<|z2q<|z0f<|z1y<|Zm Z<|Zq (I.add Z Z)<|Za Z<|z1i 4 Z fun y12=>z1q<|z19 (fun aa ww h=>⟨nvl [v11],Zu h [1]⟩)
  ·
   refine z1k<|z0o<|z0r<|z3b (fun aa ww h=>⟨nvl [(n5 0)],Zu h [1]⟩)
 ·
  refine gEx fun n13=>gSR<|Zm Z<|Zb Z<|z0i<|Ze [(n13 0)] [1] Z
def z6g (a0:List UInt8):Option ((List UInt8)) :=
 z20 (UInt64.ofInt (a0.length:Int)) >>= fun r1 =>
 app 1 r1 a0 >>= fun x3 =>
 some x3
theorem zcp (a0:List UInt8):z1w Tryz.prog 175 [.rd (z02 u8R) a0] [] (z6g a0) (fun r nv=>⟨[.val (nv 0)],[(100,some (nv 0,.list u8R 5 r))]⟩):=by
 refine z2e 9 Tryz.func175 Z Z Z fun H w=>?_
 refine gSR<|Zb Z<|gSR<|Zm Z<|Zq (z2w Z .rd Z tu75)<|Zq (I.toU Z tu3 tu41)<|Zc [] [(100,1)] Tryz.func140 Z (z2i _) fun r1 n2=>Zm Z<|z0j fun x3 h4=>Ef Z (apn 1 Z Z Z .rd h4 tu75 ti5 Z Z Z) fun v5=>Zb Z<|z0i<|Ze [v5] [1] Z
def zal (a0:Int):Option ((List UInt8)) :=
 if decide (0≤a0) then
  z20 (2 * (UInt64.ofInt a0)) >>= fun r2 =>
  some r2
 else
  z20 ((2 * (UInt64.ofInt (w64 (0 - (w64 (a0+1))))))+1) >>= fun r4 =>
  some r4
theorem zj5 (a0:Int):z1w Tryz.prog 207 [.rd z0c a0] [] (zal a0) (fun r nv=>⟨[.val (nv 0)],[(100,some (nv 0,.list u8R 5 r))]⟩):=by
 refine z2e 16 Tryz.func207 Z Z Z fun H w=>?_
 refine gSR<|Zb Z<|z0l<|gSR<|Zm Z<|Zq (I.geq Z Z)<|Zj Z (fun h1=>?_) (fun h1=>?_)
 ·
  refine gSR<|Zm Z<|Zq (I.toU Z Tryz.underlying2 tu41)<|Zq (U.mul Z Z)<|Zc [] [(100,1)] Tryz.func140 Z (z2i _) fun r2 n3=>Zb Z<|z0i<|z0v<|Ze [(n3 0)] [1] Z
 ·
  refine Zt<|gSR<|Zm Z<|Zq (I.add Z Z)<|Zq (I.neg Z)<|Zq (I.toU Z Tryz.underlying2 tu41)<|Zq (U.mul Z Z)<|Zq (U.add Z Z)<|Zc [] [(100,2)] Tryz.func140 Z (z2i _) fun r4 n5=>Zb Z<|z0i<|Ze [(n5 0)] [2] Z
def z6c (a0:z09) (s11:(List UInt8) × Int):Option (Sum ((List UInt8)) ((List UInt8) × Int)) :=
 if decide (0≤s11.2) then
  chk (0≤w64 (8 * s11.2)) >>= fun u14 =>
  app 1 s11.1 [(z8r a0.Bits ((w64 (8 * s11.2):Int).toNat)).toUInt8] >>= fun x17 =>
  some (w64 (s11.2 - 1)) >>= fun y20 =>
  some (.inr (x17,y20))
 else
  some (.inl s11.1)
def zbr (a0:z09):Option ((List UInt8)) :=
 if a0.Kind==1 then
  zal a0.Num >>= fun r4 =>
  app 1 [a0.Kind] r4 >>= fun x6 =>
  some x6
 else
  if a0.Kind==2 then
   (iter (z6c a0) ([a0.Kind],7)) >>= fun s10 =>
   some s10
  else
   chk (a0.Text.length≤281474976710656) >>= fun u22 =>
   z6g a0.Text >>= fun r24 =>
   app 1 [a0.Kind] r24 >>= fun x26 =>
   some x26
theorem zk3 (a0:z09):z1w Tryz.prog 177 [.rd z2d a0] [] (zbr a0) (fun r nv=>⟨[.val (nv 0)],[(100,some (nv 0,.list u8R 5 r))]⟩):=by
 refine z2e 39 Tryz.func177 Z Z Z fun H w=>?_
 refine gSR<|Eb Z (bx 1 Z) fun v1=>Zb Z<|gSR<|Zq (faB 1 Z Z Tryz.underlying67 Z (by exact ti5))<|Zq (ld 1 Z Z (fP (z3g _)) ty5 Z)<|Ef Z (lit (R:=u8R) ([a0.Kind]:List UInt8) 2 (pP Z Z<|pN) Z tu75 ti5 Z Z) fun v2=>Zb Z<|z0l<|gSR<|Zq (faB 1 Z Z Tryz.underlying67 Z (by exact ti5))<|Zq (ld 1 Z Z (fP (z3g _)) ty5 Z)<|Zn<|z49<|gSR<|Zq (B.eql Z Z)<|Zb Z<|gIf Z Z (fun h3=>?_) (fun h3=>?_)
 ·
  refine gKn 11 Z h3<|gSR<|Zm Z<|Zq (faB 1 Z Z Tryz.underlying67 Z (by exact ti2))<|Zq (ld 1 Z Z (fP (z78 _)) ty2 Z)<|Zc [] [(100,3)] Tryz.func207 Z (zj5 _) fun r4 n5=>z0j fun x6 h7=>Ef Z (apn 2 Z Z Z (.own 3 Z) h7 tu75 ti5 Z Z Z) fun v8=>Zb Z<|z0i<|z47<|z0v<|Ze [v8] [2] Z
 ·
  refine gKn 11 Z h3<|gSR<|Zq (B.eql Z Z)<|Zb Z<|gIf Z Z (fun h9=>?_) (fun h9=>?_)
  ·
   refine gKn 18 Z h9<|z5q (fun (s10:(List UInt8)) aa ww=>∃ nv:Nat→Value,Sta (ctx 39 H [] w) [(3,.val (nv 0))] [(2,some ((nv 0),.list u8R 5 s10))] aa ww) ?_ (fun s10=>?_)
   ·
    refine gSR<|Zb Z<|z1v (fun (s11:(List UInt8) × Int) aa ww=>∃ nv:Nat→Value,Sta (ctx 39 H [] w) [(1,.val (z05 v1 0)),(3,.val (nv 0)),(4,.rd z0c s11.2)] [(1,some (v1,.box 67 [.rd z2d a0])),(2,some ((nv 0),.list u8R 5 s11.1))] aa ww) (fun aa ww h=>⟨nvl [v2],Zu h [1,2]⟩) (fun s11=>?_)
    refine gEx fun n12=>z0l<|gSR<|Zm Z<|Zq (I.geq Z Z)<|Zj Z (fun h13=>?_) (fun h13=>?_)
    ·
     refine Zt<|z0l<|z49<|z1y<|Zm Z<|Zq (faB 1 Z Z Tryz.underlying67 Z (by exact zpy))<|Zq (ld 1 Z Z (fP (z4a _)) zp8 Z)<|Zm Z<|Zq (I.mul Z Z)<|z0j fun u14 h15=>Zq (U.shr Z Z (z4e h15))<|Zq (U.toB Z tu41 tu5)<|Ef Z (lit (R:=u8R) ([(z8r a0.Bits ((w64 (8 * s11.2):Int).toNat)).toUInt8]:List UInt8) 4 (pP Z Z<|pN) Z tu75 ti5 Z Z) fun v16=>z0j fun x17 h18=>Ef Z (apn 2 Z Z Z (.own 4 Z) h18 tu75 ti5 Z Z Z) fun v19=>Za Z<|z1q<|z2q<|z0f<|z1y<|Zm Z<|Zq (I.sub Z Z)<|Za Z<|z1i 4 Z fun y20=>z1q<|z19 (fun aa ww h=>⟨nvl [v19],Zu h [1,2]⟩)
    ·
     refine z1k<|z0o<|z0r<|z3b (fun aa ww h=>⟨nvl [(n12 0)],Zu h [2]⟩)
   ·
    refine gEx fun n21=>gSR<|Zm Z<|Zb Z<|z0i<|z47<|z0v<|Ze [(n21 0)] [2] Z
  ·
   refine gKn 18 Z h9<|z29<|z2q<|z0f<|gSR<|Zm Z<|Zq (faB 1 Z Z Tryz.underlying67 Z (by exact ti9))<|Zq (ld 1 Z Z (fP (z3x _)) ty9 Z)<|z0j fun u22 h23=>z121 Z Z h23 tu9 tu75 tu5<|Zc [] [(100,5)] Tryz.func175 Z (zcp _) fun r24 n25=>z0j fun x26 h27=>Ef Z (apn 2 Z Z Z (.own 5 Z) h27 tu75 ti5 Z Z Z) fun v28=>Zb Z<|z0i<|Ze [v28] [2] Z
def zag (a0:z0b):Option ((List UInt8)) :=
 z20 a0.Author.toUInt64 >>= fun r3 =>
 app 1 [111] r3 >>= fun x5 =>
 zab a0.Preds >>= fun r8 =>
 app 1 x5 r8 >>= fun x10 =>
 z20 a0.Stamp >>= fun r13 =>
 app 1 x10 r13 >>= fun x15 =>
 app 1 x15 [a0.Act.Kind] >>= fun x19 =>
 (if a0.Act.Kind != 1 then
  chk (a0.Act.Key.length≤281474976710656) >>= fun u24 =>
  z6g a0.Act.Key >>= fun r26 =>
  app 1 x19 r26 >>= fun x28 =>
  some x28
 else
  some x19) >>= fun s22 =>
 if a0.Act.Kind==4 then
  zbr a0.Act.Value >>= fun r33 =>
  app 1 s22 r33 >>= fun x35 =>
  some x35
 else
  some s22
theorem zfa (a0:z0b):z1w Tryz.prog 139 [.rd z03 a0] [] (zag a0) (fun r nv=>⟨[.val (nv 0)],[(100,some (nv 0,.list u8R 5 r))]⟩):=by
 refine z2e 47 Tryz.func139 Z Z Z fun H w=>?_
 refine gSR<|Eb Z (bx 1 Z) fun v1=>Zb Z<|gSR<|Ef Z (lit (R:=u8R) ([111]:List UInt8) 2 (pP Z Z<|pN) Z tu75 ti5 Z Z) fun v2=>Zq (faB 1 Z Z Tryz.underlying73 Z (by exact z6s))<|Zq (ld 1 Z Z (fP (z3u _)) za4 Z)<|Zq (W.toU Z tu65 tu41)<|Zc [] [(100,3)] Tryz.func140 Z (z2i _) fun r3 n4=>z0j fun x5 h6=>Ef Z (apn 2 Z Z Z (.own 3 Z) h6 tu75 ti5 Z Z Z) fun v7=>Zb Z<|z0l<|z57 [2,13,25] mixed Z Z<|hTk 0 Z Z (mv Z)<|hTk 1 Z Z (faB 1 Z Z Tryz.underlying73 Z (by exact z4q))<|hTk 2 Z Z (ld 1 Z Z (fP (z0x _)) z5j Z)<|hTk 5 Z Z (faB 1 Z Z Tryz.underlying73 Z (by exact zpy))<|hTk 6 Z Z (ld 1 Z Z (fP (z5c _)) zp8 Z)<|z3h 3 [] [(100,13)] Z (by kernel_rfl) Z (gd0 Z) Z Tryz.func174 Z Z (zfp _) (Y1 Z) rN Z (fun _ _=>z2t) fun r8 n9=>z3j fun x10 h11=>Zo 4 Z Z Z (apn 2 Z Z Z (.own 13 Z) h11 tu75 ti5 Z Z Z) fun v12=>z3h 7 [] [(100,25)] Z (by kernel_rfl) Z (gd0 Z) Z Tryz.func140 Z Z (z2i _) (Y1 Z) rN Z (fun _ _=>z2t) fun r13 n14=>z3j fun x15 h16=>Zo 8 Z Z Z (apn 2 Z Z Z (.own 25 Z) h16 tu75 ti5 Z Z Z) fun v17=>Zf 9 Z Z z2t (asg Z)<|z3q (by kernel_rfl)<|z0f<|gSR<|Zm Z<|Zq (faB 1 Z Z Tryz.underlying73 Z (by exact zpt))<|Zq (faB 1 Z Z Tryz.underlying69 Z (by exact ti5))<|Zq (ld 1 Z Z ((fP (z2h _)).part (z4i _)) ty5 Z)<|Ef Z (lit (R:=u8R) ([a0.Act.Kind]:List UInt8) 37 (pP Z Z<|pN) Z tu75 ti5 Z Z) fun v18=>z0j fun x19 h20=>Ef Z (apn 2 Z Z Z (.own 37 Z) h20 tu75 ti5 Z Z Z) fun v21=>Zb Z<|z5q (fun (s22:(List UInt8)) aa ww=>∃ nv:Nat→Value,Sta (ctx 47 H [] w) [(1,.val (z05 v1 0)),(3,.val (nv 0))] [(1,some (v1,.box 73 [.rd z03 a0])),(2,some ((nv 0),.list u8R 5 s22))] aa ww) ?_ (fun s22=>?_)
 ·
  refine gSR<|Zq (faB 1 Z Z Tryz.underlying73 Z (by exact zpt))<|Zq (faB 1 Z Z Tryz.underlying69 Z (by exact ti5))<|Zq (ld 1 Z Z ((fP (z2h _)).part (z4i _)) ty5 Z)<|Zq (B.neq Z Z)<|Zj Z (fun h23=>?_) (fun h23=>?_)
  ·
   refine z1y<|Zm Z<|Zq (faB 1 Z Z Tryz.underlying73 Z (by exact zpt))<|Zq (faB 1 Z Z Tryz.underlying69 Z (by exact ti9))<|Zq (ld 1 Z Z ((fP (z2h _)).part (z64 _)) ty9 Z)<|z0j fun u24 h25=>z121 Z Z h25 tu9 tu75 tu5<|Zc [] [(100,38)] Tryz.func175 Z (zcp _) fun r26 n27=>z0j fun x28 h29=>Ef Z (apn 2 Z Z Z (.own 38 Z) h29 tu75 ti5 Z Z Z) fun v30=>Za Z<|z1q<|z3b (fun aa ww h=>⟨nvl [v30],Zu h [1,2]⟩)
  ·
   refine z29<|z3b (fun aa ww h=>⟨nvl [v21],Zu h [1,2]⟩)
 ·
  refine gEx fun n31=>z0l<|gSR<|Zq (faB 1 Z Z Tryz.underlying73 Z (by exact zpt))<|Zq (faB 1 Z Z Tryz.underlying69 Z (by exact ti5))<|Zq (ld 1 Z Z ((fP (z2h _)).part (z4i _)) ty5 Z)<|Zq (B.eql Z Z)<|Zj Z (fun h32=>?_) (fun h32=>?_)
  ·
   refine z1y<|Zm Z<|Zq (faB 1 Z Z Tryz.underlying73 Z (by exact zpt))<|Zq (faB 1 Z Z Tryz.underlying69 Z (by exact zlz))<|Zq (ld 1 Z Z ((fP (z2h _)).part (z5l _)) ztm Z)<|Zc [] [(100,39)] Tryz.func177 Z (zk3 _) fun r33 n34=>z0j fun x35 h36=>Ef Z (apn 2 Z Z Z (.own 39 Z) h36 tu75 ti5 Z Z Z) fun v37=>Zb Z<|gSR<|Zm Z<|Zb Z<|z0i<|Ze [v37] [2] Z
  ·
   refine Zt<|gSR<|Zm Z<|Zb Z<|z0i<|Ze [(n31 0)] [2] Z
def z9j (a0:z0b):Option ((List UInt8)) :=
 zag a0 >>= fun r2 =>
 z20 a0.Sig.E.toUInt64 >>= fun r4 =>
 app 1 r2 r4 >>= fun x6 =>
 z20 a0.Sig.S.toUInt64 >>= fun r9 =>
 app 1 x6 r9 >>= fun x11 =>
 some x11
theorem zeq (a0:z0b):z1w Tryz.prog 96 [.rd z03 a0] [] (z9j a0) (fun r nv=>⟨[.val (nv 0)],[(100,some (nv 0,.list u8R 5 r))]⟩):=by
 refine z2e 17 Tryz.func96 Z Z Z fun H w=>?_
 refine gSR<|Eb Z (bx 1 Z) fun v1=>Zb Z<|z0l<|z57 [5,20,38] mixed Z Z<|hTk 0 Z Z (ld 1 Z Z fH zcs Z)<|hTk 2 Z Z (faB 1 Z Z Tryz.underlying73 Z (by exact zra))<|hTk 3 Z Z (faB 1 Z Z Tryz.underlying71 Z (by exact z6s))<|hTk 4 Z Z (ld 1 Z Z ((fP (z3a _)).part (z63 _)) za4 Z)<|hTk 5 Z Z (W.toU Z tu65 tu41)<|hTk 8 Z Z (faB 1 Z Z Tryz.underlying73 Z (by exact zra))<|hTk 9 Z Z (faB 1 Z Z Tryz.underlying71 Z (by exact z6s))<|hTk 10 Z Z (ld 1 Z Z ((fP (z3a _)).part (z8u _)) za4 Z)<|hTk 11 Z Z (W.toU Z tu65 tu41)<|z3h 1 [] [(100,5)] Z (by kernel_rfl) Z (gd0 Z) Z Tryz.func139 Z Z (zfa _) (Y1 Z) rN Z (fun _ _=>z2t) fun r2 n3=>z3h 6 [] [(100,20)] Z (by kernel_rfl) Z (gd0 Z) Z Tryz.func140 Z Z (z2i _) (Y1 Z) rN Z (fun _ _=>z2t) fun r4 n5=>z3j fun x6 h7=>Zo 7 Z Z Z (apn 5 Z Z Z (.own 20 Z) h7 tu75 ti5 Z Z Z) fun v8=>z3h 12 [] [(100,38)] Z (by kernel_rfl) Z (gd0 Z) Z Tryz.func140 Z Z (z2i _) (Y1 Z) rN Z (fun _ _=>z2t) fun r9 n10=>z3j fun x11 h12=>Zo 13 Z Z Z (apn 5 Z Z Z (.own 38 Z) h12 tu75 ti5 Z Z Z) fun v13=>Zf 14 Z Z z2t (asg Z)<|z3q (by kernel_rfl)<|z0f<|z0i<|Ze [v13] [5] Z
def zdx  : Option ((Vector UInt32 8)) :=
 some (#v[1779033703,3144134277,1013904242,2773480762,1359893119,2600822924,528734635,1541459225]:Vector UInt32 8)
theorem zjt  : z1w Tryz.prog 137 [] [] (zdx) (fun r nv=>⟨[.rd (z3r 8 z10) r],[]⟩):=by
 refine z2e 2 Tryz.func137 Z Z Z fun H w=>?_
 refine gSR<|Eb Z (z52 1 ziv (.zr (R:=(z3r 8 z10)) (x:=(Vector.replicate 8 0)) zsn)) fun v1=>Zn<|gSR<|Zq (litA (R:=z10) [1779033703,3144134277,1013904242,2773480762,1359893119,2600822924,528734635,1541459225] (#v[1779033703,3144134277,1013904242,2773480762,1359893119,2600822924,528734635,1541459225]:Vector UInt32 8) (pP Z Z<|pP Z Z<|pP Z Z<|pP Z Z<|pP Z Z<|pP Z Z<|pP Z Z<|pP Z Z<|pN) Z tu164 ziv Z z6s)<|Es (sto 1 Z Z fH Z ziv)<|Zn<|z0i<|zb6 [] [] Z (eC 1 Z Z zsk<|eN) (rN)
def z7e (a0:Int) (s3:(List UInt8)):Option (Sum ((List UInt8)) ((List UInt8))) :=
 if (Int.tmod (w64 ((w64 (a0+(s3.length:Int)))+8)) 64) != 0 then
  app 1 s3 [0] >>= fun x7 =>
  some (.inr x7)
 else
  some (.inl s3)
def z7v (a0:Int) (s12:(List UInt8) × Int):Option (Sum ((List UInt8)) ((List UInt8) × Int)) :=
 if decide (0≤s12.2) then
  chk (0≤w64 (8 * s12.2)) >>= fun u15 =>
  app 1 s12.1 [(z8r (8 * (UInt64.ofInt a0)) ((w64 (8 * s12.2):Int).toNat)).toUInt8] >>= fun x18 =>
  some (w64 (s12.2 - 1)) >>= fun y21 =>
  some (.inr (x18,y21))
 else
  some (.inl s12.1)
def zcm (a0:Int):Option ((List UInt8)) :=
 (iter (z7e a0) [128]) >>= fun s2 =>
 (iter (z7v a0) (s2,7)) >>= fun s11 =>
 some s11
theorem zl0 (a0:Int):z1w Tryz.prog 138 [.rd z0c a0] [] (zcm a0) (fun r nv=>⟨[.val (nv 0)],[(100,some (nv 0,.list u8R 5 r))]⟩):=by
 refine z2e 31 Tryz.func138 Z Z Z fun H w=>?_
 refine gSR<|Zb Z<|gSR<|Ef Z (lit (R:=u8R) ([128]:List UInt8) 1 (pP Z Z<|pN) Z tu75 ti5 Z Z) fun v1=>Zb Z<|z5q (fun (s2:(List UInt8)) aa ww=>∃ nv:Nat→Value,Sta (ctx 31 H [] w) [(0,.rd z0c a0),(3,.val (nv 0))] [(1,some ((nv 0),.list u8R 5 s2))] aa ww) ?_ (fun s2=>?_)
 ·
  refine z1v (fun (s3:(List UInt8)) aa ww=>∃ nv:Nat→Value,Sta (ctx 31 H [] w) [(0,.rd z0c a0),(3,.val (nv 0))] [(1,some ((nv 0),.list u8R 5 s3))] aa ww) (fun aa ww h=>⟨nvl [v1],Zu h [1]⟩) (fun s3=>?_)
  refine gEx fun n4=>z0l<|gSR<|Zm Z<|Zm Z<|Zq (z2w Z (.own 1 Z) Z tu75)<|Zq (I.add Z Z)<|Zq (I.add Z Z)<|Zq (I.rem Z Z (by decide))<|Zq (I.neq Z Z)<|Zj Z (fun h5=>?_) (fun h5=>?_)
  ·
   refine Zt<|z49<|z1y<|Zm Z<|Ef Z (lit (R:=u8R) ([0]:List UInt8) 2 (pP Z Z<|pN) Z tu75 ti5 Z Z) fun v6=>z0j fun x7 h8=>Ef Z (apn 1 Z Z Z (.own 2 Z) h8 tu75 ti5 Z Z Z) fun v9=>Za Z<|z1q<|z2q<|z19 (fun aa ww h=>⟨nvl [v9],Zu h [1]⟩)
  ·
   refine z1k<|z0o<|z0r<|z3b (fun aa ww h=>⟨nvl [(n4 0)],Zu h [1]⟩)
 ·
  refine gEx fun n10=>z5q (fun (s11:(List UInt8)) aa ww=>∃ nv:Nat→Value,Sta (ctx 31 H [] w) [(3,.val (nv 0))] [(1,some ((nv 0),.list u8R 5 s11))] aa ww) ?_ (fun s11=>?_)
  ·
   refine gSR<|Zb Z<|z1v (fun (s12:(List UInt8) × Int) aa ww=>∃ nv:Nat→Value,Sta (ctx 31 H [] w) [(0,.rd z0c a0),(3,.val (nv 0)),(4,.rd z0c s12.2)] [(1,some ((nv 0),.list u8R 5 s12.1))] aa ww) (fun aa ww h=>⟨nvl [(n10 0)],Zu h [1]⟩) (fun s12=>?_)
   refine gEx fun n13=>z0l<|gSR<|Zm Z<|Zq (I.geq Z Z)<|Zj Z (fun h14=>?_) (fun h14=>?_)
   ·
    refine Zt<|z0l<|z49<|z1y<|Zm Z<|Zm Z<|Zq (I.toU Z tu3 tu41)<|Zq (U.mul Z Z)<|Zm Z<|Zq (I.mul Z Z)<|z0j fun u15 h16=>Zq (U.shr Z Z (z4e h16))<|Zq (U.toB Z tu41 tu5)<|Ef Z (lit (R:=u8R) ([(z8r (8 * (UInt64.ofInt a0)) ((w64 (8 * s12.2):Int).toNat)).toUInt8]:List UInt8) 3 (pP Z Z<|pN) Z tu75 ti5 Z Z) fun v17=>z0j fun x18 h19=>Ef Z (apn 1 Z Z Z (.own 3 Z) h19 tu75 ti5 Z Z Z) fun v20=>Za Z<|z1q<|z2q<|z0f<|z1y<|Zm Z<|Zq (I.sub Z Z)<|Za Z<|z1i 4 Z fun y21=>z1q<|z19 (fun aa ww h=>⟨nvl [v20],Zu h [1]⟩)
   ·
    refine z1k<|z0o<|z0r<|z3b (fun aa ww h=>⟨nvl [(n13 0)],Zu h [1]⟩)
  ·
   refine gEx fun n22=>gSR<|Zm Z<|Zb Z<|z0i<|Ze [(n22 0)] [1] Z
def z31 (a0:UInt32) (a1:Int):Option (UInt32) :=
 chk (0≤a1) >>= fun u1 =>
 chk (0≤w64 (32 - a1)) >>= fun u3 =>
 some ((z5d a0 ((a1:Int).toNat)) ||| (zqn a0 ((w64 (32 - a1):Int).toNat))) >>= fun y5 =>
 some y5
theorem z33 (a0:UInt32) (a1:Int):z1w Tryz.prog 205 [.rd z10 a0,.rd z0c a1] [] (z31 a0 a1) (fun r nv=>⟨[.rd z10 r],[]⟩):=by
 refine z2e 13 Tryz.func205 Z Z Z fun H w=>?_
 refine gSR<|Zb Z<|z0l<|zgc mixed (by kernel_rfl)<|Rq Z (mv Z)<|Rq Z (mv Z)<|z80 fun u1 h2=>Rq Z (W.shr Z Z (z4e h2))<|Rq Z (mv Z)<|Rq Z (mv Z)<|Rq Z (I.sub Z Z)<|z80 fun u3 h4=>Rq Z (W.shl Z Z (z4e h4))<|Rq Z (W.or Z Z)<|Rq Z (asg Z)<|z166 4 Z fun y5=>zov<|z0f<|z0i<|Ze [] [] Z
def zbb  : Option ((List UInt32)) :=
 some [1116352408,1899447441,3049323471,3921009573,961987163,1508970993,2453635748,2870763221,3624381080,310598401,607225278,1426881987,1925078388,2162078206,2614888103,3248222580,3835390401,4022224774,264347078,604807628,770255983,1249150122,1555081692,1996064986,2554220882,2821834349,2952996808,3210313671,3336571891,3584528711,113926993,338241895,666307205,773529912,1294757372,1396182291,1695183700,1986661051,2177026350,2456956037,2730485921,2820302411,3259730800,3345764771,3516065817,3600352804,4094571909,275423344,430227734,506948616,659060556,883997877,958139571,1322822218,1537002063,1747873779,1955562222,2024104815,2227730452,2361852424,2428436474,2756734187,3204031479,3329325298]
theorem zgo  : z1w Tryz.prog 206 [] [] (zbb) (fun r nv=>⟨[.val (nv 0)],[(100,some (nv 0,.list z10 65 r))]⟩):=by
 refine z2e 2 Tryz.func206 Z Z Z fun H w=>?_
 refine gSR<|Zb Z<|gSR<|Ef Z (lit (R:=z10) ([1116352408,1899447441,3049323471,3921009573,961987163,1508970993,2453635748,2870763221,3624381080,310598401,607225278,1426881987,1925078388,2162078206,2614888103,3248222580,3835390401,4022224774,264347078,604807628,770255983,1249150122,1555081692,1996064986,2554220882,2821834349,2952996808,3210313671,3336571891,3584528711,113926993,338241895,666307205,773529912,1294757372,1396182291,1695183700,1986661051,2177026350,2456956037,2730485921,2820302411,3259730800,3345764771,3516065817,3600352804,4094571909,275423344,430227734,506948616,659060556,883997877,958139571,1322822218,1537002063,1747873779,1955562222,2024104815,2227730452,2361852424,2428436474,2756734187,3204031479,3329325298]:List UInt32) 1 (pP Z Z<|pP Z Z<|pP Z Z<|pP Z Z<|pP Z Z<|pP Z Z<|pP Z Z<|pP Z Z<|pP Z Z<|pP Z Z<|pP Z Z<|pP Z Z<|pP Z Z<|pP Z Z<|pP Z Z<|pP Z Z<|pP Z Z<|pP Z Z<|pP Z Z<|pP Z Z<|pP Z Z<|pP Z Z<|pP Z Z<|pP Z Z<|pP Z Z<|pP Z Z<|pP Z Z<|pP Z Z<|pP Z Z<|pP Z Z<|pP Z Z<|pP Z Z<|pP Z Z<|pP Z Z<|pP Z Z<|pP Z Z<|pP Z Z<|pP Z Z<|pP Z Z<|pP Z Z<|pP Z Z<|pP Z Z<|pP Z Z<|pP Z Z<|pP Z Z<|pP Z Z<|pP Z Z<|pP Z Z<|pP Z Z<|pP Z Z<|pP Z Z<|pP Z Z<|pP Z Z<|pP Z Z<|pP Z Z<|pP Z Z<|pP Z Z<|pP Z Z<|pP Z Z<|pP Z Z<|pP Z Z<|pP Z Z<|pP Z Z<|pP Z Z<|pN) Z tu217 z6s Z Z) fun v1=>Zb Z<|z0i<|Ze [v1] [1] Z
def z5s (a1:List UInt8) (s4:(List UInt32) × Int):Option (Sum ((List UInt32)) ((List UInt32) × Int)) :=
 if decide (s4.2<16) then
  idx a1 (w64 (4 * s4.2)) >>= fun x7 =>
  idx a1 (w64 ((w64 (4 * s4.2))+1)) >>= fun x9 =>
  idx a1 (w64 ((w64 (4 * s4.2))+2)) >>= fun x11 =>
  idx a1 (w64 ((w64 (4 * s4.2))+3)) >>= fun x13 =>
  app 4 s4.1 [(((((x7.toUInt32 * 256)+x9.toUInt32) * 256)+x11.toUInt32) * 256)+x13.toUInt32] >>= fun x16 =>
  some (w64 (s4.2+1)) >>= fun y19 =>
  some (.inr (x16,y19))
 else
  some (.inl s4.1)
def z5v (s22:(List UInt32) × Int):Option (Sum ((List UInt32)) ((List UInt32) × Int)) :=
 if decide (s22.2<64) then
  idx s22.1 (w64 (s22.2 - 15)) >>= fun x25 =>
  idx s22.1 (w64 (s22.2 - 2)) >>= fun x27 =>
  idx s22.1 (w64 (s22.2 - 16)) >>= fun x29 =>
  idx s22.1 (w64 (s22.2 - 7)) >>= fun x31 =>
  z31 x25 7 >>= fun r33 =>
  z31 x25 18 >>= fun r36 =>
  z31 x27 17 >>= fun r39 =>
  z31 x27 19 >>= fun r42 =>
  app 4 s22.1 [((x29+x31)+((r33 ^^^ r36) ^^^ (z5d x25 3)))+((r39 ^^^ r42) ^^^ (z5d x27 10))] >>= fun x45 =>
  some (w64 (s22.2+1)) >>= fun y48 =>
  some (.inr (x45,y48))
 else
  some (.inl s22.1)
def z3y (s21:(List UInt32)) (r50:(List UInt32)) (s54:(Vector UInt32 8) × Int):Option (Sum ((Vector UInt32 8)) ((Vector UInt32 8) × Int)) :=
 if decide (s54.2<64) then
  z8s s54.1 0 >>= fun x56 =>
  z8s s54.1 1 >>= fun x58 =>
  z8s s54.1 2 >>= fun x60 =>
  z8s s54.1 4 >>= fun x62 =>
  z8s s54.1 5 >>= fun x64 =>
  z8s s54.1 6 >>= fun x66 =>
  z8s s54.1 7 >>= fun x68 =>
  idx r50 s54.2 >>= fun x70 =>
  idx s21 s54.2 >>= fun x72 =>
  z31 x62 6 >>= fun r74 =>
  z31 x62 11 >>= fun r76 =>
  z31 x62 25 >>= fun r78 =>
  some ((((x68+((r74 ^^^ r76) ^^^ r78))+((x62 &&& x64) ^^^ ((~~~x62) &&& x66)))+x70)+x72) >>= fun y80 =>
  z31 x56 2 >>= fun r81 =>
  z31 x56 13 >>= fun r83 =>
  z31 x56 22 >>= fun r85 =>
  some (((r81 ^^^ r83) ^^^ r85)+(((x56 &&& x58) ^^^ (x56 &&& x60)) ^^^ (x58 &&& x60))) >>= fun y87 =>
  z8s s54.1 3 >>= fun x88 =>
  some (w64 (s54.2+1)) >>= fun y90 =>
  some (.inr ((#v[y80+y87,x56,x58,x60,x88+y80,x62,x64,x66]:Vector UInt32 8),y90))
 else
  some (.inl s54.1)
def z3i (s53:(Vector UInt32 8)) (s92:(Vector UInt32 8) × Int):Option (Sum ((Vector UInt32 8)) ((Vector UInt32 8) × Int)) :=
 if decide (s92.2<8) then
  z8s s92.1 s92.2 >>= fun x94 =>
  z8s s53 s92.2 >>= fun x96 =>
  z8s s92.1 s92.2 >>= fun x98 =>
  some (w64 (s92.2+1)) >>= fun y100 =>
  some (.inr (zki s92.1 s92.2 (x94+x96),y100))
 else
  some (.inl s92.1)
def zb2 (a0:Vector UInt32 8) (a1:List UInt8):Option ((Vector UInt32 8)) :=
 (iter (z5s a1) ([],0)) >>= fun s3 =>
 (iter (z5v) (s3,16)) >>= fun s21 =>
 zbb >>= fun r50 =>
 (iter (z3y s21 r50) (a0,0)) >>= fun s53 =>
 (iter (z3i s53) (a0,0)) >>= fun s91 =>
 some s91
set_option maxHeartbeats 4000000 in
theorem ziz (a0:Vector UInt32 8) (a1:List UInt8):z1w Tryz.prog 176 [.rd (z3r 8 z10) a0,.rd (z02 u8R) a1] [] (zb2 a0 a1) (fun r nv=>⟨[.rd (z3r 8 z10) r],[]⟩):=by
 refine z2e 203 Tryz.func176 Z Z Z fun H w=>?_
 refine gSR<|Eb Z (bx 1 Z) fun v1=>Eb Z (z52 2 ziv (.zr (R:=(z3r 8 z10)) (x:=(Vector.replicate 8 0)) zsn)) fun v2=>Zn<|gSR<|Zb Z<|z5q (fun (s3:(List UInt32)) aa ww=>∃ nv:Nat→Value,Sta (ctx 203 H [] w) [(2,.val (z05 v1 0)),(4,.val (z05 v2 0)),(5,.val (nv 0))] [(1,some (v1,.box 164 [.rd (z3r 8 z10) a0])),(2,some (v2,.box 164 [.rd (z3r 8 z10) (Vector.replicate 8 0)])),(108,some ((nv 0),.list z10 65 s3))] aa ww) ?_ (fun s3=>?_)
 ·
  refine gSR<|Zb Z<|zpu z10 65 215<|z1v (fun (s4:(List UInt32) × Int) aa ww=>∃ nv:Nat→Value,Sta (ctx 203 H [] w) [(1,.rd (z02 u8R) a1),(2,.val (z05 v1 0)),(4,.val (z05 v2 0)),(5,.val (nv 0)),(6,.rd z0c s4.2)] [(1,some (v1,.box 164 [.rd (z3r 8 z10) a0])),(2,some (v2,.box 164 [.rd (z3r 8 z10) (Vector.replicate 8 0)])),(214,some ((nv 0),.list z10 65 s4.1))] aa ww) (fun aa ww h=>⟨nvl [(.slice none 0 0)],Zu h [1,2,215]⟩) (fun s4=>?_)
  refine gEx fun n5=>z0l<|gSR<|Zm Z<|Zq (I.lss Z Z)<|Zj Z (fun h6=>?_) (fun h6=>?_)
  ·
   refine Zt<|z0l<|z49<|z57 [214,318] mixed Z Z<|hTk 0 Z Z (mv Z)<|hTk 1 Z Z (mv Z)<|hTk 2 Z Z (mv Z)<|hTk 3 Z Z (I.mul Z Z)<|z3j fun x7 h8=>hTk 4 Z Z (ixR Z Z h8 tu75 ti5 Z)<|hTk 5 Z Z (ldR Z ty5)<|hTk 6 Z Z (B.toW Z tu5 tu65)<|hTk 7 Z Z (W.mul Z Z)<|hTk 8 Z Z (mv Z)<|hTk 9 Z Z (mv Z)<|hTk 10 Z Z (I.mul Z Z)<|hTk 11 Z Z (I.add Z Z)<|z3j fun x9 h10=>hTk 12 Z Z (ixR Z Z h10 tu75 ti5 Z)<|hTk 13 Z Z (ldR Z ty5)<|hTk 14 Z Z (B.toW Z tu5 tu65)<|hTk 15 Z Z (W.add Z Z)<|hTk 16 Z Z (W.mul Z Z)<|hTk 17 Z Z (mv Z)<|hTk 18 Z Z (mv Z)<|hTk 19 Z Z (I.mul Z Z)<|hTk 20 Z Z (I.add Z Z)<|z3j fun x11 h12=>hTk 21 Z Z (ixR Z Z h12 tu75 ti5 Z)<|hTk 22 Z Z (ldR Z ty5)<|hTk 23 Z Z (B.toW Z tu5 tu65)<|hTk 24 Z Z (W.add Z Z)<|hTk 25 Z Z (W.mul Z Z)<|hTk 26 Z Z (mv Z)<|hTk 27 Z Z (mv Z)<|hTk 28 Z Z (I.mul Z Z)<|hTk 29 Z Z (I.add Z Z)<|z3j fun x13 h14=>hTk 30 Z Z (ixR Z Z h14 tu75 ti5 Z)<|hTk 31 Z Z (ldR Z ty5)<|hTk 32 Z Z (B.toW Z tu5 tu65)<|hTk 33 Z Z (W.add Z Z)<|Zo 34 Z Z Z (lit (R:=z10) ([(((((x7.toUInt32 * 256)+x9.toUInt32) * 256)+x11.toUInt32) * 256)+x13.toUInt32]:List UInt32) 318 (pP Z Z<|pN) Z tu217 z6s Z Z) fun v15=>z3j fun x16 h17=>Zo 35 Z Z Z (apn 214 Z Z Z (.own 318 Z) h17 tu217 z6s Z Z Z) fun v18=>Zf 36 Z Z z2t (asg Z)<|z3q (by kernel_rfl)<|z2q<|z0f<|z1y<|Zm Z<|Zq (I.add Z Z)<|Za Z<|z1i 6 Z fun y19=>z1q<|z19 (fun aa ww h=>⟨nvl [v18],Zu h [1,2,214]⟩)
  ·
   refine z1k<|z0o<|z0r<|z3b (fun aa ww h=>⟨nvl [(n5 0)],Zu h [1,2,214]⟩)
 ·
  refine gEx fun n20=>z5q (fun (s21:(List UInt32)) aa ww=>∃ nv:Nat→Value,Sta (ctx 203 H [] w) [(2,.val (z05 v1 0)),(4,.val (z05 v2 0)),(5,.val (nv 0))] [(1,some (v1,.box 164 [.rd (z3r 8 z10) a0])),(2,some (v2,.box 164 [.rd (z3r 8 z10) (Vector.replicate 8 0)])),(108,some ((nv 0),.list z10 65 s21))] aa ww) ?_ (fun s21=>?_)
  ·
   refine gSR<|Zb Z<|z1v (fun (s22:(List UInt32) × Int) aa ww=>∃ nv:Nat→Value,Sta (ctx 203 H [] w) [(2,.val (z05 v1 0)),(4,.val (z05 v2 0)),(5,.val (nv 0)),(7,.rd z0c s22.2)] [(1,some (v1,.box 164 [.rd (z3r 8 z10) a0])),(2,some (v2,.box 164 [.rd (z3r 8 z10) (Vector.replicate 8 0)])),(108,some ((nv 0),.list z10 65 s22.1))] aa ww) (fun aa ww h=>⟨nvl [(n20 0)],Zu h [1,2,108]⟩) (fun s22=>?_)
   refine gEx fun n23=>z0l<|gSR<|Zm Z<|Zq (I.lss Z Z)<|Zj Z (fun h24=>?_) (fun h24=>?_)
   ·
    refine Zt<|z0l<|z49<|z0l<|zgc mixed (by kernel_rfl)<|Rq Z (mv Z)<|Rq Z (mv Z)<|Rq Z (I.sub Z Z)<|z80 fun x25 h26=>Rq Z (ixO 108 Z Z Z h26 tu217 z6s)<|Rq Z (ld 108 Z Z (Foc.el h26) za4 Z)<|Rq Z (mv Z)<|Rq Z (mv Z)<|Rq Z (I.sub Z Z)<|z80 fun x27 h28=>Rq Z (ixO 108 Z Z Z h28 tu217 z6s)<|Rq Z (ld 108 Z Z (Foc.el h28) za4 Z)<|Rq Z (asg Z)<|Rq Z (asg Z)<|zov<|z0f<|zro [(5,.val (n23 0)),(2,.val (z05 v1 0)),(4,.val (z05 v2 0)),(7,.rd z0c s22.2),(8,.rd z10 x25),(9,.rd z10 x27)] [(1,some (v1,.box 164 [.rd (z3r 8 z10) a0])),(2,some (v2,.box 164 [.rd (z3r 8 z10) (Vector.replicate 8 0)])),(108,some ((n23 0),.list z10 65 s22.1))] [1,2,108] (Zs Z Z Z Z<|sS Z<|sS Z<|sN) (Zi Z<|Zi Z<|Zi Z<|rN)<|z4s fun x29 h30=>z4s fun x31 h32=>z4s fun r33 h35=>z4s fun r36 h38=>z4s fun r39 h41=>z4s fun r42 h44=>z4s fun x45 h46=>gOr [(5,.val (n23 0),32)] [⟨108,some ([], fun nv=>((n23 0),.list z10 65 s22.1)),[(31,some ([2], fun nv=>((nv 2),.list z10 65 x45)))]⟩,⟨330,none,[(30,some ([1], fun nv=>((nv 1),.list z10 65 [((x29+x31)+((r33 ^^^ r36) ^^^ (z5d x25 3)))+((r39 ^^^ r42) ^^^ (z5d x27 10))])))]⟩] [⟨some (76,[], fun nv=>.val (n23 0)),[],[],[0]⟩,⟨some (77,[], fun nv=>.val (n23 0)),[],[],[0]⟩,pd 78 (.rd z0c s22.2),pd 79 (.rd z0c (w64 (s22.2 - 16))),pk 80 (.val (z05 (n23 0) ((w64 (s22.2 - 16):Int).toNat * 1))) [(0,0,false)],pk 81 (.rd z10 x29) [(0,0,false)],⟨some (82,[], fun nv=>.val (n23 0)),[],[],[0]⟩,pd 83 (.rd z0c s22.2),pd 84 (.rd z0c (w64 (s22.2 - 7))),pk 85 (.val (z05 (n23 0) ((w64 (s22.2 - 7):Int).toNat * 1))) [(0,0,false)],pk 86 (.rd z10 x31) [(0,0,false)],pd 87 (.rd z10 (x29+x31)),pd 88 (.rd z10 x25),pd 89 (.rd z10 r33),pd 90 (.rd z10 x25),pd 91 (.rd z10 r36),pd 92 (.rd z10 (r33 ^^^ r36)),pd 93 (.rd z10 x25),pd 94 (.rd z10 (z5d x25 3)),pd 95 (.rd z10 ((r33 ^^^ r36) ^^^ (z5d x25 3))),pd 96 (.rd z10 ((x29+x31)+((r33 ^^^ r36) ^^^ (z5d x25 3)))),pd 97 (.rd z10 x27),pd 98 (.rd z10 r39),pd 99 (.rd z10 x27),pd 100 (.rd z10 r42),pd 101 (.rd z10 (r39 ^^^ r42)),pd 102 (.rd z10 x27),pd 103 (.rd z10 (z5d x27 10)),pd 104 (.rd z10 ((r39 ^^^ r42) ^^^ (z5d x27 10))),pd 105 (.rd z10 (((x29+x31)+((r33 ^^^ r36) ^^^ (z5d x25 3)))+((r39 ^^^ r42) ^^^ (z5d x27 10)))),⟨some (106,[1], fun nv=>.val (nv 1)),[(1,0,true)],[1],[]⟩,⟨some (107,[2], fun nv=>.val (nv 2)),[(1,1,false),(0,0,true)],[2],[]⟩,⟨some (5,[2], fun nv=>.val (nv 2)),[],[],[]⟩] mixed (oC (oRn (fun nv E=>mv Z))<|oC (oRn (fun nv E=>mv Z))<|oC (oRn (fun nv E=>mv Z))<|oC (oRn (fun nv E=>I.sub Z Z))<|oC (oRn (fun nv E=>ixO 108 Z Z Z h30 tu217 z6s))<|oC (oRn (fun nv E=>ld 108 Z Z (Foc.el h30) za4 Z))<|oC (oRn (fun nv E=>mv Z))<|oC (oRn (fun nv E=>mv Z))<|oC (oRn (fun nv E=>I.sub Z Z))<|oC (oRn (fun nv E=>ixO 108 Z Z Z h32 tu217 z6s))<|oC (oRn (fun nv E=>ld 108 Z Z (Foc.el h32) za4 Z))<|oC (oRn (fun nv E=>W.add Z Z))<|oC (oRn (fun nv E=>mv Z))<|oC (oCl [] [] [] h35 Tryz.func205 Z (fun nv=>(z33 _ _)) (fun nv=>(Y2 Z Z)) (fun nv E=>rN))<|oC (oRn (fun nv E=>mv Z))<|oC (oCl [] [] [] h38 Tryz.func205 Z (fun nv=>(z33 _ _)) (fun nv=>(Y2 Z Z)) (fun nv E=>rN))<|oC (oRn (fun nv E=>W.xor Z Z))<|oC (oRn (fun nv E=>mv Z))<|oC (oRn (fun nv E=>W.shr Z Z (Int.natCast_nonneg _)))<|oC (oRn (fun nv E=>W.xor Z Z))<|oC (oRn (fun nv E=>W.add Z Z))<|oC (oRn (fun nv E=>mv Z))<|oC (oCl [] [] [] h41 Tryz.func205 Z (fun nv=>(z33 _ _)) (fun nv=>(Y2 Z Z)) (fun nv E=>rN))<|oC (oRn (fun nv E=>mv Z))<|oC (oCl [] [] [] h44 Tryz.func205 Z (fun nv=>(z33 _ _)) (fun nv=>(Y2 Z Z)) (fun nv E=>rN))<|oC (oRn (fun nv E=>W.xor Z Z))<|oC (oRn (fun nv E=>mv Z))<|oC (oRn (fun nv E=>W.shr Z Z (Int.natCast_nonneg _)))<|oC (oRn (fun nv E=>W.xor Z Z))<|oC (oRn (fun nv E=>W.add Z Z))<|oC (oEf 330 1 (fun nv E=>lit (R:=z10) ([((x29+x31)+((r33 ^^^ r36) ^^^ (z5d x25 3)))+((r39 ^^^ r42) ^^^ (z5d x27 10))]:List UInt32) 330 (pP Z Z<|pN) Z tu217 z6s Z Z))<|oC (oEf 108 2 (fun nv E=>apn 108 Z Z Z (.own 330 Z) h46 tu217 z6s Z Z Z))<|oC (oRn (fun nv E=>asg Z))<|oN) fun n47=>z2q<|z0f<|z1y<|Zm Z<|Zq (I.add Z Z)<|Za Z<|z1i 7 Z fun y48=>z1q<|z19 (fun aa ww h=>⟨nvl [(n47 2)],Zu h [1,2,108]⟩)
   ·
    refine z1k<|z0o<|z0r<|z3b (fun aa ww h=>⟨nvl [(n23 0)],Zu h [1,2,108]⟩)
  ·
   refine gEx fun n49=>gSR<|Zc [] [(100,331)] Tryz.func206 Z (zgo) fun r50 n51=>Zb Z<|gSR<|Zq (ld 1 Z Z fH zsk Z)<|Eb Z (z52 332 ziv (.zr (R:=(z3r 8 z10)) (x:=(Vector.replicate 8 0)) zsn)) fun v52=>Es (sto 332 Z Z fH Z ziv)<|Zn<|z5q (fun (s53:(Vector UInt32 8)) aa ww=>Sta (ctx 203 H [] w) [(2,.val (z05 v1 0)),(4,.val (z05 v2 0)),(11,.val (z05 v52 0))] [(1,some (v1,.box 164 [.rd (z3r 8 z10) a0])),(2,some (v2,.box 164 [.rd (z3r 8 z10) (Vector.replicate 8 0)])),(332,some (v52,.box 164 [.rd (z3r 8 z10) s53]))] aa ww) ?_ (fun s53=>?_)
   ·
    refine gSR<|Zb Z<|z1v (fun (s54:(Vector UInt32 8) × Int) aa ww=>Sta (ctx 203 H [] w) [(2,.val (z05 v1 0)),(4,.val (z05 v2 0)),(5,.val (n49 0)),(10,.val (n51 0)),(11,.val (z05 v52 0)),(12,.rd z0c s54.2)] [(1,some (v1,.box 164 [.rd (z3r 8 z10) a0])),(2,some (v2,.box 164 [.rd (z3r 8 z10) (Vector.replicate 8 0)])),(108,some ((n49 0),.list z10 65 s21)),(331,some ((n51 0),.list z10 65 r50)),(332,some (v52,.box 164 [.rd (z3r 8 z10) s54.1]))] aa ww) (fun aa ww h=>Zu h [1,2,108,331,332]) (fun s54=>?_)
    refine z0l<|gSR<|Zm Z<|Zq (I.lss Z Z)<|Zj Z (fun h55=>?_) (fun h55=>?_)
    ·
     refine Zt<|z0l<|z49<|z0l<|zgc mixed (by kernel_rfl)<|z80 fun x56 h57=>Rq Z (ixB 332 Z Z Z h57 tu164 z6s)<|Rq Z (ld 332 Z Z (fP (.el h57)) za4 Z)<|z80 fun x58 h59=>Rq Z (ixB 332 Z Z Z h59 tu164 z6s)<|Rq Z (ld 332 Z Z (fP (.el h59)) za4 Z)<|z80 fun x60 h61=>Rq Z (ixB 332 Z Z Z h61 tu164 z6s)<|Rq Z (ld 332 Z Z (fP (.el h61)) za4 Z)<|z80 fun x62 h63=>Rq Z (ixB 332 Z Z Z h63 tu164 z6s)<|Rq Z (ld 332 Z Z (fP (.el h63)) za4 Z)<|z80 fun x64 h65=>Rq Z (ixB 332 Z Z Z h65 tu164 z6s)<|Rq Z (ld 332 Z Z (fP (.el h65)) za4 Z)<|z80 fun x66 h67=>Rq Z (ixB 332 Z Z Z h67 tu164 z6s)<|Rq Z (ld 332 Z Z (fP (.el h67)) za4 Z)<|Rq Z (asg Z)<|Rq Z (asg Z)<|Rq Z (asg Z)<|Rq Z (asg Z)<|Rq Z (asg Z)<|Rq Z (asg Z)<|zov<|z0f<|z0l<|z57 [] mixed Z Z<|z3j fun x68 h69=>hTk 0 Z Z (ixB 332 Z Z Z h69 tu164 z6s)<|hTk 1 Z Z (ld 332 Z Z (fP (.el h69)) za4 Z)<|hTk 2 Z Z (mv Z)<|hTk 4 Z Z (mv Z)<|hTk 7 Z Z (mv Z)<|hTk 11 Z Z (mv Z)<|hTk 12 Z Z (mv Z)<|hTk 13 Z Z (W.and Z Z)<|hTk 14 Z Z (mv Z)<|hTk 15 Z Z (W.cpl Z)<|hTk 16 Z Z (mv Z)<|hTk 17 Z Z (W.and Z Z)<|hTk 18 Z Z (W.xor Z Z)<|hTk 20 Z Z (mv Z)<|hTk 21 Z Z (mv Z)<|z3j fun x70 h71=>hTk 22 Z Z (ixO 331 Z Z Z h71 tu217 z6s)<|hTk 23 Z Z (ld 331 Z Z (Foc.el h71) za4 Z)<|hTk 25 Z Z (mv Z)<|hTk 26 Z Z (mv Z)<|z3j fun x72 h73=>hTk 27 Z Z (ixO 108 Z Z Z h73 tu217 z6s)<|hTk 28 Z Z (ld 108 Z Z (Foc.el h73) za4 Z)<|z3h 3 [] [] Z (by kernel_rfl) Z (gd0 Z) Z Tryz.func205 Z Z (z33 _ _) (Y2 Z Z) rN Z (fun _ _=>z2j) fun r74 n75=>z3h 5 [] [] Z (by kernel_rfl) Z (gd0 Z) Z Tryz.func205 Z Z (z33 _ _) (Y2 Z Z) rN Z (fun _ _=>z2j) fun r76 n77=>hTk 6 Z Z (W.xor Z Z)<|z3h 8 [] [] Z (by kernel_rfl) Z (gd0 Z) Z Tryz.func205 Z Z (z33 _ _) (Y2 Z Z) rN Z (fun _ _=>z2j) fun r78 n79=>hTk 9 Z Z (W.xor Z Z)<|hTk 10 Z Z (W.add Z Z)<|hTk 19 Z Z (W.add Z Z)<|hTk 24 Z Z (W.add Z Z)<|hTk 29 Z Z (W.add Z Z)<|hTk 30 Z Z (asg Z)<|zu0 19 Z Z fun y80=>z3q (by kernel_rfl)<|z0f<|gSR<|Zm Z<|Zc [] [] Tryz.func205 Z (z33 _ _) fun r81 n82=>Zm Z<|Zc [] [] Tryz.func205 Z (z33 _ _) fun r83 n84=>Zq (W.xor Z Z)<|Zm Z<|Zc [] [] Tryz.func205 Z (z33 _ _) fun r85 n86=>Zq (W.xor Z Z)<|Zm Z<|Zm Z<|Zq (W.and Z Z)<|Zm Z<|Zm Z<|Zq (W.and Z Z)<|Zq (W.xor Z Z)<|Zm Z<|Zm Z<|Zq (W.and Z Z)<|Zq (W.xor Z Z)<|Zq (W.add Z Z)<|Za Z<|z1i 20 Z fun y87=>Zn<|z1y<|Zm Z<|Zm Z<|Zq (W.add Z Z)<|Zm Z<|Zm Z<|Zm Z<|z0j fun x88 h89=>Zq (ixB 332 Z Z Z h89 tu164 z6s)<|Zq (ld 332 Z Z (fP (.el h89)) za4 Z)<|Zm Z<|Zq (W.add Z Z)<|Zm Z<|Zm Z<|Zm Z<|Zq (litA (R:=z10) [y80+y87,x56,x58,x60,x88+y80,x62,x64,x66] (#v[y80+y87,x56,x58,x60,x88+y80,x62,x64,x66]:Vector UInt32 8) (pP Z Z<|pP Z Z<|pP Z Z<|pP Z Z<|pP Z Z<|pP Z Z<|pP Z Z<|pP Z Z<|pN) Z tu164 ziv Z z6s)<|Es (sto 332 Z Z fH Z ziv)<|z1q<|z2q<|z0f<|z1y<|Zm Z<|Zq (I.add Z Z)<|Za Z<|z1i 12 Z fun y90=>z1q<|z19 (fun aa ww h=>Zu h [1,2,108,331,332])
    ·
     refine z1k<|z0o<|z0r<|z3b (fun aa ww h=>Zu h [1,2,332])
   ·
    refine z5q (fun (s91:(Vector UInt32 8)) aa ww=>Sta (ctx 203 H [] w) [(2,.val (z05 v1 0)),(4,.val (z05 v2 0))] [(1,some (v1,.box 164 [.rd (z3r 8 z10) s91])),(2,some (v2,.box 164 [.rd (z3r 8 z10) (Vector.replicate 8 0)]))] aa ww) ?_ (fun s91=>?_)
    ·
     refine gSR<|Zb Z<|z1v (fun (s92:(Vector UInt32 8) × Int) aa ww=>Sta (ctx 203 H [] w) [(2,.val (z05 v1 0)),(4,.val (z05 v2 0)),(11,.val (z05 v52 0)),(21,.rd z0c s92.2)] [(1,some (v1,.box 164 [.rd (z3r 8 z10) s92.1])),(2,some (v2,.box 164 [.rd (z3r 8 z10) (Vector.replicate 8 0)])),(332,some (v52,.box 164 [.rd (z3r 8 z10) s53]))] aa ww) (fun aa ww h=>Zu h [1,2,332]) (fun s92=>?_)
     refine z0l<|gSR<|Zm Z<|Zq (I.lss Z Z)<|Zj Z (fun h93=>?_) (fun h93=>?_)
     ·
      refine Zt<|z0l<|z49<|z57 [1] mixed Z Z<|hTk 0 Z Z (mv Z)<|z3j fun x94 h95=>hTk 1 Z Z (ixB 1 Z Z Z h95 tu164 z6s)<|hTk 3 Z Z (mv Z)<|z3j fun x96 h97=>hTk 4 Z Z (ixB 332 Z Z Z h97 tu164 z6s)<|hTk 5 Z Z (ld 332 Z Z (fP (.el h97)) za4 Z)<|hRun 2 Z (by kernel_rfl) (gd0 Z) Z Z z2j (ld 1 Z Z (fP (.el h95)) za4 Z)<|hTk 6 Z Z (W.add Z Z)<|z3j fun x98 h99=>hTk 7 Z Z (ixB 1 Z Z Z h99 tu164 z6s)<|Zp 8 Z Z Z Z Z (sto 1 Z Z (fP (.el h99)) Z z6s)<|z3q (by kernel_rfl)<|z2q<|z0f<|z1y<|Zm Z<|Zq (I.add Z Z)<|Za Z<|z1i 21 Z fun y100=>z1q<|z19 (fun aa ww h=>Zu h [1,2,332])
     ·
      refine z1k<|z0o<|z0r<|z3b (fun aa ww h=>Zu h [1,2])
    ·
     refine gSR<|Zq (ld 1 Z Z fH zsk Z)<|Es (sto 2 Z Z fH Z ziv)<|Zn<|z0i<|zb6 [] [] Z (eC 2 Z Z zsk<|eN) (rN)
def z5r (a1:List UInt8) (s4:(Vector UInt32 8) × Int):Option (Sum ((Vector UInt32 8)) ((Vector UInt32 8) × Int)) :=
 if decide ((w64 (s4.2+64))≤(a1.length:Int)) then
  cut a1 s4.2 (w64 (s4.2+64)) >>= fun x6 =>
  zb2 s4.1 x6 >>= fun r8 =>
  some (w64 (s4.2+64)) >>= fun y10 =>
  some (.inr (r8,y10))
 else
  some (.inl s4.1)
def zaq (a0:Vector UInt32 8) (a1:List UInt8):Option ((Vector UInt32 8)) :=
 (iter (z5r a1) (a0,0)) >>= fun s3 =>
 some s3
theorem zj4 (a0:Vector UInt32 8) (a1:List UInt8):z1w Tryz.prog 136 [.rd (z3r 8 z10) a0,.rd (z02 u8R) a1] [] (zaq a0 a1) (fun r nv=>⟨[.rd (z3r 8 z10) r],[]⟩):=by
 refine z2e 21 Tryz.func136 Z Z Z fun H w=>?_
 refine gSR<|Eb Z (bx 1 Z) fun v1=>Eb Z (z52 2 ziv (.zr (R:=(z3r 8 z10)) (x:=(Vector.replicate 8 0)) zsn)) fun v2=>Zn<|z5q (fun (s3:(Vector UInt32 8)) aa ww=>Sta (ctx 21 H [] w) [(2,.val (z05 v1 0)),(4,.val (z05 v2 0))] [(1,some (v1,.box 164 [.rd (z3r 8 z10) s3])),(2,some (v2,.box 164 [.rd (z3r 8 z10) (Vector.replicate 8 0)]))] aa ww) ?_ (fun s3=>?_)
 ·
  refine gSR<|Zb Z<|z1v (fun (s4:(Vector UInt32 8) × Int) aa ww=>Sta (ctx 21 H [] w) [(1,.rd (z02 u8R) a1),(2,.val (z05 v1 0)),(4,.val (z05 v2 0)),(5,.rd z0c s4.2)] [(1,some (v1,.box 164 [.rd (z3r 8 z10) s4.1])),(2,some (v2,.box 164 [.rd (z3r 8 z10) (Vector.replicate 8 0)]))] aa ww) (fun aa ww h=>Zu h [1,2]) (fun s4=>?_)
  refine z0l<|gSR<|Zm Z<|Zq (I.add Z Z)<|Zm Z<|Zq (z2w Z .rd Z tu75)<|Zq (I.leq Z Z)<|Zj Z (fun h5=>?_) (fun h5=>?_)
  ·
   refine Zt<|z0l<|z49<|z57 [1] mixed Z Z<|hTk 1 Z Z (mv Z)<|hTk 2 Z Z (mv Z)<|hTk 3 Z Z (mv Z)<|hTk 4 Z Z (I.add Z Z)<|z3j fun x6 h7=>hTk 5 Z Z (zxj Z (.to Z) (.to Z) h7 tu75 ti5)<|hRun 0 Z (by kernel_rfl) (gd0 Z) Z Z anyJ (ld 1 Z Z fH zsk Z)<|zhn 6 [] [] Z (by kernel_rfl) Z (gd0 Z) Z Tryz.func176 Z Z (ziz _ _) (Y2 Z Z) rN Z fun r8 n9=>Zp 7 Z Z Z Z Z (sto 1 Z Z fH Z ziv)<|z3q (by kernel_rfl)<|z2q<|z0f<|z1y<|Zm Z<|Zq (I.add Z Z)<|Za Z<|z1i 5 Z fun y10=>z1q<|z19 (fun aa ww h=>Zu h [1,2])
  ·
   refine z1k<|z0o<|z0r<|z3b (fun aa ww h=>Zu h [1,2])
 ·
  refine gSR<|Zq (ld 1 Z Z fH zsk Z)<|Es (sto 2 Z Z fH Z ziv)<|Zn<|z0i<|zb6 [] [] Z (eC 2 Z Z zsk<|eN) (rN)
def z59 (a0:Vector UInt32 8) (s5:V3 × Int):Option (Sum (V3) (V3 × Int)) :=
 if decide (s5.2<32) then
  z8s a0 (w64 (Int.tdiv s5.2 4)) >>= fun x7 =>
  chk (0≤w64 (24 - (w64 (8 * (Int.tmod s5.2 4))))) >>= fun u9 =>
  z8s s5.1 s5.2 >>= fun x11 =>
  some (w64 (s5.2+1)) >>= fun y13 =>
  some (.inr (zki s5.1 s5.2 ((z5d x7 ((w64 (24 - (w64 (8 * (Int.tmod s5.2 4)))):Int).toNat)).toUInt8),y13))
 else
  some (.inl s5.1)
def za3 (a0:Vector UInt32 8):Option (V3) :=
 (iter (z59 a0) ((Vector.replicate 32 0),0)) >>= fun s4 =>
 some s4
theorem zi9 (a0:Vector UInt32 8):z1w Tryz.prog 135 [.rd (z3r 8 z10) a0] [] (za3 a0) (fun r nv=>⟨[.rd aZ r],[]⟩):=by
 refine z2e 22 Tryz.func135 Z Z Z fun H w=>?_
 refine gSR<|Eb Z (bx 1 Z) fun v1=>Eb Z (z52 2 z1g (.zr (R:=aZ) (x:=(Vector.replicate 32 0)) zf5)) fun v2=>Zn<|gSR<|Eb Z (z52 3 z1g (.zr (R:=aZ) (x:=(Vector.replicate 32 0)) zf5)) fun v3=>Zn<|z5q (fun (s4:V3) aa ww=>Sta (ctx 22 H [] w) [(2,.val (z05 v2 0)),(3,.val (z05 v3 0))] [(2,some (v2,.box 62 [.rd aZ (Vector.replicate 32 0)])),(3,some (v3,.box 62 [.rd aZ s4]))] aa ww) ?_ (fun s4=>?_)
 ·
  refine gSR<|Zb Z<|z1v (fun (s5:V3 × Int) aa ww=>Sta (ctx 22 H [] w) [(1,.val (z05 v1 0)),(2,.val (z05 v2 0)),(3,.val (z05 v3 0)),(4,.rd z0c s5.2)] [(1,some (v1,.box 164 [.rd (z3r 8 z10) a0])),(2,some (v2,.box 62 [.rd aZ (Vector.replicate 32 0)])),(3,some (v3,.box 62 [.rd aZ s5.1]))] aa ww) (fun aa ww h=>Zu h [1,2,3]) (fun s5=>?_)
  refine z0l<|gSR<|Zm Z<|Zq (I.lss Z Z)<|Zj Z (fun h6=>?_) (fun h6=>?_)
  ·
   refine Zt<|z0l<|z49<|z1y<|Zm Z<|Zm Z<|Zq (I.quo Z Z (by decide))<|z0j fun x7 h8=>Zq (ixB 1 Z Z Z h8 tu164 z6s)<|Zq (ld 1 Z Z (fP (.el h8)) za4 Z)<|Zm Z<|Zq (I.rem Z Z (by decide))<|Zq (I.mul Z Z)<|Zq (I.sub Z Z)<|z0j fun u9 h10=>Zq (W.shr Z Z (z4e h10))<|Zq (W.toB Z tu65 tu5)<|z0j fun x11 h12=>Zq (ixB 3 Z Z Z h12 tu62 ti5)<|Es (sto 3 Z Z (fP (.el h12)) Z ti5)<|z1q<|z2q<|z0f<|z1y<|Zm Z<|Zq (I.add Z Z)<|Za Z<|z1i 4 Z fun y13=>z1q<|z19 (fun aa ww h=>Zu h [1,2,3])
  ·
   refine z1k<|z0o<|z0r<|z3b (fun aa ww h=>Zu h [2,3])
 ·
  refine gSR<|Zq (ld 3 Z Z fH z36 Z)<|Es (sto 2 Z Z fH Z z1g)<|Zn<|z0i<|zb6 [] [] Z (eC 2 Z Z z36<|eN) (rN)
def zcd (a0:List UInt8):Option (V3) :=
 zdx >>= fun r2 =>
 app 1 ([]:List UInt8) a0 >>= fun x5 =>
 zcm (a0.length:Int) >>= fun r8 =>
 app 1 x5 r8 >>= fun x10 =>
 zaq r2 x10 >>= fun r13 =>
 za3 r13 >>= fun r15 =>
 some r15
end
section
open Go Go.RowKit
set_option maxRecDepth 100000
theorem zh9 (a0:List UInt8):z1w Tryz.prog 95 [.rd (z02 u8R) a0] [] (zcd a0) (fun r nv=>⟨[.rd aZ r],[]⟩):=by
 refine z2e 13 Tryz.func95 Z Z Z fun H w=>?_
 refine gSR<|Eb Z (z52 1 z1g (.zr (R:=aZ) (x:=(Vector.replicate 32 0)) zf5)) fun v1=>Zn<|gSR<|Zc [] [] Tryz.func137 Z (zjt) fun r2 n3=>Ef Z (lit (R:=u8R) (([]:List UInt8):List UInt8) 2 (pN) Z tu75 ti5 Z Z) fun v4=>Zm Z<|z0j fun x5 h6=>Ef Z (apn 2 Z Z Z .rd h6 tu75 ti5 Z Z Z) fun v7=>Zm Z<|Zq (z2w Z .rd Z tu75)<|Zc [] [(100,3)] Tryz.func138 Z (zl0 _) fun r8 n9=>z0j fun x10 h11=>Ef Z (apn 2 Z Z Z (.own 3 Z) h11 tu75 ti5 Z Z Z) fun v12=>zjd 2 [10] Z (fS Z<|fN)<|Zc [] [] Tryz.func136 Z (zj4 _ _) fun r13 n14=>Zc [] [] Tryz.func135 Z (zi9 _) fun r15 n16=>Es (sto 1 Z Z fH Z z1g)<|Zn<|z0i<|zb6 [] [] Z (eC 1 Z Z z36<|eN) (rN)
def zcv (a0:z0b):Option (V3) :=
 z9j a0 >>= fun r3 =>
 zcd r3 >>= fun r5 =>
 some r5
theorem zh8 (a0:z0b):z1w Tryz.prog 58 [.rd z03 a0] [] (zcv a0) (fun r nv=>⟨[.rd aZ r],[]⟩):=by
 refine z2e 6 Tryz.func58 Z Z Z fun H w=>?_
 refine gSR<|Eb Z (bx 1 Z) fun v1=>Eb Z (z52 2 z1g (.zr (R:=aZ) (x:=(Vector.replicate 32 0)) zf5)) fun v2=>Zn<|gSR<|Zq (ld 1 Z Z fH zcs Z)<|Zc [] [(100,3)] Tryz.func96 Z (zeq _) fun r3 n4=>zjd 3 [4] Z (fS Z<|fN)<|Zc [] [] Tryz.func95 Z (zh9 _) fun r5 n6=>Es (sto 2 Z Z fH Z z1g)<|Zn<|z0i<|zb6 [] [] Z (eC 2 Z Z z36<|eN) (rN)
def z8f (a0:V3) (a1:V3) (s4:Int):Option (Sum (Sum Int Unit) Int) :=
 if decide (s4<32) then
  z8s a0 s4 >>= fun x6 =>
  z8s a1 s4 >>= fun x8 =>
  if decide (x6<x8) then
   some (.inl (.inl (-1)))
  else
   z8s a0 s4 >>= fun x11 =>
   z8s a1 s4 >>= fun x13 =>
   if decide (x13<x11) then
    some (.inl (.inl 1))
   else
    some (.inr (w64 (s4+1)))
 else
  some (.inl (.inr ()))
def z7y (a0:V3) (a1:V3):Option (Int) :=
 z61 (iter (z8f a0 a1) 0) fun s3 =>
 some 0
theorem zd5 (a0:V3) (a1:V3):z1w Tryz.prog 110 [.rd aZ a0,.rd aZ a1] [] (z7y a0 a1) (fun r nv=>⟨[.rd z0c r],[]⟩):=by
 refine z2e 24 Tryz.func110 Z Z Z fun H w=>?_
 refine gSR<|Eb Z (bx 1 Z) fun v1=>Eb Z (bx 2 Z) fun v2=>Zb Z<|z83 (fun (s3:Unit) aa ww=>Sta (ctx 24 H [] w) [] [] aa ww) ?_ (fun s3=>?_)
 ·
  refine gSR<|Zb Z<|z1v (fun (s4:Int) aa ww=>Sta (ctx 24 H [] w) [(2,.val (z05 v1 0)),(3,.val (z05 v2 0)),(5,.rd z0c s4)] [(1,some (v1,.box 62 [.rd aZ a0])),(2,some (v2,.box 62 [.rd aZ a1]))] aa ww) (fun aa ww h=>Zu h [1,2]) (fun s4=>?_)
  refine z0l<|gSR<|Zm Z<|Zq (I.lss Z Z)<|Zj Z (fun h5=>?_) (fun h5=>?_)
  ·
   refine Zt<|z0l<|z49<|z0l<|z0l<|zgc mixed (by kernel_rfl)<|Rq Z (mv Z)<|z80 fun x6 h7=>Rq Z (ixB 1 Z Z Z h7 tu62 ti5)<|Rq Z (ld 1 Z Z (fP (.el h7)) ty5 Z)<|Rq Z (mv Z)<|z80 fun x8 h9=>Rq Z (ixB 2 Z Z Z h9 tu62 ti5)<|Rq Z (ld 2 Z Z (fP (.el h9)) ty5 Z)<|Rq Z (B.lss Z Z)<|zov<|z0f<|gIf Z Z (fun h10=>?_) (fun h10=>?_)
   ·
    refine gSR<|Zb Z<|z0i<|z0v<|z47<|z0v<|z7z<|z5h<|Ze [] [] Z
   ·
    refine Zt<|z0l<|zgc mixed (by kernel_rfl)<|Rq Z (mv Z)<|z80 fun x11 h12=>Rq Z (ixB 1 Z Z Z h12 tu62 ti5)<|Rq Z (ld 1 Z Z (fP (.el h12)) ty5 Z)<|Rq Z (mv Z)<|z80 fun x13 h14=>Rq Z (ixB 2 Z Z Z h14 tu62 ti5)<|Rq Z (ld 2 Z Z (fP (.el h14)) ty5 Z)<|Rq Z (B.gtr Z Z)<|zov<|z0f<|gIf Z Z (fun h15=>?_) (fun h15=>?_)
    ·
     refine gSR<|Zb Z<|z0i<|z47<|z0v<|z7z<|z5h<|Ze [] [] Z
    ·
     refine z29<|z2q<|z0f<|z1y<|Zm Z<|Zq (I.add Z Z)<|Za Z<|z1q<|z19 (fun aa ww h=>Zu h [1,2])
  ·
   refine z1k<|z0o<|z0r<|z4y (fun aa ww h=>Zu h [])
 ·
  refine gSR<|Zb Z<|z0i<|Ze [] [] Z
def z4n (a0:List V3) (s2:Int):Option (Sum (Sum Bool Unit) Int) :=
 if decide (s2<(a0.length:Int)) then
  idx a0 (w64 (s2 - 1)) >>= fun x4 =>
  idx a0 s2 >>= fun x6 =>
  z7y x4 x6 >>= fun r8 =>
  if decide (0≤r8) then
   some (.inl (.inl false))
  else
   some (.inr (w64 (s2+1)))
 else
  some (.inl (.inr ()))
def z4w (a0:List V3):Option (Bool) :=
 z61 (iter (z4n a0) 1) fun s1 =>
 some true
theorem zbf (a0:List V3):z1w Tryz.prog 108 [.rd (z02 aZ) a0] [] (z4w a0) (fun r nv=>⟨[.rd z0g r],[]⟩):=by
 refine z2e 21 Tryz.func108 Z Z Z fun H w=>?_
 refine gSR<|Zb Z<|z83 (fun (s1:Unit) aa ww=>Sta (ctx 21 H [] w) [] [] aa ww) ?_ (fun s1=>?_)
 ·
  refine gSR<|Zb Z<|z1v (fun (s2:Int) aa ww=>Sta (ctx 21 H [] w) [(0,.rd (z02 aZ) a0),(3,.rd z0c s2)] [] aa ww) (fun aa ww h=>Zu h []) (fun s2=>?_)
  refine z0l<|gSR<|Zm Z<|Zm Z<|Zq (z2w Z .rd Z tu22)<|Zq (I.lss Z Z)<|Zj Z (fun h3=>?_) (fun h3=>?_)
  ·
   refine Zt<|z0l<|z49<|z0l<|z57 [] mixed Z Z<|hTk 0 Z Z (mv Z)<|hTk 1 Z Z (mv Z)<|hTk 2 Z Z (I.sub Z Z)<|z3j fun x4 h5=>hTk 3 Z Z (ixR Z Z h5 tu22 z1g Z)<|hTk 4 Z Z (ldR Z z36)<|hTk 5 Z Z (mv Z)<|hTk 6 Z Z (mv Z)<|z3j fun x6 h7=>hTk 7 Z Z (ixR Z Z h7 tu22 z1g Z)<|hTk 8 Z Z (ldR Z z36)<|z3h 9 [] [] Z (by kernel_rfl) Z (gd0 Z) Z Tryz.func110 Z Z (zd5 _ _) (Y2 Z Z) rN Z (fun _ _=>z2j) fun r8 n9=>hTk 10 Z Z (I.geq Z Z)<|z3q (by kernel_rfl)<|z0f<|gIf Z Z (fun h10=>?_) (fun h10=>?_)
   ·
    refine gSR<|Zb Z<|z0i<|z47<|z0v<|z7z<|z5h<|Ze [] [] Z
   ·
    refine z29<|z2q<|z0f<|z1y<|Zm Z<|Zq (I.add Z Z)<|Za Z<|z1q<|z19 (fun aa ww h=>Zu h [])
  ·
   refine z1k<|z0o<|z0r<|z4y (fun aa ww h=>Zu h [])
 ·
  refine gSR<|Zb Z<|z0i<|Ze [] [] Z
def z6o (a2:UInt64) (s2:UInt64 × UInt64 × UInt64):Option (Sum UInt64 (UInt64 × UInt64 × UInt64)) :=
 if decide (0<s2.2.1) then
  (if (s2.2.1 % 2)==1 then
   chk (a2≠0) >>= fun u6 =>
   some ((s2.2.2 * s2.1) % a2) >>= fun y8 =>
   some y8
  else
   some s2.2.2) >>= fun s4 =>
  chk (a2≠0) >>= fun u9 =>
  some ((s2.1 * s2.1) % a2) >>= fun y11 =>
  some (.inr (y11,s2.2.1 / 2,s4))
 else
  some (.inl s2.2.2)
def z97 (a0:UInt64) (a1:UInt64) (a2:UInt64):Option (UInt64) :=
 (iter (z6o a2) (a0,a1,1)) >>= fun s1 =>
 some s1
theorem zeo (a0:UInt64) (a1:UInt64) (a2:UInt64):z1w Tryz.prog 184 [.rd z2k a0,.rd z2k a1,.rd z2k a2] [] (z97 a0 a1 a2) (fun r nv=>⟨[.rd z2k r],[]⟩):=by
 refine z2e 26 Tryz.func184 Z Z Z fun H w=>?_
 refine gSR<|Zb Z<|gSR<|Zb Z<|z5q (fun (s1:UInt64) aa ww=>Sta (ctx 26 H [] w) [(7,.rd z2k s1)] [] aa ww) ?_ (fun s1=>?_)
 ·
  refine z1v (fun (s2:UInt64 × UInt64 × UInt64) aa ww=>Sta (ctx 26 H [] w) [(0,.rd z2k s2.1),(1,.rd z2k s2.2.1),(2,.rd z2k a2),(7,.rd z2k s2.2.2)] [] aa ww) (fun aa ww h=>Zu h []) (fun s2=>?_)
  refine z0l<|gSR<|Zm Z<|Zq (U.gtr Z Z)<|Zj Z (fun h3=>?_) (fun h3=>?_)
  ·
   refine Zt<|z49<|z5q (fun (s4:UInt64) aa ww=>Sta (ctx 26 H [] w) [(0,.rd z2k s2.1),(1,.rd z2k s2.2.1),(2,.rd z2k a2),(7,.rd z2k s4)] [] aa ww) ?_ (fun s4=>?_)
   ·
    refine gSR<|Zm Z<|Zq (U.rem Z Z (by decide))<|Zq (U.eql Z Z)<|Zj Z (fun h5=>?_) (fun h5=>?_)
    ·
     refine z1y<|Zm Z<|Zm Z<|Zq (U.mul Z Z)<|Zm Z<|z0j fun u6 h7=>Zq (U.rem Z Z (z4e h7))<|Za Z<|z1i 7 Z fun y8=>z1q<|z3b (fun aa ww h=>Zu h [])
    ·
     refine z29<|z3b (fun aa ww h=>Zu h [])
   ·
    refine gSR<|Zm Z<|Zm Z<|Zq (U.mul Z Z)<|Zm Z<|z0j fun u9 h10=>Zq (U.rem Z Z (z4e h10))<|Za Z<|z1i 0 Z fun y11=>Zn<|z1y<|Zm Z<|Zq (U.quo Z Z (by decide))<|Za Z<|z1q<|z2q<|z19 (fun aa ww h=>Zu h [])
  ·
   refine z1k<|z0o<|z0r<|z3b (fun aa ww h=>Zu h [])
 ·
  refine gSR<|Zm Z<|Zb Z<|z0i<|Ze [] [] Z
def zcu (a0:UInt32):Option (Bool) :=
 if decide (1≤a0) then
  if decide (a0<1000000007) then
   z97 a0.toUInt64 500000003 1000000007 >>= fun r3 =>
   some (r3==1)
  else
   some false
 else
  some false
theorem zh7 (a0:UInt32):z1w Tryz.prog 147 [.rd z10 a0] [] (zcu a0) (fun r nv=>⟨[.rd z0g r],[]⟩):=by
 refine z2e 15 Tryz.func147 Z Z Z fun H w=>?_
 refine gSR<|Zb Z<|gSR<|Zm Z<|Zq (W.geq Z Z)<|Zm Z<|z1d 5 Z (fun h1=>?_) (fun h1=>?_)
 ·
  refine lKn 4 Z h1<|z0y Zx Z Z (mv Z)<|z0y Zx Z Z (W.lss Z Z)<|Zq (pkT Z Z)<|Zm Z<|z1d 9 Z (fun h2=>?_) (fun h2=>?_)
  ·
   refine lKn 7 Z h2<|lKn 8 Z h2<|z0y Zx Z Z (mv Z)<|z0y Zx Z Z (W.toU Z tu65 tu41)<|ze0 [] [] Zx Z Tryz.func184 Z Z (zeo _ _ _) (aQ Z<|aQ Z<|aQ Z<|aN) rN fun r3 n4=>z0y Zx Z Z (U.eql Z Z)<|Zq (pkT Z Z)<|Zb Z<|z0i<|Ze [] [] Z
  ·
   refine lKn 7 Z h2<|lKn 8 Z h2<|Zk Z<|Zk Z<|Zk Z<|Zk Z<|Zq (pkF Z Z)<|Zb Z<|z0i<|Ze [] [] Z
 ·
  refine lKn 4 Z h1<|Zk Z<|Zk Z<|Zq (pkF Z Z)<|Zm Z<|Zk Z<|Zk Z<|Zk Z<|Zk Z<|Zq (pkF Z Z)<|Zb Z<|z0i<|Ze [] [] Z
def z7c (a0:List UInt8) (s4:Int):Option (Sum (Sum Bool Unit) Int) :=
 if decide (s4<(a0.length:Int)) then
  idx a0 s4 >>= fun x6 =>
  if decide (x6<33) then
   some (.inl (.inl false))
  else
   idx a0 s4 >>= fun x9 =>
   if decide (126<x9) then
    some (.inl (.inl false))
   else
    some (.inr (w64 (s4+1)))
 else
  some (.inl (.inr ()))
def zaj (a0:List UInt8):Option (Bool) :=
 if decide ((a0.length:Int)<1) then
  some false
 else
  if decide (20<(a0.length:Int)) then
   some false
  else
   z61 (iter (z7c a0) 0) fun s3 =>
   some true
theorem zfo (a0:List UInt8):z1w Tryz.prog 185 [.rd zkh a0] [] (zaj a0) (fun r nv=>⟨[.rd z0g r],[]⟩):=by
 refine z2e 28 Tryz.func185 Z Z Z fun H w=>?_
 refine gSR<|Zb Z<|z0l<|gSR<|Zm Z<|Zq (lenT Z Z tu9)<|Zq (I.lss Z Z)<|Zm Z<|z1d 7 Z (fun h1=>?_) (fun h1=>?_)
 ·
  refine lKn 6 Z h1<|Zk Z<|Zk Z<|Zk Z<|Zq (pkT Z Z)<|Zn<|zf9 Z<|gSR<|Zb Z<|z0i<|z0v<|Ze [] [] Z
 ·
  refine lKn 6 Z h1<|z0y Zx Z Z (mv Z)<|z0y Zx Z Z (lenT Z Z tu9)<|z0y Zx Z Z (I.gtr Z Z)<|Zq (pkF Z Z)<|Zj Z (fun h2=>?_) (fun h2=>?_)
  ·
   refine gKn 10 Z h2<|gSR<|Zb Z<|z0i<|z0v<|Ze [] [] Z
  ·
   refine gKn 10 Z h2<|Zt<|z83 (fun (s3:Unit) aa ww=>Sta (ctx 28 H [] w) [] [] aa ww) ?_ (fun s3=>?_)
   ·
    refine gSR<|Zb Z<|z1v (fun (s4:Int) aa ww=>Sta (ctx 28 H [] w) [(0,.rd zkh a0),(3,.rd z0c s4)] [] aa ww) (fun aa ww h=>Zu h []) (fun s4=>?_)
    refine z0l<|gSR<|Zm Z<|Zm Z<|Zq (lenT Z Z tu9)<|Zq (I.lss Z Z)<|Zj Z (fun h5=>?_) (fun h5=>?_)
    ·
     refine Zt<|z0l<|z49<|gSR<|Zm Z<|Zm Z<|z0j fun x6 h7=>Zq (idxT Z Z tu9 (z60 h7).1 (z60 h7).2.1)<|Zq (B.lss Z Z)<|Zm Z<|z1d 22 Z (fun h8=>?_) (fun h8=>?_)
     ·
      refine lKn 21 Z h8<|Zk Z<|Zk Z<|Zk Z<|Zk Z<|Zq (pkT Z Z)<|Zn<|zf9 Z<|gSR<|Zb Z<|z0i<|z47<|z0v<|z7z<|z5h<|Ze [] [] Z
     ·
      refine lKn 21 Z h8<|z0y Zx Z Z (mv Z)<|z0y Zx Z Z (mv Z)<|z0j fun x9 h10=>z0y Zx Z Z (idxT Z Z tu9 (z60 h10).1 (z60 h10).2.1)<|z0y Zx Z Z (B.gtr Z Z)<|Zq (pkF Z Z)<|Zj Z (fun h11=>?_) (fun h11=>?_)
      ·
       refine gKn 26 Z h11<|gSR<|Zb Z<|z0i<|z47<|z0v<|z7z<|z5h<|Ze [] [] Z
      ·
       refine gKn 26 Z h11<|z29<|z2q<|z0f<|z1y<|Zm Z<|Zq (I.add Z Z)<|Za Z<|z1q<|z19 (fun aa ww h=>Zu h [])
    ·
     refine z1k<|z0o<|z0r<|z4y (fun aa ww h=>Zu h [])
   ·
    refine gSR<|Zb Z<|z0i<|Ze [] [] Z
def z8w (a0:UInt64):Option (Int) :=
 some (w64 (((a0 % 9223372036854775808) / 4503599627370496).toNat:Int)) >>= fun y1 =>
 some y1
theorem zhh (a0:UInt64):z1w Tryz.prog 235 [.rd z2k a0] [] (z8w a0) (fun r nv=>⟨[.rd z0c r],[]⟩):=by
 refine z2e 7 Tryz.func235 Z Z Z fun H w=>?_
 refine gSR<|Zb Z<|gSR<|Zm Z<|Zq (U.rem Z Z (by decide))<|Zq (U.quo Z Z (by decide))<|Zq (U.toI Z tu41 tu3)<|Za Z<|z1i 2 Z fun y1=>Zn<|z0i<|Ze [] [] Z
def zc1 (a0:UInt64):Option (UInt64) :=
 some (a0 % 4503599627370496) >>= fun y1 =>
 some y1
theorem zhj (a0:UInt64):z1w Tryz.prog 236 [.rd z2k a0] [] (zc1 a0) (fun r nv=>⟨[.rd z2k r],[]⟩):=by
 refine z2e 5 Tryz.func236 Z Z Z fun H w=>?_
 refine gSR<|Zb Z<|gSR<|Zm Z<|Zq (U.rem Z Z (by decide))<|Za Z<|z1i 2 Z fun y1=>Zn<|z0i<|Ze [] [] Z
def zbs (a0:UInt64):Option (UInt8) :=
 z8w a0 >>= fun r1 =>
 zc1 a0 >>= fun r3 =>
 z61 (if r1==0 then
  if r3==0 then
   some (.inl 1)
  else
   some (.inr ())
 else
  some (.inr ())) fun s5 =>
 if r1==0 then
  some 2
 else
  if decide (r1<2047) then
   some 3
  else
   if r3==0 then
    some 4
   else
    some 5
theorem zkf (a0:UInt64):z1w Tryz.prog 228 [.rd z2k a0] [] (zbs a0) (fun r nv=>⟨[.rd u8R r],[]⟩):=by
 refine z2e 21 Tryz.func228 Z Z Z fun H w=>?_
 refine gSR<|Zb Z<|gSR<|Zm Z<|Zc [] [] Tryz.func235 Z (zhh _) fun r1 n2=>Zm Z<|Zc [] [] Tryz.func236 Z (zhj _) fun r3 n4=>Za Z<|Zb Z<|z83 (fun (s5:Unit) aa ww=>Sta (ctx 21 H [] w) [(3,.rd z0c r1),(4,.rd z2k r3)] [] aa ww) ?_ (fun s5=>?_)
 ·
  refine gSR<|Zm Z<|Zq (I.eql Z Z)<|Zm Z<|z1d 11 Z (fun h6=>?_) (fun h6=>?_)
  ·
   refine lKn 10 Z h6<|z0y Zx Z Z (mv Z)<|z0y Zx Z Z (U.eql Z Z)<|Zq (pkT Z Z)<|Zj Z (fun h7=>?_) (fun h7=>?_)
   ·
    refine gKn 13 Z h7<|gSR<|Zb Z<|z0i<|z5h<|Ze [] [] Z
   ·
    refine gKn 13 Z h7<|z29<|z4y (fun aa ww h=>Zu h [])
  ·
   refine lKn 10 Z h6<|Zk Z<|Zk Z<|Zq (pkF Z Z)<|Zn<|zc3 Z<|z29<|z4y (fun aa ww h=>Zu h [])
 ·
  refine z0l<|gSR<|Zm Z<|Zq (I.eql Z Z)<|Zj Z (fun h8=>?_) (fun h8=>?_)
  ·
   refine gSR<|Zb Z<|z0i<|z0v<|Ze [] [] Z
  ·
   refine Zt<|z0l<|gSR<|Zm Z<|Zq (I.lss Z Z)<|Zj Z (fun h9=>?_) (fun h9=>?_)
   ·
    refine gSR<|Zb Z<|z0i<|z0v<|Ze [] [] Z
   ·
    refine Zt<|z0l<|gSR<|Zm Z<|Zq (U.eql Z Z)<|Zj Z (fun h10=>?_) (fun h10=>?_)
    ·
     refine gSR<|Zb Z<|z0i<|z0v<|Ze [] [] Z
    ·
     refine Zt<|gSR<|Zb Z<|z0i<|Ze [] [] Z
def zbz (a0:UInt64):Option (UInt64) :=
 zbs a0 >>= fun r1 =>
 if r1==5 then
  some 9221120237041090560
 else
  some a0
theorem zk1 (a0:UInt64):z1w Tryz.prog 210 [.rd z2k a0] [] (zbz a0) (fun r nv=>⟨[.rd z2k r],[]⟩):=by
 refine z2e 7 Tryz.func210 Z Z Z fun H w=>?_
 refine gSR<|Zb Z<|z0l<|gSR<|Zm Z<|Zc [] [] Tryz.func228 Z (zkf _) fun r1 n2=>Zq (B.eql Z Z)<|Zj Z (fun h3=>?_) (fun h3=>?_)
 ·
  refine gSR<|Zb Z<|z0i<|z0v<|Ze [] [] Z
 ·
  refine Zt<|gSR<|Zm Z<|Zb Z<|z0i<|Ze [] [] Z
def z4j (a0:List UInt8) (s2:Int):Option (Sum (Sum Bool Unit) Int) :=
 if decide (s2<(a0.length:Int)) then
  idx a0 s2 >>= fun x4 =>
  if decide (x4<32) then
   some (.inl (.inl false))
  else
   idx a0 s2 >>= fun x7 =>
   if decide (126<x7) then
    some (.inl (.inl false))
   else
    some (.inr (w64 (s2+1)))
 else
  some (.inl (.inr ()))
def z8d (a0:List UInt8):Option (Bool) :=
 z61 (iter (z4j a0) 0) fun s1 =>
 some true
theorem zgz (a0:List UInt8):z1w Tryz.prog 211 [.rd zkh a0] [] (z8d a0) (fun r nv=>⟨[.rd z0g r],[]⟩):=by
 refine z2e 20 Tryz.func211 Z Z Z fun H w=>?_
 refine gSR<|Zb Z<|z83 (fun (s1:Unit) aa ww=>Sta (ctx 20 H [] w) [] [] aa ww) ?_ (fun s1=>?_)
 ·
  refine gSR<|Zb Z<|z1v (fun (s2:Int) aa ww=>Sta (ctx 20 H [] w) [(0,.rd zkh a0),(3,.rd z0c s2)] [] aa ww) (fun aa ww h=>Zu h []) (fun s2=>?_)
  refine z0l<|gSR<|Zm Z<|Zm Z<|Zq (lenT Z Z tu9)<|Zq (I.lss Z Z)<|Zj Z (fun h3=>?_) (fun h3=>?_)
  ·
   refine Zt<|z0l<|z49<|gSR<|Zm Z<|Zm Z<|z0j fun x4 h5=>Zq (idxT Z Z tu9 (z60 h5).1 (z60 h5).2.1)<|Zq (B.lss Z Z)<|Zm Z<|z1d 14 Z (fun h6=>?_) (fun h6=>?_)
   ·
    refine lKn 13 Z h6<|Zk Z<|Zk Z<|Zk Z<|Zk Z<|Zq (pkT Z Z)<|Zn<|zf9 Z<|gSR<|Zb Z<|z0i<|z47<|z0v<|z7z<|z5h<|Ze [] [] Z
   ·
    refine lKn 13 Z h6<|z0y Zx Z Z (mv Z)<|z0y Zx Z Z (mv Z)<|z0j fun x7 h8=>z0y Zx Z Z (idxT Z Z tu9 (z60 h8).1 (z60 h8).2.1)<|z0y Zx Z Z (B.gtr Z Z)<|Zq (pkF Z Z)<|Zj Z (fun h9=>?_) (fun h9=>?_)
    ·
     refine gKn 18 Z h9<|gSR<|Zb Z<|z0i<|z47<|z0v<|z7z<|z5h<|Ze [] [] Z
    ·
     refine gKn 18 Z h9<|z29<|z2q<|z0f<|z1y<|Zm Z<|Zq (I.add Z Z)<|Za Z<|z1q<|z19 (fun aa ww h=>Zu h [])
  ·
   refine z1k<|z0o<|z0r<|z4y (fun aa ww h=>Zu h [])
 ·
  refine gSR<|Zb Z<|z0i<|Ze [] [] Z
def zbo (a0:z09):Option (Int) :=
 if a0.Kind==1 then
  if a0.Bits==0 then
   if a0.Text==[] then
    some 0
   else
    some 8
  else
   some 8
 else
  if a0.Kind==2 then
   (if a0.Num==0 then
    if a0.Text==[] then
     zbz a0.Bits >>= fun r9 =>
     some (r9==a0.Bits)
    else
     some false
   else
    some false) >>= fun s6 =>
   if s6 then
    some 0
   else
    some 8
  else
   if a0.Kind==3 then
    (if a0.Num==0 then
     if a0.Bits==0 then
      if decide ((a0.Text.length:Int)≤30) then
       z8d a0.Text >>= fun r17 =>
       some r17
      else
       some false
     else
      some false
    else
     some false) >>= fun s13 =>
    if s13 then
     some 0
    else
     some 8
   else
    some 8
theorem zk4 (a0:z09):z1w Tryz.prog 186 [.rd z2d a0] [] (zbo a0) (fun r nv=>⟨[.rd z0c r],[]⟩):=by
 refine z2e 54 Tryz.func186 Z Z Z fun H w=>?_
 refine gSR<|Eb Z (bx 1 Z) fun v1=>Zb Z<|z0l<|gSR<|Zq (faB 1 Z Z Tryz.underlying67 Z (by exact ti5))<|Zq (ld 1 Z Z (fP (z3g _)) ty5 Z)<|Zn<|z49<|gSR<|Zq (B.eql Z Z)<|Zb Z<|gIf Z Z (fun h2=>?_) (fun h2=>?_)
 ·
  refine gKn 6 Z h2<|gSR<|Zq (faB 1 Z Z Tryz.underlying67 Z (by exact zpy))<|Zq (ld 1 Z Z (fP (z4a _)) zp8 Z)<|Zq (U.eql Z Z)<|Zm Z<|z1d 10 Z (fun h3=>?_) (fun h3=>?_)
  ·
   refine lKn 9 Z h3<|z0y Zx Z Z (faB 1 Z Z Tryz.underlying67 Z (by exact ti9))<|z0y Zx Z Z (ld 1 Z Z (fP (z3x _)) ty9 Z)<|z0y Zx Z Z (eqS Z Z)<|Zq (pkT Z Z)<|Zj Z (fun h4=>?_) (fun h4=>?_)
   ·
    refine gKn 13 Z h4<|gSR<|Zb Z<|z0i<|z47<|z0v<|Ze [] [] Z
   ·
    refine gKn 13 Z h4<|z29<|z2q<|z0f<|gSR<|Zb Z<|z0i<|Ze [] [] Z
  ·
   refine lKn 9 Z h3<|Zk Z<|Zk Z<|Zk Z<|Zq (pkF Z Z)<|Zn<|zc3 Z<|z29<|z2q<|z0f<|gSR<|Zb Z<|z0i<|Ze [] [] Z
 ·
  refine gKn 6 Z h2<|gSR<|Zq (B.eql Z Z)<|Zb Z<|gIf Z Z (fun h5=>?_) (fun h5=>?_)
  ·
   refine gKn 16 Z h5<|z5q (fun (s6:Bool) aa ww=>Sta (ctx 54 H [] w) [(32,.rd z0g s6)] [] aa ww) ?_ (fun s6=>?_)
   ·
    refine z57 [] mixed Z Z<|hTk 0 Z Z (faB 1 Z Z Tryz.underlying67 Z (by exact ti2))<|hTk 1 Z Z (ld 1 Z Z (fP (z78 _)) ty2 Z)<|hTk 2 Z Z (I.eql Z Z)<|hTk 3 Z Z (mv Z)<|hIf 20 Z Z (fun h7=>?_) (fun h7=>?_)
    ·
     refine hKn 19 Z Z h7<|Zg 4 Z Z (faB 1 Z Z Tryz.underlying67 Z (by exact ti9))<|Zg 5 Z Z (ld 1 Z Z (fP (z3x _)) ty9 Z)<|Zg 6 Z Z (eqS Z Z)<|hTk 7 Z Z (pkT Z Z)<|hTk 8 Z Z (mv Z)<|hIf 25 Z Z (fun h8=>?_) (fun h8=>?_)
     ·
      refine hKn 23 Z Z h8<|hKn 24 Z Z h8<|Zg 9 Z Z (faB 1 Z Z Tryz.underlying67 Z (by exact zpy))<|Zg 10 Z Z (ld 1 Z Z (fP (z4a _)) zp8 Z)<|Zg 12 Z Z (faB 1 Z Z Tryz.underlying67 Z (by exact zpy))<|Zg 13 Z Z (ld 1 Z Z (fP (z4a _)) zp8 Z)<|z3h 11 [] [] Z (by kernel_rfl) Z Zx Z Tryz.func210 Z Z (zk1 _) (Y1 Z) rN Z (fun _ _=>z2j) fun r9 n10=>Zg 14 Z Z (U.eql Z Z)<|hTk 15 Z Z (pkT Z Z)<|z3q (by kernel_rfl)<|z3b (fun aa ww h=>Zu h [])
     ·
      refine hKn 23 Z Z h8<|hKn 24 Z Z h8<|hSk 9 Z Z<|hSk 10 Z Z<|hSk 11 Z Z<|hSk 12 Z Z<|hSk 13 Z Z<|hSk 14 Z Z<|hTk 15 Z Z (pkF Z Z)<|z3q (by kernel_rfl)<|z3b (fun aa ww h=>Zu h [])
    ·
     refine hKn 19 Z Z h7<|hSk 4 Z Z<|hSk 5 Z Z<|hSk 6 Z Z<|hTk 7 Z Z (pkF Z Z)<|hTk 8 Z Z (mv Z)<|hSk 9 Z Z<|hSk 10 Z Z<|hSk 11 Z Z<|hSk 12 Z Z<|hSk 13 Z Z<|hSk 14 Z Z<|hTk 15 Z Z (pkF Z Z)<|z3q (by kernel_rfl)<|z3b (fun aa ww h=>Zu h [])
   ·
    refine gIf Z Z (fun h11=>?_) (fun h11=>?_)
    ·
     refine gSR<|Zb Z<|z0i<|z47<|z0v<|Ze [] [] Z
    ·
     refine z29<|z2q<|z0f<|gSR<|Zb Z<|z0i<|Ze [] [] Z
  ·
   refine gKn 16 Z h5<|gSR<|Zq (B.eql Z Z)<|Zb Z<|gIf Z Z (fun h12=>?_) (fun h12=>?_)
   ·
    refine gKn 34 Z h12<|z5q (fun (s13:Bool) aa ww=>Sta (ctx 54 H [] w) [(53,.rd z0g s13)] [] aa ww) ?_ (fun s13=>?_)
    ·
     refine z1y<|Zq (faB 1 Z Z Tryz.underlying67 Z (by exact ti2))<|Zq (ld 1 Z Z (fP (z78 _)) ty2 Z)<|Zq (I.eql Z Z)<|Zm Z<|z1d 38 Z (fun h14=>?_) (fun h14=>?_)
     ·
      refine lKn 37 Z h14<|z0y Zx Z Z (faB 1 Z Z Tryz.underlying67 Z (by exact zpy))<|z0y Zx Z Z (ld 1 Z Z (fP (z4a _)) zp8 Z)<|z0y Zx Z Z (U.eql Z Z)<|Zq (pkT Z Z)<|Zm Z<|z1d 43 Z (fun h15=>?_) (fun h15=>?_)
      ·
       refine lKn 41 Z h15<|lKn 42 Z h15<|z0y Zx Z Z (faB 1 Z Z Tryz.underlying67 Z (by exact ti9))<|z0y Zx Z Z (ld 1 Z Z (fP (z3x _)) ty9 Z)<|z0y Zx Z Z (lenT Z Z tu9)<|z0y Zx Z Z (I.leq Z Z)<|Zq (pkT Z Z)<|Zm Z<|z1d 49 Z (fun h16=>?_) (fun h16=>?_)
       ·
        refine lKn 47 Z h16<|lKn 48 Z h16<|z0y Zx Z Z (faB 1 Z Z Tryz.underlying67 Z (by exact ti9))<|z0y Zx Z Z (ld 1 Z Z (fP (z3x _)) ty9 Z)<|ze0 [] [] Zx Z Tryz.func211 Z Z (zgz _) (Y1 Z) rN fun r17 n18=>Zq (pkT Z Z)<|z1q<|z3b (fun aa ww h=>Zu h [])
       ·
        refine lKn 47 Z h16<|lKn 48 Z h16<|Zk Z<|Zk Z<|Zk Z<|Zq (pkF Z Z)<|z1q<|z3b (fun aa ww h=>Zu h [])
      ·
       refine lKn 41 Z h15<|lKn 42 Z h15<|Zk Z<|Zk Z<|Zk Z<|Zk Z<|Zq (pkF Z Z)<|Zm Z<|Zk Z<|Zk Z<|Zk Z<|Zq (pkF Z Z)<|z1q<|z3b (fun aa ww h=>Zu h [])
     ·
      refine lKn 37 Z h14<|Zk Z<|Zk Z<|Zk Z<|Zq (pkF Z Z)<|Zm Z<|Zk Z<|Zk Z<|Zk Z<|Zk Z<|Zq (pkF Z Z)<|Zm Z<|Zk Z<|Zk Z<|Zk Z<|Zq (pkF Z Z)<|z1q<|z3b (fun aa ww h=>Zu h [])
    ·
     refine gIf Z Z (fun h19=>?_) (fun h19=>?_)
     ·
      refine gSR<|Zb Z<|z0i<|z47<|z0v<|Ze [] [] Z
     ·
      refine z29<|z2q<|z0f<|gSR<|Zb Z<|z0i<|Ze [] [] Z
   ·
    refine gKn 34 Z h12<|z29<|z2q<|z0f<|gSR<|Zb Z<|z0i<|Ze [] [] Z
def z93 (a0:z18):Option (Int) :=
 some (decide (a0.Value=(⟨0,0,0,[]⟩:z09))) >>= fun y2 =>
 if a0.Kind==1 then
  if a0.Key==[] then
   if y2 then
    some 0
   else
    some 8
  else
   some 8
 else
  (if a0.Kind==2 then
   some true
  else
   some (a0.Kind==3)) >>= fun s6 =>
  if s6 then
   zaj a0.Key >>= fun r9 =>
   if r9 then
    if y2 then
     some 0
    else
     some 8
   else
    some 8
  else
   if a0.Kind==4 then
    zaj a0.Key >>= fun r14 =>
    if r14 then
     zbo a0.Value >>= fun r17 =>
     if r17==0 then
      some 0
     else
      some 8
    else
     some 8
   else
    some 8
theorem zhe (a0:z18):z1w Tryz.prog 148 [.rd z0z a0] [] (z93 a0) (fun r nv=>⟨[.rd z0c r],[]⟩):=by
 refine z2e 38 Tryz.func148 Z Z Z fun H w=>?_
 refine gSR<|Eb Z (bx 1 Z) fun v1=>Zb Z<|gSR<|Zq (faB 1 Z Z Tryz.underlying69 Z (by exact zlz))<|Zq (ld 1 Z Z (fP (z5l _)) ztm Z)<|Zq (bld (x':=(⟨0,0,0,[]⟩:z09)) [(0,1),(1,1),(2,1),(3,1)] Tryz.underlying67 zlz Z zxd Z (Bld.done Z))<|Zq (eqA Z Z eq67 Z Z gq67)<|Za Z<|z1i 3 Z fun y2=>Zn<|z0l<|gSR<|Zq (faB 1 Z Z Tryz.underlying69 Z (by exact ti5))<|Zq (ld 1 Z Z (fP (z4i _)) ty5 Z)<|Zn<|z49<|gSR<|Zq (B.eql Z Z)<|Zb Z<|gIf Z Z (fun h3=>?_) (fun h3=>?_)
 ·
  refine gKn 11 Z h3<|gSR<|Zq (faB 1 Z Z Tryz.underlying69 Z (by exact ti9))<|Zq (ld 1 Z Z (fP (z64 _)) ty9 Z)<|Zq (eqS Z Z)<|Zm Z<|z1d 15 Z (fun h4=>?_) (fun h4=>?_)
  ·
   refine lKn 14 Z h4<|z0y Zx Z Z (mv Z)<|Zq (pkT Z Z)<|Zj Z (fun h5=>?_) (fun h5=>?_)
   ·
    refine gKn 3 Z h5<|gKn 16 Z h5<|gSR<|Zb Z<|z0i<|z47<|z0v<|Ze [] [] Z
   ·
    refine gKn 3 Z h5<|gKn 16 Z h5<|z29<|z2q<|z0f<|gSR<|Zb Z<|z0i<|Ze [] [] Z
  ·
   refine lKn 14 Z h4<|Zk Z<|Zq (pkF Z Z)<|Zn<|zc3 Z<|z29<|z2q<|z0f<|gSR<|Zb Z<|z0i<|Ze [] [] Z
 ·
  refine gKn 11 Z h3<|z5q (fun (s6:Bool) aa ww=>Sta (ctx 38 H [] w) [(1,.val (z05 v1 0)),(3,.rd z0g y2),(9,.rd u8R a0.Kind),(18,.rd z0g s6)] [(1,some (v1,.box 69 [.rd z0z a0]))] aa ww) ?_ (fun s6=>?_)
  ·
   refine gSR<|Zq (B.eql Z Z)<|Zb Z<|gIf Z Z (fun h7=>?_) (fun h7=>?_)
   ·
    refine gKn 19 Z h7<|z29<|z3b (fun aa ww h=>Zu h [1])
   ·
    refine gKn 19 Z h7<|z1y<|Zq (B.eql Z Z)<|Za Z<|z1q<|z3b (fun aa ww h=>Zu h [1])
  ·
   refine gIf Z Z (fun h8=>?_) (fun h8=>?_)
   ·
    refine gSR<|Zq (faB 1 Z Z Tryz.underlying69 Z (by exact ti9))<|Zq (ld 1 Z Z (fP (z64 _)) ty9 Z)<|Zc [] [] Tryz.func185 Z (zfo _) fun r9 n10=>Zm Z<|z1d 24 Z (fun h11=>?_) (fun h11=>?_)
    ·
     refine lKn 23 Z h11<|z0y Zx Z Z (mv Z)<|Zq (pkT Z Z)<|Zj Z (fun h12=>?_) (fun h12=>?_)
     ·
      refine gKn 3 Z h12<|gKn 25 Z h12<|gSR<|Zb Z<|z0i<|z47<|z0v<|Ze [] [] Z
     ·
      refine gKn 3 Z h12<|gKn 25 Z h12<|z29<|z2q<|z0f<|gSR<|Zb Z<|z0i<|Ze [] [] Z
    ·
     refine lKn 23 Z h11<|Zk Z<|Zq (pkF Z Z)<|Zn<|zc3 Z<|z29<|z2q<|z0f<|gSR<|Zb Z<|z0i<|Ze [] [] Z
   ·
    refine gSR<|Zq (B.eql Z Z)<|Zb Z<|gIf Z Z (fun h13=>?_) (fun h13=>?_)
    ·
     refine gKn 28 Z h13<|gSR<|Zq (faB 1 Z Z Tryz.underlying69 Z (by exact ti9))<|Zq (ld 1 Z Z (fP (z64 _)) ty9 Z)<|Zc [] [] Tryz.func185 Z (zfo _) fun r14 n15=>Zm Z<|z1d 32 Z (fun h16=>?_) (fun h16=>?_)
     ·
      refine lKn 31 Z h16<|z0y Zx Z Z (faB 1 Z Z Tryz.underlying69 Z (by exact zlz))<|z0y Zx Z Z (ld 1 Z Z (fP (z5l _)) ztm Z)<|ze0 [] [] Zx Z Tryz.func186 Z Z (zk4 _) (Y1 Z) rN fun r17 n18=>z0y Zx Z Z (I.eql Z Z)<|Zq (pkT Z Z)<|Zj Z (fun h19=>?_) (fun h19=>?_)
      ·
       refine gKn 36 Z h19<|gSR<|Zb Z<|z0i<|z47<|z0v<|Ze [] [] Z
      ·
       refine gKn 36 Z h19<|z29<|z2q<|z0f<|gSR<|Zb Z<|z0i<|Ze [] [] Z
     ·
      refine lKn 31 Z h16<|Zk Z<|Zk Z<|Zk Z<|Zk Z<|Zq (pkF Z Z)<|Zn<|zc3 Z<|z29<|z2q<|z0f<|gSR<|Zb Z<|z0i<|Ze [] [] Z
    ·
     refine gKn 28 Z h13<|z29<|z2q<|z0f<|gSR<|Zb Z<|z0i<|Ze [] [] Z
def z48 (a0:UInt32):Option (Bool) :=
 some (decide (a0.toUInt64<500000003)) >>= fun y1 =>
 some y1
theorem z6q (a0:UInt32):z1w Tryz.prog 149 [.rd z10 a0] [] (z48 a0) (fun r nv=>⟨[.rd z0g r],[]⟩):=by
 refine z2e 6 Tryz.func149 Z Z Z fun H w=>?_
 refine gSR<|Zb Z<|gSR<|Zm Z<|Zq (W.toU Z tu65 tu41)<|Zq (U.lss Z Z)<|Za Z<|z1i 2 Z fun y1=>Zn<|z0i<|Ze [] [] Z
def z5k (a0:z0b):Option (Int) :=
 if decide (4<(a0.Preds.length:Int)) then
  some 4
 else
  z4w a0.Preds >>= fun r3 =>
  if !r3 then
   some 32
  else
   (zcu a0.Author >>= fun r7 =>
   if !r7 then
    some true
   else
    if decide (1000000000000<a0.Stamp) then
     some true
    else
     z93 a0.Act >>= fun r11 =>
     if r11 != 0 then
      some true
     else
      z48 a0.Sig.E >>= fun r14 =>
      if !r14 then
       some true
      else
       z48 a0.Sig.S >>= fun r17 =>
       some (!r17)) >>= fun s6 =>
   if s6 then
    some 8
   else
    some 0
theorem z94 (a0:z0b):z1w Tryz.prog 103 [.rd z03 a0] [] (z5k a0) (fun r nv=>⟨[.rd z0c r],[]⟩):=by
 refine z2e 40 Tryz.func103 Z Z Z fun H w=>?_
 refine gSR<|Eb Z (bx 1 Z) fun v1=>Zb Z<|z0l<|gSR<|Zq (faB 1 Z Z Tryz.underlying73 Z (by exact z4q))<|Zq (ld 1 Z Z (fP (z0x _)) z5j Z)<|Zq (z2w Z .rd Z tu22)<|Zq (I.gtr Z Z)<|Zj Z (fun h2=>?_) (fun h2=>?_)
 ·
  refine gSR<|Zb Z<|z0i<|z0v<|Ze [] [] Z
 ·
  refine Zt<|z0l<|gSR<|Zq (faB 1 Z Z Tryz.underlying73 Z (by exact z4q))<|Zq (ld 1 Z Z (fP (z0x _)) z5j Z)<|Zc [] [] Tryz.func108 Z (zbf _) fun r3 n4=>Zq (zdi Z)<|Zj Z (fun h5=>?_) (fun h5=>?_)
  ·
   refine gSR<|Zb Z<|z0i<|z0v<|Ze [] [] Z
  ·
   refine Zt<|z0l<|z5q (fun (s6:Bool) aa ww=>Sta (ctx 40 H [] w) [(39,.rd z0g s6)] [] aa ww) ?_ (fun s6=>?_)
   ·
    refine z1y<|Zq (faB 1 Z Z Tryz.underlying73 Z (by exact z6s))<|Zq (ld 1 Z Z (fP (z3u _)) za4 Z)<|Zc [] [] Tryz.func147 Z (zh7 _) fun r7 n8=>Zq (zdi Z)<|Zm Z<|z1d 15 Z (fun h9=>?_) (fun h9=>?_)
    ·
     refine lKn 14 Z h9<|Zk Z<|Zk Z<|Zk Z<|Zq (pkT Z Z)<|Zm Z<|Zk Z<|Zk Z<|Zk Z<|Zk Z<|Zq (pkT Z Z)<|Zm Z<|Zk Z<|Zk Z<|Zk Z<|Zk Z<|Zk Z<|Zq (pkT Z Z)<|Zm Z<|Zk Z<|Zk Z<|Zk Z<|Zk Z<|Zk Z<|Zq (pkT Z Z)<|z1q<|z3b (fun aa ww h=>Zu h [])
    ·
     refine lKn 14 Z h9<|z0y Zx Z Z (faB 1 Z Z Tryz.underlying73 Z (by exact zpy))<|z0y Zx Z Z (ld 1 Z Z (fP (z5c _)) zp8 Z)<|z0y Zx Z Z (U.gtr Z Z)<|Zq (pkF Z Z)<|Zm Z<|z1d 20 Z (fun h10=>?_) (fun h10=>?_)
     ·
      refine lKn 18 Z h10<|lKn 19 Z h10<|Zk Z<|Zk Z<|Zk Z<|Zk Z<|Zq (pkT Z Z)<|Zm Z<|Zk Z<|Zk Z<|Zk Z<|Zk Z<|Zk Z<|Zq (pkT Z Z)<|Zm Z<|Zk Z<|Zk Z<|Zk Z<|Zk Z<|Zk Z<|Zq (pkT Z Z)<|z1q<|z3b (fun aa ww h=>Zu h [])
     ·
      refine lKn 18 Z h10<|lKn 19 Z h10<|z0y Zx Z Z (faB 1 Z Z Tryz.underlying73 Z (by exact zpt))<|z0y Zx Z Z (ld 1 Z Z (fP (z2h _)) ty69 Z)<|ze0 [] [] Zx Z Tryz.func148 Z Z (zhe _) (Y1 Z) rN fun r11 n12=>z0y Zx Z Z (I.neq Z Z)<|Zq (pkF Z Z)<|Zm Z<|z1d 26 Z (fun h13=>?_) (fun h13=>?_)
      ·
       refine lKn 24 Z h13<|lKn 25 Z h13<|Zk Z<|Zk Z<|Zk Z<|Zk Z<|Zk Z<|Zq (pkT Z Z)<|Zm Z<|Zk Z<|Zk Z<|Zk Z<|Zk Z<|Zk Z<|Zq (pkT Z Z)<|z1q<|z3b (fun aa ww h=>Zu h [])
      ·
       refine lKn 24 Z h13<|lKn 25 Z h13<|z0y Zx Z Z (faB 1 Z Z Tryz.underlying73 Z (by exact zra))<|z0y Zx Z Z (faB 1 Z Z Tryz.underlying71 Z (by exact z6s))<|z0y Zx Z Z (ld 1 Z Z ((fP (z3a _)).part (z63 _)) za4 Z)<|ze0 [] [] Zx Z Tryz.func149 Z Z (z6q _) (Y1 Z) rN fun r14 n15=>z0y Zx Z Z (zdi Z)<|Zq (pkF Z Z)<|Zm Z<|z1d 33 Z (fun h16=>?_) (fun h16=>?_)
       ·
        refine lKn 31 Z h16<|lKn 32 Z h16<|Zk Z<|Zk Z<|Zk Z<|Zk Z<|Zk Z<|Zq (pkT Z Z)<|z1q<|z3b (fun aa ww h=>Zu h [])
       ·
        refine lKn 31 Z h16<|lKn 32 Z h16<|z0y Zx Z Z (faB 1 Z Z Tryz.underlying73 Z (by exact zra))<|z0y Zx Z Z (faB 1 Z Z Tryz.underlying71 Z (by exact z6s))<|z0y Zx Z Z (ld 1 Z Z ((fP (z3a _)).part (z8u _)) za4 Z)<|ze0 [] [] Zx Z Tryz.func149 Z Z (z6q _) (Y1 Z) rN fun r17 n18=>z0y Zx Z Z (zdi Z)<|Zq (pkF Z Z)<|z1q<|z3b (fun aa ww h=>Zu h [])
   ·
    refine gIf Z Z (fun h19=>?_) (fun h19=>?_)
    ·
     refine gSR<|Zb Z<|z0i<|z0v<|Ze [] [] Z
    ·
     refine Zt<|gSR<|Zb Z<|z0i<|Ze [] [] Z
def z69 (a0:UInt32) (a1:UInt64):Option (UInt32) :=
 z97 a0.toUInt64 a1 1000000007 >>= fun r1 =>
 some r1.toUInt32
theorem zbe (a0:UInt32) (a1:UInt64):z1w Tryz.prog 189 [.rd z10 a0,.rd z2k a1] [] (z69 a0 a1) (fun r nv=>⟨[.rd z10 r],[]⟩):=by
 refine z2e 10 Tryz.func189 Z Z Z fun H w=>?_
 refine gSR<|Zb Z<|gSR<|Zm Z<|Zq (W.toU Z tu65 tu41)<|Zm Z<|Zc [] [] Tryz.func184 Z (zeo _ _ _) fun r1 n2=>Zq (U.toW Z tu41 tu65)<|Zb Z<|z0i<|Ze [] [] Z
def zfx (a0:UInt32):Option (UInt32 × Int) :=
 zcu a0 >>= fun r1 =>
 if !r1 then
  some (0,2)
 else
  z69 a0 500000002 >>= fun r4 =>
  some (r4,0)
theorem zmg (a0:UInt32):z1w Tryz.prog 188 [.rd z10 a0] [] (zfx a0) (fun r nv=>⟨[.rd z10 r.1,.rd z0c r.2],[]⟩):=by
 refine z2e 9 Tryz.func188 Z Z Z fun H w=>?_
 refine gSR<|Za Z<|Zb Z<|z0l<|gSR<|Zm Z<|Zc [] [] Tryz.func147 Z (zh7 _) fun r1 n2=>Zq (zdi Z)<|Zj Z (fun h3=>?_) (fun h3=>?_)
 ·
  refine gSR<|Za Z<|Zb Z<|z0i<|z0v<|Ze [] [] Z
 ·
  refine Zt<|gSR<|Zm Z<|Zc [] [] Tryz.func189 Z (zbe _ _) fun r4 n5=>Za Z<|Zb Z<|z0i<|Ze [] [] Z
def zez (a0:UInt64):Option (UInt32) :=
 z69 4 a0 >>= fun r1 =>
 some r1
theorem zkr (a0:UInt64):z1w Tryz.prog 178 [.rd z2k a0] [] (zez a0) (fun r nv=>⟨[.rd z10 r],[]⟩):=by
 refine z2e 5 Tryz.func178 Z Z Z fun H w=>?_
 refine gSR<|Zb Z<|gSR<|Zm Z<|Zc [] [] Tryz.func189 Z (zbe _ _) fun r1 n2=>Zb Z<|z0i<|Ze [] [] Z
def zfv (a0:UInt32):Option (UInt32) :=
 zez a0.toUInt64 >>= fun r1 =>
 some r1
theorem zlx (a0:UInt32):z1w Tryz.prog 143 [.rd z10 a0] [] (zfv a0) (fun r nv=>⟨[.rd z10 r],[]⟩):=by
 refine z2e 6 Tryz.func143 Z Z Z fun H w=>?_
 refine gSR<|Zb Z<|gSR<|Zm Z<|Zq (W.toU Z tu65 tu41)<|Zc [] [] Tryz.func178 Z (zkr _) fun r1 n2=>Zb Z<|z0i<|Ze [] [] Z
def zcl (a0:UInt32) (a1:UInt32):Option (UInt32) :=
 some (((a0.toUInt64 * a1.toUInt64) % 1000000007).toUInt32) >>= fun y1 =>
 some y1
theorem zia (a0:UInt32) (a1:UInt32):z1w Tryz.prog 190 [.rd z10 a0,.rd z10 a1] [] (zcl a0 a1) (fun r nv=>⟨[.rd z10 r],[]⟩):=by
 refine z2e 12 Tryz.func190 Z Z Z fun H w=>?_
 refine gSR<|Zb Z<|gSR<|Zm Z<|Zq (W.toU Z tu65 tu41)<|Zm Z<|Zq (W.toU Z tu65 tu41)<|Zq (U.mul Z Z)<|Zq (U.rem Z Z (by decide))<|Zq (U.toW Z tu41 tu65)<|Za Z<|z1i 4 Z fun y1=>Zn<|z0i<|Ze [] [] Z
def za8 (a0:UInt32):Option ((List UInt8)) :=
 some [(a0 / 16777216).toUInt8,((a0 / 65536) % 256).toUInt8,((a0 / 256) % 256).toUInt8,(a0 % 256).toUInt8]
theorem zfn (a0:UInt32):z1w Tryz.prog 208 [.rd z10 a0] [] (za8 a0) (fun r nv=>⟨[.val (nv 0)],[(100,some (nv 0,.list u8R 5 r))]⟩):=by
 refine z2e 18 Tryz.func208 Z Z Z fun H w=>?_
 refine gSR<|Zb Z<|gSR<|Zm Z<|Zq (W.quo Z Z (by decide))<|Zq (W.toB Z tu65 tu5)<|Zm Z<|Zq (W.quo Z Z (by decide))<|Zq (W.rem Z Z (by decide))<|Zq (W.toB Z tu65 tu5)<|Zm Z<|Zq (W.quo Z Z (by decide))<|Zq (W.rem Z Z (by decide))<|Zq (W.toB Z tu65 tu5)<|Zm Z<|Zq (W.rem Z Z (by decide))<|Zq (W.toB Z tu65 tu5)<|Ef Z (lit (R:=u8R) ([(a0 / 16777216).toUInt8,((a0 / 65536) % 256).toUInt8,((a0 / 256) % 256).toUInt8,(a0 % 256).toUInt8]:List UInt8) 1 (pP Z Z<|pP Z Z<|pP Z Z<|pP Z Z<|pN) Z tu75 ti5 Z Z) fun v1=>Zb Z<|z0i<|Ze [v1] [1] Z
def z5x (r1:V3) (s5:UInt64 × Int):Option (Sum UInt64 (UInt64 × Int)) :=
 if decide (s5.2<8) then
  z8s r1 s5.2 >>= fun x7 =>
  some ((256 * s5.1)+x7.toUInt64) >>= fun y9 =>
  some (w64 (s5.2+1)) >>= fun y10 =>
  some (.inr (y9,y10))
 else
  some (.inl s5.1)
def zb0 (a0:List UInt8):Option (UInt64) :=
 zcd a0 >>= fun r1 =>
 (iter (z5x r1) (0,0)) >>= fun s4 =>
 some s4
theorem zj9 (a0:List UInt8):z1w Tryz.prog 209 [.rd (z02 u8R) a0] [] (zb0 a0) (fun r nv=>⟨[.rd z2k r],[]⟩):=by
 refine z2e 20 Tryz.func209 Z Z Z fun H w=>?_
 refine gSR<|Zb Z<|gSR<|Zm Z<|Zc [] [] Tryz.func95 Z (zh9 _) fun r1 n2=>Eb Z (z52 1 z1g (.zr (R:=aZ) (x:=(Vector.replicate 32 0)) zf5)) fun v3=>Es (sto 1 Z Z fH Z z1g)<|Zn<|gSR<|Zb Z<|z5q (fun (s4:UInt64) aa ww=>Sta (ctx 20 H [] w) [(4,.rd z2k s4)] [] aa ww) ?_ (fun s4=>?_)
 ·
  refine gSR<|Zb Z<|z1v (fun (s5:UInt64 × Int) aa ww=>Sta (ctx 20 H [] w) [(3,.val (z05 v3 0)),(4,.rd z2k s5.1),(5,.rd z0c s5.2)] [(1,some (v3,.box 62 [.rd aZ r1]))] aa ww) (fun aa ww h=>Zu h [1]) (fun s5=>?_)
  refine z0l<|gSR<|Zm Z<|Zq (I.lss Z Z)<|Zj Z (fun h6=>?_) (fun h6=>?_)
  ·
   refine Zt<|z0l<|z49<|z1y<|Zm Z<|Zq (U.mul Z Z)<|Zm Z<|z0j fun x7 h8=>Zq (ixB 1 Z Z Z h8 tu62 ti5)<|Zq (ld 1 Z Z (fP (.el h8)) ty5 Z)<|Zq (B.toU Z tu5 tu41)<|Zq (U.add Z Z)<|Za Z<|z1i 4 Z fun y9=>z1q<|z2q<|z0f<|z1y<|Zm Z<|Zq (I.add Z Z)<|Za Z<|z1i 5 Z fun y10=>z1q<|z19 (fun aa ww h=>Zu h [1])
  ·
   refine z1k<|z0o<|z0r<|z3b (fun aa ww h=>Zu h [])
 ·
  refine gSR<|Zm Z<|Zb Z<|z0i<|Ze [] [] Z
def z8c (a0:UInt32) (a1:UInt32) (a2:List UInt8):Option (UInt32) :=
 za8 a0 >>= fun r2 =>
 app 1 [99] r2 >>= fun x4 =>
 za8 a1 >>= fun r7 =>
 app 1 x4 r7 >>= fun x9 =>
 app 1 x9 a2 >>= fun x12 =>
 zb0 x12 >>= fun r15 =>
 some ((r15 % 500000003).toUInt32) >>= fun y17 =>
 some y17
theorem zgy (a0:UInt32) (a1:UInt32) (a2:List UInt8):z1w Tryz.prog 180 [.rd z10 a0,.rd z10 a1,.rd (z02 u8R) a2] [] (z8c a0 a1 a2) (fun r nv=>⟨[.rd z10 r],[]⟩):=by
 refine z2e 21 Tryz.func180 Z Z Z fun H w=>?_
 refine gSR<|Zb Z<|gSR<|Ef Z (lit (R:=u8R) ([99]:List UInt8) 1 (pP Z Z<|pN) Z tu75 ti5 Z Z) fun v1=>Zm Z<|Zc [] [(100,2)] Tryz.func208 Z (zfn _) fun r2 n3=>z0j fun x4 h5=>Ef Z (apn 1 Z Z Z (.own 2 Z) h5 tu75 ti5 Z Z Z) fun v6=>Zm Z<|Zc [] [(100,3)] Tryz.func208 Z (zfn _) fun r7 n8=>z0j fun x9 h10=>Ef Z (apn 1 Z Z Z (.own 3 Z) h10 tu75 ti5 Z Z Z) fun v11=>Zb Z<|gSR<|Zm Z<|Zm Z<|z0j fun x12 h13=>Ef Z (apn 1 Z Z Z .rd h13 tu75 ti5 Z Z Z) fun v14=>zjd 1 [17] Z (fS Z<|fN)<|Zc [] [] Tryz.func209 Z (zj9 _) fun r15 n16=>Zq (U.rem Z Z (by decide))<|Zq (U.toW Z tu41 tu65)<|Za Z<|z1i 6 Z fun y17=>Zn<|z0i<|Ze [] [] Z
def zbu (a0:UInt32) (a1:List UInt8) (a2:z0q):Option (Bool) :=
 z48 a2.E >>= fun r2 =>
 if !r2 then
  some false
 else
  z48 a2.S >>= fun r5 =>
  if !r5 then
   some false
  else
   z69 a0 a2.E.toUInt64 >>= fun r8 =>
   zfx r8 >>= fun r10 =>
   zfv a2.S >>= fun r12 =>
   zcl r12 r10.1 >>= fun r14 =>
   z8c r14 a0 a1 >>= fun r16 =>
   some (r16==a2.E)
theorem zjz (a0:UInt32) (a1:List UInt8) (a2:z0q):z1w Tryz.prog 152 [.rd z10 a0,.rd (z02 u8R) a1,.rd z13 a2] [] (zbu a0 a1 a2) (fun r nv=>⟨[.rd z0g r],[]⟩):=by
 refine z2e 39 Tryz.func152 Z Z Z fun H w=>?_
 refine gSR<|Eb Z (bx 1 Z) fun v1=>Zb Z<|z0l<|gSR<|Zq (faB 1 Z Z Tryz.underlying71 Z (by exact z6s))<|Zq (ld 1 Z Z (fP (z63 _)) za4 Z)<|Zc [] [] Tryz.func149 Z (z6q _) fun r2 n3=>Zq (zdi Z)<|Zm Z<|z1d 13 Z (fun h4=>?_) (fun h4=>?_)
 ·
  refine lKn 12 Z h4<|Zk Z<|Zk Z<|Zk Z<|Zk Z<|Zq (pkT Z Z)<|Zn<|zf9 Z<|gSR<|Zb Z<|z0i<|z0v<|Ze [] [] Z
 ·
  refine lKn 12 Z h4<|z0y Zx Z Z (faB 1 Z Z Tryz.underlying71 Z (by exact z6s))<|z0y Zx Z Z (ld 1 Z Z (fP (z8u _)) za4 Z)<|ze0 [] [] Zx Z Tryz.func149 Z Z (z6q _) (Y1 Z) rN fun r5 n6=>z0y Zx Z Z (zdi Z)<|Zq (pkF Z Z)<|Zj Z (fun h7=>?_) (fun h7=>?_)
  ·
   refine gKn 17 Z h7<|gSR<|Zb Z<|z0i<|z0v<|Ze [] [] Z
  ·
   refine gKn 17 Z h7<|Zt<|gSR<|Zm Z<|Zq (faB 1 Z Z Tryz.underlying71 Z (by exact z6s))<|Zq (ld 1 Z Z (fP (z63 _)) za4 Z)<|Zq (W.toU Z tu65 tu41)<|Zc [] [] Tryz.func189 Z (zbe _ _) fun r8 n9=>Zc [] [] Tryz.func188 Z (zmg _) fun r10 n11=>Zm Z<|Zq (ext Z Z)<|Zq (ext Z Z)<|Za Z<|Zb Z<|z0l<|z57 [] mixed Z Z<|hTk 0 Z Z (faB 1 Z Z Tryz.underlying71 Z (by exact z6s))<|hTk 1 Z Z (ld 1 Z Z (fP (z8u _)) za4 Z)<|hTk 3 Z Z (mv Z)<|hTk 5 Z Z (mv Z)<|hTk 6 Z Z (mv Z)<|hTk 8 Z Z (faB 1 Z Z Tryz.underlying71 Z (by exact z6s))<|hTk 9 Z Z (ld 1 Z Z (fP (z63 _)) za4 Z)<|z3h 2 [] [] Z (by kernel_rfl) Z (gd0 Z) Z Tryz.func143 Z Z (zlx _) (Y1 Z) rN Z (fun _ _=>z2j) fun r12 n13=>z3h 4 [] [] Z (by kernel_rfl) Z (gd0 Z) Z Tryz.func190 Z Z (zia _ _) (Y2 Z Z) rN Z (fun _ _=>z2j) fun r14 n15=>z3h 7 [] [] Z (by kernel_rfl) Z (gd0 Z) Z Tryz.func180 Z Z (zgy _ _ _) (aQ Z<|aQ Z<|aQ Z<|aN) rN Z (fun _ _=>z2j) fun r16 n17=>hTk 10 Z Z (W.eql Z Z)<|hTk 11 Z Z (asg Z)<|z3q (by kernel_rfl)<|z0f<|z0i<|Ze [] [] Z
def zd3 (a0:z0b):Option (Bool) :=
 zag a0 >>= fun r2 =>
 zbu a0.Author r2 a0.Sig >>= fun r4 =>
 some r4
theorem zj7 (a0:z0b):z1w Tryz.prog 107 [.rd z03 a0] [] (zd3 a0) (fun r nv=>⟨[.rd z0g r],[]⟩):=by
 refine z2e 10 Tryz.func107 Z Z Z fun H w=>?_
 refine gSR<|Eb Z (bx 1 Z) fun v1=>Zb Z<|z0l<|z57 [11] mixed Z Z<|hTk 0 Z Z (faB 1 Z Z Tryz.underlying73 Z (by exact z6s))<|hTk 1 Z Z (ld 1 Z Z (fP (z3u _)) za4 Z)<|hTk 2 Z Z (ld 1 Z Z fH zcs Z)<|hTk 4 Z Z (faB 1 Z Z Tryz.underlying73 Z (by exact zra))<|hTk 5 Z Z (ld 1 Z Z (fP (z3a _)) ty71 Z)<|z3h 3 [] [(100,11)] Z (by kernel_rfl) Z (gd0 Z) Z Tryz.func139 Z Z (zfa _) (Y1 Z) rN Z (fun _ _=>z2t) fun r2 n3=>zr7 11 [6] Z (fS Z<|fN)<|z3h 6 [] [] Z (by kernel_rfl) Z (gd0 Z) Z Tryz.func152 Z Z (zjz _ _ _) (aQ Z<|aQ Z<|aQ Z<|aN) rN Z (fun _ _=>z9f) fun r4 n5=>hTk 7 Z Z (asg Z)<|z3q (by kernel_rfl)<|z0f<|z0i<|Ze [] [] Z
def z68 (a0:z0b):Option (Int) :=
 z5k a0 >>= fun r2 =>
 if r2 != 0 then
  z5k a0 >>= fun r5 =>
  some r5
 else
  zd3 a0 >>= fun r7 =>
  if !r7 then
   some 22
  else
   some 0
theorem zba (a0:z0b):z1w Tryz.prog 69 [.rd z03 a0] [] (z68 a0) (fun r nv=>⟨[.rd z0c r],[]⟩):=by
 refine z2e 11 Tryz.func69 Z Z Z fun H w=>?_
 refine gSR<|Eb Z (bx 1 Z) fun v1=>Zb Z<|z0l<|gSR<|Zq (ld 1 Z Z fH zcs Z)<|Zc [] [] Tryz.func103 Z (z94 _) fun r2 n3=>Zq (I.neq Z Z)<|Zj Z (fun h4=>?_) (fun h4=>?_)
 ·
  refine gSR<|Zq (ld 1 Z Z fH zcs Z)<|Zc [] [] Tryz.func103 Z (z94 _) fun r5 n6=>Zb Z<|z0i<|z0v<|Ze [] [] Z
 ·
  refine Zt<|z0l<|gSR<|Zq (ld 1 Z Z fH zcs Z)<|Zc [] [] Tryz.func107 Z (zj7 _) fun r7 n8=>Zq (zdi Z)<|Zj Z (fun h9=>?_) (fun h9=>?_)
  ·
   refine gSR<|Zb Z<|z0i<|z0v<|Ze [] [] Z
  ·
   refine Zt<|gSR<|Zb Z<|z0i<|Ze [] [] Z
end
section
open Go Go.RowKit
set_option maxRecDepth 100000
def z0n (a0:List V3) (a1:V3) (s4:Int × Int):Option (Sum Int (Int × Int)) :=
 if decide (s4.1<s4.2) then
  some (w64 ((z8r (UInt64.ofInt (w64 (s4.1+s4.2))) 1).toNat:Int)) >>= fun y6 =>
  idx a0 y6 >>= fun x7 =>
  z9k x7 a1 >>= fun r9 =>
  if decide (r9<0) then
   some (.inr (w64 (y6+1),s4.2))
  else
   some (.inr (s4.1,y6))
 else
  some (.inl s4.1)
def z0p (a0:List V3) (a1:V3):Option (Int × Bool) :=
 some (a0.length:Int) >>= fun y2 =>
 (iter (z0n a0 a1) (0,y2)) >>= fun s3 =>
 if decide (s3<y2) then
  idx a0 s3 >>= fun x13 =>
  z9k x13 a1 >>= fun r15 =>
  some (s3,r15==0)
 else
  some (s3,false)
theorem z54 (a0:List V3) (a1:V3):z1w Tryz.prog 104 [.rd (z02 aZ) a0,.rd aZ a1,.val (.func (.func 105) #[] #[])] [] (z0p a0 a1) (fun r nv=>⟨[.rd z0c r.1,.rd z0g r.2],[]⟩):=by
 refine z2e 49 Tryz.func104 Z Z Z fun H w=>?_
 refine gSR<|Eb Z (bx 1 Z) fun v1=>Za Z<|Zb Z<|gSR<|Zm Z<|Zq (z2w Z .rd Z tu22)<|Za Z<|z1i 8 Z fun y2=>Zn<|gSR<|Zm Z<|Za Z<|Zb Z<|z5q (fun (s3:Int) aa ww=>Sta (ctx 49 H [] w) [(0,.rd (z02 aZ) a0),(2,.val (.func (.func 105) #[] #[])),(4,.val (z05 v1 0)),(8,.rd z0c y2),(9,.rd z0c s3)] [(1,some (v1,.box 62 [.rd aZ a1]))] aa ww) ?_ (fun s3=>?_)
 ·
  refine z1v (fun (s4:Int × Int) aa ww=>Sta (ctx 49 H [] w) [(0,.rd (z02 aZ) a0),(2,.val (.func (.func 105) #[] #[])),(4,.val (z05 v1 0)),(8,.rd z0c y2),(9,.rd z0c s4.1),(10,.rd z0c s4.2)] [(1,some (v1,.box 62 [.rd aZ a1]))] aa ww) (fun aa ww h=>Zu h [1]) (fun s4=>?_)
  refine z0l<|gSR<|Zm Z<|Zm Z<|Zq (I.lss Z Z)<|Zj Z (fun h5=>?_) (fun h5=>?_)
  ·
   refine Zt<|z49<|gSR<|Zm Z<|Zm Z<|Zq (I.add Z Z)<|Zq (I.toU Z tu3 Tryz.underlying150)<|Zq (U.shr Z Z (Int.natCast_nonneg _))<|Zq (U.toI Z Tryz.underlying150 tu3)<|Za Z<|z1i 11 Z fun y6=>Zn<|z0l<|z57 [] mixed Z Z<|hTk 0 Z Z (mv Z)<|hTk 1 Z Z (mv Z)<|hTk 2 Z Z (mv Z)<|z3j fun x7 h8=>hTk 3 Z Z (ixR Z Z h8 tu22 z1g Z)<|hTk 4 Z Z (ldR Z z36)<|hTk 5 Z Z (ld 1 Z Z fH z36 Z)<|zu7 6 [] [] Z (by kernel_rfl) Z (gd0 Z) Z Tryz.func105 Z Z Z (zb4 _ _) (Y2 Z Z) (cN) Z rN Z (fun _ _=>z2j) fun r9 n10=>hTk 7 Z Z (I.lss Z Z)<|z3q (by kernel_rfl)<|z0f<|gIf Z Z (fun h11=>?_) (fun h11=>?_)
   ·
    refine z1y<|Zm Z<|Zq (I.add Z Z)<|Za Z<|z1q<|z2q<|z19 (fun aa ww h=>Zu h [1])
   ·
    refine z1y<|Zm Z<|Za Z<|z1q<|z2q<|z19 (fun aa ww h=>Zu h [1])
  ·
   refine z1k<|z0o<|z0r<|z3b (fun aa ww h=>Zu h [1])
 ·
  refine z0l<|z57 [] mixed Z Z<|hTk 0 Z Z (mv Z)<|hTk 1 Z Z (mv Z)<|hTk 2 Z Z (mv Z)<|hTk 3 Z Z (I.lss Z Z)<|hTk 4 Z Z (mv Z)<|hIf 39 Z Z (fun h12=>?_) (fun h12=>?_)
  ·
   refine hKn 38 Z Z h12<|Zg 5 Z Z (mv Z)<|Zg 6 Z Z (mv Z)<|Zg 7 Z Z (mv Z)<|z3j fun x13 h14=>Zg 8 Z Z (ixR Z Z h14 tu22 z1g Z)<|Zg 9 Z Z (ldR Z z36)<|Zg 10 Z Z (ld 1 Z Z fH z36 Z)<|zu7 11 [] [] Z (by kernel_rfl) Z Zx Z Tryz.func105 Z Z Z (zb4 _ _) (Y2 Z Z) (cN) Z rN Z (fun _ _=>z2j) fun r15 n16=>Zg 12 Z Z (I.eql Z Z)<|hTk 13 Z Z (pkT Z Z)<|hTk 14 Z Z (asg Z)<|hTk 15 Z Z (asg Z)<|z3q (by kernel_rfl)<|z0f<|z0i<|Ze [] [] Z
  ·
   refine hKn 38 Z Z h12<|hSk 5 Z Z<|hSk 6 Z Z<|hSk 7 Z Z<|hSk 8 Z Z<|hSk 9 Z Z<|hSk 10 Z Z<|hSk 11 Z Z<|hSk 12 Z Z<|hTk 13 Z Z (pkF Z Z)<|hTk 14 Z Z (asg Z)<|hTk 15 Z Z (asg Z)<|z3q (by kernel_rfl)<|z0f<|z0i<|Ze [] [] Z
def zdh (a0:z00) (a1:V3):Option (Int × Bool) :=
 z0p a0.IDs a1 >>= fun r3 =>
 some (r3.1,r3.2)
theorem zer (a0:z00) (a1:V3):z1w Tryz.prog 65 [.rd z01 a0,.rd aZ a1] [] (zdh a0 a1) (fun r nv=>⟨[.rd z0c r.1,.rd z0g r.2],[]⟩):=by
 refine z2e 12 Tryz.func65 Z Z Z fun H w=>?_
 refine gSR<|Eb Z (bx 1 Z) fun v1=>Eb Z (bx 2 Z) fun v2=>Za Z<|Zb Z<|gSR<|Zq (faB 1 Z Z Tryz.underlying25 Z (by exact z4q))<|Zq (ld 1 Z Z (fP (z07 _)) z5j Z)<|Zq (ld 2 Z Z fH z36 Z)<|Zc [] [] Tryz.func104 Z (z54 _ _) fun r3 n4=>Zq (ext Z Z)<|Zq (ext Z Z)<|Za Z<|Zb Z<|z0i<|Ze [] [] Z
def zae (a0:z00) (s3:Int):Option (Sum (Sum Int Unit) Int) :=
 if decide (s3<(a0.IDs.length:Int)) then
  idx a0.IDs (w64 (s3 - 1)) >>= fun x5 =>
  idx a0.IDs s3 >>= fun x7 =>
  z9k x5 x7 >>= fun r9 =>
  if decide (0≤r9) then
   some (.inl (.inl 32))
  else
   some (.inr (w64 (s3+1)))
 else
  some (.inl (.inr ()))
def zc9 (a0:z00) (s19:(List Int) × (List (List Int)) × (List Int) × Int) (x22:z0b) (s26:(List (List Int)) × Int):Option (Sum (Sum (Sum (Sum Int ((List Int) × (List (List Int)) × (List Int))) ((List Int) × (List (List Int)) × (List Int) × Int)) ((List (List Int)))) ((List (List Int)) × Int)) :=
 if decide (s26.2<(x22.Preds.length:Int)) then
  idx x22.Preds s26.2 >>= fun x29 =>
  zdh a0 x29 >>= fun r32 =>
  if !r32.2 then
   some (.inl (.inl (.inl (.inl 40))))
  else
   idx s26.1 r32.1 >>= fun x35 =>
   app 8 x35 [s19.2.2.2] >>= fun x38 =>
   some (.inr (s26.1.set (r32.1:Int).toNat x38,w64 (s26.2+1)))
 else
  some (.inl (.inr s26.1))
def zc7 (a0:z00) (s19:(List Int) × (List (List Int)) × (List Int) × Int):Option (Sum (Sum Int ((List Int) × (List (List Int)) × (List Int))) ((List Int) × (List (List Int)) × (List Int) × Int)) :=
 if decide (s19.2.2.2<(a0.Ops.length:Int)) then
  idx a0.Ops s19.2.2.2 >>= fun x22 =>
  z61 (iter (zc9 a0 s19 x22) (s19.2.1,0)) fun s25 =>
  idx s19.1 s19.2.2.2 >>= fun x42 =>
  idx (s19.1.set (s19.2.2.2:Int).toNat (x22.Preds.length:Int)) s19.2.2.2 >>= fun x44 =>
  if x44==0 then
   app 8 s19.2.2.1 [s19.2.2.2] >>= fun x48 =>
   some (.inr (s19.1.set (s19.2.2.2:Int).toNat (x22.Preds.length:Int),s25,x48,w64 (s19.2.2.2+1)))
  else
   some (.inr (s19.1.set (s19.2.2.2:Int).toNat (x22.Preds.length:Int),s25,s19.2.2.1,w64 (s19.2.2.2+1)))
 else
  some (.inl (.inr (s19.1,s19.2.1,s19.2.2.1)))
def zc6 (x59:List Int) (s61:(List Int) × (List Int) × Int):Option (Sum ((List Int) × (List Int)) ((List Int) × (List Int) × Int)) :=
 if decide (s61.2.2<(x59.length:Int)) then
  idx x59 s61.2.2 >>= fun x64 =>
  idx s61.1 x64 >>= fun x66 =>
  idx s61.1 x64 >>= fun x68 =>
  idx (s61.1.set (x64:Int).toNat (w64 (x66 - 1))) x64 >>= fun x70 =>
  if x70==0 then
   app 8 s61.2.1 [x64] >>= fun x74 =>
   some (.inr (s61.1.set (x64:Int).toNat (w64 (x66 - 1)),x74,w64 (s61.2.2+1)))
  else
   some (.inr (s61.1.set (x64:Int).toNat (w64 (x66 - 1)),s61.2.1,w64 (s61.2.2+1)))
 else
  some (.inl (s61.1,s61.2.1))
def zdo (s18:(List Int) × (List (List Int)) × (List Int)) (s53:(List Int) × (List Int) × Int):Option (Sum Int ((List Int) × (List Int) × Int)) :=
 if decide (s53.2.2<(s53.2.1.length:Int)) then
  (idx s53.2.1 s53.2.2 >>= fun x57 =>
  idx s18.2.1 x57 >>= fun x59 =>
  iter (zc6 x59) (s53.1,s53.2.1,0)) >>= fun s56 =>
  some (w64 (s53.2.2+1)) >>= fun y78 =>
  some (.inr (s56.1,s56.2,y78))
 else
  some (.inl s53.2.2)
def zlg (a0:z00):Option (Int) :=
 z61 (iter (zae a0) 1) fun s2 =>
 mkn 8 0 (a0.Ops.length:Int) >>= fun x12 =>
 mkn 24 ([]:List Int) (a0.Ops.length:Int) >>= fun x15 =>
 z61 (iter (zc7 a0) (x12,x15,[],0)) fun s18 =>
 (iter (zdo s18) (s18.1,s18.2.2,0)) >>= fun s52 =>
 if decide (s52<(a0.Ops.length:Int)) then
  some 36
 else
  some 0
theorem zrl (a0:z00):z1w Tryz.prog 113 [.rd z01 a0] [] (zlg a0) (fun r nv=>⟨[.rd z0c r],[]⟩):=by
 refine z2e 133 Tryz.func113 Z Z Z fun H w=>?_
 refine gSR<|Eb Z (bx 1 Z) fun v1=>Zb Z<|z83 (fun (s2:Unit) aa ww=>Sta (ctx 133 H [] w) [(1,.val (z05 v1 0))] [(1,some (v1,.box 25 [.rd z01 a0]))] aa ww) ?_ (fun s2=>?_)
 ·
  refine gSR<|Zb Z<|z1v (fun (s3:Int) aa ww=>Sta (ctx 133 H [] w) [(1,.val (z05 v1 0)),(3,.rd z0c s3)] [(1,some (v1,.box 25 [.rd z01 a0]))] aa ww) (fun aa ww h=>h.sub [1] (sS Z<|sS Z<|sN) (y1 Z)) (fun s3=>?_)
  refine z0l<|gSR<|Zm Z<|Zq (faB 1 Z Z Tryz.underlying25 Z (by exact z4q))<|Zq (ld 1 Z Z (fP (z07 _)) z5j Z)<|Zq (z2w Z .rd Z tu22)<|Zq (I.lss Z Z)<|Zj Z (fun h4=>?_) (fun h4=>?_)
  ·
   refine Zt<|z0l<|z49<|z0l<|z57 [] mixed Z Z<|hTk 0 Z Z (faB 1 Z Z Tryz.underlying25 Z (by exact z4q))<|hTk 1 Z Z (ld 1 Z Z (fP (z07 _)) z5j Z)<|hTk 2 Z Z (mv Z)<|hTk 3 Z Z (I.sub Z Z)<|z3j fun x5 h6=>hTk 4 Z Z (ixR Z Z h6 tu22 z1g Z)<|hTk 5 Z Z (ldR Z z36)<|hTk 6 Z Z (faB 1 Z Z Tryz.underlying25 Z (by exact z4q))<|hTk 7 Z Z (ld 1 Z Z (fP (z07 _)) z5j Z)<|hTk 8 Z Z (mv Z)<|z3j fun x7 h8=>hTk 9 Z Z (ixR Z Z h8 tu22 z1g Z)<|hTk 10 Z Z (ldR Z z36)<|z3h 11 [] [] Z (by kernel_rfl) Z (gd0 Z) Z Tryz.func105 Z Z (zb4 _ _) (Y2 Z Z) rN Z (fun _ _=>z2j) fun r9 n10=>hTk 12 Z Z (I.geq Z Z)<|z3q (by kernel_rfl)<|z0f<|gIf Z Z (fun h11=>?_) (fun h11=>?_)
   ·
    refine gSR<|Zb Z<|z0i<|z47<|z0v<|z7z<|z5h<|zb6 [] [] Z (eE Z<|eN) (rN)
   ·
    refine z29<|z2q<|z0f<|z1y<|Zm Z<|Zq (I.add Z Z)<|Za Z<|z1q<|z19 (fun aa ww h=>h.sub [1] (sS Z<|sS Z<|sN) (y1 Z))
  ·
   refine z1k<|z0o<|z0r<|z4y (fun aa ww h=>h.sub [1] (sS Z<|sN) (y1 Z))
 ·
  refine gSR<|Zq (faB 1 Z Z Tryz.underlying25 Z (by exact z9l))<|Zq (ld 1 Z Z (fP (z08 _)) zcx Z)<|Zq (z2w Z .rd Z tu23)<|z0j fun x12 h13=>Ef Z (mks (R:=z0c) 44 Z Z h13 tu142 ti3 (Zr.num Z) Z) fun v14=>Zb Z<|gSR<|Zq (faB 1 Z Z Tryz.underlying25 Z (by exact z9l))<|Zq (ld 1 Z Z (fP (z08 _)) zcx Z)<|Zq (z2w Z .rd Z tu23)<|z0j fun x15 h16=>Ef Z (mksF 45 Z Z h16 Tryz.underlying178 z11q Z) fun v17=>z17y (base:=100000) (lits:=[(1,some (v1,.box 25 [.rd z01 a0])),(44,some (v14,.list z0c 3 x12)),(45,some (v17,.list zjh 142 (zco (fun _=>Value.slice none 0 0) x15)))]) z0c 3 [1,44,45] (z15r h16) (Zi Z<|Zi Z<|Zi Z<|rN)<|Zb Z<|gSR<|Zb Z<|z83 (fun (s18:(List Int) × (List (List Int)) × (List Int)) aa ww=>∃ nv:Nat→Value,Sta (ctx 133 H [] w) [(1,.val (z05 v1 0)),(4,.val v14),(5,.val v17),(6,.val (nv 0))] ([(1,some (v1,.box 25 [.rd z01 a0])),(44,some (v14,.list z0c 3 s18.1)),(45,some (v17,.list zjh 142 (zco (fun j=>nv (j+1)) s18.2.1))),(50,some ((nv 0),.list z0c 3 s18.2.2))]++zr6 100000 z0c 3 (fun j=>nv (j+1)) s18.2.1 0) aa ww) ?_ (fun s18=>?_)
  ·
   refine gSR<|Zq (faB 1 Z Z Tryz.underlying25 Z (by exact z9l))<|Zq (ld 1 Z Z (fP (z08 _)) zcx Z)<|Zq (z2w Z .rd Z tu23)<|Zm Z<|Zn<|zpu z0c 3 56<|z1v (fun (s19:(List Int) × (List (List Int)) × (List Int) × Int) aa ww=>∃ nv:Nat→Value,Sta (ctx 133 H [] w) [(1,.val (z05 v1 0)),(4,.val v14),(5,.val v17),(6,.val (nv 0)),(45,.rd (z02 z03) a0.Ops),(46,.rd z0c (a0.Ops.length:Int)),(47,.rd z0c s19.2.2.2)] ([(1,some (v1,.box 25 [.rd z01 a0])),(44,some (v14,.list z0c 3 s19.1)),(45,some (v17,.list zjh 142 (zco (fun j=>nv (j+1)) s19.2.1))),(55,some ((nv 0),.list z0c 3 s19.2.2.1))]++zr6 100000 z0c 3 (fun j=>nv (j+1)) s19.2.1 0) aa ww) (fun aa ww h=>⟨nvlF [(.slice none 0 0)] (fun _=>Value.slice none 0 0),h.subF (by repeat (first | refine z87.cons Z ?_ | exact z87.tail)) [1,44,45,56] (Zs Z Z Z Z<|sS Z<|sS Z<|sS Z<|sN) (Zi Z<|Zi Z<|Zi Z<|Zi Z<|rN) rfl⟩) (fun s19=>?_)
   refine gEx fun n20=>gSR<|Zq (I.lss Z Z)<|Zn<|z0l<|gIf Z Z (fun h21=>?_) (fun h21=>?_)
   ·
    refine Zt<|z0l<|z49<|gSR<|Zm Z<|z0j fun x22 h23=>Zq (ixR Z Z h23 tu23 za5 Z)<|Zq (ldR Z zcs)<|Eb Z (z52 57 za5 (ZrE.rd (R:=z10) (x:=0) (Zr.num Z) (ZrE.nilS (ZrE.rd (R:=z2k) (x:=0) (Zr.num Z) (ZrE.rd (R:=z0z) (x:=(⟨0,[],(⟨0,0,0,[]⟩:z09)⟩:z18)) zx7 (ZrE.rd (R:=z13) (x:=(⟨0,0⟩:z0q)) zx6 ZrE.nil Z) Z) Z)) Z)) fun v24=>Za Z<|z99 aZ [.rd z10 0,.rd (z02 aZ) [],.rd z2k 0,.rd z0z (⟨0,[],(⟨0,0,0,[]⟩:z09)⟩:z18),.rd z13 (⟨0,0⟩:z0q)] 57 [.rd z10 0] [.rd z2k 0,.rd z0z (⟨0,[],(⟨0,0,0,[]⟩:z09)⟩:z18),.rd z13 (⟨0,0⟩:z0q)] Z Z Z<|zch (R:=z03) (⟨0,[],0,(⟨0,[],(⟨0,0,0,[]⟩:z09)⟩:z18),(⟨0,0⟩:z0q)⟩:z0b) 57 Z (Sp.via (Sp.prod (Sp.prod (Sp.prod (Sp.prod (Sp.prod Sp.unit))))))<|Es (sto 57 Z Z fH Z za5)<|Zn<|z83 (fun (s25:(List (List Int))) aa ww=>∃ nv:Nat→Value,Sta (ctx 133 H [] w) [(1,.val (z05 v1 0)),(4,.val v14),(5,.val v17),(6,.val (n20 0)),(7,.rd z0c s19.2.2.2),(8,.val (z05 v24 0)),(45,.rd (z02 z03) a0.Ops),(46,.rd z0c (a0.Ops.length:Int)),(47,.rd z0c s19.2.2.2)] ([(1,some (v1,.box 25 [.rd z01 a0])),(44,some (v14,.list z0c 3 s19.1)),(45,some (v17,.list zjh 142 (zco (fun j=>nv (j+0)) s25))),(55,some ((n20 0),.list z0c 3 s19.2.2.1)),(57,some (v24,.box 73 [.rd z03 x22]))]++zr6 100000 z0c 3 (fun j=>nv (j+0)) s25 0) aa ww) ?_ (fun s25=>?_)
    ·
     refine gSR<|Zq (faB 57 Z Z Tryz.underlying73 Z (by exact z4q))<|Zq (ld 57 Z Z (fP (z0x _)) z5j Z)<|Zq (z2w Z .rd Z tu22)<|Zm Z<|Zn<|z1v (fun (s26:(List (List Int)) × Int) aa ww=>∃ nv:Nat→Value,Sta (ctx 133 H [] w) [(1,.val (z05 v1 0)),(4,.val v14),(5,.val v17),(6,.val (n20 0)),(7,.rd z0c s19.2.2.2),(8,.val (z05 v24 0)),(45,.rd (z02 z03) a0.Ops),(46,.rd z0c (a0.Ops.length:Int)),(47,.rd z0c s19.2.2.2),(53,.rd (z02 aZ) x22.Preds),(54,.rd z0c (x22.Preds.length:Int)),(55,.rd z0c s26.2)] ([(1,some (v1,.box 25 [.rd z01 a0])),(44,some (v14,.list z0c 3 s19.1)),(45,some (v17,.list zjh 142 (zco (fun j=>nv (j+0)) s26.1))),(55,some ((n20 0),.list z0c 3 s19.2.2.1)),(57,some (v24,.box 73 [.rd z03 x22]))]++zr6 100000 z0c 3 (fun j=>nv (j+0)) s26.1 0) aa ww) (fun aa ww h=>⟨nvlF [] (fun j=>n20 (j+1)),h.subF (by repeat (first | refine z87.cons Z ?_ | exact z87.tail)) [1,44,45,55,57] (Zs Z Z Z Z<|Zs Z Z Z Z<|Zs Z Z Z Z<|sN) (Zi Z<|Zi Z<|Zi Z<|Zi Z<|Zi Z<|rN) rfl⟩) (fun s26=>?_)
     refine gEx fun n27=>gSR<|Zq (I.lss Z Z)<|Zn<|z0l<|gIf Z Z (fun h28=>?_) (fun h28=>?_)
     ·
      refine Zt<|z0l<|z49<|gSR<|z0j fun x29 h30=>Zq (ixR Z Z h30 tu22 z1g Z)<|Zq (ldR Z z36)<|Eb Z (z52 58 z1g (.zr (R:=aZ) (x:=(Vector.replicate 32 0)) zf5)) fun v31=>Es (sto 58 Z Z fH Z z1g)<|Zn<|gSR<|Zq (ld 1 Z Z fH z2v Z)<|Zq (ld 58 Z Z fH z36 Z)<|call [] [] Z Tryz.func65 Z Z (zer _ _) (Y2 Z Z) rN fun r32 n33=>Zm Z<|Zq (ext Z Z)<|Zq (ext Z Z)<|Za Z<|Zb Z<|z0l<|gSR<|Zm Z<|Zq (zdi Z)<|Zj Z (fun h34=>?_) (fun h34=>?_)
      ·
       refine gSR<|Zb Z<|z0i<|z0v<|z47<|z0v<|z7z<|z5h<|z47<|z0v<|z7z<|z5h<|zb6 [] [] Z (eE Z<|eN) (rN)
      ·
       refine Zt<|z1y<|Zm Z<|Zm Z<|Zm Z<|Zm Z<|z0j fun x35 h36=>Zq (ixO 45 Z Z Z (zqk h36) Tryz.underlying178 z11q)<|Zq (ldF 45 Z Z h36 z14z Z)<|Zm Z<|Ef Z (lit (R:=z0c) ([s19.2.2.2]:List Int) 59 (pP Z Z<|pN) Z tu142 ti3 Z Z) fun v37=>z0j fun x38 h39=>lApF (base:=100000) (lits:=[(1,some (v1,.box 25 [.rd z01 a0])),(44,some (v14,.list z0c 3 s19.1)),(55,some ((n20 0),.list z0c 3 s19.2.2.1)),(57,some (v24,.box 73 [.rd z03 x22])),(58,some (v31,.box 62 [.rd aZ x29])),(59,some (v37,.list z0c 3 [s19.2.2.2]))]) 45 [1,44,55,57,58,59] (by repeat (first | refine z87.cons Z ?_ | exact z87.tail)) Z Z Z h36 Z Z Z Z (.own 59 Z) h39 Z (fun _ h=>by cases h; rfl) (fun _ h=>by cases h; rfl) Z Z tu142 ti3 Z Z Z Tryz.underlying178 z11q z14z (Zi Z<|Zi Z<|Zi Z<|Zi Z<|Zi Z<|Zi Z<|rN) Z fun v40=>z1q<|z2q<|z0f<|z1y<|Zq (I.add Z Z)<|Zm Z<|z1q<|z19 (fun aa ww h=>⟨nvlF [] (updF (fun j=>n27 (j+0)) (r32.1:Int).toNat v40),h.subF (by repeat (first | refine z87.cons Z ?_ | exact z87.tail)) [1,44,45,55,57] (Zs Z Z Z Z<|Zs Z Z Z Z<|Zs Z Z Z Z<|sN) (Zi Z<|Zi Z<|Zi Z<|Zi Z<|Zi Z<|rN) rfl⟩)
     ·
      refine z1k<|z0o<|z0r<|z4y (fun aa ww h=>⟨nvlF [] (fun j=>n27 (j+0)),h.subF (by repeat (first | refine z87.cons Z ?_ | exact z87.tail)) [1,44,45,55,57] (Zs Z Z Z Z<|Zs Z Z Z Z<|sS Z<|sN) (Zi Z<|Zi Z<|Zi Z<|Zi Z<|Zi Z<|rN) rfl⟩)
    ·
     refine gEx fun n41=>gSR<|Zm Z<|Zm Z<|Zq (faB 57 Z Z Tryz.underlying73 Z (by exact z4q))<|Zq (ld 57 Z Z (fP (z0x _)) z5j Z)<|Zq (z2w Z .rd Z tu22)<|z0j fun x42 h43=>Zq (ixO 44 Z Z Z h43 tu142 ti3)<|Es (sto 44 Z Z (Foc.el h43) Z ti3)<|Zn<|gSR<|Zm Z<|Zm Z<|z0j fun x44 h45=>Zq (ixO 44 Z Z Z h45 tu142 ti3)<|Zq (ld 44 Z Z (Foc.el h45) ty3 Z)<|Zq (I.eql Z Z)<|Zj Z (fun h46=>?_) (fun h46=>?_)
     ·
      refine z1y<|Zm Z<|Zm Z<|Ef Z (lit (R:=z0c) ([s19.2.2.2]:List Int) 60 (pP Z Z<|pN) Z tu142 ti3 Z Z) fun v47=>z0j fun x48 h49=>Ef Z (apn 55 Z Z Z (.own 60 Z) h49 tu142 ti3 Z Z Z) fun v50=>Za Z<|z1q<|z2q<|z0f<|z1y<|Zq (I.add Z Z)<|Zm Z<|z1q<|z19 (fun aa ww h=>⟨nvlF [v50] (fun j=>n41 (j+0)),h.subF (by repeat (first | refine z87.cons Z ?_ | exact z87.tail)) [1,44,45,55] (Zs Z Z Z Z<|sS Z<|sS Z<|sS Z<|sN) (Zi Z<|Zi Z<|Zi Z<|Zi Z<|rN) rfl⟩)
     ·
      refine z29<|z2q<|z0f<|z1y<|Zq (I.add Z Z)<|Zm Z<|z1q<|z19 (fun aa ww h=>⟨nvlF [(n20 0)] (fun j=>n41 (j+0)),h.subF (by repeat (first | refine z87.cons Z ?_ | exact z87.tail)) [1,44,45,55] (Zs Z Z Z Z<|sS Z<|sS Z<|sS Z<|sN) (Zi Z<|Zi Z<|Zi Z<|Zi Z<|rN) rfl⟩)
   ·
    refine z1k<|z0o<|z0r<|z4y (fun aa ww h=>⟨nvlF [(n20 0)] (fun j=>n20 (j+1)),h.subF (by repeat (first | refine z87.cons Z ?_ | exact z87.tail)) [1,44,45,55] (Zs Z Z Z Z<|sN) (Zi Z<|Zi Z<|Zi Z<|Zi Z<|rN) rfl⟩)
  ·
   refine gEx fun n51=>gSR<|Zb Z<|z5q (fun (s52:Int) aa ww=>Sta (ctx 133 H [] w) [(1,.val (z05 v1 0)),(13,.rd z0c s52)] [(1,some (v1,.box 25 [.rd z01 a0]))] aa ww) ?_ (fun s52=>?_)
   ·
    refine z17r (base:=100000) (T:=3) (lits:=[(1,some (v1,.box 25 [.rd z01 a0])),(44,some (v14,.list z0c 3 s18.1)),(50,some ((n51 0),.list z0c 3 s18.2.2))]) (by repeat (first | refine z87.cons Z ?_ | exact z87.tail)) 45 Z [1,44,50] (Zi Z<|Zi Z<|Zi Z<|rN) Z Z<|z1v (fun (s53:(List Int) × (List Int) × Int) aa ww=>∃ nv:Nat→Value,Sta (ctx 133 H [] w) [(1,.val (z05 v1 0)),(4,.val v14),(5,.val v17),(6,.val (nv 0)),(13,.rd z0c s53.2.2)] [(1,some (v1,.box 25 [.rd z01 a0])),(44,some (v14,.list z0c 3 s53.1)),(45,some (v17,.list (z02 z0c) 142 s18.2.1)),(50,some ((nv 0),.list z0c 3 s53.2.1))] aa ww) (fun aa ww h=>⟨nvl [(n51 0)],h.sub [1,44,45,50] (Zs Z Z Z Z<|sS Z<|sN) (Zi Z<|Zi Z<|Zi Z<|Zi Z<|rN)⟩) (fun s53=>?_)
    refine gEx fun n54=>z0l<|gSR<|Zm Z<|Zm Z<|Zq (z2w Z (.own 50 Z) Z tu142)<|Zq (I.lss Z Z)<|Zj Z (fun h55=>?_) (fun h55=>?_)
    ·
     refine Zt<|z5q (fun (s56:(List Int) × (List Int)) aa ww=>∃ nv:Nat→Value,Sta (ctx 133 H [] w) [(1,.val (z05 v1 0)),(4,.val v14),(5,.val v17),(6,.val (nv 0)),(13,.rd z0c s53.2.2)] [(1,some (v1,.box 25 [.rd z01 a0])),(44,some (v14,.list z0c 3 s56.1)),(45,some (v17,.list (z02 z0c) 142 s18.2.1)),(50,some ((nv 0),.list z0c 3 s56.2))] aa ww) ?_ (fun s56=>?_)
     ·
      refine z49<|gSR<|Zm Z<|Zm Z<|Zm Z<|z0j fun x57 h58=>Zq (ixO 50 Z Z Z h58 tu142 ti3)<|Zq (ld 50 Z Z (Foc.el h58) ty3 Z)<|z0j fun x59 h60=>Zq (ixO 45 Z Z Z h60 Tryz.underlying178 z11q)<|Zq (ld 45 Z Z (Foc.el h60) z14z Z)<|Zq (z2w Z .rd Z tu142)<|Zm Z<|Zn<|z1v (fun (s61:(List Int) × (List Int) × Int) aa ww=>∃ nv:Nat→Value,Sta (ctx 133 H [] w) [(1,.val (z05 v1 0)),(4,.val v14),(5,.val v17),(6,.val (nv 0)),(13,.rd z0c s53.2.2),(106,.rd (z02 z0c) x59),(107,.rd z0c (x59.length:Int)),(108,.rd z0c s61.2.2)] [(1,some (v1,.box 25 [.rd z01 a0])),(44,some (v14,.list z0c 3 s61.1)),(45,some (v17,.list (z02 z0c) 142 s18.2.1)),(50,some ((nv 0),.list z0c 3 s61.2.1))] aa ww) (fun aa ww h=>⟨nvl [(n54 0)],h.sub [1,44,45,50] (Zs Z Z Z Z<|Zs Z Z Z Z<|sN) (Zi Z<|Zi Z<|Zi Z<|Zi Z<|rN)⟩) (fun s61=>?_)
      refine gEx fun n62=>gSR<|Zq (I.lss Z Z)<|Zn<|z0l<|gIf Z Z (fun h63=>?_) (fun h63=>?_)
      ·
       refine Zt<|z0l<|z49<|gSR<|z0j fun x64 h65=>Zq (ixR Z Z h65 tu142 ti3 Z)<|Zq (ldR Z ty3)<|Zb Z<|gSR<|Zm Z<|Zm Z<|z0j fun x66 h67=>Zq (ixO 44 Z Z Z h67 tu142 ti3)<|Zq (ld 44 Z Z (Foc.el h67) ty3 Z)<|Zq (I.sub Z Z)<|z0j fun x68 h69=>Zq (ixO 44 Z Z Z h69 tu142 ti3)<|Es (sto 44 Z Z (Foc.el h69) Z ti3)<|Zn<|gSR<|Zm Z<|Zm Z<|z0j fun x70 h71=>Zq (ixO 44 Z Z Z h71 tu142 ti3)<|Zq (ld 44 Z Z (Foc.el h71) ty3 Z)<|Zq (I.eql Z Z)<|Zj Z (fun h72=>?_) (fun h72=>?_)
       ·
        refine z1y<|Zm Z<|Zm Z<|Ef Z (lit (R:=z0c) ([x64]:List Int) 61 (pP Z Z<|pN) Z tu142 ti3 Z Z) fun v73=>z0j fun x74 h75=>Ef Z (apn 50 Z Z Z (.own 61 Z) h75 tu142 ti3 Z Z Z) fun v76=>Za Z<|z1q<|z2q<|z0f<|z1y<|Zq (I.add Z Z)<|Zm Z<|z1q<|z19 (fun aa ww h=>⟨nvl [v76],h.sub [1,44,45,50] (Zs Z Z Z Z<|Zs Z Z Z Z<|sN) (Zi Z<|Zi Z<|Zi Z<|Zi Z<|rN)⟩)
       ·
        refine z29<|z2q<|z0f<|z1y<|Zq (I.add Z Z)<|Zm Z<|z1q<|z19 (fun aa ww h=>⟨nvl [(n62 0)],h.sub [1,44,45,50] (Zs Z Z Z Z<|Zs Z Z Z Z<|sN) (Zi Z<|Zi Z<|Zi Z<|Zi Z<|rN)⟩)
      ·
       refine z1k<|z0o<|z0r<|z2q<|z3b (fun aa ww h=>⟨nvl [(n62 0)],h.sub [1,44,45,50] (Zs Z Z Z Z<|sS Z<|sN) (Zi Z<|Zi Z<|Zi Z<|Zi Z<|rN)⟩)
     ·
      refine gEx fun n77=>z1y<|Zm Z<|Zq (I.add Z Z)<|Za Z<|z1i 13 Z fun y78=>z1q<|z19 (fun aa ww h=>⟨nvl [(n77 0)],h.sub [1,44,45,50] (Zs Z Z Z Z<|sS Z<|sN) (Zi Z<|Zi Z<|Zi Z<|Zi Z<|rN)⟩)
    ·
     refine z1k<|z0o<|z0r<|z3b (fun aa ww h=>h.sub [1] (sS Z<|sS Z<|sN) (y1 Z))
   ·
    refine z0l<|gSR<|Zm Z<|Zq (faB 1 Z Z Tryz.underlying25 Z (by exact z9l))<|Zq (ld 1 Z Z (fP (z08 _)) zcx Z)<|Zq (z2w Z .rd Z tu23)<|Zq (I.lss Z Z)<|Zj Z (fun h79=>?_) (fun h79=>?_)
    ·
     refine gSR<|Zb Z<|z0i<|z0v<|zb6 [] [] Z (eE Z<|eN) (rN)
    ·
     refine Zt<|gSR<|Zb Z<|z0i<|zb6 [] [] Z (eE Z<|eN) (rN)
def zdq (a0:z00) (s5:Int):Option (Sum (Sum Int Unit) Int) :=
 if decide (s5<(a0.Ops.length:Int)) then
  idx a0.Ops s5 >>= fun x7 =>
  zxz x7 >>= fun r10 =>
  (if r10.2 != 0 then
   some true
  else
   idx a0.IDs s5 >>= fun x15 =>
   if !decide (r10.1=x15) then
    some true
   else
    zhu x7 >>= fun r18 =>
    some (r18 != 0)) >>= fun s13 =>
  if s13 then
   some (.inl (.inl 8))
  else
   some (.inr (w64 (s5+1)))
 else
  some (.inl (.inr ()))
def z24 (a0:z00):Option (Int) :=
 if decide (60<(a0.Ops.length:Int)) then
  some 4
 else
  if (a0.IDs.length:Int) != (a0.Ops.length:Int) then
   some 8
  else
   z61 (iter (zdq a0) 0) fun s4 =>
   zlg a0 >>= fun r21 =>
   some r21
theorem zc4 (a0:z00):z1w Tryz.prog 74 [.rd z01 a0] [zG1] (z24 a0) (fun r nv=>⟨[.rd z0c r],[(1001,some (.bool true,.glob 1 (z3r 64 z10) z8a))]⟩):=by
 refine z2e 50 Tryz.func74 Z Z Z fun H w=>?_
 refine gSR<|Eb Z (bx 1 Z) fun v1=>Zb Z<|z0l<|gSR<|Zq (faB 1 Z Z Tryz.underlying25 Z (by exact z9l))<|Zq (ld 1 Z Z (fP (z08 _)) zcx Z)<|Zq (z2w Z .rd Z tu23)<|Zq (I.gtr Z Z)<|Zj Z (fun h2=>?_) (fun h2=>?_)
 ·
  refine gSR<|Zb Z<|z0i<|z0v<|Ze [] [1001] Z
 ·
  refine Zt<|z0l<|gSR<|Zq (faB 1 Z Z Tryz.underlying25 Z (by exact z4q))<|Zq (ld 1 Z Z (fP (z07 _)) z5j Z)<|Zq (z2w Z .rd Z tu22)<|Zq (faB 1 Z Z Tryz.underlying25 Z (by exact z9l))<|Zq (ld 1 Z Z (fP (z08 _)) zcx Z)<|Zq (z2w Z .rd Z tu23)<|Zq (I.neq Z Z)<|Zj Z (fun h3=>?_) (fun h3=>?_)
  ·
   refine gSR<|Zb Z<|z0i<|z0v<|Ze [] [1001] Z
  ·
   refine Zt<|z83 (fun (s4:Unit) aa ww=>Sta (ctx 50 H [zG1] w) [(1,.val (z05 v1 0))] [(1,some (v1,.box 25 [.rd z01 a0])),zG1] aa ww) ?_ (fun s4=>?_)
   ·
    refine gSR<|Zq (faB 1 Z Z Tryz.underlying25 Z (by exact z9l))<|Zq (ld 1 Z Z (fP (z08 _)) zcx Z)<|Zq (z2w Z .rd Z tu23)<|Zm Z<|Zn<|z1v (fun (s5:Int) aa ww=>Sta (ctx 50 H [zG1] w) [(1,.val (z05 v1 0)),(19,.rd (z02 z03) a0.Ops),(20,.rd z0c (a0.Ops.length:Int)),(21,.rd z0c s5)] [(1,some (v1,.box 25 [.rd z01 a0])),zG1] aa ww) (fun aa ww h=>Zu h [1,1001]) (fun s5=>?_)
    refine gSR<|Zq (I.lss Z Z)<|Zn<|z0l<|gIf Z Z (fun h6=>?_) (fun h6=>?_)
    ·
     refine Zt<|z0l<|z49<|gSR<|Zm Z<|z0j fun x7 h8=>Zq (ixR Z Z h8 tu23 za5 Z)<|Zq (ldR Z zcs)<|Eb Z (z52 1100 za5 (ZrE.rd (R:=z10) (x:=0) (Zr.num Z) (ZrE.nilS (ZrE.rd (R:=z2k) (x:=0) (Zr.num Z) (ZrE.rd (R:=z0z) (x:=(⟨0,[],(⟨0,0,0,[]⟩:z09)⟩:z18)) zx7 (ZrE.rd (R:=z13) (x:=(⟨0,0⟩:z0q)) zx6 ZrE.nil Z) Z) Z)) Z)) fun v9=>Za Z<|z99 aZ [.rd z10 0,.rd (z02 aZ) [],.rd z2k 0,.rd z0z (⟨0,[],(⟨0,0,0,[]⟩:z09)⟩:z18),.rd z13 (⟨0,0⟩:z0q)] 1100 [.rd z10 0] [.rd z2k 0,.rd z0z (⟨0,[],(⟨0,0,0,[]⟩:z09)⟩:z18),.rd z13 (⟨0,0⟩:z0q)] Z Z Z<|zch (R:=z03) (⟨0,[],0,(⟨0,[],(⟨0,0,0,[]⟩:z09)⟩:z18),(⟨0,0⟩:z0q)⟩:z0b) 1100 Z (Sp.via (Sp.prod (Sp.prod (Sp.prod (Sp.prod (Sp.prod Sp.unit))))))<|Es (sto 1100 Z Z fH Z za5)<|Zn<|gSR<|Zq (ld 1100 Z Z fH zcs Z)<|Zc [1001] [] Tryz.func111 Z (zvp _) fun r10 n11=>Zm Z<|Zq (ext Z Z)<|Zq (ext Z Z)<|Eb Z (z52 1101 z1g (.zr (R:=aZ) (x:=(Vector.replicate 32 0)) zf5)) fun v12=>Es (sto 1101 Z Z fH Z z1g)<|Zb Z<|z5q (fun (s13:Bool) aa ww=>Sta (ctx 50 H [zG1] w) [(1,.val (z05 v1 0)),(19,.rd (z02 z03) a0.Ops),(20,.rd z0c (a0.Ops.length:Int)),(21,.rd z0c s5),(46,.rd z0g s13)] [(1,some (v1,.box 25 [.rd z01 a0])),zG1] aa ww) ?_ (fun s13=>?_)
     ·
      refine z57 [1001] mixed Z Z<|hTk 0 Z Z (mv Z)<|hTk 1 Z Z (I.neq Z Z)<|hTk 2 Z Z (mv Z)<|hIf 33 Z Z (fun h14=>?_) (fun h14=>?_)
      ·
       refine hKn 32 Z Z h14<|hSk 3 Z Z<|hSk 4 Z Z<|hSk 5 Z Z<|hSk 6 Z Z<|hSk 7 Z Z<|hSk 8 Z Z<|hSk 9 Z Z<|hTk 10 Z Z (pkT Z Z)<|hTk 11 Z Z (mv Z)<|hSk 12 Z Z<|hSk 13 Z Z<|hSk 14 Z Z<|hTk 15 Z Z (pkT Z Z)<|z3q (by kernel_rfl)<|z3b (fun aa ww h=>Zu h [1,1001])
      ·
       refine hKn 32 Z Z h14<|Zg 3 Z Z (ld 1101 Z Z fH z36 Z)<|Zg 4 Z Z (faB 1 Z Z Tryz.underlying25 Z (by exact z4q))<|Zg 5 Z Z (ld 1 Z Z (fP (z07 _)) z5j Z)<|Zg 6 Z Z (mv Z)<|z3j fun x15 h16=>Zg 7 Z Z (ixR Z Z h16 tu22 z1g Z)<|Zg 8 Z Z (ldR Z z36)<|Zg 9 Z Z (neA Z Z zut Z Z zuh)<|hTk 10 Z Z (pkF Z Z)<|hTk 11 Z Z (mv Z)<|hIf 42 Z Z (fun h17=>?_) (fun h17=>?_)
       ·
        refine hKn 40 Z Z h17<|hKn 41 Z Z h17<|hSk 12 Z Z<|hSk 13 Z Z<|hSk 14 Z Z<|hTk 15 Z Z (pkT Z Z)<|z3q (by kernel_rfl)<|z3b (fun aa ww h=>Zu h [1,1001])
       ·
        refine hKn 40 Z Z h17<|hKn 41 Z Z h17<|Zg 12 Z Z (ld 1100 Z Z fH zcs Z)<|z3h 13 [1001] [] Z (by kernel_rfl) Z Zx Z Tryz.func112 Z Z (zmu _) (Y1 Z) (y1 Z) Z (fun _ _=>z2j) fun r18 n19=>Zg 14 Z Z (I.neq Z Z)<|hTk 15 Z Z (pkF Z Z)<|z3q (by kernel_rfl)<|z3b (fun aa ww h=>Zu h [1,1001])
     ·
      refine gIf Z Z (fun h20=>?_) (fun h20=>?_)
      ·
       refine gSR<|Zb Z<|z0i<|z47<|z0v<|z7z<|z5h<|Ze [] [1001] Z
      ·
       refine z29<|z2q<|z0f<|z1y<|Zq (I.add Z Z)<|Zm Z<|z1q<|z19 (fun aa ww h=>Zu h [1,1001])
    ·
     refine z1k<|z0o<|z0r<|z4y (fun aa ww h=>Zu h [1,1001])
   ·
    refine gSR<|Zq (ld 1 Z Z fH z2v Z)<|Zc [] [] Tryz.func113 Z (zrl _) fun r21 n22=>Zb Z<|z0i<|Ze [] [1001] Z
def z9b (a0:List V3) (a1:V3) (s3:Int):Option (Sum (Sum Int Unit) Int) :=
 if decide (s3<(a0.length:Int)) then
  idx a0 s3 >>= fun x5 =>
  if decide (x5=a1) then
   some (.inl (.inl s3))
  else
   some (.inr (w64 (s3+1)))
 else
  some (.inl (.inr ()))
def z3l (a0:List V3) (a1:V3):Option (Int) :=
 z61 (iter (z9b a0 a1) 0) fun s2 =>
 some (-1)
theorem z7a (a0:List V3) (a1:V3):z1w Tryz.prog 34 [.rd (z02 aZ) a0,.rd aZ a1] [] (z3l a0 a1) (fun r nv=>⟨[.rd z0c r],[]⟩):=by
 refine z2e 19 Tryz.func34 Z Z Z fun H w=>?_
 refine gSR<|Eb Z (bx 1 Z) fun v1=>Zb Z<|z83 (fun (s2:Unit) aa ww=>Sta (ctx 19 H [] w) [] [] aa ww) ?_ (fun s2=>?_)
 ·
  refine gSR<|Zb Z<|z1v (fun (s3:Int) aa ww=>Sta (ctx 19 H [] w) [(0,.rd (z02 aZ) a0),(3,.val (z05 v1 0)),(5,.rd z0c s3)] [(1,some (v1,.box 62 [.rd aZ a1]))] aa ww) (fun aa ww h=>Zu h [1]) (fun s3=>?_)
  refine z0l<|gSR<|Zm Z<|Zm Z<|Zq (z2w Z .rd Z tu22)<|Zq (I.lss Z Z)<|Zj Z (fun h4=>?_) (fun h4=>?_)
  ·
   refine Zt<|z0l<|z49<|z0l<|zgc mixed (by kernel_rfl)<|Rq Z (mv Z)<|Rq Z (mv Z)<|z80 fun x5 h6=>Rq Z (ixR Z Z h6 tu22 z1g Z)<|Rq Z (ldR Z z36)<|Rq Z (ld 1 Z Z fH z36 Z)<|Rq Z (eqA Z Z zut Z Z zuh)<|zov<|z0f<|gIf Z Z (fun h7=>?_) (fun h7=>?_)
   ·
    refine gSR<|Zm Z<|Zb Z<|z0i<|z47<|z0v<|z7z<|z5h<|Ze [] [] Z
   ·
    refine z29<|z2q<|z0f<|z1y<|Zm Z<|Zq (I.add Z Z)<|Za Z<|z1q<|z19 (fun aa ww h=>Zu h [1])
  ·
   refine z1k<|z0o<|z0r<|z4y (fun aa ww h=>Zu h [])
 ·
  refine gSR<|Zb Z<|z0i<|Ze [] [] Z
def z8l (a0:List V3) (a1:List V3) (s2:Int):Option (Sum (Sum Bool Unit) Int) :=
 if decide (s2<(a1.length:Int)) then
  idx a1 s2 >>= fun x4 =>
  z3l a0 x4 >>= fun r6 =>
  if decide (r6<0) then
   some (.inl (.inl false))
  else
   some (.inr (w64 (s2+1)))
 else
  some (.inl (.inr ()))
def z3t (a0:List V3) (a1:List V3):Option (Bool) :=
 z61 (iter (z8l a0 a1) 0) fun s1 =>
 some true
theorem zd8 (a0:List V3) (a1:List V3):z1w Tryz.prog 31 [.rd (z02 aZ) a0,.rd (z02 aZ) a1] [] (z3t a0 a1) (fun r nv=>⟨[.rd z0g r],[]⟩):=by
 refine z2e 19 Tryz.func31 Z Z Z fun H w=>?_
 refine gSR<|Zb Z<|z83 (fun (s1:Unit) aa ww=>Sta (ctx 19 H [] w) [] [] aa ww) ?_ (fun s1=>?_)
 ·
  refine gSR<|Zb Z<|z1v (fun (s2:Int) aa ww=>Sta (ctx 19 H [] w) [(0,.rd (z02 aZ) a0),(1,.rd (z02 aZ) a1),(5,.rd z0c s2)] [] aa ww) (fun aa ww h=>Zu h []) (fun s2=>?_)
  refine z0l<|gSR<|Zm Z<|Zm Z<|Zq (z2w Z .rd Z tu22)<|Zq (I.lss Z Z)<|Zj Z (fun h3=>?_) (fun h3=>?_)
  ·
   refine Zt<|z0l<|z49<|gSR<|Zm Z<|Zm Z<|Zm Z<|z0j fun x4 h5=>Zq (ixR Z Z h5 tu22 z1g Z)<|Zq (ldR Z z36)<|Zc [] [] Tryz.func34 Z (z7a _ _) fun r6 n7=>Zq (I.lss Z Z)<|Zj Z (fun h8=>?_) (fun h8=>?_)
   ·
    refine gSR<|Zb Z<|z0i<|z47<|z0v<|z7z<|z5h<|Ze [] [] Z
   ·
    refine z29<|z2q<|z0f<|z1y<|Zm Z<|Zq (I.add Z Z)<|Za Z<|z1q<|z19 (fun aa ww h=>Zu h [])
  ·
   refine z1k<|z0o<|z0r<|z4y (fun aa ww h=>Zu h [])
 ·
  refine gSR<|Zb Z<|z0i<|Ze [] [] Z
theorem zex (a0:List V3) (q0:Value) (l0:List V3) (a1:V3):z1w Tryz.prog 34 [.vw aZ q0 l0 a0,.rd aZ a1] [(1,some (q0,.list aZ 62 l0))] (z3l a0 a1) (fun r nv=>⟨[.rd z0c r],[(1,some (q0,.list aZ 62 l0))]⟩):=by
 refine z2e 19 Tryz.func34 Z Z Z fun H w=>?_
 refine gSR<|Eb Z (bx 2 Z) fun v1=>Zb Z<|z83 (fun (s2:Unit) aa ww=>Sta (ctx 19 H [(1,some (q0,.list aZ 62 l0))] w) [] [(1,some (q0,.list aZ 62 l0))] aa ww) ?_ (fun s2=>?_)
 ·
  refine gSR<|Zb Z<|z1v (fun (s3:Int) aa ww=>Sta (ctx 19 H [(1,some (q0,.list aZ 62 l0))] w) [(0,.vw aZ q0 l0 a0),(3,.val (z05 v1 0)),(5,.rd z0c s3)] [(1,some (q0,.list aZ 62 l0)),(2,some (v1,.box 62 [.rd aZ a1]))] aa ww) (fun aa ww h=>Zu h [1,2]) (fun s3=>?_)
  refine z0l<|gSR<|Zm Z<|Zm Z<|Zq (z2w Z (.vw 1 Z) Z tu22)<|Zq (I.lss Z Z)<|Zj Z (fun h4=>?_) (fun h4=>?_)
  ·
   refine Zt<|z0l<|z49<|z0l<|zgc mixed (by kernel_rfl)<|Rq Z (mv Z)<|Rq Z (mv Z)<|z80 fun x5 h6=>Rq Z (ixQ 1 Z Z Z h6 tu22 z1g)<|Rq Z (ldQ 1 Z Z z36 Z)<|Rq Z (ld 2 Z Z fH z36 Z)<|Rq Z (eqA Z Z zut Z Z zuh)<|zov<|z0f<|gIf Z Z (fun h7=>?_) (fun h7=>?_)
   ·
    refine gSR<|Zm Z<|Zb Z<|z0i<|z47<|z0v<|z7z<|z5h<|Ze [] [1] Z
   ·
    refine z29<|z2q<|z0f<|z1y<|Zm Z<|Zq (I.add Z Z)<|Za Z<|z1q<|z19 (fun aa ww h=>Zu h [1,2])
  ·
   refine z1k<|z0o<|z0r<|z4y (fun aa ww h=>Zu h [1])
 ·
  refine gSR<|Zb Z<|z0i<|Ze [] [1] Z
theorem zj2 (a0:List V3) (q0:Value) (l0:List V3) (a1:List V3):z1w Tryz.prog 31 [.vw aZ q0 l0 a0,.rd (z02 aZ) a1] [(1,some (q0,.list aZ 62 l0))] (z3t a0 a1) (fun r nv=>⟨[.rd z0g r],[(1,some (q0,.list aZ 62 l0))]⟩):=by
 refine z2e 19 Tryz.func31 Z Z Z fun H w=>?_
 refine gSR<|Zb Z<|z83 (fun (s1:Unit) aa ww=>Sta (ctx 19 H [(1,some (q0,.list aZ 62 l0))] w) [] [(1,some (q0,.list aZ 62 l0))] aa ww) ?_ (fun s1=>?_)
 ·
  refine gSR<|Zb Z<|z1v (fun (s2:Int) aa ww=>Sta (ctx 19 H [(1,some (q0,.list aZ 62 l0))] w) [(0,.vw aZ q0 l0 a0),(1,.rd (z02 aZ) a1),(5,.rd z0c s2)] [(1,some (q0,.list aZ 62 l0))] aa ww) (fun aa ww h=>Zu h [1]) (fun s2=>?_)
  refine z0l<|gSR<|Zm Z<|Zm Z<|Zq (z2w Z .rd Z tu22)<|Zq (I.lss Z Z)<|Zj Z (fun h3=>?_) (fun h3=>?_)
  ·
   refine Zt<|z0l<|z49<|gSR<|Zm Z<|Zm Z<|Zm Z<|z0j fun x4 h5=>Zq (ixR Z Z h5 tu22 z1g Z)<|Zq (ldR Z z36)<|Zc [1] [(1,1)] Tryz.func34 Z (zex _ _ _ _) fun r6 n7=>Zq (I.lss Z Z)<|Zj Z (fun h8=>?_) (fun h8=>?_)
   ·
    refine gSR<|Zb Z<|z0i<|z47<|z0v<|z7z<|z5h<|Ze [] [1] Z
   ·
    refine z29<|z2q<|z0f<|z1y<|Zm Z<|Zq (I.add Z Z)<|Za Z<|z1q<|z19 (fun aa ww h=>Zu h [1])
  ·
   refine z1k<|z0o<|z0r<|z4y (fun aa ww h=>Zu h [1])
 ·
  refine gSR<|Zb Z<|z0i<|Ze [] [1] Z
def z44 (a0:z00) (s6:(List Int) × (List V3) × (List Bool) × Bool) (s9:Int):Option (Sum (Sum ((List Int)) ((List Int) × (List V3) × (List Bool) × Bool)) Int) :=
 if decide (s9<(a0.Ops.length:Int)) then
  (idx s6.2.2.1 s9 >>= fun x12 =>
  if !x12 then
   idx a0.Ops s9 >>= fun x15 =>
   z3t s6.2.1 x15.Preds >>= fun r17 =>
   some r17
  else
   some false) >>= fun s11 =>
  if s11 then
   app 8 s6.1 [s9] >>= fun x20 =>
   idx a0.IDs s9 >>= fun x22 =>
   app 32 s6.2.1 [x22] >>= fun x24 =>
   idx s6.2.2.1 s9 >>= fun x26 =>
   some (.inl (.inr (x20,x24,s6.2.2.1.set (s9:Int).toNat true,true)))
  else
   some (.inr (w64 (s9+1)))
 else
  some (.inl (.inr (s6.1,s6.2.1,s6.2.2.1,false)))
def z43 (a0:z00) (s6:(List Int) × (List V3) × (List Bool) × Bool):Option (Sum ((List Int)) ((List Int) × (List V3) × (List Bool) × Bool)) :=
 if s6.2.2.2 then
  iter (z44 a0 s6) 0
 else
  some (.inl s6.1)
def z4p (a0:z00):Option ((List Int)) :=
 mkn 1 false (a0.Ops.length:Int) >>= fun x2 =>
 (iter (z43 a0) ([],[],x2,true)) >>= fun s5 =>
 some s5
set_option maxHeartbeats 4000000 in
theorem zeh (a0:z00):z1w Tryz.prog 109 [.rd z01 a0] [] (z4p a0) (fun r nv=>⟨[.val (nv 0)],[(100,some (nv 0,.list z0c 3 r))]⟩):=by
 refine z2e 51 Tryz.func109 Z Z Z fun H w=>?_
 refine gSR<|Eb Z (bx 1 Z) fun v1=>Zb Z<|gSR<|Zb Z<|gSR<|Zb Z<|gSR<|Zq (faB 1 Z Z Tryz.underlying25 Z (by exact z9l))<|Zq (ld 1 Z Z (fP (z08 _)) zcx Z)<|Zq (z2w Z .rd Z tu23)<|z0j fun x2 h3=>Ef Z (mks (R:=z0g) 2 Z Z h3 tu152 ti4 Zr.bool Z) fun v4=>Zb Z<|z5q (fun (s5:(List Int)) aa ww=>∃ nv:Nat→Value,Sta (ctx 51 H [] w) [(3,.val (nv 0))] [(3,some ((nv 0),.list z0c 3 s5))] aa ww) ?_ (fun s5=>?_)
 ·
  refine gSR<|Zb Z<|zpu z0c 3 6<|zpu aZ 62 7<|z1v (fun (s6:(List Int) × (List V3) × (List Bool) × Bool) aa ww=>∃ nv:Nat→Value,Sta (ctx 51 H [] w) [(1,.val (z05 v1 0)),(3,.val (nv 0)),(4,.val (nv 1)),(5,.val v4),(6,.rd z0g s6.2.2.2)] [(1,some (v1,.box 25 [.rd z01 a0])),(4,some ((nv 0),.list z0c 3 s6.1)),(5,some ((nv 1),.list aZ 62 s6.2.1)),(2,some (v4,.list z0g 4 s6.2.2.1))] aa ww) (fun aa ww h=>⟨nvl [(.slice none 0 0),(.slice none 0 0)],Zu h [1,6,7,2]⟩) (fun s6=>?_)
  refine gEx fun n7=>z0l<|gSR<|Zm Z<|Zj Z (fun h8=>?_) (fun h8=>?_)
  ·
   refine gKn 6 Z h8<|Zt<|z49<|gSR<|Zb Z<|gSR<|Zb Z<|z1v (fun (s9:Int) aa ww=>Sta (ctx 51 H [] w) [(1,.val (z05 v1 0)),(3,.val (n7 0)),(4,.val (n7 1)),(5,.val v4),(6,.rd z0g false),(7,.rd z0c s9)] [(1,some (v1,.box 25 [.rd z01 a0])),(4,some ((n7 0),.list z0c 3 s6.1)),(5,some ((n7 1),.list aZ 62 s6.2.1)),(2,some (v4,.list z0g 4 s6.2.2.1))] aa ww) (fun aa ww h=>Zu h [1,4,5,2]) (fun s9=>?_)
   refine z0l<|gSR<|Zm Z<|Zq (faB 1 Z Z Tryz.underlying25 Z (by exact z9l))<|Zq (ld 1 Z Z (fP (z08 _)) zcx Z)<|Zq (z2w Z .rd Z tu23)<|Zq (I.lss Z Z)<|Zj Z (fun h10=>?_) (fun h10=>?_)
   ·
    refine Zt<|z0l<|z49<|z5q (fun (s11:Bool) aa ww=>Sta (ctx 51 H [] w) [(1,.val (z05 v1 0)),(3,.val (n7 0)),(4,.val (n7 1)),(5,.val v4),(6,.rd z0g false),(7,.rd z0c s9),(34,.rd z0g s11)] [(1,some (v1,.box 25 [.rd z01 a0])),(4,some ((n7 0),.list z0c 3 s6.1)),(5,some ((n7 1),.list aZ 62 s6.2.1)),(2,some (v4,.list z0g 4 s6.2.2.1))] aa ww) ?_ (fun s11=>?_)
    ·
     refine z1y<|Zm Z<|Zm Z<|z0j fun x12 h13=>Zq (ixO 2 Z Z Z h13 tu152 ti4)<|Zq (ld 2 Z Z (Foc.el h13) ty4 Z)<|Zq (zdi Z)<|Zm Z<|z1d 25 Z (fun h14=>?_) (fun h14=>?_)
     ·
      refine lKn 24 Z h14<|z0y Zx Z Z (mv Z)<|z0y Zx Z Z (faB 1 Z Z Tryz.underlying25 Z (by exact z9l))<|z0y Zx Z Z (ld 1 Z Z (fP (z08 _)) zcx Z)<|z0y Zx Z Z (mv Z)<|z0j fun x15 h16=>z0y Zx Z Z (ixR Z Z h16 tu23 za5 Z)<|z0y Zx Z Z (faR Z (z0x _) Tryz.underlying73 Z Z (by exact z4q))<|z0y Zx Z Z (ldR Z z5j)<|ze0 [5] [(1,5)] Zx Z Tryz.func31 Z Z (zj2 _ _ _ _) (aW Z<|aQ Z<|aN) (y1 Z) fun r17 n18=>Zq (pkT Z Z)<|z1q<|z3b (fun aa ww h=>Zu h [1,4,5,2])
     ·
      refine lKn 24 Z h14<|Zk Z<|Zk Z<|Zk Z<|Zk Z<|Zk Z<|Zk Z<|Zk Z<|Zk Z<|Zq (pkF Z Z)<|z1q<|z3b (fun aa ww h=>Zu h [1,4,5,2])
    ·
     refine gIf Z Z (fun h19=>?_) (fun h19=>?_)
     ·
      refine z0l<|zro [(3,.val (n7 0)),(4,.val (n7 1)),(1,.val (z05 v1 0)),(5,.val v4),(7,.rd z0c s9)] [(1,some (v1,.box 25 [.rd z01 a0])),(4,some ((n7 0),.list z0c 3 s6.1)),(5,some ((n7 1),.list aZ 62 s6.2.1)),(2,some (v4,.list z0g 4 s6.2.2.1))] [1,4,5,2] (Zs Z Z Z Z<|sS Z<|sN) (Zi Z<|Zi Z<|Zi Z<|Zi Z<|rN)<|z4s fun x20 h21=>z4s fun x22 h23=>z4s fun x24 h25=>z4s fun x26 h27=>gOr [(3,.val (n7 0),14),(4,.val (n7 1),15)] [⟨8,none,[(4,some ([1], fun nv=>((nv 1),.list z0c 3 [s9])))]⟩,⟨4,some ([], fun nv=>((n7 0),.list z0c 3 s6.1)),[(5,some ([2], fun nv=>((nv 2),.list z0c 3 x20)))]⟩,⟨1,some ([], fun nv=>(v1,.box 25 [.rd z01 a0])),[]⟩,⟨9,none,[(12,none)]⟩,⟨5,some ([], fun nv=>((n7 1),.list aZ 62 s6.2.1)),[(13,some ([4], fun nv=>((nv 4),.list aZ 62 x24)))]⟩,⟨2,some ([], fun nv=>(v4,.list z0g 4 s6.2.2.1)),[(17,some ([], fun nv=>(v4,.list z0g 4 (s6.2.2.1.set (s9:Int).toNat true))))]⟩] [pd 35 (.val v4),pd 36 (.rd z0c s9),⟨some (37,[], fun nv=>.val (n7 0)),[],[],[0]⟩,pd 38 (.rd z0c s9),⟨some (39,[1], fun nv=>.val (nv 1)),[(0,0,true)],[1],[]⟩,⟨some (40,[2], fun nv=>.val (nv 2)),[(1,0,true),(0,1,false)],[2],[]⟩,⟨some (41,[], fun nv=>.val (n7 1)),[],[],[1]⟩,pk 42 (.val (z05 v1 (0+0))) [(2,0,false)],pk 43 (.rd (z02 aZ) a0.IDs) [(2,0,false)],pd 44 (.rd z0c s9),pd 45 (.rp aZ x22),pd 46 (.rd aZ x22),⟨some (47,[], fun nv=>.rd (z02 aZ) [x22]),[(3,0,true)],[3],[]⟩,⟨some (48,[4], fun nv=>.val (nv 4)),[(4,0,true)],[4],[]⟩,⟨some (3,[2], fun nv=>.val (nv 2)),[],[],[]⟩,⟨some (4,[4], fun nv=>.val (nv 4)),[],[],[]⟩,pk 49 (.val (z05 v4 ((s9:Int).toNat * 1))) [(5,0,false)],⟨none,[(5,0,true)],[],[]⟩,pd 6 (.rd z0g true)] mixed (oC (oRn (fun nv E=>mv Z))<|oC (oRn (fun nv E=>mv Z))<|oC (oRn (fun nv E=>mv Z))<|oC (oRn (fun nv E=>mv Z))<|oC (oEf 8 1 (fun nv E=>lit (R:=z0c) ([s9]:List Int) 8 (pP Z Z<|pN) Z tu142 ti3 Z Z))<|oC (oEf 4 2 (fun nv E=>apn 4 Z Z Z (.own 8 Z) h21 tu142 ti3 Z Z Z))<|oC (oRn (fun nv E=>mv Z))<|oC (oRn (fun nv E=>faB 1 Z Z Tryz.underlying25 Z (by exact z4q)))<|oC (oRn (fun nv E=>ld 1 Z Z (fP (z07 _)) z5j Z))<|oC (oRn (fun nv E=>mv Z))<|oC (oRn (fun nv E=>ixR Z Z h23 tu22 z1g Z))<|oC (oRn (fun nv E=>ldR Z z36))<|oC (oFz (A1:=fun nv=>[(9,some ((nv 3),.list aZ 62 [x22]))]) 9 3 (oEf 9 3 (fun nv E=>lit (R:=aZ) ([x22]:List V3) 9 (pP Z Z<|pN) Z tu22 z1g Z Z)))<|oC (oEf 5 4 (fun nv E=>apn 5 Z Z Z .rd h25 tu22 z1g Z Z Z))<|oC (oRn (fun nv E=>asg Z))<|oC (oRn (fun nv E=>asg Z))<|oC (oRn (fun nv E=>ixO 2 Z Z Z h27 tu152 ti4))<|oC (oEs 2 (fun nv E=>sto 2 Z Z (Foc.el h27) Z ti4))<|oC (oRn (fun nv E=>asg Z))<|oN) fun n28=>z0f<|z1k<|z15a Z<|z0o<|z0r<|z2q<|z19 (fun aa ww h=>⟨nvl [(n28 2),(n28 4)],Zu h [1,4,5,2]⟩)
     ·
      refine z29<|z2q<|z0f<|z1y<|Zm Z<|Zq (I.add Z Z)<|Za Z<|z1q<|z19 (fun aa ww h=>Zu h [1,4,5,2])
   ·
    refine z1k<|z0o<|z0r<|z2q<|z19 (fun aa ww h=>⟨nvl [(n7 0),(n7 1)],Zu h [1,4,5,2]⟩)
  ·
   refine gKn 6 Z h8<|z1k<|z0o<|z0r<|z3b (fun aa ww h=>⟨nvl [(n7 0)],Zu h [4]⟩)
 ·
  refine gEx fun n29=>gSR<|Zm Z<|Zb Z<|z0i<|Ze [(n29 0)] [3] Z
def z6d (a0:z00) (s6:Int):Option (Sum (Sum Int Unit) Int) :=
 if decide (s6<(a0.Ops.length:Int)) then
  idx a0.Ops s6 >>= fun x8 =>
  z3t a0.IDs x8.Preds >>= fun r10 =>
  if !r10 then
   some (.inl (.inl 40))
  else
   some (.inr (w64 (s6+1)))
 else
  some (.inl (.inr ()))
def zbp (a0:z00):Option (Int) :=
 z4w a0.IDs >>= fun r2 =>
 if !r2 then
  some 32
 else
  z61 (iter (z6d a0) 0) fun s5 =>
  z4p a0 >>= fun r13 =>
  if decide ((r13.length:Int)<(a0.Ops.length:Int)) then
   some 36
  else
   some 0
theorem zke (a0:z00):z1w Tryz.prog 70 [.rd z01 a0] [] (zbp a0) (fun r nv=>⟨[.rd z0c r],[]⟩):=by
 refine z2e 32 Tryz.func70 Z Z Z fun H w=>?_
 refine gSR<|Eb Z (bx 1 Z) fun v1=>Zb Z<|z0l<|gSR<|Zq (faB 1 Z Z Tryz.underlying25 Z (by exact z4q))<|Zq (ld 1 Z Z (fP (z07 _)) z5j Z)<|Zc [] [] Tryz.func108 Z (zbf _) fun r2 n3=>Zq (zdi Z)<|Zj Z (fun h4=>?_) (fun h4=>?_)
 ·
  refine gSR<|Zb Z<|z0i<|z0v<|Ze [] [] Z
 ·
  refine Zt<|z83 (fun (s5:Unit) aa ww=>Sta (ctx 32 H [] w) [(1,.val (z05 v1 0))] [(1,some (v1,.box 25 [.rd z01 a0]))] aa ww) ?_ (fun s5=>?_)
  ·
   refine gSR<|Zb Z<|z1v (fun (s6:Int) aa ww=>Sta (ctx 32 H [] w) [(1,.val (z05 v1 0)),(3,.rd z0c s6)] [(1,some (v1,.box 25 [.rd z01 a0]))] aa ww) (fun aa ww h=>Zu h [1]) (fun s6=>?_)
   refine z0l<|gSR<|Zm Z<|Zq (faB 1 Z Z Tryz.underlying25 Z (by exact z9l))<|Zq (ld 1 Z Z (fP (z08 _)) zcx Z)<|Zq (z2w Z .rd Z tu23)<|Zq (I.lss Z Z)<|Zj Z (fun h7=>?_) (fun h7=>?_)
   ·
    refine Zt<|z0l<|z49<|z0l<|z57 [] mixed Z Z<|hTk 0 Z Z (faB 1 Z Z Tryz.underlying25 Z (by exact z4q))<|hTk 1 Z Z (ld 1 Z Z (fP (z07 _)) z5j Z)<|hTk 2 Z Z (faB 1 Z Z Tryz.underlying25 Z (by exact z9l))<|hTk 3 Z Z (ld 1 Z Z (fP (z08 _)) zcx Z)<|hTk 4 Z Z (mv Z)<|z3j fun x8 h9=>hTk 5 Z Z (ixR Z Z h9 tu23 za5 Z)<|hTk 6 Z Z (faR Z (z0x _) Tryz.underlying73 Z Z (by exact z4q))<|hTk 7 Z Z (ldR Z z5j)<|z3h 8 [] [] Z (by kernel_rfl) Z (gd0 Z) Z Tryz.func31 Z Z (zd8 _ _) (Y2 Z Z) rN Z (fun _ _=>z9f) fun r10 n11=>hTk 9 Z Z (zdi Z)<|z3q (by kernel_rfl)<|z0f<|gIf Z Z (fun h12=>?_) (fun h12=>?_)
    ·
     refine gSR<|Zb Z<|z0i<|z47<|z0v<|z7z<|z5h<|Ze [] [] Z
    ·
     refine z29<|z2q<|z0f<|z1y<|Zm Z<|Zq (I.add Z Z)<|Za Z<|z1q<|z19 (fun aa ww h=>Zu h [1])
   ·
    refine z1k<|z0o<|z0r<|z4y (fun aa ww h=>Zu h [1])
  ·
   refine z0l<|z0l<|z57 [38] mixed Z Z<|hTk 0 Z Z (ld 1 Z Z fH z2v Z)<|hTk 3 Z Z (faB 1 Z Z Tryz.underlying25 Z (by exact z9l))<|hTk 4 Z Z (ld 1 Z Z (fP (z08 _)) zcx Z)<|hTk 5 Z Z (z2w Z .rd Z tu23)<|z3h 1 [] [(100,38)] Z (by kernel_rfl) Z (gd0 Z) Z Tryz.func109 Z Z (zeh _) (Y1 Z) rN Z (fun _ _=>z2t) fun r13 n14=>Zf 2 Z Z z2j (z2w Z (.own 38 Z) Z tu142)<|hTk 6 Z Z (I.lss Z Z)<|z3q (by kernel_rfl)<|z0f<|gIf Z Z (fun h15=>?_) (fun h15=>?_)
   ·
    refine gSR<|Zb Z<|z0i<|z0v<|Ze [] [] Z
   ·
    refine Zt<|gSR<|Zb Z<|z0i<|Ze [] [] Z
def z6e (a0:z00) (s5:Int):Option (Sum (Sum Int Unit) Int) :=
 if decide (s5<(a0.Ops.length:Int)) then
  idx a0.Ops s5 >>= fun x7 =>
  z68 x7 >>= fun r9 =>
  if r9 != 0 then
   some (.inl (.inl 8))
  else
   idx a0.Ops s5 >>= fun x12 =>
   idx a0.IDs s5 >>= fun x14 =>
   zcv x12 >>= fun r16 =>
   if !decide (r16=x14) then
    some (.inl (.inl 8))
   else
    some (.inr (w64 (s5+1)))
 else
  some (.inl (.inr ()))
def z0d (a0:z00):Option (Int) :=
 if decide (60<(a0.Ops.length:Int)) then
  some 4
 else
  if (a0.IDs.length:Int) != (a0.Ops.length:Int) then
   some 8
  else
   z61 (iter (z6e a0) 0) fun s4 =>
   zbp a0 >>= fun r19 =>
   some r19
theorem z1x (a0:z00):z1w Tryz.prog 38 [.rd z01 a0] [] (z0d a0) (fun r nv=>⟨[.rd z0c r],[]⟩):=by
 refine z2e 45 Tryz.func38 Z Z Z fun H w=>?_
 refine gSR<|Eb Z (bx 1 Z) fun v1=>Zb Z<|z0l<|gSR<|Zq (faB 1 Z Z Tryz.underlying25 Z (by exact z9l))<|Zq (ld 1 Z Z (fP (z08 _)) zcx Z)<|Zq (z2w Z .rd Z tu23)<|Zq (I.gtr Z Z)<|Zj Z (fun h2=>?_) (fun h2=>?_)
 ·
  refine gSR<|Zb Z<|z0i<|z0v<|Ze [] [] Z
 ·
  refine Zt<|z0l<|gSR<|Zq (faB 1 Z Z Tryz.underlying25 Z (by exact z4q))<|Zq (ld 1 Z Z (fP (z07 _)) z5j Z)<|Zq (z2w Z .rd Z tu22)<|Zq (faB 1 Z Z Tryz.underlying25 Z (by exact z9l))<|Zq (ld 1 Z Z (fP (z08 _)) zcx Z)<|Zq (z2w Z .rd Z tu23)<|Zq (I.neq Z Z)<|Zj Z (fun h3=>?_) (fun h3=>?_)
  ·
   refine gSR<|Zb Z<|z0i<|z0v<|Ze [] [] Z
  ·
   refine Zt<|z83 (fun (s4:Unit) aa ww=>Sta (ctx 45 H [] w) [(1,.val (z05 v1 0))] [(1,some (v1,.box 25 [.rd z01 a0]))] aa ww) ?_ (fun s4=>?_)
   ·
    refine gSR<|Zb Z<|z1v (fun (s5:Int) aa ww=>Sta (ctx 45 H [] w) [(1,.val (z05 v1 0)),(3,.rd z0c s5)] [(1,some (v1,.box 25 [.rd z01 a0]))] aa ww) (fun aa ww h=>Zu h [1]) (fun s5=>?_)
    refine z0l<|gSR<|Zm Z<|Zq (faB 1 Z Z Tryz.underlying25 Z (by exact z9l))<|Zq (ld 1 Z Z (fP (z08 _)) zcx Z)<|Zq (z2w Z .rd Z tu23)<|Zq (I.lss Z Z)<|Zj Z (fun h6=>?_) (fun h6=>?_)
    ·
     refine Zt<|z0l<|z49<|z0l<|z57 [] mixed Z Z<|hTk 0 Z Z (faB 1 Z Z Tryz.underlying25 Z (by exact z9l))<|hTk 1 Z Z (ld 1 Z Z (fP (z08 _)) zcx Z)<|hTk 2 Z Z (mv Z)<|z3j fun x7 h8=>hTk 3 Z Z (ixR Z Z h8 tu23 za5 Z)<|hTk 4 Z Z (ldR Z zcs)<|z3h 5 [] [] Z (by kernel_rfl) Z (gd0 Z) Z Tryz.func69 Z Z (zba _) (Y1 Z) rN Z (fun _ _=>z2j) fun r9 n10=>hTk 6 Z Z (I.neq Z Z)<|hTk 7 Z Z (mv Z)<|hIf 29 Z Z (fun h11=>?_) (fun h11=>?_)
     ·
      refine hKn 28 Z Z h11<|hSk 8 Z Z<|hSk 9 Z Z<|hSk 10 Z Z<|hSk 11 Z Z<|hSk 12 Z Z<|hSk 13 Z Z<|hSk 14 Z Z<|hSk 15 Z Z<|hSk 16 Z Z<|hSk 17 Z Z<|hSk 18 Z Z<|hSk 19 Z Z<|hTk 20 Z Z (pkT Z Z)<|z3q (by kernel_rfl)<|z0f<|zf9 Z<|gSR<|Zb Z<|z0i<|z47<|z0v<|z7z<|z5h<|Ze [] [] Z
     ·
      refine hKn 28 Z Z h11<|Zg 8 Z Z (faB 1 Z Z Tryz.underlying25 Z (by exact z9l))<|Zg 9 Z Z (ld 1 Z Z (fP (z08 _)) zcx Z)<|Zg 10 Z Z (mv Z)<|z3j fun x12 h13=>Zg 11 Z Z (ixR Z Z h13 tu23 za5 Z)<|Zg 12 Z Z (ldR Z zcs)<|Zg 14 Z Z (faB 1 Z Z Tryz.underlying25 Z (by exact z4q))<|Zg 15 Z Z (ld 1 Z Z (fP (z07 _)) z5j Z)<|Zg 16 Z Z (mv Z)<|z3j fun x14 h15=>Zg 17 Z Z (ixR Z Z h15 tu22 z1g Z)<|Zg 18 Z Z (ldR Z z36)<|zhn 13 [] [] Z (by kernel_rfl) Z Zx Z Tryz.func58 Z Z (zh8 _) (Y1 Z) rN Z fun r16 n17=>zzu 19 Z (by kernel_rfl) (by kernel_rfl) (by kernel_rfl) Zx Z Z z9f (neA Z Z zut Z Z zuh)<|hTk 20 Z Z (pkF Z Z)<|z3q (by kernel_rfl)<|z0f<|gIf Z Z (fun h18=>?_) (fun h18=>?_)
      ·
       refine gKn 41 Z h18<|gSR<|Zb Z<|z0i<|z47<|z0v<|z7z<|z5h<|Ze [] [] Z
      ·
       refine gKn 41 Z h18<|z29<|z2q<|z0f<|z1y<|Zm Z<|Zq (I.add Z Z)<|Za Z<|z1q<|z19 (fun aa ww h=>Zu h [1])
    ·
     refine z1k<|z0o<|z0r<|z4y (fun aa ww h=>Zu h [1])
   ·
    refine gSR<|Zq (ld 1 Z Z fH z2v Z)<|Zc [] [] Tryz.func70 Z (zke _) fun r19 n20=>Zb Z<|z0i<|Ze [] [] Z
end
section
open Go Go.RowKit
set_option maxRecDepth 100000
def z4k (a0:z00) (s4:(List (V3 × Int)) × Int):Option (Sum ((List (V3 × Int))) ((List (V3 × Int)) × Int)) :=
 if decide (s4.2<(a0.IDs.length:Int)) then
  idx a0.IDs s4.2 >>= fun x6 =>
  some (.inr (ztd s4.1 x6 s4.2,w64 (s4.2+1)))
 else
  some (.inl s4.1)
def z4f (a0:z00):Option ((List (V3 × Int))) :=
 (iter (z4k a0) (([]:List (V3 × Int)),0)) >>= fun s3 =>
 some s3
theorem z9x (a0:z00):z1w Tryz.prog 123 [.rd z01 a0] [] (z4f a0) (fun r nv=>⟨[.val (nv 0)],[(100,some (nv 0,.map aZ z0c r))]⟩):=by
 refine z2e 23 Tryz.func123 Z Z Z fun H w=>?_
 refine gSR<|Eb Z (bx 1 Z) fun v1=>Zb Z<|gSR<|Zq (faB 1 Z Z Tryz.underlying25 Z (by exact z4q))<|Zq (ld 1 Z Z (fP (z07 _)) z5j Z)<|Zq (z2w Z .rd Z tu22)<|Ef Z (mkm aZ z0c 2 (Or.inr ⟨_,_,Z,rfl⟩) Tryz.underlying156) fun v2=>Zb Z<|z5q (fun (s3:(List (V3 × Int))) aa ww=>Sta (ctx 23 H [] w) [(3,.val v2)] [(2,some (v2,.map aZ z0c s3))] aa ww) ?_ (fun s3=>?_)
 ·
  refine gSR<|Zq (faB 1 Z Z Tryz.underlying25 Z (by exact z4q))<|Zq (ld 1 Z Z (fP (z07 _)) z5j Z)<|Zq (z2w Z .rd Z tu22)<|Zm Z<|Zn<|z1v (fun (s4:(List (V3 × Int)) × Int) aa ww=>Sta (ctx 23 H [] w) [(3,.val v2),(11,.rd (z02 aZ) a0.IDs),(12,.rd z0c (a0.IDs.length:Int)),(13,.rd z0c s4.2)] [(2,some (v2,.map aZ z0c s4.1))] aa ww) (fun aa ww h=>Zu h [2]) (fun s4=>?_)
  refine gSR<|Zq (I.lss Z Z)<|Zn<|z0l<|gIf Z Z (fun h5=>?_) (fun h5=>?_)
  ·
   refine Zt<|z0l<|z49<|gSR<|Zm Z<|z0j fun x6 h7=>Zq (ixR Z Z h7 tu22 z1g Z)<|Zq (ldR Z z36)<|Eb Z (z52 3 z1g (.zr (R:=aZ) (x:=(Vector.replicate 32 0)) zf5)) fun v8=>Za Z<|Es (sto 3 Z Z fH Z z1g)<|Zn<|z1y<|Zm Z<|Zq (ld 3 Z Z fH z36 Z)<|Zm Z<|Es (mup 2 Z Z Z Z ky62 Tryz.underlying156)<|z1q<|z2q<|z0f<|z1y<|Zq (I.add Z Z)<|Zm Z<|z1q<|z19 (fun aa ww h=>Zu h [2])
  ·
   refine z1k<|z0o<|z0r<|z3b (fun aa ww h=>Zu h [2])
 ·
  refine gSR<|Zm Z<|Zb Z<|z0i<|Ze [v2] [2] Z
def z7h (a0:z00) (a1:List Bool) (s3:(List V3) × Int):Option (Sum ((List V3)) ((List V3) × Int)) :=
 if decide (s3.2<(a1.length:Int)) then
  idx a1 s3.2 >>= fun x6 =>
  if x6 then
   idx a0.IDs s3.2 >>= fun x9 =>
   app 32 s3.1 [x9] >>= fun x12 =>
   some (.inr (x12,w64 (s3.2+1)))
  else
   some (.inr (s3.1,w64 (s3.2+1)))
 else
  some (.inl s3.1)
def zct (a0:z00) (a1:List Bool):Option ((List V3)) :=
 (iter (z7h a0 a1) ([],0)) >>= fun s2 =>
 some s2
theorem zl4 (a0:z00) (a1:List Bool):z1w Tryz.prog 133 [.rd z01 a0,.rd (z02 z0g) a1] [] (zct a0 a1) (fun r nv=>⟨[.val (nv 0)],[(100,some (nv 0,.list aZ 62 r))]⟩):=by
 refine z2e 26 Tryz.func133 Z Z Z fun H w=>?_
 refine gSR<|Eb Z (bx 1 Z) fun v1=>Zb Z<|gSR<|Zb Z<|z5q (fun (s2:(List V3)) aa ww=>∃ nv:Nat→Value,Sta (ctx 26 H [] w) [(5,.val (nv 0))] [(3,some ((nv 0),.list aZ 62 s2))] aa ww) ?_ (fun s2=>?_)
 ·
  refine gSR<|Zm Z<|Zq (z2w Z .rd Z tu152)<|Zm Z<|Zn<|zpu aZ 62 6<|z1v (fun (s3:(List V3) × Int) aa ww=>∃ nv:Nat→Value,Sta (ctx 26 H [] w) [(1,.rd (z02 z0g) a1),(2,.val (z05 v1 0)),(5,.val (nv 0)),(8,.rd z0c (a1.length:Int)),(9,.rd z0c s3.2)] [(1,some (v1,.box 25 [.rd z01 a0])),(5,some ((nv 0),.list aZ 62 s3.1))] aa ww) (fun aa ww h=>⟨nvl [(.slice none 0 0)],Zu h [1,6]⟩) (fun s3=>?_)
  refine gEx fun n4=>gSR<|Zq (I.lss Z Z)<|Zn<|z0l<|gIf Z Z (fun h5=>?_) (fun h5=>?_)
  ·
   refine Zt<|z0l<|z49<|gSR<|Zm Z<|Zb Z<|gSR<|Zm Z<|Zm Z<|z0j fun x6 h7=>Zq (ixR Z Z h7 tu152 ti4 Z)<|Zq (ldR Z ty4)<|Zj Z (fun h8=>?_) (fun h8=>?_)
   ·
    refine z1y<|Zm Z<|Zq (faB 1 Z Z Tryz.underlying25 Z (by exact z4q))<|Zq (ld 1 Z Z (fP (z07 _)) z5j Z)<|Zm Z<|z0j fun x9 h10=>Zq (ixR Z Z h10 tu22 z1g Z)<|Zq (ldR Z z36)<|Ef Z (lit (R:=aZ) ([x9]:List V3) 7 (pP Z Z<|pN) Z tu22 z1g Z Z) fun v11=>zjd 7 [22] Z (fS Z<|fN)<|z0j fun x12 h13=>Ef Z (apn 5 Z Z Z .rd h13 tu22 z1g Z Z Z) fun v14=>Za Z<|z1q<|z2q<|z0f<|z1y<|Zq (I.add Z Z)<|Zm Z<|z1q<|z19 (fun aa ww h=>⟨nvl [v14],Zu h [1,5]⟩)
   ·
    refine z29<|z2q<|z0f<|z1y<|Zq (I.add Z Z)<|Zm Z<|z1q<|z19 (fun aa ww h=>⟨nvl [(n4 0)],Zu h [1,5]⟩)
  ·
   refine z1k<|z0o<|z0r<|z3b (fun aa ww h=>⟨nvl [(n4 0)],Zu h [5]⟩)
 ·
  refine gEx fun n15=>gSR<|Zm Z<|Zb Z<|z0i<|Ze [(n15 0)] [3] Z
def z8g (x7:List Bool) (s11:(List Bool) × Int):Option (Sum ((List Bool)) ((List Bool) × Int)) :=
 if decide (s11.2<(x7.length:Int)) then
  idx s11.1 s11.2 >>= fun x13 =>
  some (.inr (s11.1.set (s11.2:Int).toNat true,w64 (s11.2+1)))
 else
  some (.inl s11.1)
def z8i (r5:(List (V3 × Int))) (x19:z0b) (s22:(List Bool) × Int):Option (Sum ((List Bool)) ((List Bool) × Int)) :=
 if decide (s22.2<(x19.Preds.length:Int)) then
  idx x19.Preds s22.2 >>= fun x24 =>
  idx s22.1 ((zkg r5 x24).getD 0) >>= fun x27 =>
  some (.inr (s22.1.set ((zkg r5 x24).getD 0:Int).toNat false,w64 (s22.2+1)))
 else
  some (.inl s22.1)
def z8p (a0:z00) (r5:(List (V3 × Int))) (s16:(List Bool) × Int):Option (Sum ((List Bool)) ((List Bool) × Int)) :=
 if decide (s16.2<(a0.Ops.length:Int)) then
  (idx a0.Ops s16.2 >>= fun x19 =>
  iter (z8i r5 x19) (s16.1,0)) >>= fun s18 =>
  some (.inr (s18,w64 (s16.2+1)))
 else
  some (.inl s16.1)
def zbj (a0:z00):Option ((List V3) × Int) :=
 z24 a0 >>= fun r2 =>
 if r2 != 0 then
  some ([],r2)
 else
  z4f a0 >>= fun r5 =>
  mkn 1 false (a0.IDs.length:Int) >>= fun x7 =>
  (iter (z8g x7) (x7,0)) >>= fun s10 =>
  (iter (z8p a0 r5) (s10,0)) >>= fun s15 =>
  zct a0 s15 >>= fun r29 =>
  some (r29,0)
theorem zga (a0:z00):z1w Tryz.prog 92 [.rd z01 a0] [zG1] (zbj a0) (fun r nv=>⟨[.val (nv 0),.rd z0c r.2],[(1001,some (.bool true,.glob 1 (z3r 64 z10) z8a)),(100,some (nv 0,.list aZ 62 r.1))]⟩):=by
 refine z2e 56 Tryz.func92 Z Z Z fun H w=>?_
 refine gSR<|Eb Z (bx 1 Z) fun v1=>Za Z<|Zb Z<|z0l<|gSR<|Zq (ld 1 Z Z fH z2v Z)<|Zc [1001] [] Tryz.func74 Z (zc4 _) fun r2 n3=>Zb Z<|gSR<|Zm Z<|Zq (I.neq Z Z)<|Zj Z (fun h4=>?_) (fun h4=>?_)
 ·
  refine gSR<|Zm Z<|Za Z<|Zb Z<|z0i<|z0v<|zr1 aZ 62 2<|Ze [(.slice none 0 0)] [1001,2] Z
 ·
  refine Zt<|gSR<|Zq (ld 1 Z Z fH z2v Z)<|Zc [] [(100,3)] Tryz.func123 Z (z9x _) fun r5 n6=>Zb Z<|gSR<|Zq (faB 1 Z Z Tryz.underlying25 Z (by exact z4q))<|Zq (ld 1 Z Z (fP (z07 _)) z5j Z)<|Zq (z2w Z .rd Z tu22)<|z0j fun x7 h8=>Ef Z (mks (R:=z0g) 4 Z Z h8 tu152 ti4 Zr.bool Z) fun v9=>Zb Z<|z5q (fun (s10:(List Bool)) aa ww=>Sta (ctx 56 H [zG1] w) [(1,.val (z05 v1 0)),(5,.val (n6 0)),(6,.val v9)] [(1,some (v1,.box 25 [.rd z01 a0])),(3,some ((n6 0),.map aZ z0c r5)),(4,some (v9,.list z0g 4 s10)),zG1] aa ww) ?_ (fun s10=>?_)
  ·
   refine gSR<|Zm Z<|Zq (z2w Z (.own 4 Z) Z tu152)<|Zm Z<|Zn<|z1v (fun (s11:(List Bool) × Int) aa ww=>Sta (ctx 56 H [zG1] w) [(1,.val (z05 v1 0)),(5,.val (n6 0)),(6,.val v9),(24,.rd z0c (x7.length:Int)),(25,.rd z0c s11.2)] [(1,some (v1,.box 25 [.rd z01 a0])),(3,some ((n6 0),.map aZ z0c r5)),(4,some (v9,.list z0g 4 s11.1)),zG1] aa ww) (fun aa ww h=>Zu h [1,3,4,1001]) (fun s11=>?_)
   refine gSR<|Zq (I.lss Z Z)<|Zn<|z0l<|gIf Z Z (fun h12=>?_) (fun h12=>?_)
   ·
    refine Zt<|z0l<|z49<|gSR<|Zm Z<|Zb Z<|z1y<|Zm Z<|Zm Z<|z0j fun x13 h14=>Zq (ixO 4 Z Z Z h14 tu152 ti4)<|Es (sto 4 Z Z (Foc.el h14) Z ti4)<|z1q<|z2q<|z0f<|z1y<|Zq (I.add Z Z)<|Zm Z<|z1q<|z19 (fun aa ww h=>Zu h [1,3,4,1001])
   ·
    refine z1k<|z0o<|z0r<|z3b (fun aa ww h=>Zu h [1,3,4,1001])
  ·
   refine z5q (fun (s15:(List Bool)) aa ww=>Sta (ctx 56 H [zG1] w) [(1,.val (z05 v1 0)),(6,.val v9)] [(1,some (v1,.box 25 [.rd z01 a0])),(4,some (v9,.list z0g 4 s15)),zG1] aa ww) ?_ (fun s15=>?_)
   ·
    refine gSR<|Zq (faB 1 Z Z Tryz.underlying25 Z (by exact z9l))<|Zq (ld 1 Z Z (fP (z08 _)) zcx Z)<|Zq (z2w Z .rd Z tu23)<|Zm Z<|Zn<|z1v (fun (s16:(List Bool) × Int) aa ww=>Sta (ctx 56 H [zG1] w) [(1,.val (z05 v1 0)),(5,.val (n6 0)),(6,.val v9),(33,.rd (z02 z03) a0.Ops),(34,.rd z0c (a0.Ops.length:Int)),(35,.rd z0c s16.2)] [(1,some (v1,.box 25 [.rd z01 a0])),(3,some ((n6 0),.map aZ z0c r5)),(4,some (v9,.list z0g 4 s16.1)),zG1] aa ww) (fun aa ww h=>Zu h [1,3,4,1001]) (fun s16=>?_)
    refine gSR<|Zq (I.lss Z Z)<|Zn<|z0l<|gIf Z Z (fun h17=>?_) (fun h17=>?_)
    ·
     refine Zt<|z5q (fun (s18:(List Bool)) aa ww=>Sta (ctx 56 H [zG1] w) [(1,.val (z05 v1 0)),(5,.val (n6 0)),(6,.val v9),(33,.rd (z02 z03) a0.Ops),(34,.rd z0c (a0.Ops.length:Int)),(35,.rd z0c s16.2)] [(1,some (v1,.box 25 [.rd z01 a0])),(3,some ((n6 0),.map aZ z0c r5)),(4,some (v9,.list z0g 4 s18)),zG1] aa ww) ?_ (fun s18=>?_)
     ·
      refine z49<|gSR<|z0j fun x19 h20=>Zq (ixR Z Z h20 tu23 za5 Z)<|Zq (ldR Z zcs)<|Eb Z (z52 1100 za5 (ZrE.rd (R:=z10) (x:=0) (Zr.num Z) (ZrE.nilS (ZrE.rd (R:=z2k) (x:=0) (Zr.num Z) (ZrE.rd (R:=z0z) (x:=(⟨0,[],(⟨0,0,0,[]⟩:z09)⟩:z18)) zx7 (ZrE.rd (R:=z13) (x:=(⟨0,0⟩:z0q)) zx6 ZrE.nil Z) Z) Z)) Z)) fun v21=>z99 aZ [.rd z10 0,.rd (z02 aZ) [],.rd z2k 0,.rd z0z (⟨0,[],(⟨0,0,0,[]⟩:z09)⟩:z18),.rd z13 (⟨0,0⟩:z0q)] 1100 [.rd z10 0] [.rd z2k 0,.rd z0z (⟨0,[],(⟨0,0,0,[]⟩:z09)⟩:z18),.rd z13 (⟨0,0⟩:z0q)] Z Z Z<|zch (R:=z03) (⟨0,[],0,(⟨0,[],(⟨0,0,0,[]⟩:z09)⟩:z18),(⟨0,0⟩:z0q)⟩:z0b) 1100 Z (Sp.via (Sp.prod (Sp.prod (Sp.prod (Sp.prod (Sp.prod Sp.unit))))))<|Es (sto 1100 Z Z fH Z za5)<|Zn<|gSR<|Zq (faB 1100 Z Z Tryz.underlying73 Z (by exact z4q))<|Zq (ld 1100 Z Z (fP (z0x _)) z5j Z)<|Zq (z2w Z .rd Z tu22)<|Zm Z<|Zn<|z1v (fun (s22:(List Bool) × Int) aa ww=>Sta (ctx 56 H [zG1] w) [(1,.val (z05 v1 0)),(5,.val (n6 0)),(6,.val v9),(33,.rd (z02 z03) a0.Ops),(34,.rd z0c (a0.Ops.length:Int)),(35,.rd z0c s16.2),(40,.rd (z02 aZ) x19.Preds),(41,.rd z0c (x19.Preds.length:Int)),(42,.rd z0c s22.2)] [(1,some (v1,.box 25 [.rd z01 a0])),(3,some ((n6 0),.map aZ z0c r5)),(4,some (v9,.list z0g 4 s22.1)),zG1] aa ww) (fun aa ww h=>Zu h [1,3,4,1001]) (fun s22=>?_)
      refine gSR<|Zq (I.lss Z Z)<|Zn<|z0l<|gIf Z Z (fun h23=>?_) (fun h23=>?_)
      ·
       refine Zt<|z0l<|z49<|gSR<|z0j fun x24 h25=>Zq (ixR Z Z h25 tu22 z1g Z)<|Zq (ldR Z z36)<|Eb Z (z52 1101 z1g (.zr (R:=aZ) (x:=(Vector.replicate 32 0)) zf5)) fun v26=>Es (sto 1101 Z Z fH Z z1g)<|Zn<|z1y<|Zm Z<|Zm Z<|Zq (ld 1101 Z Z fH z36 Z)<|Zq (mlk Z (.own 3 Z Z) Z ky62 Tryz.underlying156 ti3 (Zr.num Z) Z)<|z0j fun x27 h28=>Zq (ixO 4 Z Z Z h28 tu152 ti4)<|Es (sto 4 Z Z (Foc.el h28) Z ti4)<|z1q<|z2q<|z0f<|z1y<|Zq (I.add Z Z)<|Zm Z<|z1q<|z19 (fun aa ww h=>Zu h [1,3,4,1001])
      ·
       refine z1k<|z0o<|z0r<|z2q<|z3b (fun aa ww h=>Zu h [1,3,4,1001])
     ·
      refine z1y<|Zq (I.add Z Z)<|Zm Z<|z1q<|z19 (fun aa ww h=>Zu h [1,3,4,1001])
    ·
     refine z1k<|z0o<|z0r<|z3b (fun aa ww h=>Zu h [1,4,1001])
   ·
    refine gSR<|Zq (ld 1 Z Z fH z2v Z)<|Zm Z<|zjd 4 [6,54] Z (fS Z<|fS Z<|fN)<|Zc [] [(100,1102)] Tryz.func133 Z (zl4 _ _) fun r29 n30=>Za Z<|Zb Z<|z0i<|Ze [(n30 0)] [1001,1102] Z
def z8m (a0:z00) (s3:(List V3) × Int):Option (Sum ((List V3)) ((List V3) × Int)) :=
 if decide (s3.2<(a0.Ops.length:Int)) then
  idx a0.Ops s3.2 >>= fun x6 =>
  app 32 s3.1 x6.Preds >>= fun x8 =>
  some (w64 (s3.2+1)) >>= fun y11 =>
  some (.inr (x8,y11))
 else
  some (.inl s3.1)
def z8j (a0:z00) (s14:(List V3) × (List V3) × Int):Option (Sum ((List V3)) ((List V3) × (List V3) × Int)) :=
 if decide (s14.2.2<(a0.IDs.length:Int)) then
  idx a0.IDs s14.2.2 >>= fun x17 =>
  z3l s14.1 x17 >>= fun r19 =>
  if decide (r19<0) then
   idx a0.IDs s14.2.2 >>= fun x22 =>
   app 32 s14.2.1 [x22] >>= fun x25 =>
   some (w64 (s14.2.2+1)) >>= fun y28 =>
   some (.inr (s14.1,x25,y28))
  else
   some (w64 (s14.2.2+1)) >>= fun y29 =>
   some (.inr (s14.1,s14.2.1,y29))
 else
  some (.inl s14.2.1)
def zdd (a0:z00):Option ((List V3)) :=
 (iter (z8m a0) ([],0)) >>= fun s2 =>
 (iter (z8j a0) (s2,[],0)) >>= fun s13 =>
 some s13
theorem zmf (a0:z00):z1w Tryz.prog 61 [.rd z01 a0] [] (zdd a0) (fun r nv=>⟨[.val (nv 0)],[(100,some (nv 0,.list aZ 62 r))]⟩):=by
 refine z2e 46 Tryz.func61 Z Z Z fun H w=>?_
 refine gSR<|Eb Z (bx 1 Z) fun v1=>Zb Z<|gSR<|Za Z<|Zb Z<|z5q (fun (s2:(List V3)) aa ww=>∃ nv:Nat→Value,Sta (ctx 46 H [] w) [(1,.val (z05 v1 0)),(3,.val (nv 0)),(4,.val (.slice none 0 0))] [(1,some (v1,.box 25 [.rd z01 a0])),(2,some ((nv 0),.list aZ 62 s2))] aa ww) ?_ (fun s2=>?_)
 ·
  refine gSR<|Zb Z<|zpu aZ 62 4<|z1v (fun (s3:(List V3) × Int) aa ww=>∃ nv:Nat→Value,Sta (ctx 46 H [] w) [(1,.val (z05 v1 0)),(3,.val (nv 0)),(4,.val (.slice none 0 0)),(5,.rd z0c s3.2)] [(1,some (v1,.box 25 [.rd z01 a0])),(3,some ((nv 0),.list aZ 62 s3.1))] aa ww) (fun aa ww h=>⟨nvl [(.slice none 0 0)],Zu h [1,4]⟩) (fun s3=>?_)
  refine gEx fun n4=>z0l<|gSR<|Zm Z<|Zq (faB 1 Z Z Tryz.underlying25 Z (by exact z9l))<|Zq (ld 1 Z Z (fP (z08 _)) zcx Z)<|Zq (z2w Z .rd Z tu23)<|Zq (I.lss Z Z)<|Zj Z (fun h5=>?_) (fun h5=>?_)
  ·
   refine Zt<|z0l<|z49<|z1y<|Zm Z<|Zq (faB 1 Z Z Tryz.underlying25 Z (by exact z9l))<|Zq (ld 1 Z Z (fP (z08 _)) zcx Z)<|Zm Z<|z0j fun x6 h7=>Zq (ixR Z Z h7 tu23 za5 Z)<|Zq (faR Z (z0x _) Tryz.underlying73 Z Z (by exact z4q))<|Zq (ldR Z z5j)<|z0j fun x8 h9=>Ef Z (apn 3 Z Z Z .rd h9 tu22 z1g Z Z Z) fun v10=>Za Z<|z1q<|z2q<|z0f<|z1y<|Zm Z<|Zq (I.add Z Z)<|Za Z<|z1i 5 Z fun y11=>z1q<|z19 (fun aa ww h=>⟨nvl [v10],Zu h [1,3]⟩)
  ·
   refine z1k<|z0o<|z0r<|z3b (fun aa ww h=>⟨nvl [(n4 0)],Zu h [1,3]⟩)
 ·
  refine gEx fun n12=>z5q (fun (s13:(List V3)) aa ww=>∃ nv:Nat→Value,Sta (ctx 46 H [] w) [(4,.val (nv 0))] [(6,some ((nv 0),.list aZ 62 s13))] aa ww) ?_ (fun s13=>?_)
  ·
   refine gSR<|Zb Z<|gFrz 2 [3] Z (fS Z<|fN)<|zpu aZ 62 9<|z1v (fun (s14:(List V3) × (List V3) × Int) aa ww=>∃ nv:Nat→Value,Sta (ctx 46 H [] w) [(1,.val (z05 v1 0)),(3,.rd (z02 aZ) s14.1),(4,.val (nv 0)),(6,.rd z0c s14.2.2)] [(1,some (v1,.box 25 [.rd z01 a0])),(8,some ((nv 0),.list aZ 62 s14.2.1))] aa ww) (fun aa ww h=>⟨nvl [(.slice none 0 0)],Zu h [1,9]⟩) (fun s14=>?_)
   refine gEx fun n15=>z0l<|gSR<|Zm Z<|Zq (faB 1 Z Z Tryz.underlying25 Z (by exact z4q))<|Zq (ld 1 Z Z (fP (z07 _)) z5j Z)<|Zq (z2w Z .rd Z tu22)<|Zq (I.lss Z Z)<|Zj Z (fun h16=>?_) (fun h16=>?_)
   ·
    refine Zt<|z0l<|z49<|gSR<|Zm Z<|Zq (faB 1 Z Z Tryz.underlying25 Z (by exact z4q))<|Zq (ld 1 Z Z (fP (z07 _)) z5j Z)<|Zm Z<|z0j fun x17 h18=>Zq (ixR Z Z h18 tu22 z1g Z)<|Zq (ldR Z z36)<|Zc [] [] Tryz.func34 Z (z7a _ _) fun r19 n20=>Zq (I.lss Z Z)<|Zj Z (fun h21=>?_) (fun h21=>?_)
    ·
     refine z1y<|Zm Z<|Zq (faB 1 Z Z Tryz.underlying25 Z (by exact z4q))<|Zq (ld 1 Z Z (fP (z07 _)) z5j Z)<|Zm Z<|z0j fun x22 h23=>Zq (ixR Z Z h23 tu22 z1g Z)<|Zq (ldR Z z36)<|Ef Z (lit (R:=aZ) ([x22]:List V3) 10 (pP Z Z<|pN) Z tu22 z1g Z Z) fun v24=>zjd 10 [43] Z (fS Z<|fN)<|z0j fun x25 h26=>Ef Z (apn 8 Z Z Z .rd h26 tu22 z1g Z Z Z) fun v27=>Za Z<|z1q<|z2q<|z0f<|z1y<|Zm Z<|Zq (I.add Z Z)<|Za Z<|z1i 6 Z fun y28=>z1q<|z19 (fun aa ww h=>⟨nvl [v27],Zu h [1,8]⟩)
    ·
     refine z29<|z2q<|z0f<|z1y<|Zm Z<|Zq (I.add Z Z)<|Za Z<|z1i 6 Z fun y29=>z1q<|z19 (fun aa ww h=>⟨nvl [(n15 0)],Zu h [1,8]⟩)
   ·
    refine z1k<|z0o<|z0r<|z3b (fun aa ww h=>⟨nvl [(n15 0)],Zu h [8]⟩)
  ·
   refine gEx fun n30=>gSR<|Zm Z<|Zb Z<|z0i<|Ze [(n30 0)] [6] Z
def z9g (a0:z00):Option ((List V3) × Int) :=
 z0d a0 >>= fun r2 =>
 if r2 != 0 then
  some ([],r2)
 else
  zdd a0 >>= fun r5 =>
  some (r5,0)
theorem zek (a0:z00):z1w Tryz.prog 30 [.rd z01 a0] [] (z9g a0) (fun r nv=>⟨[.val (nv 0),.rd z0c r.2],[(100,some (nv 0,.list aZ 62 r.1))]⟩):=by
 refine z2e 12 Tryz.func30 Z Z Z fun H w=>?_
 refine gSR<|Eb Z (bx 1 Z) fun v1=>Za Z<|Zb Z<|z0l<|gSR<|Zq (ld 1 Z Z fH z2v Z)<|Zc [] [] Tryz.func38 Z (z1x _) fun r2 n3=>Zb Z<|gSR<|Zm Z<|Zq (I.neq Z Z)<|Zj Z (fun h4=>?_) (fun h4=>?_)
 ·
  refine gSR<|Zm Z<|Za Z<|Zb Z<|z0i<|z0v<|zr1 aZ 62 2<|Ze [(.slice none 0 0)] [2] Z
 ·
  refine Zt<|gSR<|Zq (ld 1 Z Z fH z2v Z)<|Zc [] [(100,3)] Tryz.func61 Z (zmf _) fun r5 n6=>Za Z<|Zb Z<|z0i<|Ze [(n6 0)] [3] Z
def z8e (a0:z00) (r2:(List Int)) (s5:(List V3) × Int):Option (Sum ((List V3)) ((List V3) × Int)) :=
 if decide (s5.2<(r2.length:Int)) then
  idx r2 s5.2 >>= fun x8 =>
  idx a0.IDs x8 >>= fun x10 =>
  app 32 s5.1 [x10] >>= fun x13 =>
  some (w64 (s5.2+1)) >>= fun y16 =>
  some (.inr (x13,y16))
 else
  some (.inl s5.1)
def zb3 (a0:z00):Option ((List V3)) :=
 z4p a0 >>= fun r2 =>
 (iter (z8e a0 r2) ([],0)) >>= fun s4 =>
 some s4
theorem zj3 (a0:z00):z1w Tryz.prog 127 [.rd z01 a0] [] (zb3 a0) (fun r nv=>⟨[.val (nv 0)],[(100,some (nv 0,.list aZ 62 r))]⟩):=by
 refine z2e 26 Tryz.func127 Z Z Z fun H w=>?_
 refine gSR<|Eb Z (bx 1 Z) fun v1=>Zb Z<|gSR<|Zq (ld 1 Z Z fH z2v Z)<|Zc [] [(100,2)] Tryz.func109 Z (zeh _) fun r2 n3=>Zb Z<|gSR<|Zb Z<|z5q (fun (s4:(List V3)) aa ww=>∃ nv:Nat→Value,Sta (ctx 26 H [] w) [(4,.val (nv 0))] [(33,some ((nv 0),.list aZ 62 s4))] aa ww) ?_ (fun s4=>?_)
 ·
  refine gSR<|Zb Z<|zpu aZ 62 65<|z1v (fun (s5:(List V3) × Int) aa ww=>∃ nv:Nat→Value,Sta (ctx 26 H [] w) [(1,.val (z05 v1 0)),(3,.val (n3 0)),(4,.val (nv 0)),(5,.rd z0c s5.2)] [(1,some (v1,.box 25 [.rd z01 a0])),(2,some ((n3 0),.list z0c 3 r2)),(64,some ((nv 0),.list aZ 62 s5.1))] aa ww) (fun aa ww h=>⟨nvl [(.slice none 0 0)],Zu h [1,2,65]⟩) (fun s5=>?_)
  refine gEx fun n6=>z0l<|gSR<|Zm Z<|Zm Z<|Zq (z2w Z (.own 2 Z) Z tu142)<|Zq (I.lss Z Z)<|Zj Z (fun h7=>?_) (fun h7=>?_)
  ·
   refine Zt<|z0l<|z49<|z57 [64,93] mixed Z Z<|hTk 0 Z Z (mv Z)<|hTk 1 Z Z (faB 1 Z Z Tryz.underlying25 Z (by exact z4q))<|hTk 2 Z Z (ld 1 Z Z (fP (z07 _)) z5j Z)<|hTk 3 Z Z (mv Z)<|hTk 4 Z Z (mv Z)<|z3j fun x8 h9=>hTk 5 Z Z (ixO 2 Z Z Z h9 tu142 ti3)<|hTk 6 Z Z (ld 2 Z Z (Foc.el h9) ty3 Z)<|z3j fun x10 h11=>hTk 7 Z Z (ixR Z Z h11 tu22 z1g Z)<|hTk 8 Z Z (ldR Z z36)<|Zo 9 Z Z Z (lit (R:=aZ) ([x10]:List V3) 93 (pP Z Z<|pN) Z tu22 z1g Z Z) fun v12=>zr7 93 [23] Z (fS Z<|fN)<|z3j fun x13 h14=>Zo 10 Z Z Z (apn 64 Z Z Z .rd h14 tu22 z1g Z Z Z) fun v15=>Zf 11 Z Z z2t (asg Z)<|z3q (by kernel_rfl)<|z2q<|z0f<|z1y<|Zm Z<|Zq (I.add Z Z)<|Za Z<|z1i 5 Z fun y16=>z1q<|z19 (fun aa ww h=>⟨nvl [v15],Zu h [1,2,64]⟩)
  ·
   refine z1k<|z0o<|z0r<|z3b (fun aa ww h=>⟨nvl [(n6 0)],Zu h [64]⟩)
 ·
  refine gEx fun n17=>gSR<|Zm Z<|Zb Z<|z0i<|Ze [(n17 0)] [33] Z
def z9e (a0:z00):Option ((List V3) × Int) :=
 z0d a0 >>= fun r2 =>
 if r2 != 0 then
  some ([],r2)
 else
  zb3 a0 >>= fun r5 =>
  some (r5,0)
theorem zk5 (a0:z00):z1w Tryz.prog 87 [.rd z01 a0] [] (z9e a0) (fun r nv=>⟨[.val (nv 0),.rd z0c r.2],[(100,some (nv 0,.list aZ 62 r.1))]⟩):=by
 refine z2e 12 Tryz.func87 Z Z Z fun H w=>?_
 refine gSR<|Eb Z (bx 1 Z) fun v1=>Za Z<|Zb Z<|z0l<|gSR<|Zq (ld 1 Z Z fH z2v Z)<|Zc [] [] Tryz.func38 Z (z1x _) fun r2 n3=>Zb Z<|gSR<|Zm Z<|Zq (I.neq Z Z)<|Zj Z (fun h4=>?_) (fun h4=>?_)
 ·
  refine gSR<|Zm Z<|Za Z<|Zb Z<|z0i<|z0v<|zr1 aZ 62 2<|Ze [(.slice none 0 0)] [2] Z
 ·
  refine Zt<|gSR<|Zq (ld 1 Z Z fH z2v Z)<|Zc [] [(100,3)] Tryz.func127 Z (zj3 _) fun r5 n6=>Za Z<|Zb Z<|z0i<|Ze [(n6 0)] [3] Z
def zci (a0:V3) (c1_0:List Bool) (c2_0:List (V3 × Int)):Option (Bool) :=
 idx c1_0 ((zkg c2_0 a0).getD 0) >>= fun x2 =>
 some (!x2)
theorem zi0 (a0:V3) (p1_0:Value) (q1_0:Value) (c1_0:List Bool) (p2_0:Value) (q2_0:Value) (c2_0:List (V3 × Int)):z1w Tryz.prog 126 [.rd aZ a0,.val (z05 p1_0 0),.val (z05 p2_0 0)] [(1,some (p1_0,.box 152 [.val q1_0])),(2,some (q1_0,.list z0g 4 c1_0)),(3,some (p2_0,.box 156 [.val q2_0])),(4,some (q2_0,.map aZ z0c c2_0))] (zci a0 c1_0 c2_0) (fun r nv=>⟨[.rd z0g r],[(1,some (p1_0,.box 152 [.val q1_0])),(2,some (q1_0,.list z0g 4 c1_0)),(3,some (p2_0,.box 156 [.val q2_0])),(4,some (q2_0,.map aZ z0c c2_0))]⟩):=by
 refine z2e 12 Tryz.func126 Z Z Z fun H w=>?_
 refine gSR<|Eb Z (bx 5 Z) fun v1=>Zb Z<|z0l<|zgc mixed (by kernel_rfl)<|Rq Z (ldV 1 Z Z .here zwx Z)<|Rq Z (ldV 3 Z Z .here z151 Z)<|Rq Z (ld 5 Z Z fH z36 Z)<|Rq Z (mlk Z (.own 4 Z Z) Z ky62 Tryz.underlying156 ti3 (Zr.num Z) Z)<|z80 fun x2 h3=>Rq Z (ixO 2 Z Z Z h3 tu152 ti4)<|Rq Z (ld 2 Z Z (Foc.el h3) ty4 Z)<|Rq Z (zdi Z)<|Rq Z (asg Z)<|zov<|z0f<|z0i<|Ze [] [1,2,3,4] Z
def z17 (a0:List V3) (c1_0:List Bool) (c1_1:List (V3 × Int)) (s2:Int):Option (Sum (Sum Int Unit) Int) :=
 if decide (s2<(a0.length:Int)) then
  idx a0 s2 >>= fun x4 =>
  zci x4 c1_0 c1_1 >>= fun r6 =>
  if r6 then
   some (.inl (.inl s2))
  else
   some (.inr (w64 (s2+1)))
 else
  some (.inl (.inr ()))
def z2l (a0:List V3) (c1_0:List Bool) (c1_1:List (V3 × Int)):Option (Int) :=
 z61 (iter (z17 a0 c1_0 c1_1) 0) fun s1 =>
 some (-1)
theorem z65 (a0:List V3) (p1_0:Value) (q1_0:Value) (c1_0:List Bool) (p1_1:Value) (q1_1:Value) (c1_1:List (V3 × Int)):z1w Tryz.prog 114 [.rd (z02 aZ) a0,.val (.func (.func 126) #[] #[z05 p1_0 0,z05 p1_1 0])] [(1,some (p1_0,.box 152 [.val q1_0])),(2,some (q1_0,.list z0g 4 c1_0)),(3,some (p1_1,.box 156 [.val q1_1])),(4,some (q1_1,.map aZ z0c c1_1))] (z2l a0 c1_0 c1_1) (fun r nv=>⟨[.rd z0c r],[(1,some (p1_0,.box 152 [.val q1_0])),(2,some (q1_0,.list z0g 4 c1_0)),(3,some (p1_1,.box 156 [.val q1_1])),(4,some (q1_1,.map aZ z0c c1_1))]⟩):=by
 refine z2e 19 Tryz.func114 Z Z Z fun H w=>?_
 refine gSR<|Zb Z<|z83 (fun (s1:Unit) aa ww=>Sta (ctx 19 H [(1,some (p1_0,.box 152 [.val q1_0])),(2,some (q1_0,.list z0g 4 c1_0)),(3,some (p1_1,.box 156 [.val q1_1])),(4,some (q1_1,.map aZ z0c c1_1))] w) [] [(2,some (q1_0,.list z0g 4 c1_0)),(1,some (p1_0,.box 152 [.val q1_0])),(4,some (q1_1,.map aZ z0c c1_1)),(3,some (p1_1,.box 156 [.val q1_1]))] aa ww) ?_ (fun s1=>?_)
 ·
  refine gSR<|Zm Z<|Zq (z2w Z .rd Z tu22)<|Zm Z<|Zn<|z1v (fun (s2:Int) aa ww=>Sta (ctx 19 H [(1,some (p1_0,.box 152 [.val q1_0])),(2,some (q1_0,.list z0g 4 c1_0)),(3,some (p1_1,.box 156 [.val q1_1])),(4,some (q1_1,.map aZ z0c c1_1))] w) [(0,.rd (z02 aZ) a0),(1,.val (.func (.func 126) #[] #[z05 p1_0 0,z05 p1_1 0])),(7,.rd z0c (a0.length:Int)),(8,.rd z0c s2)] [(2,some (q1_0,.list z0g 4 c1_0)),(1,some (p1_0,.box 152 [.val q1_0])),(4,some (q1_1,.map aZ z0c c1_1)),(3,some (p1_1,.box 156 [.val q1_1]))] aa ww) (fun aa ww h=>Zu h [2,1,4,3]) (fun s2=>?_)
  refine gSR<|Zq (I.lss Z Z)<|Zn<|z0l<|gIf Z Z (fun h3=>?_) (fun h3=>?_)
  ·
   refine Zt<|z0l<|z49<|gSR<|Zm Z<|Zb Z<|gSR<|Zm Z<|Zm Z<|Zm Z<|z0j fun x4 h5=>Zq (ixR Z Z h5 tu22 z1g Z)<|Zq (ldR Z z36)<|zhf [1,2,3,4] [(1,1),(2,2),(3,3),(4,4)] (gd0 Z) Z Z Tryz.func126 Z Z (zi0 _ _ _ _ _ _ _) (Y1 Z) (cQ 1 Z<|cQ 3 Z<|cN) (Zi Z<|Zi Z<|Zi Z<|Zi Z<|rN) fun r6 n7=>Zj Z (fun h8=>?_) (fun h8=>?_)
   ·
    refine gSR<|Zm Z<|Zb Z<|z0i<|z47<|z0v<|z7z<|z5h<|Ze [] [1,2,3,4] Z
   ·
    refine z29<|z2q<|z0f<|z1y<|Zq (I.add Z Z)<|Zm Z<|z1q<|z19 (fun aa ww h=>Zu h [2,1,4,3])
  ·
   refine z1k<|z0o<|z0r<|z4y (fun aa ww h=>Zu h [2,1,4,3])
 ·
  refine gSR<|Zb Z<|z0i<|Ze [] [1,2,3,4] Z
def z1m (a0:List V3) (c1_0:List Bool) (c1_1:List (V3 × Int)):Option (Bool) :=
 z2l a0 c1_0 c1_1 >>= fun r1 =>
 some (decide (0≤r1)) >>= fun y3 =>
 some y3
theorem z5o (a0:List V3) (p1_0:Value) (q1_0:Value) (c1_0:List Bool) (p1_1:Value) (q1_1:Value) (c1_1:List (V3 × Int)):z1w Tryz.prog 125 [.rd (z02 aZ) a0,.val (.func (.func 126) #[] #[z05 p1_0 0,z05 p1_1 0])] [(1,some (p1_0,.box 152 [.val q1_0])),(2,some (q1_0,.list z0g 4 c1_0)),(3,some (p1_1,.box 156 [.val q1_1])),(4,some (q1_1,.map aZ z0c c1_1))] (z1m a0 c1_0 c1_1) (fun r nv=>⟨[.rd z0g r],[(1,some (p1_0,.box 152 [.val q1_0])),(2,some (q1_0,.list z0g 4 c1_0)),(3,some (p1_1,.box 156 [.val q1_1])),(4,some (q1_1,.map aZ z0c c1_1))]⟩):=by
 refine z2e 9 Tryz.func125 Z Z Z fun H w=>?_
 refine gSR<|Zb Z<|gSR<|Zm Z<|Zm Z<|Zc [1,2,3,4] [(1,1),(2,2),(3,3),(4,4)] Tryz.func114 Z (z65 _ _ _ _ _ _ _) fun r1 n2=>Zq (I.geq Z Z)<|Za Z<|z1i 4 Z fun y3=>Zn<|z0i<|Ze [] [1,2,3,4] Z
def zbm (a0:Int) (c1_0:List Bool) (c2_0:z00) (c3_0:List (V3 × Int)):Option (Bool) :=
 idx c1_0 a0 >>= fun x1 =>
 if !x1 then
  idx c2_0.Ops a0 >>= fun x4 =>
  z1m x4.Preds c1_0 c3_0 >>= fun r6 =>
  some (!r6)
 else
  some false
theorem zjl (a0:Int) (p1_0:Value) (q1_0:Value) (c1_0:List Bool) (p2_0:Value) (c2_0:z00) (p3_0:Value) (q3_0:Value) (c3_0:List (V3 × Int)):z1w Tryz.prog 124 [.rd z0c a0,.val (z05 p1_0 0),.val (z05 p2_0 0),.val (z05 p3_0 0)] [(1,some (p1_0,.box 152 [.val q1_0])),(2,some (q1_0,.list z0g 4 c1_0)),(3,some (p2_0,.box 25 [.rd z01 c2_0])),(4,some (p3_0,.box 156 [.val q3_0])),(5,some (q3_0,.map aZ z0c c3_0))] (zbm a0 c1_0 c2_0 c3_0) (fun r nv=>⟨[.rd z0g r],[(1,some (p1_0,.box 152 [.val q1_0])),(2,some (q1_0,.list z0g 4 c1_0)),(3,some (p2_0,.box 25 [.rd z01 c2_0])),(4,some (p3_0,.box 156 [.val q3_0])),(5,some (q3_0,.map aZ z0c c3_0))]⟩):=by
 refine z2e 22 Tryz.func124 Z Z Z fun H w=>?_
 refine gSR<|Zb Z<|gSR<|Zq (ldV 1 Z Z .here zwx Z)<|Zm Z<|z0j fun x1 h2=>Zq (ixO 2 Z Z Z h2 tu152 ti4)<|Zq (ld 2 Z Z (Foc.el h2) ty4 Z)<|Zq (zdi Z)<|Zm Z<|z1d 11 Z (fun h3=>?_) (fun h3=>?_)
 ·
  refine lKn 10 Z h3<|z0y Zx Z Z (faB 3 Z Z Tryz.underlying25 Z (by exact z9l))<|z0y Zx Z Z (ld 3 Z Z (fP (z08 _)) zcx Z)<|z0y Zx Z Z (mv Z)<|z0j fun x4 h5=>z0y Zx Z Z (ixR Z Z h5 tu23 za5 Z)<|z0y Zx Z Z (faR Z (z0x _) Tryz.underlying73 Z Z (by exact z4q))<|z0y Zx Z Z (ldR Z z5j)<|z0y Zx Z Z (mkf mp0 (mp2 Z Z))<|ze0 [1,2,4,5] [(1,1),(2,2),(3,4),(4,5)] Zx Z Tryz.func125 Z Z (z5o _ _ _ _ _ _ _) (Y2 Z Z) (Zi Z<|Zi Z<|Zi Z<|Zi Z<|rN) fun r6 n7=>z0y Zx Z Z (zdi Z)<|Zq (pkT Z Z)<|Zb Z<|z0i<|Ze [] [1,2,3,4,5] Z
 ·
  refine lKn 10 Z h3<|Zk Z<|Zk Z<|Zk Z<|Zk Z<|Zk Z<|Zk Z<|Zk Z<|Zk Z<|Zk Z<|Zq (pkF Z Z)<|Zb Z<|z0i<|Ze [] [1,2,3,4,5] Z
def z8n (a0:z00) (r5:(List (V3 × Int))) (s13:(List Bool) × (List V3) × Int) (s17:Int):Option (Sum Int Int) :=
 zbm s17 s13.1 a0 r5 >>= fun r18 =>
 if !r18 then
  some (w64 (s17+1)) >>= fun y21 =>
  some (.inr y21)
 else
  some (.inl s17)
def zat (a0:z00) (r5:(List (V3 × Int))) (s13:(List Bool) × (List V3) × Int):Option (Sum ((List V3)) ((List Bool) × (List V3) × Int)) :=
 if decide (s13.2.2<(a0.IDs.length:Int)) then
  (iter (z8n a0 r5 s13) 0) >>= fun s16 =>
  idx s13.1 s16 >>= fun x22 =>
  idx a0.IDs s16 >>= fun x24 =>
  app 32 s13.2.1 [x24] >>= fun x27 =>
  some (.inr (s13.1.set (s16:Int).toNat true,x27,w64 (s13.2.2+1)))
 else
  some (.inl s13.2.1)
def z9n (a0:z00):Option ((List V3) × Int) :=
 z24 a0 >>= fun r2 =>
 if r2 != 0 then
  some ([],r2)
 else
  z4f a0 >>= fun r5 =>
  mkn 1 false (a0.IDs.length:Int) >>= fun x8 =>
  (iter (zat a0 r5) (x8,[],0)) >>= fun s12 =>
  some (s12,0)
theorem zm4 (a0:z00):z1w Tryz.prog 85 [.rd z01 a0] [zG1] (z9n a0) (fun r nv=>⟨[.val (nv 0),.rd z0c r.2],[(1001,some (.bool true,.glob 1 (z3r 64 z10) z8a)),(100,some (nv 0,.list aZ 62 r.1))]⟩):=by
 refine z2e 46 Tryz.func85 Z Z Z fun H w=>?_
 refine gSR<|Eb Z (bx 1 Z) fun v1=>Za Z<|Zb Z<|z0l<|gSR<|Zq (ld 1 Z Z fH z2v Z)<|Zc [1001] [] Tryz.func74 Z (zc4 _) fun r2 n3=>Zb Z<|gSR<|Zm Z<|Zq (I.neq Z Z)<|Zj Z (fun h4=>?_) (fun h4=>?_)
 ·
  refine gSR<|Zm Z<|Za Z<|Zb Z<|z0i<|z0v<|zr1 aZ 62 2<|Ze [(.slice none 0 0)] [1001,2] Z
 ·
  refine Zt<|gSR<|Zq (ld 1 Z Z fH z2v Z)<|Zc [] [(100,3)] Tryz.func123 Z (z9x _) fun r5 n6=>Eb Z (z52 4 zwj (.val Z)) fun v7=>Es (znn 4 Z Z (.here z04) Z z0h z04 zwj)<|Zn<|gSR<|Zq (faB 1 Z Z Tryz.underlying25 Z (by exact z4q))<|Zq (ld 1 Z Z (fP (z07 _)) z5j Z)<|Zq (z2w Z .rd Z tu22)<|z0j fun x8 h9=>Ef Z (mks (R:=z0g) 5 Z Z h9 tu152 ti4 Zr.bool Z) fun v10=>Eb Z (z52 6 z12l (.val Z)) fun v11=>Es (znn 6 Z Z (.here z04) Z z0h z04 z12l)<|Zn<|gSR<|Zq (mkf mp0 (mp3 Z Z Z))<|Zb Z<|gSR<|Zb Z<|z5q (fun (s12:(List V3)) aa ww=>∃ nv:Nat→Value,Sta (ctx 46 H [zG1] w) [(8,.val (nv 0))] [(1101,some ((nv 0),.list aZ 62 s12)),zG1] aa ww) ?_ (fun s12=>?_)
  ·
   refine gSR<|Zq (faB 1 Z Z Tryz.underlying25 Z (by exact z4q))<|Zq (ld 1 Z Z (fP (z07 _)) z5j Z)<|Zq (z2w Z .rd Z tu22)<|Zm Z<|Zn<|zpu aZ 62 1104<|z1v (fun (s13:(List Bool) × (List V3) × Int) aa ww=>∃ nv:Nat→Value,Sta (ctx 46 H [zG1] w) [(1,.val (z05 v1 0)),(6,.val (z05 v11 0)),(7,.val (.func (.func 124) #[] #[z05 v11 0,z05 v1 0,z05 v7 0])),(8,.val (nv 0)),(24,.rd z0c (a0.IDs.length:Int)),(25,.rd z0c s13.2.2)] [(1,some (v1,.box 25 [.rd z01 a0])),(5,some (v10,.list z0g 4 s13.1)),(6,some (v11,.box 152 [.val v10])),(3,some ((n6 0),.map aZ z0c r5)),(4,some (v7,.box 156 [.val (n6 0)])),(1103,some ((nv 0),.list aZ 62 s13.2.1)),zG1] aa ww) (fun aa ww h=>⟨nvl [(.slice none 0 0)],Zu h [1,5,6,3,4,1104,1001]⟩) (fun s13=>?_)
   refine gEx fun n14=>gSR<|Zq (I.lss Z Z)<|Zn<|z0l<|gIf Z Z (fun h15=>?_) (fun h15=>?_)
   ·
    refine Zt<|z0l<|z49<|gSR<|Zb Z<|z5q (fun (s16:Int) aa ww=>Sta (ctx 46 H [zG1] w) [(1,.val (z05 v1 0)),(6,.val (z05 v11 0)),(7,.val (.func (.func 124) #[] #[z05 v11 0,z05 v1 0,z05 v7 0])),(8,.val (n14 0)),(9,.rd z0c s16),(24,.rd z0c (a0.IDs.length:Int)),(25,.rd z0c s13.2.2)] [(1,some (v1,.box 25 [.rd z01 a0])),(5,some (v10,.list z0g 4 s13.1)),(6,some (v11,.box 152 [.val v10])),(3,some ((n6 0),.map aZ z0c r5)),(4,some (v7,.box 156 [.val (n6 0)])),(1103,some ((n14 0),.list aZ 62 s13.2.1)),zG1] aa ww) ?_ (fun s16=>?_)
    ·
     refine z1v (fun (s17:Int) aa ww=>Sta (ctx 46 H [zG1] w) [(1,.val (z05 v1 0)),(6,.val (z05 v11 0)),(7,.val (.func (.func 124) #[] #[z05 v11 0,z05 v1 0,z05 v7 0])),(8,.val (n14 0)),(9,.rd z0c s17),(24,.rd z0c (a0.IDs.length:Int)),(25,.rd z0c s13.2.2)] [(1,some (v1,.box 25 [.rd z01 a0])),(5,some (v10,.list z0g 4 s13.1)),(6,some (v11,.box 152 [.val v10])),(3,some ((n6 0),.map aZ z0c r5)),(4,some (v7,.box 156 [.val (n6 0)])),(1103,some ((n14 0),.list aZ 62 s13.2.1)),zG1] aa ww) (fun aa ww h=>Zu h [1,5,6,3,4,1103,1001]) (fun s17=>?_)
     refine z0l<|gSR<|Zm Z<|Zm Z<|zhf [6,5,1,4,3] [(1,6),(2,5),(3,1),(4,4),(5,3)] (gd0 Z) Z Z Tryz.func124 Z Z (zjl _ _ _ _ _ _ _ _ _) (Y1 Z) (cQ 6 Z<|cQ 1 Z<|cQ 4 Z<|cN) (Zi Z<|Zi Z<|Zi Z<|Zi Z<|Zi Z<|rN) fun r18 n19=>Zq (zdi Z)<|Zj Z (fun h20=>?_) (fun h20=>?_)
     ·
      refine Zt<|z49<|z1y<|Zm Z<|Zq (I.add Z Z)<|Za Z<|z1i 9 Z fun y21=>z1q<|z2q<|z19 (fun aa ww h=>Zu h [1,5,6,3,4,1103,1001])
     ·
      refine z1k<|z0o<|z0r<|z3b (fun aa ww h=>Zu h [1,5,6,3,4,1103,1001])
    ·
     refine gSR<|Zq (ldV 6 Z Z .here zwx Z)<|Zm Z<|z0j fun x22 h23=>Zq (ixO 5 Z Z Z h23 tu152 ti4)<|Es (sto 5 Z Z (Foc.el h23) Z ti4)<|Zn<|z1y<|Zm Z<|Zq (faB 1 Z Z Tryz.underlying25 Z (by exact z4q))<|Zq (ld 1 Z Z (fP (z07 _)) z5j Z)<|Zm Z<|z0j fun x24 h25=>Zq (ixR Z Z h25 tu22 z1g Z)<|Zq (ldR Z z36)<|Ef Z (lit (R:=aZ) ([x24]:List V3) 1105 (pP Z Z<|pN) Z tu22 z1g Z Z) fun v26=>zjd 1105 [42] Z (fS Z<|fN)<|z0j fun x27 h28=>Ef Z (apn 1103 Z Z Z .rd h28 tu22 z1g Z Z Z) fun v29=>Za Z<|z1q<|z2q<|z0f<|z1y<|Zq (I.add Z Z)<|Zm Z<|z1q<|z19 (fun aa ww h=>⟨nvl [v29],Zu h [1,5,6,3,4,1103,1001]⟩)
   ·
    refine z1k<|z0o<|z0r<|z3b (fun aa ww h=>⟨nvl [(n14 0)],Zu h [1103,1001]⟩)
  ·
   refine gEx fun n30=>gSR<|Zm Z<|Za Z<|Zb Z<|z0i<|Ze [(n30 0)] [1001,1101] Z
def zbt (a0:z00) (a1:List V3):Option (Int) :=
 z0d a0 >>= fun r2 =>
 if r2 != 0 then
  z0d a0 >>= fun r5 =>
  some r5
 else
  z3t a0.IDs a1 >>= fun r7 =>
  if !r7 then
   some 6
  else
   some 0
theorem zjx (a0:z00) (a1:List V3):z1w Tryz.prog 121 [.rd z01 a0,.rd (z02 aZ) a1] [] (zbt a0 a1) (fun r nv=>⟨[.rd z0c r],[]⟩):=by
 refine z2e 15 Tryz.func121 Z Z Z fun H w=>?_
 refine gSR<|Eb Z (bx 1 Z) fun v1=>Zb Z<|z0l<|gSR<|Zq (ld 1 Z Z fH z2v Z)<|Zc [] [] Tryz.func38 Z (z1x _) fun r2 n3=>Zq (I.neq Z Z)<|Zj Z (fun h4=>?_) (fun h4=>?_)
 ·
  refine gSR<|Zq (ld 1 Z Z fH z2v Z)<|Zc [] [] Tryz.func38 Z (z1x _) fun r5 n6=>Zb Z<|z0i<|z0v<|Ze [] [] Z
 ·
  refine Zt<|z0l<|gSR<|Zq (faB 1 Z Z Tryz.underlying25 Z (by exact z4q))<|Zq (ld 1 Z Z (fP (z07 _)) z5j Z)<|Zm Z<|Zc [] [] Tryz.func31 Z (zd8 _ _) fun r7 n8=>Zq (zdi Z)<|Zj Z (fun h9=>?_) (fun h9=>?_)
  ·
   refine gSR<|Zb Z<|z0i<|z0v<|Ze [] [] Z
  ·
   refine Zt<|gSR<|Zb Z<|z0i<|Ze [] [] Z
def z9h (a0:z00) (a1:V3):Option ((List V3)) :=
 z3l a0.IDs a1 >>= fun r3 =>
 idx a0.Ops r3 >>= fun x5 =>
 some x5.Preds
theorem zes (a0:z00) (a1:V3):z1w Tryz.prog 167 [.rd z01 a0,.rd aZ a1] [] (z9h a0 a1) (fun r nv=>⟨[.rd (z02 aZ) r],[]⟩):=by
 refine z2e 14 Tryz.func167 Z Z Z fun H w=>?_
 refine gSR<|Eb Z (bx 1 Z) fun v1=>Eb Z (bx 2 Z) fun v2=>Zb Z<|z0l<|z57 [] mixed Z Z<|hTk 0 Z Z (faB 1 Z Z Tryz.underlying25 Z (by exact z9l))<|hTk 1 Z Z (ld 1 Z Z (fP (z08 _)) zcx Z)<|hTk 2 Z Z (faB 1 Z Z Tryz.underlying25 Z (by exact z4q))<|hTk 3 Z Z (ld 1 Z Z (fP (z07 _)) z5j Z)<|hTk 4 Z Z (ld 2 Z Z fH z36 Z)<|z3h 5 [] [] Z (by kernel_rfl) Z (gd0 Z) Z Tryz.func34 Z Z (z7a _ _) (Y2 Z Z) rN Z (fun _ _=>z2j) fun r3 n4=>z3j fun x5 h6=>hTk 6 Z Z (ixR Z Z h6 tu23 za5 Z)<|hTk 7 Z Z (faR Z (z0x _) Tryz.underlying73 Z Z (by exact z4q))<|hTk 8 Z Z (ldR Z z5j)<|hTk 9 Z Z (asg Z)<|z3q (by kernel_rfl)<|z0f<|z0i<|Ze [] [] Z
def z4m (a0:List V3) (s2:(List V3) × Int) (s6:Int):Option (Sum Int Int) :=
 if decide (s6<(s2.1.length:Int)) then
  idx s2.1 s6 >>= fun x8 =>
  idx a0 s2.2 >>= fun x10 =>
  z7y x8 x10 >>= fun r12 =>
  if decide (r12<0) then
   some (.inr (w64 (s6+1)))
  else
   some (.inl s6)
 else
  some (.inl s6)
def z5t (a0:List V3) (s2:(List V3) × Int):Option (Sum ((List V3)) ((List V3) × Int)) :=
 if decide (s2.2<(a0.length:Int)) then
  (iter (z4m a0 s2) 0) >>= fun s5 =>
  (if s5==(s2.1.length:Int) then
   some true
  else
   idx s2.1 s5 >>= fun x17 =>
   idx a0 s2.2 >>= fun x19 =>
   some (!decide (x17=x19))) >>= fun s15 =>
  if s15 then
   cut s2.1 0 s5 >>= fun x22 =>
   idx a0 s2.2 >>= fun x24 =>
   cut s2.1 s5 (s2.1.length:Int) >>= fun x26 =>
   app 32 ([]:List V3) x22 >>= fun x29 =>
   app 32 x29 [x24] >>= fun x33 =>
   app 32 x33 x26 >>= fun x36 =>
   some (w64 (s2.2+1)) >>= fun y39 =>
   some (.inr (x36,y39))
  else
   some (w64 (s2.2+1)) >>= fun y63 =>
   some (.inr (s2.1,y63))
 else
  some (.inl s2.1)
def zas (a0:List V3):Option ((List V3)) :=
 (iter (z5t a0) ([],0)) >>= fun s1 =>
 some s1
theorem zgf (a0:List V3) (q0:Value) (l0:List V3):z1w Tryz.prog 168 [.vw aZ q0 l0 a0] [(1,some (q0,.list aZ 62 l0))] (zas a0) (fun r nv=>⟨[.val (nv 0)],[(1,some (q0,.list aZ 62 l0)),(100,some (nv 0,.list aZ 62 r))]⟩):=by
 refine z2e 61 Tryz.func168 Z Z Z fun H w=>?_
 refine gSR<|Zb Z<|gSR<|Zb Z<|z5q (fun (s1:(List V3)) aa ww=>∃ nv:Nat→Value,Sta (ctx 61 H [(1,some (q0,.list aZ 62 l0))] w) [(3,.val (nv 0))] [(54,some ((nv 0),.list aZ 62 s1)),(1,some (q0,.list aZ 62 l0))] aa ww) ?_ (fun s1=>?_)
 ·
  refine gSR<|Zb Z<|zpu aZ 62 108<|z1v (fun (s2:(List V3) × Int) aa ww=>∃ nv:Nat→Value,Sta (ctx 61 H [(1,some (q0,.list aZ 62 l0))] w) [(0,.vw aZ q0 l0 a0),(3,.val (nv 0)),(4,.rd z0c s2.2)] [(1,some (q0,.list aZ 62 l0)),(107,some ((nv 0),.list aZ 62 s2.1))] aa ww) (fun aa ww h=>⟨nvl [(.slice none 0 0)],Zu h [1,108]⟩) (fun s2=>?_)
  refine gEx fun n3=>z0l<|gSR<|Zm Z<|Zm Z<|Zq (z2w Z (.vw 1 Z) Z tu22)<|Zq (I.lss Z Z)<|Zj Z (fun h4=>?_) (fun h4=>?_)
  ·
   refine Zt<|z0l<|z49<|gSR<|Zb Z<|z5q (fun (s5:Int) aa ww=>Sta (ctx 61 H [(1,some (q0,.list aZ 62 l0))] w) [(0,.vw aZ q0 l0 a0),(3,.val (n3 0)),(4,.rd z0c s2.2),(5,.rd z0c s5)] [(1,some (q0,.list aZ 62 l0)),(107,some ((n3 0),.list aZ 62 s2.1))] aa ww) ?_ (fun s5=>?_)
   ·
    refine z1v (fun (s6:Int) aa ww=>Sta (ctx 61 H [(1,some (q0,.list aZ 62 l0))] w) [(0,.vw aZ q0 l0 a0),(3,.val (n3 0)),(4,.rd z0c s2.2),(5,.rd z0c s6)] [(1,some (q0,.list aZ 62 l0)),(107,some ((n3 0),.list aZ 62 s2.1))] aa ww) (fun aa ww h=>Zu h [1,107]) (fun s6=>?_)
    refine z0l<|z0l<|z57 [] mixed Z Z<|hTk 0 Z Z (mv Z)<|hTk 1 Z Z (mv Z)<|hTk 2 Z Z (z2w Z (.own 107 Z) Z tu22)<|hTk 3 Z Z (I.lss Z Z)<|hTk 4 Z Z (mv Z)<|hIf 16 Z Z (fun h7=>?_) (fun h7=>?_)
    ·
     refine hKn 15 Z Z h7<|Zg 5 Z Z (mv Z)<|Zg 6 Z Z (mv Z)<|z3j fun x8 h9=>Zg 7 Z Z (ixO 107 Z Z Z h9 tu22 z1g)<|Zg 8 Z Z (ld 107 Z Z (Foc.el h9) z36 Z)<|Zg 9 Z Z (mv Z)<|Zg 10 Z Z (mv Z)<|z3j fun x10 h11=>Zg 11 Z Z (ixQ 1 Z Z Z h11 tu22 z1g)<|Zg 12 Z Z (ldQ 1 Z Z z36 Z)<|z3h 13 [] [] Z (by kernel_rfl) Z Zx Z Tryz.func110 Z Z (zd5 _ _) (Y2 Z Z) rN Z (fun _ _=>z2j) fun r12 n13=>Zg 14 Z Z (I.lss Z Z)<|hTk 15 Z Z (pkT Z Z)<|z3q (by kernel_rfl)<|z0f<|gIf Z Z (fun h14=>?_) (fun h14=>?_)
     ·
      refine gKn 26 Z h14<|Zt<|z49<|z1y<|Zm Z<|Zq (I.add Z Z)<|Za Z<|z1q<|z2q<|z19 (fun aa ww h=>Zu h [1,107])
     ·
      refine gKn 26 Z h14<|z1k<|z0o<|z0r<|z3b (fun aa ww h=>Zu h [1,107])
    ·
     refine hKn 15 Z Z h7<|hSk 5 Z Z<|hSk 6 Z Z<|hSk 7 Z Z<|hSk 8 Z Z<|hSk 9 Z Z<|hSk 10 Z Z<|hSk 11 Z Z<|hSk 12 Z Z<|hSk 13 Z Z<|hSk 14 Z Z<|hTk 15 Z Z (pkF Z Z)<|z3q (by kernel_rfl)<|z0f<|zc3 Z<|z1k<|z0o<|z0r<|z3b (fun aa ww h=>Zu h [1,107])
   ·
    refine z5q (fun (s15:Bool) aa ww=>Sta (ctx 61 H [(1,some (q0,.list aZ 62 l0))] w) [(0,.vw aZ q0 l0 a0),(3,.val (n3 0)),(4,.rd z0c s2.2),(5,.rd z0c s5),(44,.rd z0g s15)] [(1,some (q0,.list aZ 62 l0)),(107,some ((n3 0),.list aZ 62 s2.1))] aa ww) ?_ (fun s15=>?_)
    ·
     refine zgc mixed (by kernel_rfl)<|Rq Z (mv Z)<|Rq Z (mv Z)<|Rq Z (z2w Z (.own 107 Z) Z tu22)<|Rq Z (I.eql Z Z)<|Rq Z (mv Z)<|z13r 34 Z (fun h16=>?_) (fun h16=>?_)
     ·
      refine qKn 33 Z h16<|zjs Zx Z Z<|zjs Zx Z Z<|zjs Zx Z Z<|zjs Zx Z Z<|zjs Zx Z Z<|zjs Zx Z Z<|zjs Zx Z Z<|zjs Zx Z Z<|zjs Zx Z Z<|Rq Z (pkT Z Z)<|zov<|z3b (fun aa ww h=>Zu h [1,107])
     ·
      refine qKn 33 Z h16<|zt5 Zx Z Z (mv Z)<|zt5 Zx Z Z (mv Z)<|z80 fun x17 h18=>zt5 Zx Z Z (ixO 107 Z Z Z h18 tu22 z1g)<|zt5 Zx Z Z (ld 107 Z Z (Foc.el h18) z36 Z)<|zt5 Zx Z Z (mv Z)<|zt5 Zx Z Z (mv Z)<|z80 fun x19 h20=>zt5 Zx Z Z (ixQ 1 Z Z Z h20 tu22 z1g)<|zt5 Zx Z Z (ldQ 1 Z Z z36 Z)<|zt5 Zx Z Z (neA Z Z zut Z Z zuh)<|Rq Z (pkF Z Z)<|zov<|z3b (fun aa ww h=>Zu h [1,107])
    ·
     refine gIf Z Z (fun h21=>?_) (fun h21=>?_)
     ·
      refine z57 [160,187] mixed Z Z<|hTk 1 Z Z (mv Z)<|hTk 2 Z Z (mv Z)<|zr7 107 [3,46] Z (fS Z<|fS Z<|fN)<|z3j fun x22 h23=>zdl 3 Z (by kernel_rfl) (by kernel_rfl) (by kernel_rfl) (gd0 Z) Z Z (zxj Z .no (.to Z) h23 tu22 z1g)<|hTk 5 Z Z (mv Z)<|hTk 6 Z Z (mv Z)<|z3j fun x24 h25=>hTk 7 Z Z (ixQ 1 Z Z Z h25 tu22 z1g)<|hTk 8 Z Z (ldQ 1 Z Z z36 Z)<|zdl 11 Z (by kernel_rfl) (by kernel_rfl) (by kernel_rfl) (gd0 Z) Z Z (mv Z)<|hTk 12 Z Z (mv Z)<|z3j fun x26 h27=>zdl 13 Z (by kernel_rfl) (by kernel_rfl) (by kernel_rfl) (gd0 Z) Z Z (zxj Z (.to Z) .no h27 tu22 z1g)<|hAlt [0,9] (by kernel_rfl) Z ⟨?_,?_,trivial⟩
      ·
       refine oDo 0 Z (gd0 Z) Z Z Z (lit (R:=aZ) (([]:List V3):List V3) 160 (pN) Z tu22 z1g Z Z) (fun _=>rfl) fun v28=>hAlt [4,9] (by kernel_rfl) Z ⟨?_,?_,trivial⟩
       ·
        refine z17l fun x29 h30=>oDo 4 Z (gd0 Z) Z Z Z (apn 160 Z Z Z .rd h30 tu22 z1g Z Z Z) (fun _=>rfl) fun v31=>Zo 9 Z Z Z (lit (R:=aZ) ([x24]:List V3) 187 (pP Z Z<|pN) Z tu22 z1g Z Z) fun v32=>zr7 187 [54] Z (fS Z<|fN)<|z3j fun x33 h34=>Zo 10 Z Z Z (apn 160 Z Z Z .rd h34 tu22 z1g Z Z Z) fun v35=>z3j fun x36 h37=>Zo 14 Z Z Z (apn 160 Z Z Z .rd h37 tu22 z1g Z Z Z) fun v38=>Zf 15 Z Z z2t (asg Z)<|z3q (by kernel_rfl)<|z2q<|z0f<|z1y<|Zm Z<|Zq (I.add Z Z)<|Za Z<|z1i 4 Z fun y39=>z1q<|z19 (fun aa ww h=>⟨nvl [v38],Zu h [1,160]⟩)
       ·
        refine oDo 9 Z (gd0 Z) Z Z Z (lit (R:=aZ) ([x24]:List V3) 187 (pP Z Z<|pN) Z tu22 z1g Z Z) (fun _=>rfl) fun v40=>z3j fun x41 h42=>Zo 4 Z Z Z (apn 160 Z Z Z .rd h42 tu22 z1g Z Z Z) fun v43=>zr7 187 [54] Z (fS Z<|fN)<|z3j fun x44 h45=>Zo 10 Z Z Z (apn 160 Z Z Z .rd h45 tu22 z1g Z Z Z) fun v46=>z3j fun x47 h48=>Zo 14 Z Z Z (apn 160 Z Z Z .rd h48 tu22 z1g Z Z Z) fun v49=>Zf 15 Z Z z2t (asg Z)<|z3q (by kernel_rfl)<|z2q<|z0f<|z1y<|Zm Z<|Zq (I.add Z Z)<|Za Z<|z1i 4 Z fun y50=>z1q<|z19 (fun aa ww h=>⟨nvl [v49],Zu h [1,160]⟩)
      ·
       refine oDo 9 Z (gd0 Z) Z Z Z (lit (R:=aZ) ([x24]:List V3) 187 (pP Z Z<|pN) Z tu22 z1g Z Z) (fun _=>rfl) fun v51=>Zo 0 Z Z Z (lit (R:=aZ) (([]:List V3):List V3) 160 (pN) Z tu22 z1g Z Z) fun v52=>z3j fun x53 h54=>Zo 4 Z Z Z (apn 160 Z Z Z .rd h54 tu22 z1g Z Z Z) fun v55=>zr7 187 [54] Z (fS Z<|fN)<|z3j fun x56 h57=>Zo 10 Z Z Z (apn 160 Z Z Z .rd h57 tu22 z1g Z Z Z) fun v58=>z3j fun x59 h60=>Zo 14 Z Z Z (apn 160 Z Z Z .rd h60 tu22 z1g Z Z Z) fun v61=>Zf 15 Z Z z2t (asg Z)<|z3q (by kernel_rfl)<|z2q<|z0f<|z1y<|Zm Z<|Zq (I.add Z Z)<|Za Z<|z1i 4 Z fun y62=>z1q<|z19 (fun aa ww h=>⟨nvl [v61],Zu h [1,160]⟩)
     ·
      refine z29<|z2q<|z0f<|z1y<|Zm Z<|Zq (I.add Z Z)<|Za Z<|z1i 4 Z fun y63=>z1q<|z19 (fun aa ww h=>⟨nvl [(n3 0)],Zu h [1,107]⟩)
  ·
   refine z1k<|z0o<|z0r<|z3b (fun aa ww h=>⟨nvl [(n3 0)],Zu h [107,1]⟩)
 ·
  refine gEx fun n64=>gSR<|Zm Z<|Zb Z<|z0i<|Ze [(n64 0)] [1,54] Z
def z5u (a0:z00) (s10:(List V3) × (List V3)):Option (Sum ((List V3)) ((List V3) × (List V3))) :=
 if decide (0<(s10.2.length:Int)) then
  idx s10.2 0 >>= fun x13 =>
  cut s10.2 1 (s10.2.length:Int) >>= fun x16 =>
  z3l s10.1 x13 >>= fun r19 =>
  if decide (r19<0) then
   app 32 s10.1 [x13] >>= fun x23 =>
   z9h a0 x13 >>= fun r26 =>
   app 32 x16 r26 >>= fun x28 =>
   some (.inr (x23,x28))
  else
   some (.inr (s10.1,x16))
 else
  some (.inl s10.1)
def zaw (a0:z00) (a1:V3):Option ((List V3)) :=
 z9h a0 a1 >>= fun r4 =>
 app 32 ([]:List V3) r4 >>= fun x6 =>
 (iter (z5u a0) ([],x6)) >>= fun s9 =>
 zas s9 >>= fun r32 =>
 some r32
theorem zj0 (a0:z00) (a1:V3):z1w Tryz.prog 122 [.rd z01 a0,.rd aZ a1] [] (zaw a0 a1) (fun r nv=>⟨[.val (nv 0)],[(100,some (nv 0,.list aZ 62 r))]⟩):=by
 refine z2e 36 Tryz.func122 Z Z Z fun H w=>?_
 refine gSR<|Eb Z (bx 1 Z) fun v1=>Eb Z (bx 2 Z) fun v2=>Zb Z<|gSR<|Zb Z<|gSR<|Ef Z (lit (R:=aZ) (([]:List V3):List V3) 3 (pN) Z tu22 z1g Z Z) fun v3=>Zq (ld 1 Z Z fH z2v Z)<|Zq (ld 2 Z Z fH z36 Z)<|Zc [] [] Tryz.func167 Z (zes _ _) fun r4 n5=>z0j fun x6 h7=>Ef Z (apn 3 Z Z Z .rd h7 tu22 z1g Z Z Z) fun v8=>Zb Z<|z5q (fun (s9:(List V3)) aa ww=>∃ nv:Nat→Value,Sta (ctx 36 H [] w) [(5,.val (nv 0))] [(6,some ((nv 0),.list aZ 62 s9))] aa ww) ?_ (fun s9=>?_)
 ·
  refine zpu aZ 62 10<|gSeg 3 Z<|z1v (fun (s10:(List V3) × (List V3)) aa ww=>∃ nv:Nat→Value,Sta (ctx 36 H [] w) [(2,.val (z05 v1 0)),(5,.val (nv 0)),(6,.val (nv 1))] [(1,some (v1,.box 25 [.rd z01 a0])),(9,some ((nv 0),.list aZ 62 s10.1)),(3,some ((nv 1),.seg aZ 62 s10.2))] aa ww) (fun aa ww h=>⟨nvl [(.slice none 0 0),v8],Zu h [1,10,3]⟩) (fun s10=>?_)
  refine gEx fun n11=>z0l<|gSR<|Zm Z<|Zq (z2w Z (.seg 3 Z) Z tu22)<|Zq (I.gtr Z Z)<|Zj Z (fun h12=>?_) (fun h12=>?_)
  ·
   refine Zt<|z49<|gSR<|Zm Z<|z0j fun x13 h14=>Zq (ixSg 3 Z Z Z h14 tu22 z1g)<|Zq (ldSg 3 Z Z z36 Z)<|Eb Z (z52 11 z1g (.zr (R:=aZ) (x:=(Vector.replicate 32 0)) zf5)) fun v15=>Es (sto 11 Z Z fH Z z1g)<|Zn<|gSR<|Zm Z<|z0j fun x16 h17=>Ef Z (cutS 3 Z Z Z h17 tu22 z1g) fun v18=>Zb Z<|gSR<|Zm Z<|Zq (ld 11 Z Z fH z36 Z)<|call [9] [(1,9)] Z Tryz.func34 Z Z (zex _ _ _ _) (aW Z<|aQ Z<|aN) (y1 Z) fun r19 n20=>Zq (I.lss Z Z)<|Zj Z (fun h21=>?_) (fun h21=>?_)
   ·
    refine gSR<|Zm Z<|Zq (ld 11 Z Z fH z36 Z)<|Ef Z (lit (R:=aZ) ([x13]:List V3) 12 (pP Z Z<|pN) Z tu22 z1g Z Z) fun v22=>zjd 12 [27] Z (fS Z<|fN)<|z0j fun x23 h24=>Ef Z (apn 9 Z Z Z .rd h24 tu22 z1g Z Z Z) fun v25=>Zb Z<|z1y<|Zm Z<|Zq (ld 1 Z Z fH z2v Z)<|Zq (ld 11 Z Z fH z36 Z)<|Zc [] [] Tryz.func167 Z (zes _ _) fun r26 n27=>z0j fun x28 h29=>Ef Z (apS 3 Z Z Z .rd h29 tu22 z1g Z Z Z) fun v30=>Za Z<|z1q<|z2q<|z19 (fun aa ww h=>⟨nvl [v25,v30],Zu h [1,9,3]⟩)
   ·
    refine z29<|z2q<|z19 (fun aa ww h=>⟨nvl [(n11 0),v18],Zu h [1,9,3]⟩)
  ·
   refine z1k<|z0o<|z0r<|z3b (fun aa ww h=>⟨nvl [(n11 0)],Zu h [9]⟩)
 ·
  refine gEx fun n31=>gSR<|Zm Z<|call [6] [(100,13),(1,6)] Z Tryz.func168 Z Z (zgf _ _ _) (aW Z<|aN) (y1 Z) fun r32 n33=>Zb Z<|z0i<|Ze [(n33 0)] [13] Z
def z8b (a0:z00) (a1:V3):Option ((List V3) × Int) :=
 zbt a0 [a1] >>= fun r4 =>
 if r4 != 0 then
  some ([],r4)
 else
  zaw a0 a1 >>= fun r7 =>
  some (r7,0)
theorem zgh (a0:z00) (a1:V3):z1w Tryz.prog 84 [.rd z01 a0,.rd aZ a1] [] (z8b a0 a1) (fun r nv=>⟨[.val (nv 0),.rd z0c r.2],[(100,some (nv 0,.list aZ 62 r.1))]⟩):=by
 refine z2e 17 Tryz.func84 Z Z Z fun H w=>?_
 refine gSR<|Eb Z (bx 1 Z) fun v1=>Eb Z (bx 2 Z) fun v2=>Za Z<|Zb Z<|z0l<|gSR<|Zq (ld 1 Z Z fH z2v Z)<|Zq (ld 2 Z Z fH z36 Z)<|Ef Z (lit (R:=aZ) ([a1]:List V3) 3 (pP Z Z<|pN) Z tu22 z1g Z Z) fun v3=>zjd 3 [9] Z (fS Z<|fN)<|Zc [] [] Tryz.func121 Z (zjx _ _) fun r4 n5=>Zb Z<|gSR<|Zm Z<|Zq (I.neq Z Z)<|Zj Z (fun h6=>?_) (fun h6=>?_)
 ·
  refine gSR<|Zm Z<|Za Z<|Zb Z<|z0i<|z0v<|zr1 aZ 62 4<|Ze [(.slice none 0 0)] [4] Z
 ·
  refine Zt<|gSR<|Zq (ld 1 Z Z fH z2v Z)<|Zq (ld 2 Z Z fH z36 Z)<|Zc [] [(100,5)] Tryz.func122 Z (zj0 _ _) fun r7 n8=>Za Z<|Zb Z<|z0i<|Ze [(n8 0)] [5] Z
def z8y (c1_0:List (V3 × Int)) (c3_0:z00) (rec:V3→(List (V3 × Int))→(List Bool)→z00→Option ((List Bool))) (x8:z0b) (s10:(List Bool) × Int):Option (Sum ((List Bool)) ((List Bool) × Int)) :=
 if decide (s10.2<(x8.Preds.length:Int)) then
  idx x8.Preds s10.2 >>= fun x12 =>
  rec x12 c1_0 s10.1 c3_0 >>= fun r15 =>
  some (.inr (r15,w64 (s10.2+1)))
 else
  some (.inl s10.1)
def z7g (rec:V3→(List (V3 × Int))→(List Bool)→z00→Option ((List Bool))) (a0:V3) (c1_0:List (V3 × Int)) (c2_0:List Bool) (c3_0:z00):Option ((List Bool)) :=
 some ((zkg c1_0 a0).getD 0) >>= fun y2 =>
 idx c2_0 y2 >>= fun x3 =>
 if x3 then
  some c2_0
 else
  idx c2_0 y2 >>= fun x6 =>
  idx c3_0.Ops y2 >>= fun x8 =>
  iter (z8y c1_0 c3_0 rec x8) (c2_0.set (y2:Int).toNat true,0)
def z3d:Nat→V3→(List (V3 × Int))→(List Bool)→z00→Option ((List Bool))
 | 0,_,_,_,_=>none
 | N+1,a0,c1_0,c2_0,c3_0=>z7g (z3d N) a0 c1_0 c2_0 c3_0
theorem zjn (rec:V3→(List (V3 × Int))→(List Bool)→z00→Option ((List Bool))) (ih:∀ (a0:V3) (p1_0:Value) (q1_0:Value) (c1_0:List (V3 × Int)) (p2_0:Value) (q2_0:Value) (c2_0:List Bool) (p3_0:Value) (c3_0:z00) (p4_0:Value),z1w Tryz.prog 166 [.rd aZ a0,.val (z05 p1_0 0),.val (z05 p2_0 0),.val (z05 p3_0 0),.val (z05 p4_0 0)] [(1,some (p1_0,.box 156 [.val q1_0])),(2,some (q1_0,.map aZ z0c c1_0)),(3,some (p2_0,.box 152 [.val q2_0])),(4,some (q2_0,.list z0g 4 c2_0)),(5,some (p3_0,.box 25 [.rd z01 c3_0])),(6,some (p4_0,.box 186 [.val (.func (.func 166) #[] #[z05 p1_0 0,z05 p2_0 0,z05 p3_0 0,z05 p4_0 0])]))] (rec a0 c1_0 c2_0 c3_0) (fun r nv=>⟨[],[(1,some (p1_0,.box 156 [.val q1_0])),(2,some (q1_0,.map aZ z0c c1_0)),(3,some (p2_0,.box 152 [.val q2_0])),(4,some (q2_0,.list z0g 4 r)),(5,some (p3_0,.box 25 [.rd z01 c3_0])),(6,some (p4_0,.box 186 [.val (.func (.func 166) #[] #[z05 p1_0 0,z05 p2_0 0,z05 p3_0 0,z05 p4_0 0])]))]⟩)) (a0:V3) (p1_0:Value) (q1_0:Value) (c1_0:List (V3 × Int)) (p2_0:Value) (q2_0:Value) (c2_0:List Bool) (p3_0:Value) (c3_0:z00) (p4_0:Value):z1w Tryz.prog 166 [.rd aZ a0,.val (z05 p1_0 0),.val (z05 p2_0 0),.val (z05 p3_0 0),.val (z05 p4_0 0)] [(1,some (p1_0,.box 156 [.val q1_0])),(2,some (q1_0,.map aZ z0c c1_0)),(3,some (p2_0,.box 152 [.val q2_0])),(4,some (q2_0,.list z0g 4 c2_0)),(5,some (p3_0,.box 25 [.rd z01 c3_0])),(6,some (p4_0,.box 186 [.val (.func (.func 166) #[] #[z05 p1_0 0,z05 p2_0 0,z05 p3_0 0,z05 p4_0 0])]))] (z7g rec a0 c1_0 c2_0 c3_0) (fun r nv=>⟨[],[(1,some (p1_0,.box 156 [.val q1_0])),(2,some (q1_0,.map aZ z0c c1_0)),(3,some (p2_0,.box 152 [.val q2_0])),(4,some (q2_0,.list z0g 4 r)),(5,some (p3_0,.box 25 [.rd z01 c3_0])),(6,some (p4_0,.box 186 [.val (.func (.func 166) #[] #[z05 p1_0 0,z05 p2_0 0,z05 p3_0 0,z05 p4_0 0])]))]⟩):=by
 refine z2e 34 Tryz.func166 Z Z Z fun H w=>?_
 refine gSR<|Eb Z (bx 7 Z) fun v1=>Zn<|gSR<|Zq (ldV 1 Z Z .here z151 Z)<|Zq (ld 7 Z Z fH z36 Z)<|Zq (mlk Z (.own 2 Z Z) Z ky62 Tryz.underlying156 ti3 (Zr.num Z) Z)<|Za Z<|z1i 6 Z fun y2=>Zn<|z0l<|gSR<|Zq (ldV 3 Z Z .here zwx Z)<|Zm Z<|z0j fun x3 h4=>Zq (ixO 4 Z Z Z h4 tu152 ti4)<|Zq (ld 4 Z Z (Foc.el h4) ty4 Z)<|Zj Z (fun h5=>?_) (fun h5=>?_)
 ·
  refine z0i<|z0v<|Ze [] [1,2,3,4,5,6] Z
 ·
  refine Zt<|gSR<|Zq (ldV 3 Z Z .here zwx Z)<|Zm Z<|z0j fun x6 h7=>Zq (ixO 4 Z Z Z h7 tu152 ti4)<|Es (sto 4 Z Z (Foc.el h7) Z ti4)<|Zn<|gSR<|Zq (faB 5 Z Z Tryz.underlying25 Z (by exact z9l))<|Zq (ld 5 Z Z (fP (z08 _)) zcx Z)<|Zm Z<|z0j fun x8 h9=>Zq (ixR Z Z h9 tu23 za5 Z)<|Zq (faR Z (z0x _) Tryz.underlying73 Z Z (by exact z4q))<|Zq (ldR Z z5j)<|Zq (z2w Z .rd Z tu22)<|Zm Z<|Zn<|z1v (fun (s10:(List Bool) × Int) aa ww=>Sta (ctx 34 H [(1,some (p1_0,.box 156 [.val q1_0])),(2,some (q1_0,.map aZ z0c c1_0)),(3,some (p2_0,.box 152 [.val q2_0])),(4,some (q2_0,.list z0g 4 c2_0)),(5,some (p3_0,.box 25 [.rd z01 c3_0])),(6,some (p4_0,.box 186 [.val (.func (.func 166) #[] #[z05 p1_0 0,z05 p2_0 0,z05 p3_0 0,z05 p4_0 0])]))] w) [(4,.val (z05 p4_0 0)),(24,.rd (z02 aZ) x8.Preds),(25,.rd z0c (x8.Preds.length:Int)),(26,.rd z0c s10.2)] [(6,some (p4_0,.box 186 [.val (.func (.func 166) #[] #[z05 p1_0 0,z05 p2_0 0,z05 p3_0 0,z05 p4_0 0])])),(2,some (q1_0,.map aZ z0c c1_0)),(1,some (p1_0,.box 156 [.val q1_0])),(4,some (q2_0,.list z0g 4 s10.1)),(3,some (p2_0,.box 152 [.val q2_0])),(5,some (p3_0,.box 25 [.rd z01 c3_0]))] aa ww) (fun aa ww h=>Zu h [6,2,1,4,3,5]) (fun s10=>?_)
  refine gSR<|Zq (I.lss Z Z)<|Zn<|z0l<|gIf Z Z (fun h11=>?_) (fun h11=>?_)
  ·
   refine Zt<|z0l<|z49<|gSR<|z0j fun x12 h13=>Zq (ixR Z Z h13 tu22 z1g Z)<|Zq (ldR Z z36)<|Eb Z (z52 8 z1g (.zr (R:=aZ) (x:=(Vector.replicate 32 0)) zf5)) fun v14=>Es (sto 8 Z Z fH Z z1g)<|Zn<|z1y<|Zq (ldV 6 Z Z .here z17e Z)<|Zq (ld 8 Z Z fH z36 Z)<|zhf [1,2,3,4,5,6] [(1,1),(2,2),(3,3),(4,4),(5,5),(6,6)] (gd0 Z) Z Z Tryz.func166 Z Z (ih _ _ _ _ _ _ _ _ _ _) (Y1 Z) (cQ 1 Z<|cQ 3 Z<|cQ 5 Z<|cQ 6 Z<|cN) (Zi Z<|Zi Z<|Zi Z<|Zi Z<|Zi Z<|Zi Z<|rN) fun r15 n16=>z1q<|z2q<|z0f<|z1y<|Zq (I.add Z Z)<|Zm Z<|z1q<|z19 (fun aa ww h=>Zu h [6,2,1,4,3,5])
  ·
   refine z1k<|z0o<|z0r<|Ze [] [1,2,3,4,5,6] Z
theorem ze6:∀ (N:Nat) (a0:V3) (p1_0:Value) (q1_0:Value) (c1_0:List (V3 × Int)) (p2_0:Value) (q2_0:Value) (c2_0:List Bool) (p3_0:Value) (c3_0:z00) (p4_0:Value),z1w Tryz.prog 166 [.rd aZ a0,.val (z05 p1_0 0),.val (z05 p2_0 0),.val (z05 p3_0 0),.val (z05 p4_0 0)] [(1,some (p1_0,.box 156 [.val q1_0])),(2,some (q1_0,.map aZ z0c c1_0)),(3,some (p2_0,.box 152 [.val q2_0])),(4,some (q2_0,.list z0g 4 c2_0)),(5,some (p3_0,.box 25 [.rd z01 c3_0])),(6,some (p4_0,.box 186 [.val (.func (.func 166) #[] #[z05 p1_0 0,z05 p2_0 0,z05 p3_0 0,z05 p4_0 0])]))] (z3d N a0 c1_0 c2_0 c3_0) (fun r nv=>⟨[],[(1,some (p1_0,.box 156 [.val q1_0])),(2,some (q1_0,.map aZ z0c c1_0)),(3,some (p2_0,.box 152 [.val q2_0])),(4,some (q2_0,.list z0g 4 r)),(5,some (p3_0,.box 25 [.rd z01 c3_0])),(6,some (p4_0,.box 186 [.val (.func (.func 166) #[] #[z05 p1_0 0,z05 p2_0 0,z05 p3_0 0,z05 p4_0 0])]))]⟩)
 | 0,a0,p1_0,q1_0,c1_0,p2_0,q2_0,c2_0,p3_0,c3_0,p4_0=>fun r hr=>absurd hr (by simp [z3d])
 | N+1,a0,p1_0,q1_0,c1_0,p2_0,q2_0,c2_0,p3_0,c3_0,p4_0=>zjn (z3d N) (ze6 N) a0 p1_0 q1_0 c1_0 p2_0 q2_0 c2_0 p3_0 c3_0 p4_0
theorem zjp (a0:V3) (p1_0:Value) (q1_0:Value) (c1_0:List (V3 × Int)) (p2_0:Value) (q2_0:Value) (c2_0:List Bool) (p3_0:Value) (c3_0:z00) (p4_0:Value):z1w Tryz.prog 166 [.rd aZ a0,.val (z05 p1_0 0),.val (z05 p2_0 0),.val (z05 p3_0 0),.val (z05 p4_0 0)] [(1,some (p1_0,.box 156 [.val q1_0])),(2,some (q1_0,.map aZ z0c c1_0)),(3,some (p2_0,.box 152 [.val q2_0])),(4,some (q2_0,.list z0g 4 c2_0)),(5,some (p3_0,.box 25 [.rd z01 c3_0])),(6,some (p4_0,.box 186 [.val (.func (.func 166) #[] #[z05 p1_0 0,z05 p2_0 0,z05 p3_0 0,z05 p4_0 0])]))] (z3d 1000 a0 c1_0 c2_0 c3_0) (fun r nv=>⟨[],[(1,some (p1_0,.box 156 [.val q1_0])),(2,some (q1_0,.map aZ z0c c1_0)),(3,some (p2_0,.box 152 [.val q2_0])),(4,some (q2_0,.list z0g 4 r)),(5,some (p3_0,.box 25 [.rd z01 c3_0])),(6,some (p4_0,.box 186 [.val (.func (.func 166) #[] #[z05 p1_0 0,z05 p2_0 0,z05 p3_0 0,z05 p4_0 0])]))]⟩):=ze6 1000 a0 p1_0 q1_0 c1_0 p2_0 q2_0 c2_0 p3_0 c3_0 p4_0
def zan (a0:z00) (a1:List V3) (r2:(List (V3 × Int))) (s11:(List Bool) × Int):Option (Sum ((List Bool)) ((List Bool) × Int)) :=
 if decide (s11.2<(a1.length:Int)) then
  idx a1 s11.2 >>= fun x13 =>
  (z3d 1000) x13 r2 s11.1 a0 >>= fun r16 =>
  some (.inr (r16,w64 (s11.2+1)))
 else
  some (.inl s11.1)
end
section
open Go Go.RowKit
set_option maxRecDepth 100000
def zdf (a0:z00) (a1:List V3):Option ((List Bool)) :=
 z4f a0 >>= fun r2 =>
 mkn 1 false (a0.IDs.length:Int) >>= fun x5 =>
 (iter (zan a0 a1 r2) (x5,0)) >>= fun s10 =>
 some s10
theorem zm8 (a0:z00) (a1:List V3):z1w Tryz.prog 120 [.rd z01 a0,.rd (z02 aZ) a1] [] (zdf a0 a1) (fun r nv=>⟨[.val (nv 0)],[(100,some (nv 0,.list z0g 4 r))]⟩):=by
 refine z2e 28 Tryz.func120 Z Z Z fun H w=>?_
 refine gSR<|Eb Z (bx 1 Z) fun v1=>Zb Z<|gSR<|Zq (ld 1 Z Z fH z2v Z)<|Zc [] [(100,2)] Tryz.func123 Z (z9x _) fun r2 n3=>Eb Z (z52 3 zwj (.val Z)) fun v4=>Es (znn 3 Z Z (.here z04) Z z0h z04 zwj)<|Zn<|gSR<|Zq (faB 1 Z Z Tryz.underlying25 Z (by exact z4q))<|Zq (ld 1 Z Z (fP (z07 _)) z5j Z)<|Zq (z2w Z .rd Z tu22)<|z0j fun x5 h6=>Ef Z (mks (R:=z0g) 4 Z Z h6 tu152 ti4 Zr.bool Z) fun v7=>Eb Z (z52 5 z12l (.val Z)) fun v8=>Es (znn 5 Z Z (.here z04) Z z0h z04 z12l)<|Zn<|gSR<|Eb Z (z52 6 z15u (.val Z)) fun v9=>Zn<|gSR<|Zq (mkf mp0 (mp4 Z Z Z Z))<|Es (znn 6 Z Z (.here z04) Z z0h z04 z15u)<|Zn<|z5q (fun (s10:(List Bool)) aa ww=>Sta (ctx 28 H [] w) [(6,.val (z05 v8 0))] [(4,some (v7,.list z0g 4 s10)),(5,some (v8,.box 152 [.val v7]))] aa ww) ?_ (fun s10=>?_)
 ·
  refine gSR<|Zm Z<|Zq (z2w Z .rd Z tu22)<|Zm Z<|Zn<|z1v (fun (s11:(List Bool) × Int) aa ww=>Sta (ctx 28 H [] w) [(6,.val (z05 v8 0)),(7,.val (z05 v9 0)),(17,.rd (z02 aZ) a1),(18,.rd z0c (a1.length:Int)),(19,.rd z0c s11.2)] [(4,some (v7,.list z0g 4 s11.1)),(5,some (v8,.box 152 [.val v7])),(6,some (v9,.box 186 [.val (.func (.func 166) #[] #[z05 v4 0,z05 v8 0,z05 v1 0,z05 v9 0])])),(2,some ((n3 0),.map aZ z0c r2)),(3,some (v4,.box 156 [.val (n3 0)])),(1,some (v1,.box 25 [.rd z01 a0]))] aa ww) (fun aa ww h=>Zu h [4,5,6,2,3,1]) (fun s11=>?_)
  refine gSR<|Zq (I.lss Z Z)<|Zn<|z0l<|gIf Z Z (fun h12=>?_) (fun h12=>?_)
  ·
   refine Zt<|z0l<|z49<|gSR<|z0j fun x13 h14=>Zq (ixR Z Z h14 tu22 z1g Z)<|Zq (ldR Z z36)<|Eb Z (z52 7 z1g (.zr (R:=aZ) (x:=(Vector.replicate 32 0)) zf5)) fun v15=>Es (sto 7 Z Z fH Z z1g)<|Zn<|z1y<|Zq (ldV 6 Z Z .here z17e Z)<|Zq (ld 7 Z Z fH z36 Z)<|zhf [3,2,5,4,1,6] [(1,3),(2,2),(3,5),(4,4),(5,1),(6,6)] (gd0 Z) Z Z Tryz.func166 Z Z (zjp _ _ _ _ _ _ _ _ _ _) (Y1 Z) (cQ 3 Z<|cQ 5 Z<|cQ 1 Z<|cQ 6 Z<|cN) (Zi Z<|Zi Z<|Zi Z<|Zi Z<|Zi Z<|Zi Z<|rN) fun r16 n17=>z1q<|z2q<|z0f<|z1y<|Zq (I.add Z Z)<|Zm Z<|z1q<|z19 (fun aa ww h=>Zu h [4,5,6,2,3,1])
  ·
   refine z1k<|z0o<|z0r<|z3b (fun aa ww h=>Zu h [4,5])
 ·
  refine gSR<|Zq (ldV 5 Z Z .here zwx Z)<|Zb Z<|z0i<|Ze [v7] [4] Z
def zf1 (a0:z0b):Option (z0b) :=
 app 32 ([]:List V3) a0.Preds >>= fun x4 =>
 some (⟨a0.Author,x4,a0.Stamp,a0.Act,a0.Sig⟩:z0b)
theorem zlk (a0:z0b):z1w Tryz.prog 42 [.rd z03 a0] [] (zf1 a0) (fun r nv=>⟨[.rd z03 r],[]⟩):=by
 refine z2e 9 Tryz.func42 Z Z Z fun H w=>?_
 refine gSR<|Eb Z (bx 1 Z) fun v1=>Eb Z (z52 2 za5 (ZrE.rd (R:=z10) (x:=0) (Zr.num Z) (ZrE.nilS (ZrE.rd (R:=z2k) (x:=0) (Zr.num Z) (ZrE.rd (R:=z0z) (x:=(⟨0,[],(⟨0,0,0,[]⟩:z09)⟩:z18)) zx7 (ZrE.rd (R:=z13) (x:=(⟨0,0⟩:z0q)) zx6 ZrE.nil Z) Z) Z)) Z)) fun v2=>Zn<|gSR<|Ef Z (lit (R:=aZ) (([]:List V3):List V3) 3 (pN) Z tu22 z1g Z Z) fun v3=>Zq (faB 1 Z Z Tryz.underlying73 Z (by exact z4q))<|Zq (ld 1 Z Z (fP (z0x _)) z5j Z)<|z0j fun x4 h5=>Ef Z (apn 3 Z Z Z .rd h5 tu22 z1g Z Z Z) fun v6=>Zq (faB 1 Z Z Tryz.underlying73 Z (by exact z4q))<|lSpl (R:=z03) 1 Z (Sp.via (Sp.prod (Sp.prod (Sp.prod (Sp.prod (Sp.prod Sp.unit))))))<|Es (znn 1 Z Z (z81.cast (z81.next z0u (z81.here z0u)) Z) Z z0h z04 z4q)<|Zn<|gSR<|ztl [.rd z10 a0.Author,.rd (z02 aZ) x4,.rd z2k a0.Stamp,.rd z0z a0.Act,.rd z13 a0.Sig] 1 3 [.rd z10 a0.Author] [.rd z2k a0.Stamp,.rd z0z a0.Act,.rd z13 a0.Sig] Z Z Z Z Z<|zch (R:=z03) (⟨a0.Author,x4,a0.Stamp,a0.Act,a0.Sig⟩:z0b) 1 Z (Sp.via (Sp.prod (Sp.prod (Sp.prod (Sp.prod (Sp.prod Sp.unit))))))<|Zq (ld 1 Z Z fH zcs Z)<|z99 aZ [.rd z10 0,.rd (z02 aZ) [],.rd z2k 0,.rd z0z (⟨0,[],(⟨0,0,0,[]⟩:z09)⟩:z18),.rd z13 (⟨0,0⟩:z0q)] 2 [.rd z10 0] [.rd z2k 0,.rd z0z (⟨0,[],(⟨0,0,0,[]⟩:z09)⟩:z18),.rd z13 (⟨0,0⟩:z0q)] Z Z Z<|zch (R:=z03) (⟨0,[],0,(⟨0,[],(⟨0,0,0,[]⟩:z09)⟩:z18),(⟨0,0⟩:z0q)⟩:z0b) 2 Z (Sp.via (Sp.prod (Sp.prod (Sp.prod (Sp.prod (Sp.prod Sp.unit))))))<|Es (sto 2 Z Z fH Z za5)<|Zn<|z0i<|zb6 [] [] Z (eC 2 Z Z zcs<|eN) (rN)
def z9y (a0:z00) (s9:(List z0b) × Int):Option (Sum ((List z0b)) ((List z0b) × Int)) :=
 if decide (s9.2<(a0.Ops.length:Int)) then
  idx a0.Ops s9.2 >>= fun x12 =>
  zf1 x12 >>= fun r14 =>
  app 112 s9.1 [r14] >>= fun x17 =>
  some (w64 (s9.2+1)) >>= fun y20 =>
  some (.inr (x17,y20))
 else
  some (.inl s9.1)
def z6m (a0:z00):Option (z00) :=
 app 32 ([]:List V3) a0.IDs >>= fun x4 =>
 (iter (z9y a0) ([],0)) >>= fun s8 =>
 some (⟨x4,s8⟩:z00)
set_option maxHeartbeats 4000000 in
theorem z9v (a0:z00):z1w Tryz.prog 11 [.rd z01 a0] [] (z6m a0) (fun r nv=>⟨[.rd z01 r],[]⟩):=by
 refine z2e 29 Tryz.func11 Z Z Z fun H w=>?_
 refine gSR<|Eb Z (bx 1 Z) fun v1=>Eb Z (z52 2 z3m (ZrE.nilS (ZrE.nilS ZrE.nil))) fun v2=>Zn<|gSR<|Ef Z (lit (R:=aZ) (([]:List V3):List V3) 3 (pN) Z tu22 z1g Z Z) fun v3=>Zq (faB 1 Z Z Tryz.underlying25 Z (by exact z4q))<|Zq (ld 1 Z Z (fP (z07 _)) z5j Z)<|z0j fun x4 h5=>Ef Z (apn 3 Z Z Z .rd h5 tu22 z1g Z Z Z) fun v6=>Zq (zii [(0,1),(1,1)] Tryz.underlying25 z3m (ZrE.nilS (ZrE.nilS ZrE.nil)) Z (zds.cons Z Z z04 (z81.cast (z81.here z04) Z)<|zds.done Z))<|Eb Z (z52 4 z3m (ZrE.nilS (ZrE.nilS ZrE.nil))) fun v7=>Es (zit 4 Z Z (z06.cast (z06.cons z04 (z06.cons z04 z06.nil)) Z) Z (z1n.cons z0h (z1n.cons z0h z1n.nil)) (z06.cast (z06.cons z04 (z06.cons z04 z06.nil)) Z) z3m)<|Zn<|z5q (fun (s8:(List z0b)) aa ww=>∃ nv:Nat→Value,Sta (ctx 29 H [] w) [(2,.val (z05 v2 0)),(3,.val (z05 v7 0))] [(2,some (v2,.box 25 [.val (.slice none 0 0),.val (.slice none 0 0)])),(3,some (v6,.list aZ 62 x4)),(5,some ((nv 0),.list z03 73 s8)),(4,some (v7,.box 25 [.val v6,.val (nv 0)]))] aa ww) ?_ (fun s8=>?_)
 ·
  refine gSR<|Zb Z<|zpu z03 73 7<|z1v (fun (s9:(List z0b) × Int) aa ww=>∃ nv:Nat→Value,Sta (ctx 29 H [] w) [(1,.val (z05 v1 0)),(2,.val (z05 v2 0)),(3,.val (z05 v7 0)),(4,.rd z0c s9.2)] [(1,some (v1,.box 25 [.rd z01 a0])),(2,some (v2,.box 25 [.val (.slice none 0 0),.val (.slice none 0 0)])),(3,some (v6,.list aZ 62 x4)),(6,some ((nv 0),.list z03 73 s9.1)),(4,some (v7,.box 25 [.val v6,.val (nv 0)]))] aa ww) (fun aa ww h=>⟨nvl [(.slice none 0 0)],Zu h [1,2,3,7,4]⟩) (fun s9=>?_)
  refine gEx fun n10=>z0l<|gSR<|Zm Z<|Zq (faB 1 Z Z Tryz.underlying25 Z (by exact z9l))<|Zq (ld 1 Z Z (fP (z08 _)) zcx Z)<|Zq (z2w Z .rd Z tu23)<|Zq (I.lss Z Z)<|Zj Z (fun h11=>?_) (fun h11=>?_)
  ·
   refine Zt<|z0l<|z49<|zro [(1,.val (z05 v1 0)),(2,.val (z05 v2 0)),(3,.val (z05 v7 0)),(4,.rd z0c s9.2)] [(1,some (v1,.box 25 [.rd z01 a0])),(2,some (v2,.box 25 [.val (.slice none 0 0),.val (.slice none 0 0)])),(3,some (v6,.list aZ 62 x4)),(6,some ((n10 0),.list z03 73 s9.1)),(4,some (v7,.box 25 [.val v6,.val (n10 0)]))] [1,2,3,6,4] (Zs Z Z Z Z<|sN) (Zi Z<|Zi Z<|Zi Z<|Zi Z<|Zi Z<|rN)<|z4s fun x12 h13=>z4s fun r14 h16=>z4s fun x17 h18=>gOr [] [⟨4,some ([], fun nv=>(v7,.box 25 [.val v6,.val (n10 0)])),[(11,some ([2], fun nv=>(v7,.box 25 [.val v6,.val (nv 2)])))]⟩,⟨1,some ([], fun nv=>(v1,.box 25 [.rd z01 a0])),[]⟩,⟨8,none,[(8,none)]⟩,⟨6,some ([], fun nv=>((n10 0),.list z03 73 s9.1)),[(9,some ([2], fun nv=>((nv 2),.list z03 73 x17)))]⟩] [pk 17 (.val (z05 v7 (0+1))) [(0,0,false)],pk 18 (.val (n10 0)) [(0,0,false)],pk 19 (.val (z05 v1 (0+1))) [(1,0,false)],pk 20 (.rd (z02 z03) a0.Ops) [(1,0,false)],pd 21 (.rd z0c s9.2),pd 22 (.rp z03 x12),pd 23 (.rd z03 x12),pd 24 (.rd z03 r14),⟨some (25,[], fun nv=>.rd (z02 z03) [r14]),[(2,0,true)],[1],[]⟩,⟨some (26,[2], fun nv=>.val (nv 2)),[(3,0,true)],[2],[]⟩,pk 27 (.val (z05 v7 (0+1))) [(0,0,false)],⟨none,[(3,1,false),(0,0,true)],[],[]⟩] mixed (oC (oRn (fun nv E=>faB 4 Z Z Tryz.underlying25 Z (by exact z9l)))<|oC (oRn (fun nv E=>ldV 4 Z Z (At.cast (At.next z04 At.here) Z) sc23 Z))<|oC (oRn (fun nv E=>faB 1 Z Z Tryz.underlying25 Z (by exact z9l)))<|oC (oRn (fun nv E=>ld 1 Z Z (fP (z08 _)) zcx Z))<|oC (oRn (fun nv E=>mv Z))<|oC (oRn (fun nv E=>ixR Z Z h13 tu23 za5 Z))<|oC (oRn (fun nv E=>ldR Z zcs))<|oC (oCl [] [] [] h16 Tryz.func42 Z (fun nv=>(zlk _)) (fun nv=>(Y1 Z)) (fun nv E=>rN))<|oC (oFz (A1:=fun nv=>[(8,some ((nv 1),.list z03 73 [r14]))]) 8 1 (oEf 8 1 (fun nv E=>lit (R:=z03) ([r14]:List z0b) 8 (pP Z Z<|pN) Z tu23 za5 Z Z)))<|oC (oEf 6 2 (fun nv E=>apn 6 Z Z Z .rd h18 tu23 za5 Z Z Z))<|oC (oRn (fun nv E=>faB 4 Z Z Tryz.underlying25 Z (by exact z9l)))<|oC (oEs 4 (fun nv E=>znn 4 Z Z (z81.cast (z81.next z04 (z81.here z04)) Z) Z z0h z04 z9l))<|oN) fun n19=>z2q<|z0f<|z1y<|Zm Z<|Zq (I.add Z Z)<|Za Z<|z1i 4 Z fun y20=>z1q<|z19 (fun aa ww h=>⟨nvl [(n19 2)],Zu h [1,2,3,6,4]⟩)
  ·
   refine z1k<|z0o<|z0r<|z3b (fun aa ww h=>⟨nvl [(n10 0)],Zu h [2,3,6,4]⟩)
 ·
  refine gEx fun n21=>gSR<|ztl [.rd (z02 aZ) x4,.val (n21 0)] 4 3 [] [.val (n21 0)] Z Z Z Z Z<|ztl [.rd (z02 aZ) x4,.rd (z02 z03) s8] 4 5 [.rd (z02 aZ) x4] [] Z Z Z Z Z<|zch (R:=z01) (⟨x4,s8⟩:z00) 4 Z (Sp.via (Sp.prod (Sp.prod Sp.unit)))<|Zq (ld 4 Z Z fH z2v Z)<|z99 aZ [.rd (z02 aZ) [],.val (.slice none 0 0)] 2 [] [.val (.slice none 0 0)] Z Z Z<|z99 z03 [.rd (z02 aZ) [],.rd (z02 z03) []] 2 [.rd (z02 aZ) []] [] Z Z Z<|zch (R:=z01) (⟨[],[]⟩:z00) 2 Z (Sp.via (Sp.prod (Sp.prod Sp.unit)))<|Es (sto 2 Z Z fH Z z3m)<|Zn<|z0i<|zb6 [] [] Z (eC 2 Z Z z2v<|eN) (rN)
def z2p (a0:List V3) (a1:List V3) (s3:Int):Option (Sum (Sum Bool Unit) Int) :=
 if decide (s3<(a0.length:Int)) then
  idx a0 s3 >>= fun x5 =>
  idx a1 s3 >>= fun x7 =>
  if !decide (x5=x7) then
   some (.inl (.inl false))
  else
   some (.inr (w64 (s3+1)))
 else
  some (.inl (.inr ()))
def z4g (a0:List V3) (a1:List V3):Option (Bool) :=
 if (a0.length:Int) != (a1.length:Int) then
  some false
 else
  z61 (iter (z2p a0 a1) 0) fun s2 =>
  some true
theorem zdu (a0:List V3) (a1:List V3):z1w Tryz.prog 53 [.rd (z02 aZ) a0,.rd (z02 aZ) a1] [] (z4g a0 a1) (fun r nv=>⟨[.rd z0g r],[]⟩):=by
 refine z2e 26 Tryz.func53 Z Z Z fun H w=>?_
 refine gSR<|Zb Z<|z0l<|gSR<|Zm Z<|Zq (z2w Z .rd Z tu22)<|Zm Z<|Zq (z2w Z .rd Z tu22)<|Zq (I.neq Z Z)<|Zj Z (fun h1=>?_) (fun h1=>?_)
 ·
  refine gSR<|Zb Z<|z0i<|z0v<|Ze [] [] Z
 ·
  refine Zt<|z83 (fun (s2:Unit) aa ww=>Sta (ctx 26 H [] w) [] [] aa ww) ?_ (fun s2=>?_)
  ·
   refine gSR<|Zb Z<|z1v (fun (s3:Int) aa ww=>Sta (ctx 26 H [] w) [(0,.rd (z02 aZ) a0),(1,.rd (z02 aZ) a1),(5,.rd z0c s3)] [] aa ww) (fun aa ww h=>Zu h []) (fun s3=>?_)
   refine z0l<|gSR<|Zm Z<|Zm Z<|Zq (z2w Z .rd Z tu22)<|Zq (I.lss Z Z)<|Zj Z (fun h4=>?_) (fun h4=>?_)
   ·
    refine Zt<|z0l<|z49<|z0l<|zgc mixed (by kernel_rfl)<|Rq Z (mv Z)<|Rq Z (mv Z)<|z80 fun x5 h6=>Rq Z (ixR Z Z h6 tu22 z1g Z)<|Rq Z (ldR Z z36)<|Rq Z (mv Z)<|Rq Z (mv Z)<|z80 fun x7 h8=>Rq Z (ixR Z Z h8 tu22 z1g Z)<|Rq Z (ldR Z z36)<|Rq Z (neA Z Z zut Z Z zuh)<|zov<|z0f<|gIf Z Z (fun h9=>?_) (fun h9=>?_)
    ·
     refine gSR<|Zb Z<|z0i<|z47<|z0v<|z7z<|z5h<|Ze [] [] Z
    ·
     refine z29<|z2q<|z0f<|z1y<|Zm Z<|Zq (I.add Z Z)<|Za Z<|z1q<|z19 (fun aa ww h=>Zu h [])
   ·
    refine z1k<|z0o<|z0r<|z4y (fun aa ww h=>Zu h [])
  ·
   refine gSR<|Zb Z<|z0i<|Ze [] [] Z
def z6b (a0:z0b) (a1:z0b):Option (Bool) :=
 if a0.Author==a1.Author then
  z4g a0.Preds a1.Preds >>= fun r4 =>
  if r4 then
   if a0.Stamp==a1.Stamp then
    if decide (a0.Act=a1.Act) then
     some (decide (a0.Sig=a1.Sig)) >>= fun y9 =>
     some y9
    else
     some false
   else
    some false
  else
   some false
 else
  some false
theorem zfm (a0:z0b) (a1:z0b):z1w Tryz.prog 54 [.rd z03 a0,.rd z03 a1] [] (z6b a0 a1) (fun r nv=>⟨[.rd z0g r],[]⟩):=by
 refine z2e 38 Tryz.func54 Z Z Z fun H w=>?_
 refine gSR<|Eb Z (bx 1 Z) fun v1=>Eb Z (bx 2 Z) fun v2=>Zb Z<|gSR<|Zq (faB 1 Z Z Tryz.underlying73 Z (by exact z6s))<|Zq (ld 1 Z Z (fP (z3u _)) za4 Z)<|Zq (faB 2 Z Z Tryz.underlying73 Z (by exact z6s))<|Zq (ld 2 Z Z (fP (z3u _)) za4 Z)<|Zq (W.eql Z Z)<|Zm Z<|z1d 10 Z (fun h3=>?_) (fun h3=>?_)
 ·
  refine lKn 9 Z h3<|z0y Zx Z Z (faB 1 Z Z Tryz.underlying73 Z (by exact z4q))<|z0y Zx Z Z (ld 1 Z Z (fP (z0x _)) z5j Z)<|z0y Zx Z Z (faB 2 Z Z Tryz.underlying73 Z (by exact z4q))<|z0y Zx Z Z (ld 2 Z Z (fP (z0x _)) z5j Z)<|ze0 [] [] Zx Z Tryz.func53 Z Z (zdu _ _) (Y2 Z Z) rN fun r4 n5=>Zq (pkT Z Z)<|Zm Z<|z1d 17 Z (fun h6=>?_) (fun h6=>?_)
  ·
   refine lKn 15 Z h6<|lKn 16 Z h6<|z0y Zx Z Z (faB 1 Z Z Tryz.underlying73 Z (by exact zpy))<|z0y Zx Z Z (ld 1 Z Z (fP (z5c _)) zp8 Z)<|z0y Zx Z Z (faB 2 Z Z Tryz.underlying73 Z (by exact zpy))<|z0y Zx Z Z (ld 2 Z Z (fP (z5c _)) zp8 Z)<|z0y Zx Z Z (U.eql Z Z)<|Zq (pkT Z Z)<|Zm Z<|z1d 24 Z (fun h7=>?_) (fun h7=>?_)
   ·
    refine lKn 22 Z h7<|lKn 23 Z h7<|z0y Zx Z Z (faB 1 Z Z Tryz.underlying73 Z (by exact zpt))<|z0y Zx Z Z (ld 1 Z Z (fP (z2h _)) ty69 Z)<|z0y Zx Z Z (faB 2 Z Z Tryz.underlying73 Z (by exact zpt))<|z0y Zx Z Z (ld 2 Z Z (fP (z2h _)) ty69 Z)<|z0y Zx Z Z (eqA Z Z eq69 Z Z gq69)<|Zq (pkT Z Z)<|Zm Z<|z1d 31 Z (fun h8=>?_) (fun h8=>?_)
    ·
     refine lKn 29 Z h8<|lKn 30 Z h8<|z0y Zx Z Z (faB 1 Z Z Tryz.underlying73 Z (by exact zra))<|z0y Zx Z Z (ld 1 Z Z (fP (z3a _)) ty71 Z)<|z0y Zx Z Z (faB 2 Z Z Tryz.underlying73 Z (by exact zra))<|z0y Zx Z Z (ld 2 Z Z (fP (z3a _)) ty71 Z)<|z0y Zx Z Z (eqA Z Z eq71 Z Z gq71)<|Zq (pkT Z Z)<|Za Z<|z1i 4 Z fun y9=>Zn<|z0i<|Ze [] [] Z
    ·
     refine lKn 29 Z h8<|lKn 30 Z h8<|Zk Z<|Zk Z<|Zk Z<|Zk Z<|Zk Z<|Zq (pkF Z Z)<|Zb Z<|z0i<|Ze [] [] Z
   ·
    refine lKn 22 Z h7<|lKn 23 Z h7<|Zk Z<|Zk Z<|Zk Z<|Zk Z<|Zk Z<|Zq (pkF Z Z)<|Zm Z<|Zk Z<|Zk Z<|Zk Z<|Zk Z<|Zk Z<|Zq (pkF Z Z)<|Zb Z<|z0i<|Ze [] [] Z
  ·
   refine lKn 15 Z h6<|lKn 16 Z h6<|Zk Z<|Zk Z<|Zk Z<|Zk Z<|Zk Z<|Zq (pkF Z Z)<|Zm Z<|Zk Z<|Zk Z<|Zk Z<|Zk Z<|Zk Z<|Zq (pkF Z Z)<|Zm Z<|Zk Z<|Zk Z<|Zk Z<|Zk Z<|Zk Z<|Zq (pkF Z Z)<|Zb Z<|z0i<|Ze [] [] Z
 ·
  refine lKn 9 Z h3<|Zk Z<|Zk Z<|Zk Z<|Zk Z<|Zk Z<|Zq (pkF Z Z)<|Zm Z<|Zk Z<|Zk Z<|Zk Z<|Zk Z<|Zk Z<|Zq (pkF Z Z)<|Zm Z<|Zk Z<|Zk Z<|Zk Z<|Zk Z<|Zk Z<|Zq (pkF Z Z)<|Zm Z<|Zk Z<|Zk Z<|Zk Z<|Zk Z<|Zk Z<|Zq (pkF Z Z)<|Zb Z<|z0i<|Ze [] [] Z
def za2 (a0:z00) (a1:z00) (s8:Int):Option (Sum (Sum Bool Unit) Int) :=
 if decide (s8<(a0.Ops.length:Int)) then
  idx a0.Ops s8 >>= fun x10 =>
  idx a1.Ops s8 >>= fun x12 =>
  z6b x10 x12 >>= fun r14 =>
  if !r14 then
   some (.inl (.inl false))
  else
   some (.inr (w64 (s8+1)))
 else
  some (.inl (.inr ()))
def z5a (a0:z00) (a1:z00):Option (Bool) :=
 z4g a0.IDs a1.IDs >>= fun r3 =>
 if !r3 then
  some false
 else
  if (a0.Ops.length:Int) != (a1.Ops.length:Int) then
   some false
  else
   z61 (iter (za2 a0 a1) 0) fun s7 =>
   some true
theorem z9w (a0:z00) (a1:z00):z1w Tryz.prog 22 [.rd z01 a0,.rd z01 a1] [] (z5a a0 a1) (fun r nv=>⟨[.rd z0g r],[]⟩):=by
 refine z2e 40 Tryz.func22 Z Z Z fun H w=>?_
 refine gSR<|Eb Z (bx 1 Z) fun v1=>Eb Z (bx 2 Z) fun v2=>Zb Z<|z0l<|gSR<|Zq (faB 1 Z Z Tryz.underlying25 Z (by exact z4q))<|Zq (ld 1 Z Z (fP (z07 _)) z5j Z)<|Zq (faB 2 Z Z Tryz.underlying25 Z (by exact z4q))<|Zq (ld 2 Z Z (fP (z07 _)) z5j Z)<|Zc [] [] Tryz.func53 Z (zdu _ _) fun r3 n4=>Zq (zdi Z)<|Zm Z<|z1d 12 Z (fun h5=>?_) (fun h5=>?_)
 ·
  refine lKn 11 Z h5<|Zk Z<|Zk Z<|Zk Z<|Zk Z<|Zk Z<|Zk Z<|Zk Z<|Zq (pkT Z Z)<|Zn<|zf9 Z<|gSR<|Zb Z<|z0i<|z0v<|Ze [] [] Z
 ·
  refine lKn 11 Z h5<|z0y Zx Z Z (faB 1 Z Z Tryz.underlying25 Z (by exact z9l))<|z0y Zx Z Z (ld 1 Z Z (fP (z08 _)) zcx Z)<|z0y Zx Z Z (z2w Z .rd Z tu23)<|z0y Zx Z Z (faB 2 Z Z Tryz.underlying25 Z (by exact z9l))<|z0y Zx Z Z (ld 2 Z Z (fP (z08 _)) zcx Z)<|z0y Zx Z Z (z2w Z .rd Z tu23)<|z0y Zx Z Z (I.neq Z Z)<|Zq (pkF Z Z)<|Zj Z (fun h6=>?_) (fun h6=>?_)
  ·
   refine gKn 19 Z h6<|gSR<|Zb Z<|z0i<|z0v<|Ze [] [] Z
  ·
   refine gKn 19 Z h6<|Zt<|z83 (fun (s7:Unit) aa ww=>Sta (ctx 40 H [] w) [] [] aa ww) ?_ (fun s7=>?_)
   ·
    refine gSR<|Zb Z<|z1v (fun (s8:Int) aa ww=>Sta (ctx 40 H [] w) [(2,.val (z05 v1 0)),(3,.val (z05 v2 0)),(5,.rd z0c s8)] [(1,some (v1,.box 25 [.rd z01 a0])),(2,some (v2,.box 25 [.rd z01 a1]))] aa ww) (fun aa ww h=>Zu h [1,2]) (fun s8=>?_)
    refine z0l<|gSR<|Zm Z<|Zq (faB 1 Z Z Tryz.underlying25 Z (by exact z9l))<|Zq (ld 1 Z Z (fP (z08 _)) zcx Z)<|Zq (z2w Z .rd Z tu23)<|Zq (I.lss Z Z)<|Zj Z (fun h9=>?_) (fun h9=>?_)
    ·
     refine Zt<|z0l<|z49<|z0l<|z57 [] mixed Z Z<|hTk 0 Z Z (faB 1 Z Z Tryz.underlying25 Z (by exact z9l))<|hTk 1 Z Z (ld 1 Z Z (fP (z08 _)) zcx Z)<|hTk 2 Z Z (mv Z)<|z3j fun x10 h11=>hTk 3 Z Z (ixR Z Z h11 tu23 za5 Z)<|hTk 4 Z Z (ldR Z zcs)<|hTk 5 Z Z (faB 2 Z Z Tryz.underlying25 Z (by exact z9l))<|hTk 6 Z Z (ld 2 Z Z (fP (z08 _)) zcx Z)<|hTk 7 Z Z (mv Z)<|z3j fun x12 h13=>hTk 8 Z Z (ixR Z Z h13 tu23 za5 Z)<|hTk 9 Z Z (ldR Z zcs)<|z3h 10 [] [] Z (by kernel_rfl) Z (gd0 Z) Z Tryz.func54 Z Z (zfm _ _) (Y2 Z Z) rN Z (fun _ _=>z9f) fun r14 n15=>hTk 11 Z Z (zdi Z)<|z3q (by kernel_rfl)<|z0f<|gIf Z Z (fun h16=>?_) (fun h16=>?_)
     ·
      refine gSR<|Zb Z<|z0i<|z47<|z0v<|z7z<|z5h<|Ze [] [] Z
     ·
      refine z29<|z2q<|z0f<|z1y<|Zm Z<|Zq (I.add Z Z)<|Za Z<|z1q<|z19 (fun aa ww h=>Zu h [1,2])
    ·
     refine z1k<|z0o<|z0r<|z4y (fun aa ww h=>Zu h [])
   ·
    refine gSR<|Zb Z<|z0i<|Ze [] [] Z
def z7b (a0:z0b):Option (Bool) :=
 if decide (20<(a0.Preds.length:Int)) then
  some true
 else
  if decide (100<(a0.Act.Key.length:Int)) then
   some true
  else
   some (decide (100<(a0.Act.Value.Text.length:Int))) >>= fun y4 =>
   some y4
theorem zk9 (a0:z0b):z1w Tryz.prog 55 [.rd z03 a0] [] (z7b a0) (fun r nv=>⟨[.rd z0g r],[]⟩):=by
 refine z2e 22 Tryz.func55 Z Z Z fun H w=>?_
 refine gSR<|Eb Z (bx 1 Z) fun v1=>Zb Z<|gSR<|Zq (faB 1 Z Z Tryz.underlying73 Z (by exact z4q))<|Zq (ld 1 Z Z (fP (z0x _)) z5j Z)<|Zq (z2w Z .rd Z tu22)<|Zq (I.gtr Z Z)<|Zm Z<|z1d 7 Z (fun h2=>?_) (fun h2=>?_)
 ·
  refine lKn 6 Z h2<|Zk Z<|Zk Z<|Zk Z<|Zk Z<|Zk Z<|Zq (pkT Z Z)<|Zm Z<|Zk Z<|Zk Z<|Zk Z<|Zk Z<|Zk Z<|Zk Z<|Zq (pkT Z Z)<|Zb Z<|z0i<|Ze [] [] Z
 ·
  refine lKn 6 Z h2<|z0y Zx Z Z (faB 1 Z Z Tryz.underlying73 Z (by exact zpt))<|z0y Zx Z Z (faB 1 Z Z Tryz.underlying69 Z (by exact ti9))<|z0y Zx Z Z (ld 1 Z Z ((fP (z2h _)).part (z64 _)) ty9 Z)<|z0y Zx Z Z (lenT Z Z tu9)<|z0y Zx Z Z (I.gtr Z Z)<|Zq (pkF Z Z)<|Zm Z<|z1d 14 Z (fun h3=>?_) (fun h3=>?_)
  ·
   refine lKn 12 Z h3<|lKn 13 Z h3<|Zk Z<|Zk Z<|Zk Z<|Zk Z<|Zk Z<|Zk Z<|Zq (pkT Z Z)<|Zb Z<|z0i<|Ze [] [] Z
  ·
   refine lKn 12 Z h3<|lKn 13 Z h3<|z0y Zx Z Z (faB 1 Z Z Tryz.underlying73 Z (by exact zpt))<|z0y Zx Z Z (faB 1 Z Z Tryz.underlying69 Z (by exact zlz))<|z0y Zx Z Z (faB 1 Z Z Tryz.underlying67 Z (by exact ti9))<|z0y Zx Z Z (ld 1 Z Z (((fP (z2h _)).part (z5l _)).part (z3x _)) ty9 Z)<|z0y Zx Z Z (lenT Z Z tu9)<|z0y Zx Z Z (I.gtr Z Z)<|Zq (pkF Z Z)<|Za Z<|z1i 2 Z fun y4=>Zn<|z0i<|Ze [] [] Z
def z4u (a0:z00) (s3:Int):Option (Sum (Sum Bool Unit) Int) :=
 if decide (s3<(a0.Ops.length:Int)) then
  if decide (s3≤70) then
   idx a0.Ops s3 >>= fun x6 =>
   z7b x6 >>= fun r8 =>
   if r8 then
    some (.inl (.inl true))
   else
    some (.inr (w64 (s3+1)))
  else
   some (.inl (.inr ()))
 else
  some (.inl (.inr ()))
def z41 (a0:z00):Option (Bool) :=
 z61 (iter (z4u a0) 0) fun s2 =>
 if decide (16<(a0.Ops.length:Int)) then
  if decide ((a0.Ops.length:Int)≤60) then
   some true
  else
   if decide (70<(a0.Ops.length:Int)) then
    some true
   else
    some (decide (70<(a0.IDs.length:Int))) >>= fun y14 =>
    some y14
 else
  if decide (70<(a0.Ops.length:Int)) then
   some true
  else
   some (decide (70<(a0.IDs.length:Int))) >>= fun y16 =>
   some y16
theorem zem (a0:z00):z1w Tryz.prog 23 [.rd z01 a0] [] (z41 a0) (fun r nv=>⟨[.rd z0g r],[]⟩):=by
 refine z2e 43 Tryz.func23 Z Z Z fun H w=>?_
 refine gSR<|Eb Z (bx 1 Z) fun v1=>Zb Z<|z83 (fun (s2:Unit) aa ww=>Sta (ctx 43 H [] w) [(1,.val (z05 v1 0))] [(1,some (v1,.box 25 [.rd z01 a0]))] aa ww) ?_ (fun s2=>?_)
 ·
  refine gSR<|Zb Z<|z1v (fun (s3:Int) aa ww=>Sta (ctx 43 H [] w) [(1,.val (z05 v1 0)),(3,.rd z0c s3)] [(1,some (v1,.box 25 [.rd z01 a0]))] aa ww) (fun aa ww h=>Zu h [1]) (fun s3=>?_)
  refine z0l<|gSR<|Zm Z<|Zq (faB 1 Z Z Tryz.underlying25 Z (by exact z9l))<|Zq (ld 1 Z Z (fP (z08 _)) zcx Z)<|Zq (z2w Z .rd Z tu23)<|Zq (I.lss Z Z)<|Zm Z<|z1d 9 Z (fun h4=>?_) (fun h4=>?_)
  ·
   refine lKn 8 Z h4<|z0y Zx Z Z (mv Z)<|z0y Zx Z Z (I.leq Z Z)<|Zq (pkT Z Z)<|Zj Z (fun h5=>?_) (fun h5=>?_)
   ·
    refine gKn 11 Z h5<|Zt<|z0l<|z49<|gSR<|Zq (faB 1 Z Z Tryz.underlying25 Z (by exact z9l))<|Zq (ld 1 Z Z (fP (z08 _)) zcx Z)<|Zm Z<|z0j fun x6 h7=>Zq (ixR Z Z h7 tu23 za5 Z)<|Zq (ldR Z zcs)<|Zc [] [] Tryz.func55 Z (zk9 _) fun r8 n9=>Zj Z (fun h10=>?_) (fun h10=>?_)
    ·
     refine gSR<|Zb Z<|z0i<|z47<|z0v<|z7z<|z5h<|Ze [] [] Z
    ·
     refine z29<|z2q<|z0f<|z1y<|Zm Z<|Zq (I.add Z Z)<|Za Z<|z1q<|z19 (fun aa ww h=>Zu h [1])
   ·
    refine gKn 11 Z h5<|z1k<|z0o<|z0r<|z4y (fun aa ww h=>Zu h [1])
  ·
   refine lKn 8 Z h4<|Zk Z<|Zk Z<|Zq (pkF Z Z)<|Zn<|zc3 Z<|z1k<|z0o<|z0r<|z4y (fun aa ww h=>Zu h [1])
 ·
  refine gSR<|Zq (faB 1 Z Z Tryz.underlying25 Z (by exact z9l))<|Zq (ld 1 Z Z (fP (z08 _)) zcx Z)<|Zq (z2w Z .rd Z tu23)<|Zq (I.gtr Z Z)<|Zm Z<|z1d 25 Z (fun h11=>?_) (fun h11=>?_)
  ·
   refine lKn 24 Z h11<|z0y Zx Z Z (faB 1 Z Z Tryz.underlying25 Z (by exact z9l))<|z0y Zx Z Z (ld 1 Z Z (fP (z08 _)) zcx Z)<|z0y Zx Z Z (z2w Z .rd Z tu23)<|z0y Zx Z Z (I.leq Z Z)<|Zq (pkT Z Z)<|Zm Z<|z1d 31 Z (fun h12=>?_) (fun h12=>?_)
   ·
    refine lKn 29 Z h12<|lKn 30 Z h12<|Zk Z<|Zk Z<|Zk Z<|Zk Z<|Zq (pkT Z Z)<|Zm Z<|Zk Z<|Zk Z<|Zk Z<|Zk Z<|Zq (pkT Z Z)<|Zb Z<|z0i<|Ze [] [] Z
   ·
    refine lKn 29 Z h12<|lKn 30 Z h12<|z0y Zx Z Z (faB 1 Z Z Tryz.underlying25 Z (by exact z9l))<|z0y Zx Z Z (ld 1 Z Z (fP (z08 _)) zcx Z)<|z0y Zx Z Z (z2w Z .rd Z tu23)<|z0y Zx Z Z (I.gtr Z Z)<|Zq (pkF Z Z)<|Zm Z<|z1d 37 Z (fun h13=>?_) (fun h13=>?_)
    ·
     refine lKn 35 Z h13<|lKn 36 Z h13<|Zk Z<|Zk Z<|Zk Z<|Zk Z<|Zq (pkT Z Z)<|Zb Z<|z0i<|Ze [] [] Z
    ·
     refine lKn 35 Z h13<|lKn 36 Z h13<|z0y Zx Z Z (faB 1 Z Z Tryz.underlying25 Z (by exact z4q))<|z0y Zx Z Z (ld 1 Z Z (fP (z07 _)) z5j Z)<|z0y Zx Z Z (z2w Z .rd Z tu22)<|z0y Zx Z Z (I.gtr Z Z)<|Zq (pkF Z Z)<|Za Z<|z1i 2 Z fun y14=>Zn<|z0i<|Ze [] [] Z
  ·
   refine lKn 24 Z h11<|Zk Z<|Zk Z<|Zk Z<|Zk Z<|Zq (pkF Z Z)<|Zm Z<|z0y Zx Z Z (faB 1 Z Z Tryz.underlying25 Z (by exact z9l))<|z0y Zx Z Z (ld 1 Z Z (fP (z08 _)) zcx Z)<|z0y Zx Z Z (z2w Z .rd Z tu23)<|z0y Zx Z Z (I.gtr Z Z)<|Zq (pkF Z Z)<|Zm Z<|z1d 37 Z (fun h15=>?_) (fun h15=>?_)
   ·
    refine lKn 35 Z h15<|lKn 36 Z h15<|Zk Z<|Zk Z<|Zk Z<|Zk Z<|Zq (pkT Z Z)<|Zb Z<|z0i<|Ze [] [] Z
   ·
    refine lKn 35 Z h15<|lKn 36 Z h15<|z0y Zx Z Z (faB 1 Z Z Tryz.underlying25 Z (by exact z4q))<|z0y Zx Z Z (ld 1 Z Z (fP (z07 _)) z5j Z)<|z0y Zx Z Z (z2w Z .rd Z tu22)<|z0y Zx Z Z (I.gtr Z Z)<|Zq (pkF Z Z)<|Za Z<|z1i 2 Z fun y16=>Zn<|z0i<|Ze [] [] Z
def ze7 (a0:z0b):Option (z0b) :=
 z0w a0.Preds >>= fun r3 =>
 some (⟨a0.Author,r3,a0.Stamp,a0.Act,a0.Sig⟩:z0b)
theorem zeg (a0:z0b):z1w Tryz.prog 67 [.rd z03 a0] [] (ze7 a0) (fun r nv=>⟨[.rd z03 r],[]⟩):=by
 refine z2e 8 Tryz.func67 Z Z Z fun H w=>?_
 refine gSR<|Eb Z (bx 1 Z) fun v1=>Eb Z (z52 2 za5 (ZrE.rd (R:=z10) (x:=0) (Zr.num Z) (ZrE.nilS (ZrE.rd (R:=z2k) (x:=0) (Zr.num Z) (ZrE.rd (R:=z0z) (x:=(⟨0,[],(⟨0,0,0,[]⟩:z09)⟩:z18)) zx7 (ZrE.rd (R:=z13) (x:=(⟨0,0⟩:z0q)) zx6 ZrE.nil Z) Z) Z)) Z)) fun v2=>Zn<|gSR<|Zq (faB 1 Z Z Tryz.underlying73 Z (by exact z4q))<|Zq (ld 1 Z Z (fP (z0x _)) z5j Z)<|Zc [] [(100,3)] Tryz.func46 Z (z1t _) fun r3 n4=>Zq (faB 1 Z Z Tryz.underlying73 Z (by exact z4q))<|lSpl (R:=z03) 1 Z (Sp.via (Sp.prod (Sp.prod (Sp.prod (Sp.prod (Sp.prod Sp.unit))))))<|Es (znn 1 Z Z (z81.cast (z81.next z0u (z81.here z0u)) Z) Z z0h z04 z4q)<|Zn<|gSR<|ztl [.rd z10 a0.Author,.rd (z02 aZ) r3,.rd z2k a0.Stamp,.rd z0z a0.Act,.rd z13 a0.Sig] 1 3 [.rd z10 a0.Author] [.rd z2k a0.Stamp,.rd z0z a0.Act,.rd z13 a0.Sig] Z Z Z Z Z<|zch (R:=z03) (⟨a0.Author,r3,a0.Stamp,a0.Act,a0.Sig⟩:z0b) 1 Z (Sp.via (Sp.prod (Sp.prod (Sp.prod (Sp.prod (Sp.prod Sp.unit))))))<|Zq (ld 1 Z Z fH zcs Z)<|z99 aZ [.rd z10 0,.rd (z02 aZ) [],.rd z2k 0,.rd z0z (⟨0,[],(⟨0,0,0,[]⟩:z09)⟩:z18),.rd z13 (⟨0,0⟩:z0q)] 2 [.rd z10 0] [.rd z2k 0,.rd z0z (⟨0,[],(⟨0,0,0,[]⟩:z09)⟩:z18),.rd z13 (⟨0,0⟩:z0q)] Z Z Z<|zch (R:=z03) (⟨0,[],0,(⟨0,[],(⟨0,0,0,[]⟩:z09)⟩:z18),(⟨0,0⟩:z0q)⟩:z0b) 2 Z (Sp.via (Sp.prod (Sp.prod (Sp.prod (Sp.prod (Sp.prod Sp.unit))))))<|Es (sto 2 Z Z fH Z za5)<|Zn<|z0i<|zb6 [] [] Z (eC 2 Z Z zcs<|eN) (rN)
def zjy (a0:z00) (a1:V3):Option (z0b × Int) :=
 z24 a0 >>= fun r4 =>
 if r4 != 0 then
  some ((⟨0,[],0,(⟨0,[],(⟨0,0,0,[]⟩:z09)⟩:z18),(⟨0,0⟩:z0q)⟩:z0b),r4)
 else
  zdh a0 a1 >>= fun r7 =>
  if !r7.2 then
   some ((⟨0,[],0,(⟨0,[],(⟨0,0,0,[]⟩:z09)⟩:z18),(⟨0,0⟩:z0q)⟩:z0b),6)
  else
   idx a0.Ops r7.1 >>= fun x10 =>
   ze7 x10 >>= fun r12 =>
   some (r12,0)
theorem zpj (a0:z00) (a1:V3):z1w Tryz.prog 88 [.rd z01 a0,.rd aZ a1] [zG1] (zjy a0 a1) (fun r nv=>⟨[.rd z03 r.1,.rd z0c r.2],[(1001,some (.bool true,.glob 1 (z3r 64 z10) z8a))]⟩):=by
 refine z2e 30 Tryz.func88 Z Z Z fun H w=>?_
 refine gSR<|Eb Z (bx 1 Z) fun v1=>Eb Z (bx 2 Z) fun v2=>Eb Z (z52 3 za5 (ZrE.rd (R:=z10) (x:=0) (Zr.num Z) (ZrE.nilS (ZrE.rd (R:=z2k) (x:=0) (Zr.num Z) (ZrE.rd (R:=z0z) (x:=(⟨0,[],(⟨0,0,0,[]⟩:z09)⟩:z18)) zx7 (ZrE.rd (R:=z13) (x:=(⟨0,0⟩:z0q)) zx6 ZrE.nil Z) Z) Z)) Z)) fun v3=>Zb Z<|z0l<|gSR<|Zq (ld 1 Z Z fH z2v Z)<|Zc [1001] [] Tryz.func74 Z (zc4 _) fun r4 n5=>Zb Z<|gSR<|Zm Z<|Zq (I.neq Z Z)<|Zj Z (fun h6=>?_) (fun h6=>?_)
 ·
  refine gSR<|Zq (zii [(0,1),(1,1),(2,1),(3,6),(9,2)] Tryz.underlying73 za5 (ZrE.rd (R:=z10) (x:=0) (Zr.num Z) (ZrE.nilS (ZrE.rd (R:=z2k) (x:=0) (Zr.num Z) (ZrE.rd (R:=z0z) (x:=(⟨0,[],(⟨0,0,0,[]⟩:z09)⟩:z18)) zx7 (ZrE.rd (R:=z13) (x:=(⟨0,0⟩:z0q)) zx6 ZrE.nil Z) Z) Z)) Z) Z (zds.done Z))<|Zm Z<|Es (zit 3 Z Z (z06.cast (z06.cons z0u (z06.cons z04 (z06.cons z0u (z06.cons z0u (z06.cons z0u z06.nil))))) Z) Z (z1n.cons z9t (z1n.cons z0h (z1n.cons z9t (z1n.cons z9t (z1n.cons z9t z1n.nil))))) (z06.cast (z06.cons z0u (z06.cons z04 (z06.cons z0u (z06.cons z0u (z06.cons z0u z06.nil))))) Z) za5)<|Zb Z<|z0i<|z0v<|zdz aZ [.rd z10 0,.rd (z02 aZ) [],.rd z2k 0,.rd z0z (⟨0,[],(⟨0,0,0,[]⟩:z09)⟩:z18),.rd z13 (⟨0,0⟩:z0q)] 3 [.rd z10 0] [.rd z2k 0,.rd z0z (⟨0,[],(⟨0,0,0,[]⟩:z09)⟩:z18),.rd z13 (⟨0,0⟩:z0q)] Z Z Z<|zly (R:=z03) (⟨0,[],0,(⟨0,[],(⟨0,0,0,[]⟩:z09)⟩:z18),(⟨0,0⟩:z0q)⟩:z0b) 3 Z (Sp.via (Sp.prod (Sp.prod (Sp.prod (Sp.prod (Sp.prod Sp.unit))))))<|zb6 [] [1001] Z (eC 3 Z Z zcs<|eE Z<|eN) (y1 Z)
 ·
  refine Zt<|gSR<|Zq (ld 1 Z Z fH z2v Z)<|Zq (ld 2 Z Z fH z36 Z)<|Zc [] [] Tryz.func65 Z (zer _ _) fun r7 n8=>Zm Z<|Zq (ext Z Z)<|Zq (ext Z Z)<|Za Z<|Zb Z<|z0l<|gSR<|Zm Z<|Zq (zdi Z)<|Zj Z (fun h9=>?_) (fun h9=>?_)
  ·
   refine gSR<|Zq (zii [(0,1),(1,1),(2,1),(3,6),(9,2)] Tryz.underlying73 za5 (ZrE.rd (R:=z10) (x:=0) (Zr.num Z) (ZrE.nilS (ZrE.rd (R:=z2k) (x:=0) (Zr.num Z) (ZrE.rd (R:=z0z) (x:=(⟨0,[],(⟨0,0,0,[]⟩:z09)⟩:z18)) zx7 (ZrE.rd (R:=z13) (x:=(⟨0,0⟩:z0q)) zx6 ZrE.nil Z) Z) Z)) Z) Z (zds.done Z))<|Es (zit 3 Z Z (z06.cast (z06.cons z0u (z06.cons z04 (z06.cons z0u (z06.cons z0u (z06.cons z0u z06.nil))))) Z) Z (z1n.cons z9t (z1n.cons z0h (z1n.cons z9t (z1n.cons z9t (z1n.cons z9t z1n.nil))))) (z06.cast (z06.cons z0u (z06.cons z04 (z06.cons z0u (z06.cons z0u (z06.cons z0u z06.nil))))) Z) za5)<|Zb Z<|z0i<|z0v<|zdz aZ [.rd z10 0,.rd (z02 aZ) [],.rd z2k 0,.rd z0z (⟨0,[],(⟨0,0,0,[]⟩:z09)⟩:z18),.rd z13 (⟨0,0⟩:z0q)] 3 [.rd z10 0] [.rd z2k 0,.rd z0z (⟨0,[],(⟨0,0,0,[]⟩:z09)⟩:z18),.rd z13 (⟨0,0⟩:z0q)] Z Z Z<|zly (R:=z03) (⟨0,[],0,(⟨0,[],(⟨0,0,0,[]⟩:z09)⟩:z18),(⟨0,0⟩:z0q)⟩:z0b) 3 Z (Sp.via (Sp.prod (Sp.prod (Sp.prod (Sp.prod (Sp.prod Sp.unit))))))<|zb6 [] [1001] Z (eC 3 Z Z zcs<|eE Z<|eN) (y1 Z)
  ·
   refine Zt<|gSR<|Zq (faB 1 Z Z Tryz.underlying25 Z (by exact z9l))<|Zq (ld 1 Z Z (fP (z08 _)) zcx Z)<|Zm Z<|z0j fun x10 h11=>Zq (ixR Z Z h11 tu23 za5 Z)<|Zq (ldR Z zcs)<|Zc [] [] Tryz.func67 Z (zeg _) fun r12 n13=>z99 aZ [.rd z10 0,.rd (z02 aZ) [],.rd z2k 0,.rd z0z (⟨0,[],(⟨0,0,0,[]⟩:z09)⟩:z18),.rd z13 (⟨0,0⟩:z0q)] 3 [.rd z10 0] [.rd z2k 0,.rd z0z (⟨0,[],(⟨0,0,0,[]⟩:z09)⟩:z18),.rd z13 (⟨0,0⟩:z0q)] Z Z Z<|zch (R:=z03) (⟨0,[],0,(⟨0,[],(⟨0,0,0,[]⟩:z09)⟩:z18),(⟨0,0⟩:z0q)⟩:z0b) 3 Z (Sp.via (Sp.prod (Sp.prod (Sp.prod (Sp.prod (Sp.prod Sp.unit))))))<|Es (sto 3 Z Z fH Z za5)<|Zb Z<|z0i<|zb6 [] [1001] Z (eC 3 Z Z zcs<|eE Z<|eN) (y1 Z)
end
section
open Go Go.Shelf
def zxq:Go.Shelf.Ren:=⟨fun | 6=>78 | 15=>117 | 14=>116 | 28=>163 | 29=>146 | 20=>155 | 21=>156 | 22=>157 | 23=>158 | 24=>159 | 25=>160 | 26=>161 | 27=>162 | 46=>196 | 47=>197 | 48=>198 | 49=>199 | 50=>200 | 57=>221 | n=>n, fun | 22=>22 | 24=>62 | 25=>115 | 3=>3 | 39=>150 | 0=>0 | 53=>65 | 55=>41 | 4=>4 | 46=>181 | 45=>180 | 50=>103 | 5=>5 | 9=>9 | 66=>209 | 70=>213 | 76=>235 | 77=>236 | n=>n, fun | n=>n⟩
theorem z128:Go.Proofs.SlLaysF0.n6 Tryz.prog zxq:={
 mixed:=by kernel_rfl
 f6:=⟨Tryz.f78.name, by decide,Tryz.func78.trans (congrArg some (by kernel_rfl))⟩
 f14:=⟨Tryz.f116.name, by decide,Tryz.func116.trans (congrArg some (by kernel_rfl))⟩
 f15:=Tryz.func117.trans (congrArg some (by kernel_rfl))
 f20:=⟨Tryz.f155.name, by decide,Tryz.func155.trans (congrArg some (by kernel_rfl))⟩
 f21:=⟨Tryz.f156.name, by decide,Tryz.func156.trans (congrArg some (by kernel_rfl))⟩
 f22:=⟨Tryz.f157.name, by decide,Tryz.func157.trans (congrArg some (by kernel_rfl))⟩
 f23:=⟨Tryz.f158.name, by decide,Tryz.func158.trans (congrArg some (by kernel_rfl))⟩
 f24:=⟨Tryz.f159.name, by decide,Tryz.func159.trans (congrArg some (by kernel_rfl))⟩
 f25:=⟨Tryz.f160.name, by decide,Tryz.func160.trans (congrArg some (by kernel_rfl))⟩
 f26:=⟨Tryz.f161.name, by decide,Tryz.func161.trans (congrArg some (by kernel_rfl))⟩
 f27:=⟨Tryz.f162.name, by decide,Tryz.func162.trans (congrArg some (by kernel_rfl))⟩
 f28:=Tryz.func163.trans (congrArg some (by kernel_rfl))
 f29:=Tryz.func146.trans (congrArg some (by kernel_rfl))
 f46:=⟨Tryz.f196.name, by decide,Tryz.func196.trans (congrArg some (by kernel_rfl))⟩
 f47:=Tryz.func197.trans (congrArg some (by kernel_rfl))
 f48:=Tryz.func198.trans (congrArg some (by kernel_rfl))
 f49:=⟨Tryz.f199.name, by decide,Tryz.func199.trans (congrArg some (by kernel_rfl))⟩
 f50:=⟨Tryz.f200.name, by decide,Tryz.func200.trans (congrArg some (by kernel_rfl))⟩
 f57:=⟨Tryz.f221.name, by decide,Tryz.func221.trans (congrArg some (by kernel_rfl))⟩
 t0:=Tryz.underlying0
 a0:=Tryz.isAgg0
 z0:=Tryz.sizeOf0
 v0:=Tryz.zeroValue0
 t3:=Tryz.underlying3
 a3:=Tryz.isAgg3
 z3:=Tryz.sizeOf3
 v3:=Tryz.zeroValue3
 t4:=Tryz.underlying4
 a4:=Tryz.isAgg4
 z4:=Tryz.sizeOf4
 v4:=Tryz.zeroValue4
 t5:=Tryz.underlying5
 a5:=Tryz.isAgg5
 z5:=Tryz.sizeOf5
 v5:=Tryz.zeroValue5
 t9:=Tryz.underlying9
 a9:=Tryz.isAgg9
 z9:=Tryz.sizeOf9
 v9:=Tryz.zeroValue9
 t22:=Tryz.underlying22
 a22:=Tryz.isAgg22
 z22:=Tryz.sizeOf22
 v22:=Tryz.zeroValue22
 t25:=Tryz.underlying115
 a25:=Tryz.isAgg115
 z25:=Tryz.sizeOf115
 v25:=Tryz.zeroValue115
 t39:=Tryz.underlying150
 a39:=Tryz.isAgg150
 z39:=Tryz.sizeOf150
 v39:=Tryz.zeroValue150
 t45:=Tryz.underlying180
 a45:=Tryz.isAgg180
 z45:=Tryz.sizeOf180
 v45:=Tryz.zeroValue180
 t46:=Tryz.underlying181
 a46:=Tryz.isAgg181
 z46:=Tryz.sizeOf181
 v46:=Tryz.zeroValue181
 t50:=Tryz.underlying103
 a50:=Tryz.isAgg103
 z50:=Tryz.sizeOf103
 v50:=Tryz.zeroValue103
 t53:=Tryz.underlying65
 a53:=Tryz.isAgg65
 z53:=Tryz.sizeOf65
 v53:=Tryz.zeroValue65
 t55:=Tryz.underlying41
 a55:=Tryz.isAgg41
 z55:=Tryz.sizeOf41
 v55:=Tryz.zeroValue41
 t66:=Tryz.underlying209
 a66:=Tryz.isAgg209
 z66:=Tryz.sizeOf209
 v66:=Tryz.zeroValue209
 t70:=Tryz.underlying213
 a70:=Tryz.isAgg213
 z70:=Tryz.sizeOf213
 v70:=Tryz.zeroValue213
 t76:=Tryz.underlying235
 a76:=Tryz.isAgg235
 z76:=Tryz.sizeOf235
 v76:=Tryz.zeroValue235
 t77:=Tryz.underlying236
 a77:=Tryz.isAgg236
 z77:=Tryz.sizeOf236
 v77:=Tryz.zeroValue236 }
end
section
open Go Go.Shelf Go.RowKit Go.Lib Go.Sort
def z96 (x:V3):List Value:=x.toList.map fun c=>Value.int .u8 (c.toNat:Int)
theorem zg6 (x:V3):(z96 x).length=32:=by simp [z96]
theorem z11t (x y:V3) (b c:Nat) (W:World) (hx:∀ j u,(z96 x)[j]? = some u→W.cell? ⟨b,0+j,none⟩=some u) (hy:∀ j u,(z96 y)[j]? = some u→W.cell? ⟨c,0+j,none⟩=some u) :
  (callFunc 164 #[.slice (some ⟨b,0,none⟩) 32 32,.slice (some ⟨c,0,none⟩) 32 32]).run Tryz.prog W=.ok (.value (.int .i64 (Lib.compareBytes x.toList y.toList))) W:=by
 have lx:x.toList.length=32:=by simp
 have ly:y.toList.length=32:=by simp
 have e:=zmn (P:=Tryz.prog) (w:=W) (p:=some ⟨b,0,none⟩) (q:=some ⟨c,0,none⟩) (c:=32) (d:=32) (x:=x.toList) (y:=y.toList) (xs:=z96 x) (ys:=z96 y)
  ⟨by rw [zg6,lx],.inr ⟨b,0,none,32, by rfl, by omega, by decide,.inr rfl,hx⟩⟩ rfl ⟨by rw [zg6,ly],.inr ⟨c,0,none,32, by rfl, by omega, by decide,.inr rfl,hy⟩⟩ rfl
 rw [lx,ly] at e
 rw [run_callFunc_extern Tryz.func164 rfl rfl (by kernel_rfl) (by kernel_rfl),e]
 rfl
set_option maxHeartbeats 1000000 in
set_option maxRecDepth 100000 in
theorem zl6 (x y:V3) (b c:Nat) (W:World) (hx:∀ j u,(z96 x)[j]? = some u→W.cell? ⟨b,0+j,none⟩=some u) (hy:∀ j u,(z96 y)[j]? = some u→W.cell? ⟨c,0+j,none⟩=some u) :
  Calls Tryz.prog 118 #[.slice (some ⟨b,0,none⟩) 32 32,.slice (some ⟨c,0,none⟩) 32 32] W fun e w'=>e=.returned (.int .i64 (Lib.compareBytes x.toList y.toList))∧w'=W:=by
 have e:=z11t x y b c W hx hy
 go_enter Tryz.func118,Tryz.ntmps118
 go_wp2
 go_ret
 exact ⟨rfl,rfl⟩
theorem ztw {w:World} {b j:Nat} {c:Array Value} {T:TypeId} {fr:Nat × Nat} {u:Value} (h:w.heap[b]? = some (.cells c T fr)) (hj:c[j]? = some u):w.cell? ⟨b,0+j,none⟩=some u:=by
 unfold World.cell?
 rw [h]
 simpa using hj
theorem zxt (W:World) (xs ys:List Value) (n j:Nat) (u:Value) (h:xs[j]? = some u):(((W.alloc (.cells xs.toArray 62)).alloc (.cells ys.toArray 62)).drewN n).cell? ⟨W.heap.size,0+j,none⟩=some u :=
 ztw (c:=xs.toArray) (T:=62) (fr:=(0,0)) (by
  show ((W.heap.push _).push _)[W.heap.size]? = _
  rw [Array.getElem?_push_lt (by simp)]; simp) (by simpa using h)
theorem zxv (W:World) (xs ys:List Value) (n j:Nat) (u:Value) (h:ys[j]? = some u):(((W.alloc (.cells xs.toArray 62)).alloc (.cells ys.toArray 62)).drewN n).cell? ⟨W.heap.size+1,0+j,none⟩=some u :=
 ztw (c:=ys.toArray) (T:=62) (fr:=(0,0)) (by
  show ((W.heap.push _).push _)[W.heap.size+1]? = _
  have:W.heap.size+1=(W.heap.push (Obj.cells xs.toArray 62)).size:=by simp
  rw [this,Array.getElem?_push_size]) (by simpa using h)
set_option maxHeartbeats 1000000 in
set_option maxRecDepth 100000 in
theorem zw9 (x y:V3) (W:World):Calls Tryz.prog 105 #[.agg (z96 x).toArray,.agg (z96 y).toArray] W fun e w'=>e=.returned (.int .i64 (Lib.compareBytes x.toList y.toList))∧∃ q os',w'=grow (W.drewN q) os':=by
 have c0:=zxt W (z96 x) (z96 y)
 have c1:=zxv W (z96 x) (z96 y)
 go_enter Tryz.func105,Tryz.ntmps105
 go_wp2
 go_quiet (first | (go_at_call 118; refine Calls.quiet_of_same (zl6 x y _ _ _ (c0 _) (c1 _))))
 go_wp2
 go_ret
 exact ⟨rfl,nq,#[.cells (z96 x).toArray 62,.cells (z96 y).toArray 62],rfl⟩
set_option maxHeartbeats 1000000 in
set_option maxRecDepth 100000 in
theorem ztc (x y:V3) (W:World):Calls Tryz.prog 79 #[.agg (z96 x).toArray,.agg (z96 y).toArray] W fun e w'=>e=.returned (.int .i64 (Lib.compareBytes x.toList y.toList))∧∃ q os',w'=grow (W.drewN q) os':=by
 have c0:=zxt W (z96 x) (z96 y)
 have c1:=zxv W (z96 x) (z96 y)
 go_enter Tryz.func79,Tryz.ntmps79
 go_wp2
 go_quiet (first | (go_at_call 118; refine Calls.quiet_of_same (zl6 x y _ _ _ (c0 _) (c1 _))))
 go_wp2
 go_ret
 exact ⟨rfl,nq,#[.cells (z96 x).toArray 62,.cells (z96 y).toArray 62],rfl⟩
end
end Go.Proofs.YtefkialcgmohkaaGreatDoor
