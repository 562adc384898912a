import Derived.Test.YthimiiphpckifaaGreatDoorYb
set_option linter.unusedSimpArgs false
set_option linter.unusedVariables false
namespace Go.Proofs.YthimiiphpckifaaGreatDoor
section
open Go Go.RowKit
set_option maxRecDepth 100000
theorem zcj (a1:Int):z2t Tryz.prog 113 [.val (.slice none 0 0),.rd z08 a1] [] (z33 a1) (fun r nv=>⟨[.val (nv 0)],[(100,some (nv 0,.list u8R 5 r))]⟩):=by
 refine z3n 27 Tryz.func113 Z Z Z fun H w=>?_
 refine gSR<|Zb Z<|z0v<|gSR<|Zm Z<|Zq (I.lss Z Z)<|Zj Z (fun h1=>?_) (fun h1=>?_)
 ·
  refine z12k
 ·
  refine Zt<|z0v<|gSR<|Zm Z<|Zm Z<|Zq (capN Z Z tu109)<|Zm Z<|z104 u8R 11 Z<|Zq (z3r Z .rd Z tu109)<|Zq (I.sub Z Z)<|Zq (I.sub Z Z)<|Za Z<|z40 1 Z fun y2=>Zn<|gSR<|Zm Z<|Zq (I.gtr Z Z)<|Zj Z (fun h3=>?_) (fun h3=>?_)
  ·
   refine z2o<|Zm Z<|Zm Z<|Zq (capN Z Z tu109)<|Zq (cutN Z Z tu109 ti5)<|Zm Z<|z11 fun x4 h5=>Ef Z (apZ 1 Z Z h5 tu109 tu3 ti5 (Zr.num Z) Z) fun v6=>Zm Z<|z104 u8R 23 Z<|Zq (z3r Z .rd Z tu109)<|z11 fun x7 h8=>Ef Z (cutO 1 Z Z Z h8 tu109 ti5) fun v9=>Zb Z<|gSR<|Zm Z<|Zb Z<|z0r<|Ze [v9] [1] Z
  ·
   refine Zt<|gSR<|Zm Z<|Zb Z<|z0r<|zfh u8R 5 2<|Ze [(.slice none 0 0)] [2] Z
def z0o (a0:List (List UInt8)) (s2:Int × Int):Option (Sum Int (Int × Int)) :=
 if decide (s2.2<(a0.length:Int)) then
  idx a0 s2.2 >>= fun x4 =>
  some (w64 (s2.1+(x4.length:Int))) >>= fun y6 =>
  if decide (y6<0) then
   none
  else
   some (.inr (y6,w64 (s2.2+1)))
 else
  some (.inl s2.1)
def z0p (a0:List (List UInt8)) (s11:(List UInt8) × Int):Option (Sum ((List UInt8)) ((List UInt8) × Int)) :=
 if decide (s11.2<(a0.length:Int)) then
  idx a0 s11.2 >>= fun x14 =>
  app 1 s11.1 x14 >>= fun x16 =>
  some (.inr (x16,w64 (s11.2+1)))
 else
  some (.inl s11.1)
def z1v (a0:List (List UInt8)):Option ((List UInt8)) :=
 (iter (z0o a0) (0,0)) >>= fun s1 =>
 z33 s1 >>= fun r8 =>
 (iter (z0p a0) (r8,0)) >>= fun s10 =>
 some s10
theorem z50 (a0:List (List UInt8)):z2t Tryz.prog 84 [.rd (z02 (z02 u8R)) a0] [] (z1v a0) (fun r nv=>⟨[.val (nv 0)],[(100,some (nv 0,.list u8R 5 r))]⟩):=by
 refine z3n 36 Tryz.func84 Z Z Z fun H w=>?_
 refine gSR<|Zb Z<|gSR<|Zb Z<|zaj (fun (s1:Int) aa ww=>Sta (ctx 36 H [] w) [(0,.rd (z02 (z02 u8R)) a0),(3,.rd z08 s1)] [] aa ww) ?_ (fun s1=>?_)
 ·
  refine gSR<|Zm Z<|Zq (z3r Z .rd Z tu154)<|Zm Z<|Zn<|z2h (fun (s2:Int × Int) aa ww=>Sta (ctx 36 H [] w) [(0,.rd (z02 (z02 u8R)) a0),(3,.rd z08 s2.1),(9,.rd (z02 (z02 u8R)) a0),(10,.rd z08 (a0.length:Int)),(11,.rd z08 s2.2)] [] aa ww) (fun aa ww h=>Zu h []) (fun s2=>?_)
  refine gSR<|Zq (I.lss Z Z)<|Zn<|z0v<|gIf Z Z (fun h3=>?_) (fun h3=>?_)
  ·
   refine Zt<|z0v<|z5y<|gSR<|z11 fun x4 h5=>Zq (ixR Z Z h5 tu154 zgr Z)<|Zq (ldR Z zuf)<|Zb Z<|gSR<|Zm Z<|Zm Z<|Zq (z3r Z .rd Z tu109)<|Zq (I.add Z Z)<|Za Z<|z40 3 Z fun y6=>Zn<|gSR<|Zm Z<|Zq (I.lss Z Z)<|Zj Z (fun h7=>?_) (fun h7=>?_)
   ·
    refine z12k
   ·
    refine z41<|z44<|z0y<|z2o<|Zq (I.add Z Z)<|Zm Z<|z20<|z23 (fun aa ww h=>Zu h [])
  ·
   refine z2i<|z1b<|z1a<|z4a (fun aa ww h=>Zu h [])
 ·
  refine gSR<|Zm Z<|Zc [] [(100,1)] Tryz.func113 Z (zcj _) fun r8 n9=>Zb Z<|zaj (fun (s10:(List UInt8)) aa ww=>∃ nv:Nat→Value,Sta (ctx 36 H [] w) [(6,.val (nv 0))] [(1,some ((nv 0),.list u8R 5 s10))] aa ww) ?_ (fun s10=>?_)
  ·
   refine gSR<|Zm Z<|Zq (z3r Z .rd Z tu154)<|Zm Z<|Zn<|z2h (fun (s11:(List UInt8) × Int) aa ww=>∃ nv:Nat→Value,Sta (ctx 36 H [] w) [(6,.val (nv 0)),(25,.rd (z02 (z02 u8R)) a0),(26,.rd z08 (a0.length:Int)),(27,.rd z08 s11.2)] [(1,some ((nv 0),.list u8R 5 s11.1))] aa ww) (fun aa ww h=>⟨nvl [(n9 0)],Zu h [1]⟩) (fun s11=>?_)
   refine gEx fun n12=>gSR<|Zq (I.lss Z Z)<|Zn<|z0v<|gIf Z Z (fun h13=>?_) (fun h13=>?_)
   ·
    refine Zt<|z0v<|z5y<|gSR<|z11 fun x14 h15=>Zq (ixR Z Z h15 tu154 zgr Z)<|Zq (ldR Z zuf)<|Zb Z<|z2o<|Zm Z<|Zm Z<|z11 fun x16 h17=>Ef Z (apn 1 Z Z Z .rd h17 tu109 ti5 Z Z Z) fun v18=>Za Z<|z20<|z44<|z0y<|z2o<|Zq (I.add Z Z)<|Zm Z<|z20<|z23 (fun aa ww h=>⟨nvl [v18],Zu h [1]⟩)
   ·
    refine z2i<|z1b<|z1a<|z4a (fun aa ww h=>⟨nvl [(n12 0)],Zu h [1]⟩)
  ·
   refine gEx fun n19=>gSR<|Zm Z<|Zb Z<|z0r<|Ze [(n19 0)] [1] Z
def zao (a0:List UInt8):Option ((List UInt8) × Int) :=
 if decide (10000<(a0.length:Int)) then
  some ([],4)
 else
  z5h (UInt64.ofInt (a0.length:Int)) >>= fun r2 =>
  app 1 r2 a0 >>= fun x4 =>
  some (x4,0)
theorem zgf (a0:List UInt8):z2t Tryz.prog 86 [.rd (z02 u8R) a0] [] (zao a0) (fun r nv=>⟨[.val (nv 0),.rd z08 r.2],[(100,some (nv 0,.list u8R 5 r.1))]⟩):=by
 refine z3n 13 Tryz.func86 Z Z Z fun H w=>?_
 refine gSR<|Za Z<|Zb Z<|z0v<|gSR<|Zm Z<|Zq (z3r Z .rd Z tu109)<|Zq (I.gtr Z Z)<|Zj Z (fun h1=>?_) (fun h1=>?_)
 ·
  refine gSR<|Za Z<|Zb Z<|z0r<|z0s<|zfh u8R 5 1<|Ze [(.slice none 0 0)] [1] Z
 ·
  refine Zt<|gSR<|Zm Z<|Zq (z3r Z .rd Z tu109)<|Zq (I.toU Z tu3 tu56)<|Zc [] [(100,2)] Tryz.func85 Z (z5k _) fun r2 n3=>Zm Z<|z11 fun x4 h5=>Ef Z (apn 2 Z Z Z .rd h5 tu109 ti5 Z Z Z) fun v6=>Za Z<|Zb Z<|z0r<|Ze [v6] [2] Z
def zdl (a0:Int):Option ((List UInt8)) :=
 z5h ((zjt (UInt64.ofInt a0) 1) ^^^ (UInt64.ofInt (shrI a0 63))) >>= fun r1 =>
 some r1
theorem zk8 (a0:Int):z2t Tryz.prog 116 [.rd z08 a0] [] (zdl a0) (fun r nv=>⟨[.val (nv 0)],[(100,some (nv 0,.list u8R 5 r))]⟩):=by
 refine z3n 11 Tryz.func116 Z Z Z fun H w=>?_
 refine gSR<|Zb Z<|gSR<|Zm Z<|Zq (I.toU Z Tryz.underlying2 tu56)<|Zq (U.shl Z Z (Int.natCast_nonneg _))<|Zm Z<|Zq (I.shr Z Z (Int.natCast_nonneg _))<|Zq (I.toU Z Tryz.underlying2 tu56)<|Zq (U.xor Z Z)<|Zc [] [(100,1)] Tryz.func85 Z (z5k _) fun r1 n2=>Zb Z<|z0r<|Ze [(n2 0)] [1] Z
def z6u (a0:z05) (s14:(List UInt8) × Int):Option (Sum ((List UInt8)) ((List UInt8) × Int)) :=
 if decide (0≤s14.2) then
  chk (0≤s14.2) >>= fun u17 =>
  app 1 s14.1 [(z66 a0.Bits ((s14.2:Int).toNat)).toUInt8] >>= fun x20 =>
  some (w64 (s14.2 - 8)) >>= fun y23 =>
  some (.inr (x20,y23))
 else
  some (.inl s14.1)
def zbp (a0:z05):Option ((List UInt8) × Int) :=
 zb2 a0 >>= fun r2 =>
 if r2 != 0 then
  some ([],r2)
 else
  (if a0.Kind==1 then
   zdl a0.Num >>= fun r8 =>
   app 1 [a0.Kind] r8 >>= fun x10 =>
   some x10
  else
   if a0.Kind==2 then
    iter (z6u a0) ([a0.Kind],56)
   else
    if a0.Kind==3 then
     chk (a0.Text.length≤281474976710656) >>= fun u25 =>
     zao a0.Text >>= fun r27 =>
     app 1 [a0.Kind] r27.1 >>= fun x29 =>
     some x29
    else
     some [a0.Kind]) >>= fun s6 =>
  some (s6,0)
theorem zjc (a0:z05):z2t Tryz.prog 87 [.rd z1z a0] [] (zbp a0) (fun r nv=>⟨[.val (nv 0),.rd z08 r.2],[(100,some (nv 0,.list u8R 5 r.1))]⟩):=by
 refine z3n 53 Tryz.func87 Z Z Z fun H w=>?_
 refine gSR<|Eb Z (bx 1 Z) fun v1=>Za Z<|Zb Z<|z0v<|gSR<|Zq (ld 1 Z Z fH zt9 Z)<|Zc [] [] Tryz.func115 Z (zf9 _) fun r2 n3=>Zb Z<|gSR<|Zm Z<|Zq (I.neq Z Z)<|Zj Z (fun h4=>?_) (fun h4=>?_)
 ·
  refine gSR<|Zm Z<|Za Z<|Zb Z<|z0r<|z0s<|zfh u8R 5 2<|Ze [(.slice none 0 0)] [2] Z
 ·
  refine Zt<|gSR<|Zq (faB 1 Z Z Tryz.underlying80 Z (by exact ti5))<|Zq (ld 1 Z Z (fP (z3m _)) ty5 Z)<|Ef Z (lit (R:=u8R) ([a0.Kind]:List UInt8) 3 (pP Z Z<|pN) Z tu109 ti5 Z Z) fun v5=>Zb Z<|zaj (fun (s6:(List UInt8)) aa ww=>∃ nv:Nat→Value,Sta (ctx 53 H [] w) [(5,.val (nv 0))] [(3,some ((nv 0),.list u8R 5 s6))] aa ww) ?_ (fun s6=>?_)
  ·
   refine gSR<|Zq (faB 1 Z Z Tryz.underlying80 Z (by exact ti5))<|Zq (ld 1 Z Z (fP (z3m _)) ty5 Z)<|Zn<|z5y<|gSR<|Zq (B.eql Z Z)<|Zb Z<|gIf Z Z (fun h7=>?_) (fun h7=>?_)
   ·
    refine gKn 20 Z h7<|z2o<|Zm Z<|Zq (faB 1 Z Z Tryz.underlying80 Z (by exact ti2))<|Zq (ld 1 Z Z (fP (zaa _)) ty2 Z)<|Zc [] [(100,4)] Tryz.func116 Z (zk8 _) fun r8 n9=>z11 fun x10 h11=>Ef Z (apn 3 Z Z Z (.own 4 Z) h11 tu109 ti5 Z Z Z) fun v12=>Za Z<|z20<|z44<|z4a (fun aa ww h=>⟨nvl [v12],Zu h [3]⟩)
   ·
    refine gKn 20 Z h7<|gSR<|Zq (B.eql Z Z)<|Zb Z<|gIf Z Z (fun h13=>?_) (fun h13=>?_)
    ·
     refine gKn 27 Z h13<|gSR<|Zb Z<|z2h (fun (s14:(List UInt8) × Int) aa ww=>∃ nv:Nat→Value,Sta (ctx 53 H [] w) [(1,.val (z0a v1 0)),(5,.val (nv 0)),(6,.rd z08 s14.2)] [(1,some (v1,.box 80 [.rd z1z a0])),(3,some ((nv 0),.list u8R 5 s14.1))] aa ww) (fun aa ww h=>⟨nvl [v5],Zu h [1,3]⟩) (fun s14=>?_)
     refine gEx fun n15=>z0v<|gSR<|Zm Z<|Zq (I.geq Z Z)<|Zj Z (fun h16=>?_) (fun h16=>?_)
     ·
      refine Zt<|z0v<|z5y<|z2o<|Zm Z<|Zq (faB 1 Z Z Tryz.underlying80 Z (by exact zlb))<|Zq (ld 1 Z Z (fP (z9a _)) zry Z)<|Zm Z<|z11 fun u17 h18=>Zq (U.shr Z Z (z78 h18))<|Zq (U.toB Z tu56 tu5)<|Ef Z (lit (R:=u8R) ([(z66 a0.Bits ((s14.2:Int).toNat)).toUInt8]:List UInt8) 5 (pP Z Z<|pN) Z tu109 ti5 Z Z) fun v19=>z11 fun x20 h21=>Ef Z (apn 3 Z Z Z (.own 5 Z) h21 tu109 ti5 Z Z Z) fun v22=>Za Z<|z20<|z44<|z0y<|z2o<|Zm Z<|Zq (I.sub Z Z)<|Za Z<|z40 6 Z fun y23=>z20<|z23 (fun aa ww h=>⟨nvl [v22],Zu h [1,3]⟩)
     ·
      refine z2i<|z1b<|z1a<|z44<|z4a (fun aa ww h=>⟨nvl [(n15 0)],Zu h [3]⟩)
    ·
     refine gKn 27 Z h13<|gSR<|Zq (B.eql Z Z)<|Zb Z<|gIf Z Z (fun h24=>?_) (fun h24=>?_)
     ·
      refine gKn 41 Z h24<|gSR<|Zq (faB 1 Z Z Tryz.underlying80 Z (by exact ti9))<|Zq (ld 1 Z Z (fP (z99 _)) ty9 Z)<|z11 fun u25 h26=>z13l Z Z h26 tu9 tu109 tu5<|Zc [] [(100,6)] Tryz.func86 Z (zgf _) fun r27 n28=>Zm Z<|Zq (ext Z Z)<|Zq (ext Z Z)<|Za Z<|Zb Z<|z2o<|Zm Z<|Zm Z<|z11 fun x29 h30=>Ef Z (apn 3 Z Z Z (.own 6 Z) h30 tu109 ti5 Z Z Z) fun v31=>Za Z<|z20<|z44<|z4a (fun aa ww h=>⟨nvl [v31],Zu h [3]⟩)
     ·
      refine gKn 41 Z h24<|z41<|z44<|z4a (fun aa ww h=>⟨nvl [v5],Zu h [3]⟩)
  ·
   refine gEx fun n32=>gSR<|Zm Z<|Za Z<|Zb Z<|z0r<|Ze [(n32 0)] [3] Z
def z9e (a0:z04):Option ((List UInt8) × Int) :=
 zd4 ({ a0 with Sig:=(⟨0,0⟩:z0b) }) >>= fun r2 =>
 if r2 != 0 then
  some ([],r2)
 else
  zij (({ a0 with Sig:=(⟨0,0⟩:z0b) }).Preds) >>= fun r5 =>
  z5h ((({ a0 with Sig:=(⟨0,0⟩:z0b) }).Author).toUInt64) >>= fun r7 =>
  z5h (({ a0 with Sig:=(⟨0,0⟩:z0b) }).Stamp) >>= fun r10 =>
  z1v [[111],r7,r5.1,r10,[(({ a0 with Sig:=(⟨0,0⟩:z0b) }).Act).Kind]] >>= fun r13 =>
  if ((({ a0 with Sig:=(⟨0,0⟩:z0b) }).Act).Kind)==1 then
   some (r13,0)
  else
   chk (((({ a0 with Sig:=(⟨0,0⟩:z0b) }).Act).Key).length≤281474976710656) >>= fun u18 =>
   zao ((({ a0 with Sig:=(⟨0,0⟩:z0b) }).Act).Key) >>= fun r20 =>
   app 1 r13 r20.1 >>= fun x22 =>
   if ((({ a0 with Sig:=(⟨0,0⟩:z0b) }).Act).Kind)==4 then
    zbp ((({ a0 with Sig:=(⟨0,0⟩:z0b) }).Act).Value) >>= fun r26 =>
    app 1 x22 r26.1 >>= fun x28 =>
    some (x28,0)
   else
    some (x22,0)
set_option maxHeartbeats 4000000 in
theorem zdp (a0:z04):z2t Tryz.prog 62 [.rd z03 a0] [] (z9e a0) (fun r nv=>⟨[.val (nv 0),.rd z08 r.2],[(100,some (nv 0,.list u8R 5 r.1))]⟩):=by
 refine z3n 71 Tryz.func62 Z Z Z fun H w=>?_
 refine gSR<|Eb Z (bx 1 Z) fun v1=>Za Z<|Zb Z<|gSR<|Zq (bld (x':=(⟨0,0⟩:z0b)) [(0,1),(1,1)] Tryz.underlying84 zk7 Z zmk Z (Bld.done Z))<|Zq (faB 1 Z Z Tryz.underlying86 Z (by exact zk7))<|Es (sto 1 Z Z (fP (z2n _)) Z zk7)<|Zn<|z0v<|gSR<|Zq (ld 1 Z Z fH zcv Z)<|Zc [] [] Tryz.func82 Z (zfn _) fun r2 n3=>Zb Z<|gSR<|Zm Z<|Zq (I.neq Z Z)<|Zj Z (fun h4=>?_) (fun h4=>?_)
 ·
  refine gSR<|Zm Z<|Za Z<|Zb Z<|z0r<|z0s<|zfh u8R 5 2<|Ze [(.slice none 0 0)] [2] Z
 ·
  refine Zt<|gSR<|Zq (faB 1 Z Z Tryz.underlying86 Z (by exact zbt))<|Zq (ld 1 Z Z (fP (z1h _)) zcn Z)<|Zc [] [(100,3)] Tryz.func83 Z (zp8 _) fun r5 n6=>Zm Z<|Zq (ext Z Z)<|Zq (ext Z Z)<|Za Z<|Zb Z<|z0v<|gFrz 3 [23,5] Z (fS Z<|fS Z<|fN)<|gSub [(1,.val (z0a v1 0)),(5,.rd (z02 u8R) r5.1)] [(1,some (v1,.box 86 [.rd z03 ({ a0 with Sig:=(⟨0,0⟩:z0b) })]))] [1] (sS Z<|sS Z<|sN) (y1 Z)<|zc5 fun r7 h9=>zc5 fun r10 h12=>zc5 fun r13 h15=>gOr [] [⟨4,none,[(0,none)]⟩,⟨1,some ([], fun nv=>(v1,.box 86 [.rd z03 ({ a0 with Sig:=(⟨0,0⟩:z0b) })])),[]⟩,⟨5,none,[(4,none)]⟩,⟨6,none,[(8,none)]⟩,⟨7,none,[(12,none)]⟩,⟨8,none,[(13,none)]⟩,⟨9,none,[(14,some ([6], fun nv=>((nv 6),.list u8R 5 r13)))]⟩] [⟨some (25,[], fun nv=>.rd (z02 u8R) [111]),[(0,0,true)],[1],[]⟩,pk 26 (.val (z0a v1 (0+0))) [(1,0,false)],pk 27 (.rd z10 (({ a0 with Sig:=(⟨0,0⟩:z0b) }).Author)) [(1,0,false)],pd 28 (.rd z2b ((({ a0 with Sig:=(⟨0,0⟩:z0b) }).Author).toUInt64)),⟨some (29,[], fun nv=>.rd (z02 u8R) r7),[(2,0,true)],[2],[]⟩,pd 30 (.rd (z02 u8R) r5.1),pk 31 (.val (z0a v1 (0+2))) [(1,0,false)],pk 32 (.rd z2b (({ a0 with Sig:=(⟨0,0⟩:z0b) }).Stamp)) [(1,0,false)],⟨some (33,[], fun nv=>.rd (z02 u8R) r10),[(3,0,true)],[3],[]⟩,pk 34 (.val (z0a v1 (0+3))) [(1,0,false)],pk 35 (.val (z0a v1 (0+3+0))) [(1,0,false)],pk 36 (.rd u8R ((({ a0 with Sig:=(⟨0,0⟩:z0b) }).Act).Kind)) [(1,0,false)],⟨some (37,[], fun nv=>.rd (z02 u8R) [(({ a0 with Sig:=(⟨0,0⟩:z0b) }).Act).Kind]),[(4,0,true)],[4],[]⟩,⟨some (38,[], fun nv=>.rd (z02 (z02 u8R)) [[111],r7,r5.1,r10,[(({ a0 with Sig:=(⟨0,0⟩:z0b) }).Act).Kind]]),[(5,0,true)],[5],[]⟩,⟨some (39,[6], fun nv=>.val (nv 6)),[(6,0,true)],[6],[]⟩,⟨some (7,[6], fun nv=>.val (nv 6)),[],[],[]⟩] z4j (oC (oFz (A1:=fun nv=>[(4,some ((nv 1),.list u8R 5 [111]))]) 4 1 (oEf 4 1 (fun nv E=>lit (R:=u8R) ([111]:List UInt8) 4 (pP Z Z<|pN) Z tu109 ti5 Z Z)))<|oC (oRn (fun nv E=>faB 1 Z Z Tryz.underlying86 Z (by exact z87)))<|oC (oRn (fun nv E=>ld 1 Z Z (fP (z2m _)) zbh Z))<|oC (oRn (fun nv E=>W.toU Z tu78 tu56))<|oC (oFz (A1:=fun nv=>[(5,some ((nv 2),.list u8R 5 r7))]) 5 2 (oCl [2] [] [(100,5)] h9 Tryz.func85 Z (fun nv=>(z5k _)) (fun nv=>(Y1 Z)) (fun nv E=>rN)))<|oC (oRn (fun nv E=>mv Z))<|oC (oRn (fun nv E=>faB 1 Z Z Tryz.underlying86 Z (by exact zlb)))<|oC (oRn (fun nv E=>ld 1 Z Z (fP (z2s _)) zry Z))<|oC (oFz (A1:=fun nv=>[(6,some ((nv 3),.list u8R 5 r10))]) 6 3 (oCl [3] [] [(100,6)] h12 Tryz.func85 Z (fun nv=>(z5k _)) (fun nv=>(Y1 Z)) (fun nv E=>rN)))<|oC (oRn (fun nv E=>faB 1 Z Z Tryz.underlying86 Z (by exact zoq)))<|oC (oRn (fun nv E=>faB 1 Z Z Tryz.underlying82 Z (by exact ti5)))<|oC (oRn (fun nv E=>ld 1 Z Z ((fP (z2k _)).part (z4n _)) ty5 Z))<|oC (oFz (A1:=fun nv=>[(7,some ((nv 4),.list u8R 5 [(({ a0 with Sig:=(⟨0,0⟩:z0b) }).Act).Kind]))]) 7 4 (oEf 7 4 (fun nv E=>lit (R:=u8R) ([(({ a0 with Sig:=(⟨0,0⟩:z0b) }).Act).Kind]:List UInt8) 7 (pP Z Z<|pN) Z tu109 ti5 Z Z)))<|oC (oFz (A1:=fun nv=>[(8,some ((nv 5),.list (z02 u8R) 109 [[111],r7,r5.1,r10,[(({ a0 with Sig:=(⟨0,0⟩:z0b) }).Act).Kind]]))]) 8 5 (oEf 8 5 (fun nv E=>lit (R:=(z02 u8R)) ([[111],r7,r5.1,r10,[(({ a0 with Sig:=(⟨0,0⟩:z0b) }).Act).Kind]]:List (List UInt8)) 8 (pP Z Z<|pP Z Z<|pP Z Z<|pP Z Z<|pP Z Z<|pN) Z tu154 zgr Z Z)))<|oC (oCl [6] [] [(100,9)] h15 Tryz.func84 Z (fun nv=>(z50 _)) (fun nv=>(Y1 Z)) (fun nv E=>rN))<|oC (oRn (fun nv E=>asg Z))<|oN) fun n16=>z0y<|z0v<|gSR<|Zq (faB 1 Z Z Tryz.underlying86 Z (by exact zoq))<|Zq (faB 1 Z Z Tryz.underlying82 Z (by exact ti5))<|Zq (ld 1 Z Z ((fP (z2k _)).part (z4n _)) ty5 Z)<|Zq (B.eql Z Z)<|Zj Z (fun h17=>?_) (fun h17=>?_)
  ·
   refine gSR<|Zm Z<|Za Z<|Zb Z<|z0r<|z0s<|Ze [(n16 6)] [9] Z
  ·
   refine Zt<|gSR<|Zq (faB 1 Z Z Tryz.underlying86 Z (by exact zoq))<|Zq (faB 1 Z Z Tryz.underlying82 Z (by exact ti9))<|Zq (ld 1 Z Z ((fP (z2k _)).part (zbx _)) ty9 Z)<|z11 fun u18 h19=>z13l Z Z h19 tu9 tu109 tu5<|Zc [] [(100,10)] Tryz.func86 Z (zgf _) fun r20 n21=>Zm Z<|Zq (ext Z Z)<|Zq (ext Z Z)<|Za Z<|Zb Z<|gSR<|Zm Z<|Zm Z<|z11 fun x22 h23=>Ef Z (apn 9 Z Z Z (.own 10 Z) h23 tu109 ti5 Z Z Z) fun v24=>Zb Z<|z0v<|gSR<|Zq (faB 1 Z Z Tryz.underlying86 Z (by exact zoq))<|Zq (faB 1 Z Z Tryz.underlying82 Z (by exact ti5))<|Zq (ld 1 Z Z ((fP (z2k _)).part (z4n _)) ty5 Z)<|Zq (B.eql Z Z)<|Zj Z (fun h25=>?_) (fun h25=>?_)
   ·
    refine gSR<|Zq (faB 1 Z Z Tryz.underlying86 Z (by exact zoq))<|Zq (faB 1 Z Z Tryz.underlying82 Z (by exact zk4))<|Zq (ld 1 Z Z ((fP (z2k _)).part (zad _)) zt9 Z)<|Zc [] [(100,11)] Tryz.func87 Z (zjc _) fun r26 n27=>Zm Z<|Zq (ext Z Z)<|Zq (ext Z Z)<|Za Z<|Zb Z<|z2o<|Zm Z<|Zm Z<|z11 fun x28 h29=>Ef Z (apn 9 Z Z Z (.own 11 Z) h29 tu109 ti5 Z Z Z) fun v30=>Zb Z<|gSR<|Zm Z<|Za Z<|Zb Z<|z0r<|Ze [v30] [9] Z
   ·
    refine Zt<|gSR<|Zm Z<|Za Z<|Zb Z<|z0r<|Ze [v24] [9] Z
def zcl (a0:z04):Option ((List UInt8) × Int) :=
 zd4 a0 >>= fun r2 =>
 if r2 != 0 then
  some ([],r2)
 else
  z9e a0 >>= fun r5 =>
  z5h a0.Sig.E.toUInt64 >>= fun r7 =>
  z5h a0.Sig.S.toUInt64 >>= fun r9 =>
  z1v [r5.1,r7,r9] >>= fun r12 =>
  some (r12,0)
theorem zn0 (a0:z04):z2t Tryz.prog 93 [.rd z03 a0] [] (zcl a0) (fun r nv=>⟨[.val (nv 0),.rd z08 r.2],[(100,some (nv 0,.list u8R 5 r.1))]⟩):=by
 refine z3n 30 Tryz.func93 Z Z Z fun H w=>?_
 refine gSR<|Eb Z (bx 1 Z) fun v1=>Za Z<|Zb Z<|z0v<|gSR<|Zq (ld 1 Z Z fH zcv Z)<|Zc [] [] Tryz.func82 Z (zfn _) fun r2 n3=>Zb Z<|gSR<|Zm Z<|Zq (I.neq Z Z)<|Zj Z (fun h4=>?_) (fun h4=>?_)
 ·
  refine gSR<|Zm Z<|Za Z<|Zb Z<|z0r<|z0s<|zfh u8R 5 2<|Ze [(.slice none 0 0)] [2] Z
 ·
  refine Zt<|gSR<|Zq (ld 1 Z Z fH zcv Z)<|Zc [] [(100,3)] Tryz.func62 Z (zdp _) fun r5 n6=>Zm Z<|Zq (ext Z Z)<|Zq (ext Z Z)<|Za Z<|Zb Z<|z0v<|z90 [19,34,37,40] z4j Z Z<|hTk 0 Z Z (mv Z)<|hTk 1 Z Z (faB 1 Z Z Tryz.underlying86 Z (by exact zk7))<|hTk 2 Z Z (faB 1 Z Z Tryz.underlying84 Z (by exact z87))<|hTk 3 Z Z (ld 1 Z Z ((fP (z2n _)).part (z83 _)) zbh Z)<|hTk 4 Z Z (W.toU Z tu78 tu56)<|hTk 6 Z Z (faB 1 Z Z Tryz.underlying86 Z (by exact zk7))<|hTk 7 Z Z (faB 1 Z Z Tryz.underlying84 Z (by exact z87))<|hTk 8 Z Z (ld 1 Z Z ((fP (z2n _)).part (z9u _)) zbh Z)<|hTk 9 Z Z (W.toU Z tu78 tu56)<|z79 5 [] [(100,19)] Z (by kernel_rfl) Z (gd0 Z) Z Tryz.func85 Z Z (z5k _) (Y1 Z) rN Z (fun _ _=>z4g) fun r7 n8=>z79 10 [] [(100,34)] Z (by kernel_rfl) Z (gd0 Z) Z Tryz.func85 Z Z (z5k _) (Y1 Z) rN Z (fun _ _=>z4g) fun r9 n10=>hFrz 3 [15,5,17] Z (fS Z<|fS Z<|fS Z<|fN)<|hFrz 19 [22] Z (fS Z<|fN)<|hFrz 34 [27] Z (fS Z<|fN)<|Zo 11 Z Z Z (lit (R:=(z02 u8R)) ([r5.1,r7,r9]:List (List UInt8)) 37 (pP Z Z<|pP Z Z<|pP Z Z<|pN) Z tu154 zgr Z Z) fun v11=>hFrz 37 [28] Z (fS Z<|fN)<|z79 12 [] [(100,40)] Z (by kernel_rfl) Z (gd0 Z) Z Tryz.func84 Z Z (z50 _) (Y1 Z) rN Z (fun _ _=>z4g) fun r12 n13=>Zf 13 Z Z z4g (asg Z)<|hTk 14 Z Z (asg Z)<|z5r (by kernel_rfl)<|z0y<|z0r<|Ze [(n13 0)] [40] Z
def zb3 (a0:List UInt8):Option (Bool) :=
 some (decide (10000<(a0.length:Int))) >>= fun y1 =>
 some y1
theorem zg9 (a0:List UInt8):z2t Tryz.prog 153 [.rd (z02 u8R) a0] [] (zb3 a0) (fun r nv=>⟨[.rd z0w r],[]⟩):=by
 refine z3n 6 Tryz.func153 Z Z Z fun H w=>?_
 refine gSR<|Zb Z<|gSR<|Zm Z<|Zq (z3r Z .rd Z tu109)<|Zq (I.gtr Z Z)<|Za Z<|z40 2 Z fun y1=>Zn<|z0r<|Ze [] [] Z
def zbl  : Option (z22) :=
 some (⟨(#v[1779033703,3144134277,1013904242,2773480762,1359893119,2600822924,528734635,1541459225]:Vector UInt32 8),[],0⟩:z22)
theorem zjo  : z2t Tryz.prog 154 [] [] (zbl) (fun r nv=>⟨[.rd z28 r],[]⟩):=by
 refine z3n 3 Tryz.func154 Z Z Z fun H w=>?_
 refine gSR<|Eb Z (z6m 1 zki (ZrE.rd (R:=(z38 8 z10)) (x:=(Vector.replicate 8 0)) zz8 (ZrE.nilS (ZrE.rd (R:=z08) (x:=0) (Zr.num Z) ZrE.nil Z)) Z)) fun v1=>Zn<|gSR<|Zq (litA (R:=z10) [1779033703,3144134277,1013904242,2773480762,1359893119,2600822924,528734635,1541459225] (#v[1779033703,3144134277,1013904242,2773480762,1359893119,2600822924,528734635,1541459225]:Vector UInt32 8) (pP Z Z<|pP Z Z<|pP Z Z<|pP Z Z<|pP Z Z<|pP Z Z<|pP Z Z<|pP Z Z<|pN) Z tu176 zxm Z z87)<|Zq (zn6 [(0,8),(8,1),(9,1)] Tryz.underlying193 zki (ZrE.rd (R:=(z38 8 z10)) (x:=(Vector.replicate 8 0)) zz8 (ZrE.nilS (ZrE.rd (R:=z08) (x:=0) (Zr.num Z) ZrE.nil Z)) Z) Z (zdy.cons Z Z z29 (z7y.cast (z7y.here z29) Z)<|zdy.done Z))<|Es (zo4 1 Z Z (z09.cast (z09.cons z29 (z09.cons z06 (z09.cons z29 z09.nil))) Z) Z (z2u.cons zc7 (z2u.cons z1n (z2u.cons zc7 z2u.nil))) (z09.cast (z09.cons z29 (z09.cons z06 (z09.cons z29 z09.nil))) Z) zki)<|Zn<|z0r<|zkn u8R [.rd (z38 8 z10) (#v[1779033703,3144134277,1013904242,2773480762,1359893119,2600822924,528734635,1541459225]:Vector UInt32 8),.rd (z02 u8R) [],.rd z08 0] 1 [.rd (z38 8 z10) (#v[1779033703,3144134277,1013904242,2773480762,1359893119,2600822924,528734635,1541459225]:Vector UInt32 8)] [.rd z08 0] Z Z Z<|zt6 (R:=z28) (⟨(#v[1779033703,3144134277,1013904242,2773480762,1359893119,2600822924,528734635,1541459225]:Vector UInt32 8),[],0⟩:z22) 1 Z (Sp.via (Sp.prod (Sp.prod (Sp.prod Sp.unit))))<|zbi [] [] Z (eC 1 Z Z znc<|eN) (rN)
def z1k (a0:UInt32) (a1:Int):Option (UInt32) :=
 some ((UInt64.ofInt a1) &&& 31) >>= fun y1 =>
 some ((zmg a0 y1.toNat) ||| (z4y a0 ((32 - y1).toNat))) >>= fun y2 =>
 some y2
theorem z1y (a0:UInt32) (a1:Int):z2t Tryz.prog 199 [.rd z10 a0,.rd z08 a1] [] (z1k a0 a1) (fun r nv=>⟨[.rd z10 r],[]⟩):=by
 refine z3n 17 Tryz.func199 Z Z Z fun H w=>?_
 refine gSR<|Zb Z<|gSR<|Zm Z<|Zq (I.toU Z tu3 Tryz.underlying76)<|Zq (U.and Z Z)<|Za Z<|z40 5 Z fun y1=>Zn<|gSR<|Zm Z<|Zm Z<|Zq (W.shl Z Z (Int.natCast_nonneg _))<|Zm Z<|Zm Z<|Zq (U.sub Z Z)<|Zq (W.shr Z Z (Int.natCast_nonneg _))<|Zq (W.or Z Z)<|Za Z<|z40 4 Z fun y2=>Zn<|z0r<|Ze [] [] Z
def z5b (x3:List UInt8) (s5:(Vector UInt32 64) × Int):Option (Sum ((Vector UInt32 64)) ((Vector UInt32 64) × Int)) :=
 if decide (s5.2<(x3.length:Int)) then
  idx x3 s5.2 >>= fun x7 =>
  z4w s5.1 (w64 (Int.tdiv s5.2 4)) >>= fun x9 =>
  z4w s5.1 (w64 (Int.tdiv s5.2 4)) >>= fun x11 =>
  some (.inr (zca s5.1 (w64 (Int.tdiv s5.2 4)) ((zmg x9 8) ||| x7.toUInt32),w64 (s5.2+1)))
 else
  some (.inl s5.1)
def z45 (s14:(Vector UInt32 64) × Int):Option (Sum ((Vector UInt32 64)) ((Vector UInt32 64) × Int)) :=
 if decide (s14.2<64) then
  z4w s14.1 (w64 (s14.2 - 15)) >>= fun x16 =>
  z4w s14.1 (w64 (s14.2 - 2)) >>= fun x18 =>
  z1k x16 (-7) >>= fun r20 =>
  z1k x16 (-18) >>= fun r22 =>
  some ((r20 ^^^ r22) ^^^ (z4y x16 3)) >>= fun y24 =>
  z1k x18 (-17) >>= fun r25 =>
  z1k x18 (-19) >>= fun r27 =>
  some ((r25 ^^^ r27) ^^^ (z4y x18 10)) >>= fun y29 =>
  z4w s14.1 (w64 (s14.2 - 16)) >>= fun x30 =>
  z4w s14.1 (w64 (s14.2 - 7)) >>= fun x32 =>
  z4w s14.1 s14.2 >>= fun x34 =>
  some (w64 (s14.2+1)) >>= fun y37 =>
  some (.inr (zca s14.1 s14.2 (((x30+x32)+y24)+y29),y37))
 else
  some (.inl s14.1)
def zbb (a0:List UInt8):Option ((Vector UInt32 64)) :=
 (cut a0 0 64 >>= fun x3 =>
 iter (z5b x3) ((Vector.replicate 64 0),0)) >>= fun s2 =>
 (iter (z45) (s2,16)) >>= fun s13 =>
 some s13
set_option maxHeartbeats 4000000 in
theorem zgv (a0:List UInt8):z2t Tryz.prog 195 [.rd (z02 u8R) a0] [] (zbb a0) (fun r nv=>⟨[.rd (z38 64 z10) r],[]⟩):=by
 refine z3n 74 Tryz.func195 Z Z Z fun H w=>?_
 refine gSR<|Eb Z (z6m 1 zvn (.zr (R:=(z38 64 z10)) (x:=(Vector.replicate 64 0)) z12v)) fun v1=>Zn<|zaj (fun (s2:(Vector UInt32 64)) aa ww=>Sta (ctx 74 H [] w) [(2,.val (z0a v1 0))] [(1,some (v1,.box 229 [.rd (z38 64 z10) s2]))] aa ww) ?_ (fun s2=>?_)
 ·
  refine gSR<|Zm Z<|z11 fun x3 h4=>Zq (cut' Z .no (.to Z) h4 tu109 ti5)<|Zq (z3r Z .rd Z tu109)<|Zm Z<|Zn<|z2h (fun (s5:(Vector UInt32 64) × Int) aa ww=>Sta (ctx 74 H [] w) [(2,.val (z0a v1 0)),(11,.rd (z02 u8R) x3),(12,.rd z08 (x3.length:Int)),(13,.rd z08 s5.2)] [(1,some (v1,.box 229 [.rd (z38 64 z10) s5.1]))] aa ww) (fun aa ww h=>Zu h [1]) (fun s5=>?_)
  refine gSR<|Zq (I.lss Z Z)<|Zn<|z0v<|gIf Z Z (fun h6=>?_) (fun h6=>?_)
  ·
   refine Zt<|z0v<|z5y<|gSR<|Zm Z<|z11 fun x7 h8=>Zq (ixR Z Z h8 tu109 ti5 Z)<|Zq (ldR Z ty5)<|Za Z<|Zb Z<|z2o<|Zm Z<|Zq (I.quo Z Z (by decide))<|Zm Z<|Zq (I.quo Z Z (by decide))<|z11 fun x9 h10=>Zq (ixB 1 Z Z Z h10 Tryz.underlying229 z87)<|Zq (ld 1 Z Z (fP (.el h10)) zbh Z)<|Zq (W.shl Z Z (Int.natCast_nonneg _))<|Zm Z<|Zq (B.toW Z tu5 tu78)<|Zq (W.or Z Z)<|z11 fun x11 h12=>Zq (ixB 1 Z Z Z h12 Tryz.underlying229 z87)<|Es (sto 1 Z Z (fP (.el h12)) Z z87)<|z20<|z44<|z0y<|z2o<|Zq (I.add Z Z)<|Zm Z<|z20<|z23 (fun aa ww h=>Zu h [1])
  ·
   refine z2i<|z1b<|z1a<|z4a (fun aa ww h=>Zu h [1])
 ·
  refine zaj (fun (s13:(Vector UInt32 64)) aa ww=>Sta (ctx 74 H [] w) [(2,.val (z0a v1 0))] [(1,some (v1,.box 229 [.rd (z38 64 z10) s13]))] aa ww) ?_ (fun s13=>?_)
  ·
   refine gSR<|Zb Z<|z2h (fun (s14:(Vector UInt32 64) × Int) aa ww=>Sta (ctx 74 H [] w) [(2,.val (z0a v1 0)),(5,.rd z08 s14.2)] [(1,some (v1,.box 229 [.rd (z38 64 z10) s14.1]))] aa ww) (fun aa ww h=>Zu h [1]) (fun s14=>?_)
   refine z0v<|gSR<|Zm Z<|Zq (I.lss Z Z)<|Zj Z (fun h15=>?_) (fun h15=>?_)
   ·
    refine Zt<|z0v<|z5y<|z0v<|zhw z4j (by kernel_rfl)<|Rq Z (mv Z)<|Rq Z (I.sub Z Z)<|z76 fun x16 h17=>Rq Z (ixB 1 Z Z Z h17 Tryz.underlying229 z87)<|Rq Z (ld 1 Z Z (fP (.el h17)) zbh Z)<|Rq Z (mv Z)<|Rq Z (I.sub Z Z)<|z76 fun x18 h19=>Rq Z (ixB 1 Z Z Z h19 Tryz.underlying229 z87)<|Rq Z (ld 1 Z Z (fP (.el h19)) zbh Z)<|Rq Z (asg Z)<|Rq Z (asg Z)<|zt2<|z0y<|gSR<|Zm Z<|Zc [] [] Tryz.func199 Z (z1y _ _) fun r20 n21=>Zm Z<|Zc [] [] Tryz.func199 Z (z1y _ _) fun r22 n23=>Zq (W.xor Z Z)<|Zm Z<|Zq (W.shr Z Z (Int.natCast_nonneg _))<|Zq (W.xor Z Z)<|Za Z<|z40 8 Z fun y24=>Zn<|gSR<|Zm Z<|Zc [] [] Tryz.func199 Z (z1y _ _) fun r25 n26=>Zm Z<|Zc [] [] Tryz.func199 Z (z1y _ _) fun r27 n28=>Zq (W.xor Z Z)<|Zm Z<|Zq (W.shr Z Z (Int.natCast_nonneg _))<|Zq (W.xor Z Z)<|Za Z<|z40 9 Z fun y29=>Zn<|gSub [(2,.val (z0a v1 0)),(5,.rd z08 s14.2),(8,.rd z10 y24),(9,.rd z10 y29)] [(1,some (v1,.box 229 [.rd (z38 64 z10) s14.1]))] [1] (Zs Z Z Z Z<|sN) (y1 Z)<|zc5 fun x30 h31=>zc5 fun x32 h33=>zc5 fun x34 h35=>gOr [] [⟨1,some ([], fun nv=>(v1,.box 229 [.rd (z38 64 z10) s14.1])),[(15,some ([], fun nv=>(v1,.box 229 [.rd (z38 64 z10) (zca s14.1 s14.2 (((x30+x32)+y24)+y29))])))]⟩] [pd 58 (.rd z08 s14.2),pd 59 (.rd z08 s14.2),pd 60 (.rd z08 (w64 (s14.2 - 16))),pk 61 (.val (z0a v1 (0+(w64 (s14.2 - 16):Int).toNat * 1))) [(0,0,false)],pk 62 (.rd z10 x30) [(0,0,false)],pd 63 (.rd z08 s14.2),pd 64 (.rd z08 (w64 (s14.2 - 7))),pk 65 (.val (z0a v1 (0+(w64 (s14.2 - 7):Int).toNat * 1))) [(0,0,false)],pk 66 (.rd z10 x32) [(0,0,false)],pd 67 (.rd z10 (x30+x32)),pd 68 (.rd z10 y24),pd 69 (.rd z10 ((x30+x32)+y24)),pd 70 (.rd z10 y29),pd 71 (.rd z10 (((x30+x32)+y24)+y29)),pk 72 (.val (z0a v1 (0+(s14.2:Int).toNat * 1))) [(0,0,false)],⟨none,[(0,0,true)],[],[]⟩] z4j (oC (oRn (fun nv E=>mv Z))<|oC (oRn (fun nv E=>mv Z))<|oC (oRn (fun nv E=>I.sub Z Z))<|oC (oRn (fun nv E=>ixB 1 Z Z Z h31 Tryz.underlying229 z87))<|oC (oRn (fun nv E=>ld 1 Z Z (fP (.el h31)) zbh Z))<|oC (oRn (fun nv E=>mv Z))<|oC (oRn (fun nv E=>I.sub Z Z))<|oC (oRn (fun nv E=>ixB 1 Z Z Z h33 Tryz.underlying229 z87))<|oC (oRn (fun nv E=>ld 1 Z Z (fP (.el h33)) zbh Z))<|oC (oRn (fun nv E=>W.add Z Z))<|oC (oRn (fun nv E=>mv Z))<|oC (oRn (fun nv E=>W.add Z Z))<|oC (oRn (fun nv E=>mv Z))<|oC (oRn (fun nv E=>W.add Z Z))<|oC (oRn (fun nv E=>ixB 1 Z Z Z h35 Tryz.underlying229 z87))<|oC (oEs 1 (fun nv E=>sto 1 Z Z (fP (.el h35)) Z z87))<|oN) fun n36=>z44<|z0y<|z2o<|Zm Z<|Zq (I.add Z Z)<|Za Z<|z40 5 Z fun y37=>z20<|z23 (fun aa ww h=>Zu h [1])
   ·
    refine z2i<|z1b<|z1a<|z4a (fun aa ww h=>Zu h [1])
  ·
   refine gSR<|Zq (ld 1 Z Z fH z13z Z)<|Es (sto 1 Z Z fH Z zvn)<|Zn<|z0r<|zbi [] [] Z (eC 1 Z Z z13z<|eN) (rN)
def zcp (a0:UInt32) (a1:Int) (a2:Int) (a3:Int):Option (UInt32) :=
 z1k a0 (w64 (0 - a1)) >>= fun r1 =>
 z1k a0 (w64 (0 - a2)) >>= fun r3 =>
 z1k a0 (w64 (0 - a3)) >>= fun r5 =>
 some ((r1 ^^^ r3) ^^^ r5) >>= fun y7 =>
 some y7
theorem zgm (a0:UInt32) (a1:Int) (a2:Int) (a3:Int):z2t Tryz.prog 196 [.rd z10 a0,.rd z08 a1,.rd z08 a2,.rd z08 a3] [] (zcp a0 a1 a2 a3) (fun r nv=>⟨[.rd z10 r],[]⟩):=by
 refine z3n 23 Tryz.func196 Z Z Z fun H w=>?_
 refine gSR<|Zb Z<|gSR<|Zm Z<|Zm Z<|Zq (I.neg Z)<|Zc [] [] Tryz.func199 Z (z1y _ _) fun r1 n2=>Zm Z<|Zm Z<|Zq (I.neg Z)<|Zc [] [] Tryz.func199 Z (z1y _ _) fun r3 n4=>Zq (W.xor Z Z)<|Zm Z<|Zm Z<|Zq (I.neg Z)<|Zc [] [] Tryz.func199 Z (z1y _ _) fun r5 n6=>Zq (W.xor Z Z)<|Za Z<|z40 8 Z fun y7=>Zn<|z0r<|Ze [] [] Z
def z6j (a0:List UInt8):Option ((List UInt8)) :=
 app 1 ([]:List UInt8) a0 >>= fun x3 =>
 some x3
theorem z7i (a0:List UInt8):z2t Tryz.prog 182 [.rd (z02 u8R) a0] [] (z6j a0) (fun r nv=>⟨[.val (nv 0)],[(100,some (nv 0,.list u8R 5 r))]⟩):=by
 refine z3n 8 Tryz.func182 Z Z Z fun H w=>?_
 refine gSR<|Zb Z<|z0v<|gSR<|Zm Z<|z125 Z Z .rd Z tu109 (fun h1=>?_) ?_
 ·
  subst h1
  refine Zn<|zfv Z<|gSR<|Zb Z<|z0r<|z0s<|zfh u8R 5 1<|Ze [(.slice none 0 0)] [1] Z
 ·
  refine Zn<|zj3 Z<|Zt<|gSR<|Ef Z (lit (R:=u8R) (([]:List UInt8):List UInt8) 2 (pN) Z tu109 ti5 Z Z) fun v2=>Zm Z<|z11 fun x3 h4=>Ef Z (apn 2 Z Z Z .rd h4 tu109 ti5 Z Z Z) fun v5=>Zb Z<|z0r<|Ze [v5] [2] Z
def z4r (r1:(Vector UInt32 64)) (s21:UInt32 × UInt32 × UInt32 × UInt32 × UInt32 × UInt32 × UInt32 × UInt32 × Int):Option (Sum (UInt32 × UInt32 × UInt32 × UInt32 × UInt32 × UInt32 × UInt32 × UInt32) (UInt32 × UInt32 × UInt32 × UInt32 × UInt32 × UInt32 × UInt32 × UInt32 × Int)) :=
 if decide (s21.2.2.2.2.2.2.2.2<64) then
  z4w z3v s21.2.2.2.2.2.2.2.2 >>= fun x23 =>
  z4w r1 s21.2.2.2.2.2.2.2.2 >>= fun x25 =>
  zcp s21.2.2.2.2.1 6 11 25 >>= fun r27 =>
  some ((((s21.2.2.2.2.2.2.2.1+r27)+((s21.2.2.2.2.1 &&& s21.2.2.2.2.2.1) ^^^ ((~~~s21.2.2.2.2.1) &&& s21.2.2.2.2.2.2.1)))+x23)+x25) >>= fun y29 =>
  zcp s21.1 2 13 22 >>= fun r30 =>
  some (r30+(((s21.1 &&& s21.2.1) ^^^ (s21.1 &&& s21.2.2.1)) ^^^ (s21.2.1 &&& s21.2.2.1))) >>= fun y32 =>
  some (s21.2.2.2.1+y29) >>= fun y33 =>
  some (.inr (y29+y32,s21.1,s21.2.1,s21.2.2.1,y33,s21.2.2.2.2.1,s21.2.2.2.2.2.1,s21.2.2.2.2.2.2.1,w64 (s21.2.2.2.2.2.2.2.2+1)))
 else
  some (.inl (s21.1,s21.2.1,s21.2.2.1,s21.2.2.2.1,s21.2.2.2.2.1,s21.2.2.2.2.2.1,s21.2.2.2.2.2.2.1,s21.2.2.2.2.2.2.2.1))
def zax (s20:UInt32 × UInt32 × UInt32 × UInt32 × UInt32 × UInt32 × UInt32 × UInt32) (s34:(Vector UInt32 8) × Int):Option (Sum ((Vector UInt32 8)) ((Vector UInt32 8) × Int)) :=
 if decide (s34.2<8) then
  z4w (#v[s20.1,s20.2.1,s20.2.2.1,s20.2.2.2.1,s20.2.2.2.2.1,s20.2.2.2.2.2.1,s20.2.2.2.2.2.2.1,s20.2.2.2.2.2.2.2]:Vector UInt32 8) s34.2 >>= fun x36 =>
  z4w s34.1 s34.2 >>= fun x38 =>
  z4w s34.1 s34.2 >>= fun x40 =>
  some (.inr (zca s34.1 s34.2 (x38+x36),w64 (s34.2+1)))
 else
  some (.inl s34.1)
def zbm (c0:Vector UInt32 8) (a1:List UInt8):Option ((Vector UInt32 8)) :=
 zbb a1 >>= fun r1 =>
 z4w c0 0 >>= fun x4 =>
 z4w c0 1 >>= fun x6 =>
 z4w c0 2 >>= fun x8 =>
 z4w c0 3 >>= fun x10 =>
 z4w c0 4 >>= fun x12 =>
 z4w c0 5 >>= fun x14 =>
 z4w c0 6 >>= fun x16 =>
 z4w c0 7 >>= fun x18 =>
 (iter (z4r r1) (x4,x6,x8,x10,x12,x14,x16,x18,0)) >>= fun s20 =>
 iter (zax s20) (c0,0)
theorem zjk (ph0:Value) (kh0:Nat) (uh0:(Vector UInt32 8)→z37) (hh0:∀ y,Foc (uh0 y) kh0 (z38 8 z10) y uh0) (c0:Vector UInt32 8) (a1:List UInt8):z2t Tryz.prog 181 [.val (z0a ph0 kh0),.rd (z02 u8R) a1] [(1,some (ph0,uh0 c0)),zG1] (zbm c0 a1) (fun r nv=>⟨[],[(1,some (ph0,uh0 r)),(1001,some (.bool true,.glob 1 (z38 64 z10) z3v))]⟩):=by
 refine z3n 126 Tryz.func181 Z Z Z fun H w=>?_
 refine gSR<|Zm Z<|Zc [] [] Tryz.func195 Z (zgv _) fun r1 n2=>Eb Z (z6m 2 zvn (.zr (R:=(z38 64 z10)) (x:=(Vector.replicate 64 0)) z12v)) fun v3=>Es (sto 2 Z Z fH Z zvn)<|Zn<|z0v<|zhw z4j (by kernel_rfl)<|Rq Z (mv Z)<|Rq Z (zx5 1 Z Z (hh0 _))<|z76 fun x4 h5=>Rq Z (ixH 1 Z Z (hh0 _) Z h5 tu176 z87)<|Rq Z (ld 1 Z Z ((hh0 _).part (.el h5)) zbh Z)<|Rq Z (mv Z)<|Rq Z (zx5 1 Z Z (hh0 _))<|z76 fun x6 h7=>Rq Z (ixH 1 Z Z (hh0 _) Z h7 tu176 z87)<|Rq Z (ld 1 Z Z ((hh0 _).part (.el h7)) zbh Z)<|Rq Z (mv Z)<|Rq Z (zx5 1 Z Z (hh0 _))<|z76 fun x8 h9=>Rq Z (ixH 1 Z Z (hh0 _) Z h9 tu176 z87)<|Rq Z (ld 1 Z Z ((hh0 _).part (.el h9)) zbh Z)<|Rq Z (mv Z)<|Rq Z (zx5 1 Z Z (hh0 _))<|z76 fun x10 h11=>Rq Z (ixH 1 Z Z (hh0 _) Z h11 tu176 z87)<|Rq Z (ld 1 Z Z ((hh0 _).part (.el h11)) zbh Z)<|Rq Z (mv Z)<|Rq Z (zx5 1 Z Z (hh0 _))<|z76 fun x12 h13=>Rq Z (ixH 1 Z Z (hh0 _) Z h13 tu176 z87)<|Rq Z (ld 1 Z Z ((hh0 _).part (.el h13)) zbh Z)<|Rq Z (mv Z)<|Rq Z (zx5 1 Z Z (hh0 _))<|z76 fun x14 h15=>Rq Z (ixH 1 Z Z (hh0 _) Z h15 tu176 z87)<|Rq Z (ld 1 Z Z ((hh0 _).part (.el h15)) zbh Z)<|Rq Z (mv Z)<|Rq Z (zx5 1 Z Z (hh0 _))<|z76 fun x16 h17=>Rq Z (ixH 1 Z Z (hh0 _) Z h17 tu176 z87)<|Rq Z (ld 1 Z Z ((hh0 _).part (.el h17)) zbh Z)<|Rq Z (mv Z)<|Rq Z (zx5 1 Z Z (hh0 _))<|z76 fun x18 h19=>Rq Z (ixH 1 Z Z (hh0 _) Z h19 tu176 z87)<|Rq Z (ld 1 Z Z ((hh0 _).part (.el h19)) zbh Z)<|Rq Z (asg Z)<|Rq Z (asg Z)<|Rq Z (asg Z)<|Rq Z (asg Z)<|Rq Z (asg Z)<|Rq Z (asg Z)<|Rq Z (asg Z)<|Rq Z (asg Z)<|zt2<|z0y<|zaj (fun (s20:UInt32 × UInt32 × UInt32 × UInt32 × UInt32 × UInt32 × UInt32 × UInt32) aa ww=>Sta (ctx 126 H [(1,some (ph0,uh0 c0)),zG1] w) [(0,.val (z0a ph0 kh0)),(5,.rd z10 s20.1),(6,.rd z10 s20.2.1),(7,.rd z10 s20.2.2.1),(8,.rd z10 s20.2.2.2.1),(9,.rd z10 s20.2.2.2.2.1),(10,.rd z10 s20.2.2.2.2.2.1),(11,.rd z10 s20.2.2.2.2.2.2.1),(12,.rd z10 s20.2.2.2.2.2.2.2)] [(1,some (ph0,uh0 c0)),zG1] aa ww) ?_ (fun s20=>?_)
 ·
  refine gSR<|Zm Z<|Zn<|z2h (fun (s21:UInt32 × UInt32 × UInt32 × UInt32 × UInt32 × UInt32 × UInt32 × UInt32 × Int) aa ww=>Sta (ctx 126 H [(1,some (ph0,uh0 c0)),zG1] w) [(0,.val (z0a ph0 kh0)),(4,.val (z0a v3 0)),(5,.rd z10 s21.1),(6,.rd z10 s21.2.1),(7,.rd z10 s21.2.2.1),(8,.rd z10 s21.2.2.2.1),(9,.rd z10 s21.2.2.2.2.1),(10,.rd z10 s21.2.2.2.2.2.1),(11,.rd z10 s21.2.2.2.2.2.2.1),(12,.rd z10 s21.2.2.2.2.2.2.2.1),(52,.rd z08 s21.2.2.2.2.2.2.2.2)] [(1,some (ph0,uh0 c0)),(2,some (v3,.box 229 [.rd (z38 64 z10) r1])),zG1] aa ww) (fun aa ww h=>Zu h [1,2,1001]) (fun s21=>?_)
  refine gSR<|Zq (I.lss Z Z)<|Zn<|z0v<|gIf Z Z (fun h22=>?_) (fun h22=>?_)
  ·
   refine Zt<|z0v<|z5y<|gSR<|Zm Z<|Zb Z<|z0v<|z90 [] z4j Z Z<|hTk 0 Z Z (mv Z)<|hTk 1 Z Z (mv Z)<|hTk 4 Z Z (mv Z)<|hTk 5 Z Z (mv Z)<|hTk 6 Z Z (W.and Z Z)<|hTk 7 Z Z (mv Z)<|hTk 8 Z Z (W.cpl Z)<|hTk 9 Z Z (mv Z)<|hTk 10 Z Z (W.and Z Z)<|hTk 11 Z Z (W.xor Z Z)<|hTk 13 Z Z (mv Z)<|z7e fun x23 h24=>hTk 14 Z Z (ixG 1001 Z Z h24 Tryz.underlying229 z87)<|hTk 15 Z Z (ldR Z zbh)<|hTk 17 Z Z (mv Z)<|z7e fun x25 h26=>hTk 18 Z Z (ixB 2 Z Z Z h26 Tryz.underlying229 z87)<|hTk 19 Z Z (ld 2 Z Z (fP (.el h26)) zbh Z)<|z79 2 [] [] Z (by kernel_rfl) Z (gd0 Z) Z Tryz.func196 Z Z (zgm _ _ _ _) (aQ Z<|aQ Z<|aQ Z<|aQ Z<|aN) rN Z (fun _ _=>z7s) fun r27 n28=>hTk 3 Z Z (W.add Z Z)<|hTk 12 Z Z (W.add Z Z)<|hTk 16 Z Z (W.add Z Z)<|hTk 20 Z Z (W.add Z Z)<|hTk 21 Z Z (asg Z)<|zu0 14 Z Z fun y29=>z5r (by kernel_rfl)<|z0y<|gSR<|Zm Z<|Zc [] [] Tryz.func196 Z (zgm _ _ _ _) fun r30 n31=>Zm Z<|Zm Z<|Zq (W.and Z Z)<|Zm Z<|Zm Z<|Zq (W.and Z Z)<|Zq (W.xor Z Z)<|Zm Z<|Zm Z<|Zq (W.and Z Z)<|Zq (W.xor Z Z)<|Zq (W.add Z Z)<|Za Z<|z40 15 Z fun y32=>Zn<|z2o<|Zm Z<|Zm Z<|Zq (W.add Z Z)<|Zm Z<|Zm Z<|Zm Z<|Zm Z<|Zm Z<|Zq (W.add Z Z)<|Zm Z<|Zm Z<|Zm Z<|Za Z<|Za Z<|Za Z<|Za Z<|Za Z<|z40 9 Z fun y33=>Za Z<|Za Z<|Za Z<|z20<|z44<|z0y<|z2o<|Zq (I.add Z Z)<|Zm Z<|z20<|z23 (fun aa ww h=>Zu h [1,2,1001])
  ·
   refine z2i<|z1b<|z1a<|z4a (fun aa ww h=>Zu h [1,1001])
 ·
  refine gSR<|Zm Z<|Zm Z<|Zm Z<|Zm Z<|Zm Z<|Zm Z<|Zm Z<|Zm Z<|Zq (litA (R:=z10) [s20.1,s20.2.1,s20.2.2.1,s20.2.2.2.1,s20.2.2.2.2.1,s20.2.2.2.2.2.1,s20.2.2.2.2.2.2.1,s20.2.2.2.2.2.2.2] (#v[s20.1,s20.2.1,s20.2.2.1,s20.2.2.2.1,s20.2.2.2.2.1,s20.2.2.2.2.2.1,s20.2.2.2.2.2.2.1,s20.2.2.2.2.2.2.2]:Vector UInt32 8) (pP Z Z<|pP Z Z<|pP Z Z<|pP Z Z<|pP Z Z<|pP Z Z<|pP Z Z<|pP Z Z<|pN) Z tu176 zxm Z z87)<|Zm Z<|Zn<|z2h (fun (s34:(Vector UInt32 8) × Int) aa ww=>Sta (ctx 126 H [(1,some (ph0,uh0 c0)),zG1] w) [(0,.val (z0a ph0 kh0)),(111,.rd (z38 8 z10) (#v[s20.1,s20.2.1,s20.2.2.1,s20.2.2.2.1,s20.2.2.2.2.1,s20.2.2.2.2.2.1,s20.2.2.2.2.2.2.1,s20.2.2.2.2.2.2.2]:Vector UInt32 8)),(112,.rd z08 s34.2)] [(1,some (ph0,uh0 s34.1)),zG1] aa ww) (fun aa ww h=>Zu h [1,1001]) (fun s34=>?_)
  refine gSR<|Zq (I.lss Z Z)<|Zn<|z0v<|gIf Z Z (fun h35=>?_) (fun h35=>?_)
  ·
   refine Zt<|z0v<|z5y<|gSR<|Zm Z<|z11 fun x36 h37=>Zq (idxV Z Z h37 tu176 z87 zbh)<|Za Z<|Zb Z<|z90 [1] z4j Z Z<|hTk 0 Z Z (mv Z)<|hTk 1 Z Z (mv Z)<|hTk 2 Z Z (zx5 1 Z Z (hh0 _))<|z7e fun x38 h39=>hTk 3 Z Z (ixH 1 Z Z (hh0 _) Z h39 tu176 z87)<|hTk 5 Z Z (mv Z)<|hTk 7 Z Z (zx5 1 Z Z (hh0 _))<|hRun 4 Z (by kernel_rfl) (gd0 Z) Z Z z7s (ld 1 Z Z ((hh0 _).part (.el h39)) zbh Z)<|hTk 6 Z Z (W.add Z Z)<|z7e fun x40 h41=>hTk 8 Z Z (ixH 1 Z Z (hh0 _) Z h41 tu176 z87)<|Zp 9 Z Z Z Z Z (sto 1 Z Z ((hh0 _).part (.el h41)) Z z87)<|z5r (by kernel_rfl)<|z44<|z0y<|z2o<|Zq (I.add Z Z)<|Zm Z<|z20<|z23 (fun aa ww h=>Zu h [1,1001])
  ·
   refine z2i<|z1b<|z1a<|Ze [] [1,1001] Z
def z7k (s7:z22 × (List UInt8)):Option (Sum (z22 × (List UInt8)) (z22 × (List UInt8))) :=
 if decide (64≤(s7.2.length:Int)) then
  zbm s7.1.Words s7.2 >>= fun r10 =>
  cut s7.2 64 (s7.2.length:Int) >>= fun x12 =>
  some (.inr ({ s7.1 with Words:=r10 },x12))
 else
  some (.inl (s7.1,s7.2))
def z9d (a0:z22) (a1:List UInt8):Option (z22) :=
 z1v [a0.Rest,a1] >>= fun r4 =>
 (iter (z7k) (a0,r4)) >>= fun s6 =>
 z6j s6.2 >>= fun r14 =>
 some (⟨({ s6.1 with N:=w64 (s6.1.N+(a1.length:Int)) }).Words,r14,({ s6.1 with N:=w64 (s6.1.N+(a1.length:Int)) }).N⟩:z22)
theorem zfd (a0:z22) (a1:List UInt8):z2t Tryz.prog 155 [.rd z28 a0,.rd (z02 u8R) a1] [zG1] (z9d a0 a1) (fun r nv=>⟨[.rd z28 r],[(1001,some (.bool true,.glob 1 (z38 64 z10) z3v))]⟩):=by
 refine z3n 29 Tryz.func155 Z Z Z fun H w=>?_
 refine gSR<|Eb Z (bx 1 Z) fun v1=>Eb Z (z6m 2 zki (ZrE.rd (R:=(z38 8 z10)) (x:=(Vector.replicate 8 0)) zz8 (ZrE.nilS (ZrE.rd (R:=z08) (x:=0) (Zr.num Z) ZrE.nil Z)) Z)) fun v2=>Zn<|gSR<|Zq (faB 1 Z Z Tryz.underlying193 Z (by exact zgr))<|Zq (ld 1 Z Z (fP (zi3 _)) zuf Z)<|Zm Z<|Ef Z (lit (R:=(z02 u8R)) ([a0.Rest,a1]:List (List UInt8)) 3 (pP Z Z<|pP Z Z<|pN) Z tu154 zgr Z Z) fun v3=>z7h 3 [9] Z (fS Z<|fN)<|Zc [] [(100,4)] Tryz.func84 Z (z50 _) fun r4 n5=>Zb Z<|zaj (fun (s6:z22 × (List UInt8)) aa ww=>Sta (ctx 29 H [zG1] w) [(1,.rd (z02 u8R) a1),(2,.val (z0a v1 0)),(4,.val (z0a v2 0)),(5,.rd (z02 u8R) s6.2)] [(1,some (v1,.box 193 [.rd z28 s6.1])),(2,some (v2,.box 193 [.rd (z38 8 z10) (Vector.replicate 8 0),.val (.slice none 0 0),.rd z08 0])),zG1] aa ww) ?_ (fun s6=>?_)
 ·
  refine gFrz 4 [10,5] Z (fS Z<|fS Z<|fN)<|z2h (fun (s7:z22 × (List UInt8)) aa ww=>Sta (ctx 29 H [zG1] w) [(1,.rd (z02 u8R) a1),(2,.val (z0a v1 0)),(4,.val (z0a v2 0)),(5,.rd (z02 u8R) s7.2)] [(1,some (v1,.box 193 [.rd z28 s7.1])),(2,some (v2,.box 193 [.rd (z38 8 z10) (Vector.replicate 8 0),.val (.slice none 0 0),.rd z08 0])),zG1] aa ww) (fun aa ww h=>Zu h [1,2,1001]) (fun s7=>?_)
  refine z0v<|gSR<|Zm Z<|Zq (z3r Z .rd Z tu109)<|Zq (I.geq Z Z)<|Zj Z (fun h8=>?_) (fun h8=>?_)
  ·
   refine Zt<|z5y<|gSR<|Zq (faB 1 Z Z Tryz.underlying193 Z (by exact zxm))<|Zm Z<|call [1,1001] [(1,1)] Z Tryz.func181 Z Z (zjk _ _ (fun y9=>.box 193 [.rd z28 ({ s7.1 with Words:=y9 })]) (fun _=>(fP (zcg _))) _ _) (Y2 Z Z) (Zi Z<|Zi Z<|rN) fun r10 n11=>Zn<|z2o<|Zm Z<|z11 fun x12 h13=>Zq (cut' Z (.to Z) .no h13 tu109 ti5)<|Za Z<|z20<|z44<|z23 (fun aa ww h=>Zu h [1,2,1001])
  ·
   refine z2i<|z1b<|z1a<|z4a (fun aa ww h=>Zu h [1,2,1001])
 ·
  refine z0v<|z90 [1,1020] z4j Z Z<|hTk 0 Z Z (faB 1 Z Z Tryz.underlying193 Z (by exact ti3))<|hTk 2 Z Z (mv Z)<|hTk 3 Z Z (z3r Z .rd Z tu109)<|hTk 5 Z Z (mv Z)<|hAlt [1,6] (by kernel_rfl) Z ⟨?_,?_,trivial⟩
  ·
   refine oRun 1 Z (gd0 Z) Z Z z7s (ld 1 Z Z (fP (z74 _)) ty3 Z)<|hTk 4 Z Z (I.add Z Z)<|z79 6 [] [(100,1020)] Z (by kernel_rfl) Z (gd0 Z) Z Tryz.func182 Z Z (z7i _) (Y1 Z) rN Z (fun _ _=>z4g) fun r14 n15=>hTk 7 Z Z (faB 1 Z Z Tryz.underlying193 Z (by exact ti3))<|Zp 8 Z Z Z Z Z (sto 1 Z Z (fP (z74 _)) Z ti3)<|Zf 9 Z Z z4g (faB 1 Z Z Tryz.underlying193 Z (by exact zgr))<|hSpl (R:=z28) 1 Z (Sp.via (Sp.prod (Sp.prod (Sp.prod Sp.unit))))<|Zp 10 Z Z Z Z Z (zzi 1 Z Z (z7y.cast (z7y.next z29 (z7y.here z29)) Z) Z z1n z06 zgr)<|z5r (by kernel_rfl)<|z0y<|gSR<|lPow [.rd (z38 8 z10) (({ s6.1 with N:=w64 (s6.1.N+(a1.length:Int)) }).Words),.rd (z02 u8R) r14,.rd z08 (({ s6.1 with N:=w64 (s6.1.N+(a1.length:Int)) }).N)] 1 1020 [.rd (z38 8 z10) (({ s6.1 with N:=w64 (s6.1.N+(a1.length:Int)) }).Words)] [.rd z08 (({ s6.1 with N:=w64 (s6.1.N+(a1.length:Int)) }).N)] Z Z Z Z Z<|zbf (R:=z28) (⟨({ s6.1 with N:=w64 (s6.1.N+(a1.length:Int)) }).Words,r14,({ s6.1 with N:=w64 (s6.1.N+(a1.length:Int)) }).N⟩:z22) 1 Z (Sp.via (Sp.prod (Sp.prod (Sp.prod Sp.unit))))<|Zq (ld 1 Z Z fH znc Z)<|z8x u8R [.rd (z38 8 z10) (Vector.replicate 8 0),.rd (z02 u8R) [],.rd z08 0] 2 [.rd (z38 8 z10) (Vector.replicate 8 0)] [.rd z08 0] Z Z Z<|zbf (R:=z28) (⟨(Vector.replicate 8 0),[],0⟩:z22) 2 Z (Sp.via (Sp.prod (Sp.prod (Sp.prod Sp.unit))))<|Es (sto 2 Z Z fH Z zki)<|Zn<|z0r<|zbi [] [1001] Z (eC 2 Z Z znc<|eN) (y1 Z)
  ·
   refine zun 6 [] [(100,1020)] Z Z (gd0 Z) Z Tryz.func182 Z Z (z7i _) (Y1 Z) rN Z (fun _ _=>z4g) fun r16 n17=>hRun 1 Z (by kernel_rfl) (gd0 Z) Z Z z7s (ld 1 Z Z (fP (z74 _)) ty3 Z)<|hTk 4 Z Z (I.add Z Z)<|hTk 7 Z Z (faB 1 Z Z Tryz.underlying193 Z (by exact ti3))<|Zp 8 Z Z Z Z Z (sto 1 Z Z (fP (z74 _)) Z ti3)<|Zf 9 Z Z z4g (faB 1 Z Z Tryz.underlying193 Z (by exact zgr))<|hSpl (R:=z28) 1 Z (Sp.via (Sp.prod (Sp.prod (Sp.prod Sp.unit))))<|Zp 10 Z Z Z Z Z (zzi 1 Z Z (z7y.cast (z7y.next z29 (z7y.here z29)) Z) Z z1n z06 zgr)<|z5r (by kernel_rfl)<|z0y<|gSR<|lPow [.rd (z38 8 z10) (({ s6.1 with N:=w64 (s6.1.N+(a1.length:Int)) }).Words),.rd (z02 u8R) r16,.rd z08 (({ s6.1 with N:=w64 (s6.1.N+(a1.length:Int)) }).N)] 1 1020 [.rd (z38 8 z10) (({ s6.1 with N:=w64 (s6.1.N+(a1.length:Int)) }).Words)] [.rd z08 (({ s6.1 with N:=w64 (s6.1.N+(a1.length:Int)) }).N)] Z Z Z Z Z<|zbf (R:=z28) (⟨({ s6.1 with N:=w64 (s6.1.N+(a1.length:Int)) }).Words,r16,({ s6.1 with N:=w64 (s6.1.N+(a1.length:Int)) }).N⟩:z22) 1 Z (Sp.via (Sp.prod (Sp.prod (Sp.prod Sp.unit))))<|Zq (ld 1 Z Z fH znc Z)<|z8x u8R [.rd (z38 8 z10) (Vector.replicate 8 0),.rd (z02 u8R) [],.rd z08 0] 2 [.rd (z38 8 z10) (Vector.replicate 8 0)] [.rd z08 0] Z Z Z<|zbf (R:=z28) (⟨(Vector.replicate 8 0),[],0⟩:z22) 2 Z (Sp.via (Sp.prod (Sp.prod (Sp.prod Sp.unit))))<|Es (sto 2 Z Z fH Z zki)<|Zn<|z0r<|zbi [] [1001] Z (eC 2 Z Z znc<|eN) (y1 Z)
def z89 (y3:UInt64) (s9:(List UInt8) × Int):Option (Sum ((List UInt8)) ((List UInt8) × Int)) :=
 if decide (0≤s9.2) then
  chk (0≤s9.2) >>= fun u12 =>
  app 1 s9.1 [(z66 y3 ((s9.2:Int).toNat)).toUInt8] >>= fun x15 =>
  some (w64 (s9.2 - 8)) >>= fun y18 =>
  some (.inr (x15,y18))
 else
  some (.inl s9.1)
def z72 (r21:z22) (s23:V3 × Int):Option (Sum (V3) (V3 × Int)) :=
 if decide (s23.2<8) then
  z4w r21.Words s23.2 >>= fun x25 =>
  z4w s23.1 (w64 (4 * s23.2)) >>= fun x27 =>
  z4w (zca s23.1 (w64 (4 * s23.2)) ((z4y x25 24).toUInt8)) (w64 ((w64 (4 * s23.2))+1)) >>= fun x29 =>
  z4w (zca (zca s23.1 (w64 (4 * s23.2)) ((z4y x25 24).toUInt8)) (w64 ((w64 (4 * s23.2))+1)) ((z4y x25 16).toUInt8)) (w64 ((w64 (4 * s23.2))+2)) >>= fun x31 =>
  z4w (zca (zca (zca s23.1 (w64 (4 * s23.2)) ((z4y x25 24).toUInt8)) (w64 ((w64 (4 * s23.2))+1)) ((z4y x25 16).toUInt8)) (w64 ((w64 (4 * s23.2))+2)) ((z4y x25 8).toUInt8)) (w64 ((w64 (4 * s23.2))+3)) >>= fun x33 =>
  some (.inr (zca (zca (zca (zca s23.1 (w64 (4 * s23.2)) ((z4y x25 24).toUInt8)) (w64 ((w64 (4 * s23.2))+1)) ((z4y x25 16).toUInt8)) (w64 ((w64 (4 * s23.2))+2)) ((z4y x25 8).toUInt8)) (w64 ((w64 (4 * s23.2))+3)) x25.toUInt8,w64 (s23.2+1)))
 else
  some (.inl s23.1)
def zev (a0:z22):Option (V3) :=
 some ((UInt64.ofInt a0.N) * 8) >>= fun y3 =>
 appz 1 [128] 0 (Int.tmod (w64 (119 - (Int.tmod a0.N 64))) 64) >>= fun x5 =>
 (iter (z89 y3) (x5,56)) >>= fun s8 =>
 (z9d a0 s8 >>= fun r21 =>
 iter (z72 r21) ((Vector.replicate 32 0),0)) >>= fun s20 =>
 some s20
theorem zlw (a0:z22):z2t Tryz.prog 156 [.rd z28 a0] [zG1] (zev a0) (fun r nv=>⟨[.rd aZ r],[(1001,some (.bool true,.glob 1 (z38 64 z10) z3v))]⟩):=by
 refine z3n 66 Tryz.func156 Z Z Z fun H w=>?_
 refine gSR<|Eb Z (bx 1 Z) fun v1=>Eb Z (z6m 2 z7g (.zr (R:=aZ) (x:=(Vector.replicate 32 0)) zmx)) fun v2=>Zn<|gSR<|Zq (faB 1 Z Z Tryz.underlying193 Z (by exact ti3))<|Zq (ld 1 Z Z (fP (z74 _)) ty3 Z)<|Zq (I.toU Z tu3 tu56)<|Zq (U.mul Z Z)<|Za Z<|z40 3 Z fun y3=>Zn<|gSR<|Ef Z (lit (R:=u8R) ([128]:List UInt8) 3 (pP Z Z<|pN) Z tu109 ti5 Z Z) fun v4=>Zq (faB 1 Z Z Tryz.underlying193 Z (by exact ti3))<|Zq (ld 1 Z Z (fP (z74 _)) ty3 Z)<|Zq (I.rem Z Z (by decide))<|Zq (I.sub Z Z)<|Zq (I.rem Z Z (by decide))<|z11 fun x5 h6=>Ef Z (apZO 3 Z Z Z h6 tu109 tu3 ti5 (Zr.num Z) Z) fun v7=>Zb Z<|zaj (fun (s8:(List UInt8)) aa ww=>∃ nv:Nat→Value,Sta (ctx 66 H [zG1] w) [(1,.val (z0a v1 0)),(2,.val (z0a v2 0)),(4,.val (nv 0))] [(1,some (v1,.box 193 [.rd z28 a0])),(2,some (v2,.box 94 [.rd aZ (Vector.replicate 32 0)])),(3,some ((nv 0),.list u8R 5 s8)),zG1] aa ww) ?_ (fun s8=>?_)
 ·
  refine gSR<|Zb Z<|z2h (fun (s9:(List UInt8) × Int) aa ww=>∃ nv:Nat→Value,Sta (ctx 66 H [zG1] w) [(1,.val (z0a v1 0)),(2,.val (z0a v2 0)),(3,.rd z2b y3),(4,.val (nv 0)),(5,.rd z08 s9.2)] [(1,some (v1,.box 193 [.rd z28 a0])),(2,some (v2,.box 94 [.rd aZ (Vector.replicate 32 0)])),(3,some ((nv 0),.list u8R 5 s9.1)),zG1] aa ww) (fun aa ww h=>⟨nvl [v7],Zu h [1,2,3,1001]⟩) (fun s9=>?_)
  refine gEx fun n10=>z0v<|gSR<|Zm Z<|Zq (I.geq Z Z)<|Zj Z (fun h11=>?_) (fun h11=>?_)
  ·
   refine Zt<|z0v<|z5y<|z2o<|Zm Z<|Zm Z<|Zm Z<|z11 fun u12 h13=>Zq (U.shr Z Z (z78 h13))<|Zq (U.toB Z tu56 tu5)<|Ef Z (lit (R:=u8R) ([(z66 y3 ((s9.2:Int).toNat)).toUInt8]:List UInt8) 1100 (pP Z Z<|pN) Z tu109 ti5 Z Z) fun v14=>z11 fun x15 h16=>Ef Z (apn 3 Z Z Z (.own 1100 Z) h16 tu109 ti5 Z Z Z) fun v17=>Za Z<|z20<|z44<|z0y<|z2o<|Zm Z<|Zq (I.sub Z Z)<|Za Z<|z40 5 Z fun y18=>z20<|z23 (fun aa ww h=>⟨nvl [v17],Zu h [1,2,3,1001]⟩)
  ·
   refine z2i<|z1b<|z1a<|z4a (fun aa ww h=>⟨nvl [(n10 0)],Zu h [1,2,3,1001]⟩)
 ·
  refine gEx fun n19=>zaj (fun (s20:V3) aa ww=>Sta (ctx 66 H [zG1] w) [(2,.val (z0a v2 0))] [(2,some (v2,.box 94 [.rd aZ s20])),zG1] aa ww) ?_ (fun s20=>?_)
  ·
   refine gSR<|Zq (ld 1 Z Z fH znc Z)<|Zm Z<|z7h 3 [4,31] Z (fS Z<|fS Z<|fN)<|Zc [1001] [] Tryz.func155 Z (zfd _ _) fun r21 n22=>Zq (fldV Z (zcg _) Z Tryz.underlying193 Z z15d)<|Zm Z<|Zn<|z2h (fun (s23:V3 × Int) aa ww=>Sta (ctx 66 H [zG1] w) [(2,.val (z0a v2 0)),(33,.rd (z38 8 z10) r21.Words),(34,.rd z08 s23.2)] [(2,some (v2,.box 94 [.rd aZ s23.1])),zG1] aa ww) (fun aa ww h=>Zu h [2,1001]) (fun s23=>?_)
   refine gSR<|Zq (I.lss Z Z)<|Zn<|z0v<|gIf Z Z (fun h24=>?_) (fun h24=>?_)
   ·
    refine Zt<|z0v<|z5y<|gSR<|Zm Z<|z11 fun x25 h26=>Zq (idxV Z Z h26 tu176 z87 zbh)<|Za Z<|Zb Z<|z2o<|Zm Z<|Zq (I.mul Z Z)<|Zm Z<|Zq (I.mul Z Z)<|Zq (I.add Z Z)<|Zm Z<|Zq (I.mul Z Z)<|Zq (I.add Z Z)<|Zm Z<|Zq (I.mul Z Z)<|Zq (I.add Z Z)<|Zm Z<|Zq (W.shr Z Z (Int.natCast_nonneg _))<|Zq (W.toB Z tu78 tu5)<|Zm Z<|Zq (W.shr Z Z (Int.natCast_nonneg _))<|Zq (W.toB Z tu78 tu5)<|Zm Z<|Zq (W.shr Z Z (Int.natCast_nonneg _))<|Zq (W.toB Z tu78 tu5)<|Zm Z<|Zq (W.toB Z tu78 tu5)<|z11 fun x27 h28=>Zq (ixB 2 Z Z Z h28 tu94 ti5)<|Es (sto 2 Z Z (fP (.el h28)) Z ti5)<|z11 fun x29 h30=>Zq (ixB 2 Z Z Z h30 tu94 ti5)<|Es (sto 2 Z Z (fP (.el h30)) Z ti5)<|z11 fun x31 h32=>Zq (ixB 2 Z Z Z h32 tu94 ti5)<|Es (sto 2 Z Z (fP (.el h32)) Z ti5)<|z11 fun x33 h34=>Zq (ixB 2 Z Z Z h34 tu94 ti5)<|Es (sto 2 Z Z (fP (.el h34)) Z ti5)<|z20<|z44<|z0y<|z2o<|Zq (I.add Z Z)<|Zm Z<|z20<|z23 (fun aa ww h=>Zu h [2,1001])
   ·
    refine z2i<|z1b<|z1a<|z4a (fun aa ww h=>Zu h [2,1001])
  ·
   refine gSR<|Zq (ld 2 Z Z fH zbe Z)<|Es (sto 2 Z Z fH Z z7g)<|Zn<|z0r<|zbi [] [1001] Z (eC 2 Z Z zbe<|eN) (y1 Z)
def z0z (a0:List (List UInt8)) (s2:Int):Option (Sum (Sum Int Unit) Int) :=
 if decide (s2<(a0.length:Int)) then
  idx a0 s2 >>= fun x4 =>
  zb3 x4 >>= fun r6 =>
  if r6 then
   some (.inl (.inl s2))
  else
   some (.inr (w64 (s2+1)))
 else
  some (.inl (.inr ()))
def z2d (a0:List (List UInt8)):Option (Int) :=
 z36 (iter (z0z a0) 0) fun s1 =>
 some (-1)
theorem z60 (a0:List (List UInt8)):z2t Tryz.prog 180 [.rd (z02 (z02 u8R)) a0,.val (.func (.func 153) #[] #[])] [] (z2d a0) (fun r nv=>⟨[.rd z08 r],[]⟩):=by
 refine z3n 19 Tryz.func180 Z Z Z fun H w=>?_
 refine gSR<|Zb Z<|z5m (fun (s1:Unit) aa ww=>Sta (ctx 19 H [] w) [] [] aa ww) ?_ (fun s1=>?_)
 ·
  refine gSR<|Zm Z<|Zq (z3r Z .rd Z tu154)<|Zm Z<|Zn<|z2h (fun (s2:Int) aa ww=>Sta (ctx 19 H [] w) [(0,.rd (z02 (z02 u8R)) a0),(1,.val (.func (.func 153) #[] #[])),(7,.rd z08 (a0.length:Int)),(8,.rd z08 s2)] [] aa ww) (fun aa ww h=>Zu h []) (fun s2=>?_)
  refine gSR<|Zq (I.lss Z Z)<|Zn<|z0v<|gIf Z Z (fun h3=>?_) (fun h3=>?_)
  ·
   refine Zt<|z0v<|z5y<|gSR<|Zm Z<|Zb Z<|gSR<|Zm Z<|Zm Z<|Zm Z<|z11 fun x4 h5=>Zq (ixR Z Z h5 tu154 zgr Z)<|Zq (ldR Z zuf)<|zw5 [] [] (gd0 Z) Z Z Tryz.func153 Z Z (zg9 _) (Y1 Z) (cN) rN fun r6 n7=>Zj Z (fun h8=>?_) (fun h8=>?_)
   ·
    refine gSR<|Zm Z<|Zb Z<|z0r<|z42<|z0s<|z55<|z4q<|Ze [] [] Z
   ·
    refine z41<|z44<|z0y<|z2o<|Zq (I.add Z Z)<|Zm Z<|z20<|z23 (fun aa ww h=>Zu h [])
  ·
   refine z2i<|z1b<|z1a<|z53 (fun aa ww h=>Zu h [])
 ·
  refine gSR<|Zb Z<|z0r<|Ze [] [] Z
def z1i (a0:List (List UInt8)):Option (Bool) :=
 z2d a0 >>= fun r1 =>
 some (decide (0≤r1)) >>= fun y3 =>
 some y3
theorem z57 (a0:List (List UInt8)):z2t Tryz.prog 152 [.rd (z02 (z02 u8R)) a0,.val (.func (.func 153) #[] #[])] [] (z1i a0) (fun r nv=>⟨[.rd z0w r],[]⟩):=by
 refine z3n 9 Tryz.func152 Z Z Z fun H w=>?_
 refine gSR<|Zb Z<|gSR<|Zm Z<|Zm Z<|Zc [] [] Tryz.func180 Z (z60 _) fun r1 n2=>Zq (I.geq Z Z)<|Za Z<|z40 4 Z fun y3=>Zn<|z0r<|Ze [] [] Z
def z6i (a0:List (List UInt8)) (s11:z22 × Int):Option (Sum z22 (z22 × Int)) :=
 if decide (s11.2<(a0.length:Int)) then
  idx a0 s11.2 >>= fun x13 =>
  z9d s11.1 x13 >>= fun r15 =>
  some (.inr (r15,w64 (s11.2+1)))
 else
  some (.inl s11.1)
def z8c (a0:List (List UInt8)):Option (V3 × Int) :=
 (if decide (20<(a0.length:Int)) then
  some true
 else
  z1i a0 >>= fun r4 =>
  some r4) >>= fun s2 =>
 if s2 then
  some ((Vector.replicate 32 0),4)
 else
  zbl >>= fun r7 =>
  (iter (z6i a0) (r7,0)) >>= fun s10 =>
  zev s10 >>= fun r17 =>
  some (r17,0)
theorem zdt (a0:List (List UInt8)):z2t Tryz.prog 121 [.rd (z02 (z02 u8R)) a0] [zG1] (z8c a0) (fun r nv=>⟨[.rd aZ r.1,.rd z08 r.2],[(1001,some (.bool true,.glob 1 (z38 64 z10) z3v))]⟩):=by
 refine z3n 28 Tryz.func121 Z Z Z fun H w=>?_
 refine gSR<|Eb Z (z6m 1 z7g (.zr (R:=aZ) (x:=(Vector.replicate 32 0)) zmx)) fun v1=>Zb Z<|z0v<|zaj (fun (s2:Bool) aa ww=>Sta (ctx 28 H [zG1] w) [(0,.rd (z02 (z02 u8R)) a0),(2,.val (z0a v1 0)),(13,.rd z0w s2)] [(1,some (v1,.box 94 [.rd aZ (Vector.replicate 32 0)])),zG1] aa ww) ?_ (fun s2=>?_)
 ·
  refine z2o<|Zm Z<|Zq (z3r Z .rd Z tu154)<|Zq (I.gtr Z Z)<|Zm Z<|z0x 10 Z (fun h3=>?_) (fun h3=>?_)
  ·
   refine lKn 9 Z h3<|Zk Z<|Zk Z<|Zq (pkT Z Z)<|z20<|z4a (fun aa ww h=>Zu h [1,1001])
  ·
   refine lKn 9 Z h3<|z1g Zx Z Z (mv Z)<|ze9 [] [] Zx Z Tryz.func152 Z Z (z57 _) (Y2 Z Z) rN fun r4 n5=>Zq (pkF Z Z)<|z20<|z4a (fun aa ww h=>Zu h [1,1001])
 ·
  refine gIf Z Z (fun h6=>?_) (fun h6=>?_)
  ·
   refine gSR<|Zq (bldG (x':=((Vector.replicate 32 0):V3)) tu94 z7g zmx ti5 (Bld.done Z))<|Es (sto 1 Z Z fH Z z7g)<|Zb Z<|z0r<|z0s<|zbi [] [1001] Z (eC 1 Z Z zbe<|eE Z<|eN) (y1 Z)
  ·
   refine Zt<|gSR<|Zc [] [] Tryz.func154 Z (zjo) fun r7 n8=>Eb Z (z6m 1100 zki (ZrE.rd (R:=(z38 8 z10)) (x:=(Vector.replicate 8 0)) zz8 (ZrE.nilS (ZrE.rd (R:=z08) (x:=0) (Zr.num Z) ZrE.nil Z)) Z)) fun v9=>z8x u8R [.rd (z38 8 z10) (Vector.replicate 8 0),.rd (z02 u8R) [],.rd z08 0] 1100 [.rd (z38 8 z10) (Vector.replicate 8 0)] [.rd z08 0] Z Z Z<|zbf (R:=z28) (⟨(Vector.replicate 8 0),[],0⟩:z22) 1100 Z (Sp.via (Sp.prod (Sp.prod (Sp.prod Sp.unit))))<|Es (sto 1100 Z Z fH Z zki)<|Zn<|zaj (fun (s10:z22) aa ww=>Sta (ctx 28 H [zG1] w) [(2,.val (z0a v1 0)),(4,.val (z0a v9 0))] [(1,some (v1,.box 94 [.rd aZ (Vector.replicate 32 0)])),(1100,some (v9,.box 193 [.rd z28 s10])),zG1] aa ww) ?_ (fun s10=>?_)
   ·
    refine gSR<|Zm Z<|Zq (z3r Z .rd Z tu154)<|Zm Z<|Zn<|z2h (fun (s11:z22 × Int) aa ww=>Sta (ctx 28 H [zG1] w) [(2,.val (z0a v1 0)),(4,.val (z0a v9 0)),(16,.rd (z02 (z02 u8R)) a0),(17,.rd z08 (a0.length:Int)),(18,.rd z08 s11.2)] [(1,some (v1,.box 94 [.rd aZ (Vector.replicate 32 0)])),(1100,some (v9,.box 193 [.rd z28 s11.1])),zG1] aa ww) (fun aa ww h=>Zu h [1,1100,1001]) (fun s11=>?_)
    refine gSR<|Zq (I.lss Z Z)<|Zn<|z0v<|gIf Z Z (fun h12=>?_) (fun h12=>?_)
    ·
     refine Zt<|z0v<|z5y<|gSR<|z11 fun x13 h14=>Zq (ixR Z Z h14 tu154 zgr Z)<|Zq (ldR Z zuf)<|Zb Z<|z2o<|Zq (ld 1100 Z Z fH znc Z)<|Zm Z<|Zc [1001] [] Tryz.func155 Z (zfd _ _) fun r15 n16=>Es (sto 1100 Z Z fH Z zki)<|z20<|z44<|z0y<|z2o<|Zq (I.add Z Z)<|Zm Z<|z20<|z23 (fun aa ww h=>Zu h [1,1100,1001])
    ·
     refine z2i<|z1b<|z1a<|z4a (fun aa ww h=>Zu h [1,1100,1001])
   ·
    refine gSR<|Zq (ld 1100 Z Z fH znc Z)<|Zc [1001] [] Tryz.func156 Z (zlw _) fun r17 n18=>Es (sto 1 Z Z fH Z z7g)<|Zb Z<|z0r<|zbi [] [1001] Z (eC 1 Z Z zbe<|eE Z<|eN) (y1 Z)
def zen (a0:List UInt8):Option (V3 × Int) :=
 z8c [a0] >>= fun r3 =>
 some (r3.1,r3.2)
theorem zlx (a0:List UInt8):z2t Tryz.prog 94 [.rd (z02 u8R) a0] [zG1] (zen a0) (fun r nv=>⟨[.rd aZ r.1,.rd z08 r.2],[(1001,some (.bool true,.glob 1 (z38 64 z10) z3v))]⟩):=by
 refine z3n 9 Tryz.func94 Z Z Z fun H w=>?_
 refine gSR<|Eb Z (z6m 1 z7g (.zr (R:=aZ) (x:=(Vector.replicate 32 0)) zmx)) fun v1=>Zb Z<|gSR<|Zm Z<|Ef Z (lit (R:=(z02 u8R)) ([a0]:List (List UInt8)) 2 (pP Z Z<|pN) Z tu154 zgr Z Z) fun v2=>z7h 2 [5] Z (fS Z<|fN)<|Zc [1001] [] Tryz.func121 Z (zdt _) fun r3 n4=>Zq (ext Z Z)<|Zq (ext Z Z)<|Es (sto 1 Z Z fH Z z7g)<|Zb Z<|z0r<|zbi [] [1001] Z (eC 1 Z Z zbe<|eE Z<|eN) (y1 Z)
def zw2 (a0:z04):Option (V3 × Int) :=
 zcl a0 >>= fun r3 =>
 if r3.2 != 0 then
  some ((Vector.replicate 32 0),r3.2)
 else
  zen r3.1 >>= fun r6 =>
  some (r6.1,r6.2)
theorem zr0 (a0:z04):z2t Tryz.prog 65 [.rd z03 a0] [zG1] (zw2 a0) (fun r nv=>⟨[.rd aZ r.1,.rd z08 r.2],[(1001,some (.bool true,.glob 1 (z38 64 z10) z3v))]⟩):=by
 refine z3n 19 Tryz.func65 Z Z Z fun H w=>?_
 refine gSR<|Eb Z (bx 1 Z) fun v1=>Eb Z (z6m 2 z7g (.zr (R:=aZ) (x:=(Vector.replicate 32 0)) zmx)) fun v2=>Zb Z<|gSR<|Zq (ld 1 Z Z fH zcv Z)<|Zc [] [(100,3)] Tryz.func93 Z (zn0 _) fun r3 n4=>Zm Z<|Zq (ext Z Z)<|Zq (ext Z Z)<|Za Z<|Zb Z<|z0v<|gSR<|Zm Z<|Zq (I.neq Z Z)<|Zj Z (fun h5=>?_) (fun h5=>?_)
 ·
  refine gSR<|Zq (bldG (x':=((Vector.replicate 32 0):V3)) tu94 z7g zmx ti5 (Bld.done Z))<|Zm Z<|Es (sto 2 Z Z fH Z z7g)<|Zb Z<|z0r<|z0s<|zbi [] [1001] Z (eC 2 Z Z zbe<|eE Z<|eN) (y1 Z)
 ·
  refine Zt<|gSR<|Zm Z<|z7h 3 [9,4,15] Z (fS Z<|fS Z<|fS Z<|fN)<|Zc [1001] [] Tryz.func94 Z (zlx _) fun r6 n7=>Zq (ext Z Z)<|Zq (ext Z Z)<|Es (sto 2 Z Z fH Z z7g)<|Zb Z<|z0r<|zbi [] [1001] Z (eC 2 Z Z zbe<|eE Z<|eN) (y1 Z)
def z3w (a0:List UInt32) (s2:Int):Option (Sum (Sum Bool Unit) Int) :=
 if decide (s2<(a0.length:Int)) then
  idx a0 s2 >>= fun x4 =>
  zez x4 >>= fun r6 =>
  if !r6 then
   some (.inl (.inl false))
  else
   some (.inr (w64 (s2+1)))
 else
  some (.inl (.inr ()))
def zbc (a0:List UInt32):Option (Bool) :=
 z36 (iter (z3w a0) 0) fun s1 =>
 some true
theorem zhi (a0:List UInt32):z2t Tryz.prog 151 [.rd (z02 z10) a0] [] (zbc a0) (fun r nv=>⟨[.rd z0w r],[]⟩):=by
 refine z3n 15 Tryz.func151 Z Z Z fun H w=>?_
 refine gSR<|Zb Z<|z5m (fun (s1:Unit) aa ww=>Sta (ctx 15 H [] w) [] [] aa ww) ?_ (fun s1=>?_)
 ·
  refine gSR<|Zm Z<|Zq (z3r Z .rd Z tu188)<|Zm Z<|Zn<|z2h (fun (s2:Int) aa ww=>Sta (ctx 15 H [] w) [(5,.rd (z02 z10) a0),(6,.rd z08 (a0.length:Int)),(7,.rd z08 s2)] [] aa ww) (fun aa ww h=>Zu h []) (fun s2=>?_)
  refine gSR<|Zq (I.lss Z Z)<|Zn<|z0v<|gIf Z Z (fun h3=>?_) (fun h3=>?_)
  ·
   refine Zt<|z0v<|z5y<|gSR<|z11 fun x4 h5=>Zq (ixR Z Z h5 tu188 z87 Z)<|Zq (ldR Z zbh)<|Zb Z<|gSR<|Zm Z<|Zc [] [] Tryz.func110 Z (zfx _) fun r6 n7=>Zq (zgz Z)<|Zj Z (fun h8=>?_) (fun h8=>?_)
   ·
    refine gSR<|Zb Z<|z0r<|z42<|z0s<|z55<|z4q<|Ze [] [] Z
   ·
    refine z41<|z44<|z0y<|z2o<|Zq (I.add Z Z)<|Zm Z<|z20<|z23 (fun aa ww h=>Zu h [])
  ·
   refine z2i<|z1b<|z1a<|z53 (fun aa ww h=>Zu h [])
 ·
  refine gSR<|Zb Z<|z0r<|Ze [] [] Z
def zj7 (a0:UInt32) (a1:UInt64):Option (UInt32 × Int) :=
 zbc [a0] >>= fun r2 =>
 if !r2 then
  some (0,2)
 else
  zcf a0 a1 >>= fun r5 =>
  some (r5,0)
end
section
open Go Go.RowKit
set_option maxRecDepth 100000
theorem zmz (a0:UInt32) (a1:UInt64):z2t Tryz.prog 119 [.rd z10 a0,.rd z2b a1] [] (zj7 a0 a1) (fun r nv=>⟨[.rd z10 r.1,.rd z08 r.2],[]⟩):=by
 refine z3n 13 Tryz.func119 Z Z Z fun H w=>?_
 refine gSR<|Za Z<|Zb Z<|z0v<|gSR<|Zm Z<|Ef Z (lit (R:=z10) ([a0]:List UInt32) 1 (pP Z Z<|pN) Z tu188 z87 Z Z) fun v1=>z7h 1 [7] Z (fS Z<|fN)<|Zc [] [] Tryz.func151 Z (zhi _) fun r2 n3=>Zq (zgz Z)<|Zj Z (fun h4=>?_) (fun h4=>?_)
 ·
  refine gSR<|Za Z<|Zb Z<|z0r<|z0s<|Ze [] [] Z
 ·
  refine Zt<|gSR<|Zm Z<|Zm Z<|Zc [] [] Tryz.func107 Z (zeh _ _) fun r5 n6=>Za Z<|Zb Z<|z0r<|Ze [] [] Z
def z97 (a0:UInt64):Option (UInt32) :=
 zcf 4 a0 >>= fun r1 =>
 some r1
theorem zd1 (a0:UInt64):z2t Tryz.prog 81 [.rd z2b a0] [] (z97 a0) (fun r nv=>⟨[.rd z10 r],[]⟩):=by
 refine z3n 5 Tryz.func81 Z Z Z fun H w=>?_
 refine gSR<|Zb Z<|gSR<|Zm Z<|Zc [] [] Tryz.func107 Z (zeh _ _) fun r1 n2=>Zb Z<|z0r<|Ze [] [] Z
def zio (a0:UInt32) (a1:UInt32):Option (UInt32 × Int) :=
 zbc [a0,a1] >>= fun r2 =>
 if !r2 then
  some (0,2)
 else
  z8p 1000000007 [a0,a1] >>= fun r6 =>
  some (r6,0)
theorem zms (a0:UInt32) (a1:UInt32):z2t Tryz.prog 120 [.rd z10 a0,.rd z10 a1] [] (zio a0 a1) (fun r nv=>⟨[.rd z10 r.1,.rd z08 r.2],[]⟩):=by
 refine z3n 15 Tryz.func120 Z Z Z fun H w=>?_
 refine gSR<|Za Z<|Zb Z<|z0v<|gSR<|Zm Z<|Zm Z<|Ef Z (lit (R:=z10) ([a0,a1]:List UInt32) 1 (pP Z Z<|pP Z Z<|pN) Z tu188 z87 Z Z) fun v1=>z7h 1 [8] Z (fS Z<|fN)<|Zc [] [] Tryz.func151 Z (zhi _) fun r2 n3=>Zq (zgz Z)<|Zj Z (fun h4=>?_) (fun h4=>?_)
 ·
  refine gSR<|Za Z<|Zb Z<|z0r<|z0s<|Ze [] [] Z
 ·
  refine Zt<|gSR<|Zm Z<|Zm Z<|Ef Z (lit (R:=z10) ([a0,a1]:List UInt32) 2 (pP Z Z<|pP Z Z<|pN) Z tu188 z87 Z Z) fun v5=>z7h 2 [13] Z (fS Z<|fN)<|Zc [] [] Tryz.func118 Z (zbk _ _) fun r6 n7=>Za Z<|Zb Z<|z0r<|Ze [] [] Z
def z30 (a2:List UInt32) (s4:(List UInt8) × Int):Option (Sum ((List UInt8)) ((List UInt8) × Int)) :=
 if decide (s4.2<(a2.length:Int)) then
  idx a2 s4.2 >>= fun x7 =>
  app 1 s4.1 [(z4y x7 24).toUInt8,(z4y x7 16).toUInt8,(z4y x7 8).toUInt8,x7.toUInt8] >>= fun x10 =>
  some (.inr (x10,w64 (s4.2+1)))
 else
  some (.inl s4.1)
def z9o (r15:V3 × Int) (s19:UInt64 × Int):Option (Sum UInt64 (UInt64 × Int)) :=
 if decide (s19.2<(((r15.1.toList.drop 0).take 8).length:Int)) then
  idx ((r15.1.toList.drop 0).take 8) s19.2 >>= fun x21 =>
  some ((zjt s19.1 8) ||| x21.toUInt64) >>= fun y23 =>
  some (.inr (y23,w64 (s19.2+1)))
 else
  some (.inl s19.1)
def zat (a0:UInt8) (a1:List UInt8) (a2:List UInt32):Option (UInt64 × Int) :=
 if decide (9991<(a1.length:Int)) then
  some (0,4)
 else
  (iter (z30 a2) ([a0],0)) >>= fun s3 =>
  z8c [s3,a1] >>= fun r15 =>
  (iter (z9o r15) (0,0)) >>= fun s18 =>
  some (s18,r15.2)
theorem zhu (a0:UInt8) (a1:List UInt8) (a2:List UInt32):z2t Tryz.prog 117 [.rd u8R a0,.rd (z02 u8R) a1,.rd (z02 z10) a2] [zG1] (zat a0 a1 a2) (fun r nv=>⟨[.rd z2b r.1,.rd z08 r.2],[(1001,some (.bool true,.glob 1 (z38 64 z10) z3v))]⟩):=by
 refine z3n 63 Tryz.func117 Z Z Z fun H w=>?_
 refine gSR<|Za Z<|Zb Z<|z0v<|gSR<|Zm Z<|Zq (z3r Z .rd Z tu109)<|Zq (I.gtr Z Z)<|Zj Z (fun h1=>?_) (fun h1=>?_)
 ·
  refine gSR<|Za Z<|Zb Z<|z0r<|z0s<|Ze [] [1001] Z
 ·
  refine Zt<|gSR<|Zm Z<|Ef Z (lit (R:=u8R) ([a0]:List UInt8) 1 (pP Z Z<|pN) Z tu109 ti5 Z Z) fun v2=>Zb Z<|zaj (fun (s3:(List UInt8)) aa ww=>∃ nv:Nat→Value,Sta (ctx 63 H [zG1] w) [(1,.rd (z02 u8R) a1),(8,.val (nv 0))] [(1,some ((nv 0),.list u8R 5 s3)),zG1] aa ww) ?_ (fun s3=>?_)
  ·
   refine gSR<|Zm Z<|Zq (z3r Z .rd Z tu188)<|Zm Z<|Zn<|z2h (fun (s4:(List UInt8) × Int) aa ww=>∃ nv:Nat→Value,Sta (ctx 63 H [zG1] w) [(1,.rd (z02 u8R) a1),(8,.val (nv 0)),(21,.rd (z02 z10) a2),(22,.rd z08 (a2.length:Int)),(23,.rd z08 s4.2)] [(1,some ((nv 0),.list u8R 5 s4.1)),zG1] aa ww) (fun aa ww h=>⟨nvl [v2],Zu h [1,1001]⟩) (fun s4=>?_)
   refine gEx fun n5=>gSR<|Zq (I.lss Z Z)<|Zn<|z0v<|gIf Z Z (fun h6=>?_) (fun h6=>?_)
   ·
    refine Zt<|z0v<|z5y<|gSR<|z11 fun x7 h8=>Zq (ixR Z Z h8 tu188 z87 Z)<|Zq (ldR Z zbh)<|Zb Z<|z2o<|Zm Z<|Zm Z<|Zq (W.shr Z Z (Int.natCast_nonneg _))<|Zq (W.toB Z tu78 tu5)<|Zm Z<|Zq (W.shr Z Z (Int.natCast_nonneg _))<|Zq (W.toB Z tu78 tu5)<|Zm Z<|Zq (W.shr Z Z (Int.natCast_nonneg _))<|Zq (W.toB Z tu78 tu5)<|Zm Z<|Zq (W.toB Z tu78 tu5)<|Ef Z (lit (R:=u8R) ([(z4y x7 24).toUInt8,(z4y x7 16).toUInt8,(z4y x7 8).toUInt8,x7.toUInt8]:List UInt8) 1100 (pP Z Z<|pP Z Z<|pP Z Z<|pP Z Z<|pN) Z tu109 ti5 Z Z) fun v9=>z11 fun x10 h11=>Ef Z (apn 1 Z Z Z (.own 1100 Z) h11 tu109 ti5 Z Z Z) fun v12=>Za Z<|z20<|z44<|z0y<|z2o<|Zq (I.add Z Z)<|Zm Z<|z20<|z23 (fun aa ww h=>⟨nvl [v12],Zu h [1,1001]⟩)
   ·
    refine z2i<|z1b<|z1a<|z4a (fun aa ww h=>⟨nvl [(n5 0)],Zu h [1,1001]⟩)
  ·
   refine gEx fun n13=>gSR<|Zm Z<|Zm Z<|z7h 1 [8,43] Z (fS Z<|fS Z<|fN)<|Ef Z (lit (R:=(z02 u8R)) ([s3,a1]:List (List UInt8)) 1101 (pP Z Z<|pP Z Z<|pN) Z tu154 zgr Z Z) fun v14=>z7h 1101 [45] Z (fS Z<|fN)<|Zc [1001] [] Tryz.func121 Z (zdt _) fun r15 n16=>Zm Z<|Zq (ext Z Z)<|Zq (ext Z Z)<|Eb Z (z6m 1102 z7g (.zr (R:=aZ) (x:=(Vector.replicate 32 0)) zmx)) fun v17=>Es (sto 1102 Z Z fH Z z7g)<|Zb Z<|gSR<|Zb Z<|zaj (fun (s18:UInt64) aa ww=>Sta (ctx 63 H [zG1] w) [(12,.rd z08 r15.2),(13,.rd z2b s18)] [zG1] aa ww) ?_ (fun s18=>?_)
   ·
    refine gSR<|z13y 1102 11 Z Z<|Zq (z16f (i:=0) (j:=8) Z .no (.to Z) tu94 ti5 (by decide) Z Z Z)<|Zq (z3r Z .rd Z tu109)<|Zm Z<|Zn<|z2h (fun (s19:UInt64 × Int) aa ww=>Sta (ctx 63 H [zG1] w) [(12,.rd z08 r15.2),(13,.rd z2b s19.1),(49,.rd (z02 u8R) ((r15.1.toList.drop 0).take 8)),(50,.rd z08 (((r15.1.toList.drop 0).take 8).length:Int)),(51,.rd z08 s19.2)] [zG1] aa ww) (fun aa ww h=>Zu h [1001]) (fun s19=>?_)
    refine gSR<|Zq (I.lss Z Z)<|Zn<|z0v<|gIf Z Z (fun h20=>?_) (fun h20=>?_)
    ·
     refine Zt<|z0v<|z5y<|gSR<|z11 fun x21 h22=>Zq (ixR Z Z h22 tu109 ti5 Z)<|Zq (ldR Z ty5)<|Zb Z<|z2o<|Zm Z<|Zq (U.shl Z Z (Int.natCast_nonneg _))<|Zm Z<|Zq (B.toU Z tu5 tu56)<|Zq (U.or Z Z)<|Za Z<|z40 13 Z fun y23=>z20<|z44<|z0y<|z2o<|Zq (I.add Z Z)<|Zm Z<|z20<|z23 (fun aa ww h=>Zu h [1001])
    ·
     refine z2i<|z1b<|z1a<|z4a (fun aa ww h=>Zu h [1001])
   ·
    refine gSR<|Zm Z<|Zm Z<|Za Z<|Zb Z<|z0r<|Ze [] [1001] Z
def z7p (a0:UInt32) (a1:UInt32) (a2:List UInt8):Option (UInt32 × Int) :=
 zat 99 a2 [a0,a1] >>= fun r2 =>
 if r2.2 != 0 then
  some (0,r2.2)
 else
  some ((r2.1 % 500000003).toUInt32) >>= fun y5 =>
  some (y5,0)
theorem zce (a0:UInt32) (a1:UInt32) (a2:List UInt8):z2t Tryz.prog 89 [.rd z10 a0,.rd z10 a1,.rd (z02 u8R) a2] [zG1] (z7p a0 a1 a2) (fun r nv=>⟨[.rd z10 r.1,.rd z08 r.2],[(1001,some (.bool true,.glob 1 (z38 64 z10) z3v))]⟩):=by
 refine z3n 24 Tryz.func89 Z Z Z fun H w=>?_
 refine gSR<|Za Z<|Zb Z<|gSR<|Zm Z<|Zm Z<|Zm Z<|Ef Z (lit (R:=z10) ([a0,a1]:List UInt32) 1 (pP Z Z<|pP Z Z<|pN) Z tu188 z87 Z Z) fun v1=>z7h 1 [14] Z (fS Z<|fN)<|Zc [1001] [] Tryz.func117 Z (zhu _ _ _) fun r2 n3=>Zm Z<|Zq (ext Z Z)<|Zq (ext Z Z)<|Za Z<|Zb Z<|z0v<|gSR<|Zm Z<|Zq (I.neq Z Z)<|Zj Z (fun h4=>?_) (fun h4=>?_)
 ·
  refine gSR<|Zm Z<|Za Z<|Zb Z<|z0r<|z0s<|Ze [] [1001] Z
 ·
  refine Zt<|gSR<|Zm Z<|Zq (U.rem Z Z (by decide))<|Zq (U.toW Z tu56 tu78)<|Za Z<|z40 6 Z fun y5=>Zb Z<|z0r<|Ze [] [1001] Z
def zdo (a0:UInt32) (a1:List UInt8) (a2:z0b):Option (Int) :=
 zez a0 >>= fun r2 =>
 if !r2 then
  some 2
 else
  if decide (9991<(a1.length:Int)) then
   some 4
  else
   if decide (500000003≤(max a2.E a2.S)) then
    some 22
   else
    zj7 a0 (500000003 - a2.E.toUInt64) >>= fun r7 =>
    z97 a2.S.toUInt64 >>= fun r9 =>
    zio r9 r7.1 >>= fun r11 =>
    z7p r11.1 a0 a1 >>= fun r13 =>
    if r13.2 != 0 then
     some 22
    else
     if r13.1 != a2.E then
      some 22
     else
      some 0
theorem zkg (a0:UInt32) (a1:List UInt8) (a2:z0b):z2t Tryz.prog 92 [.rd z10 a0,.rd (z02 u8R) a1,.rd z0l a2] [zG1] (zdo a0 a1 a2) (fun r nv=>⟨[.rd z08 r],[(1001,some (.bool true,.glob 1 (z38 64 z10) z3v))]⟩):=by
 refine z3n 58 Tryz.func92 Z Z Z fun H w=>?_
 refine gSR<|Eb Z (bx 1 Z) fun v1=>Zb Z<|z0v<|gSR<|Zm Z<|Zc [] [] Tryz.func110 Z (zfx _) fun r2 n3=>Zq (zgz Z)<|Zj Z (fun h4=>?_) (fun h4=>?_)
 ·
  refine gSR<|Zb Z<|z0r<|z0s<|Ze [] [1001] Z
 ·
  refine Zt<|z0v<|gSR<|Zm Z<|Zq (z3r Z .rd Z tu109)<|Zq (I.gtr Z Z)<|Zj Z (fun h5=>?_) (fun h5=>?_)
  ·
   refine gSR<|Zb Z<|z0r<|z0s<|Ze [] [1001] Z
  ·
   refine Zt<|z0v<|gSR<|Zq (faB 1 Z Z Tryz.underlying84 Z (by exact z87))<|Zq (ld 1 Z Z (fP (z83 _)) zbh Z)<|Zq (faB 1 Z Z Tryz.underlying84 Z (by exact z87))<|Zq (ld 1 Z Z (fP (z9u _)) zbh Z)<|Zq (W.max Z Z)<|Zq (W.geq Z Z)<|Zj Z (fun h6=>?_) (fun h6=>?_)
   ·
    refine gSR<|Zb Z<|z0r<|z0s<|Ze [] [1001] Z
   ·
    refine Zt<|gSR<|Zm Z<|Zq (faB 1 Z Z Tryz.underlying84 Z (by exact z87))<|Zq (ld 1 Z Z (fP (z83 _)) zbh Z)<|Zq (W.toU Z tu78 tu56)<|Zq (U.sub Z Z)<|Zc [] [] Tryz.func119 Z (zmz _ _) fun r7 n8=>Zm Z<|Zq (ext Z Z)<|Zq (ext Z Z)<|Za Z<|Zb Z<|gSR<|Zq (faB 1 Z Z Tryz.underlying84 Z (by exact z87))<|Zq (ld 1 Z Z (fP (z9u _)) zbh Z)<|Zq (W.toU Z tu78 tu56)<|Zc [] [] Tryz.func81 Z (zd1 _) fun r9 n10=>Zm Z<|Zc [] [] Tryz.func120 Z (zms _ _) fun r11 n12=>Zm Z<|Zq (ext Z Z)<|Zq (ext Z Z)<|Za Z<|Zb Z<|z0v<|gSR<|Zm Z<|Zm Z<|Zm Z<|Zc [1001] [] Tryz.func89 Z (zce _ _ _) fun r13 n14=>Zm Z<|Zq (ext Z Z)<|Zq (ext Z Z)<|Za Z<|Zb Z<|gSR<|Zm Z<|Zq (I.neq Z Z)<|Zm Z<|z0x 52 Z (fun h15=>?_) (fun h15=>?_)
    ·
     refine lKn 51 Z h15<|Zk Z<|Zk Z<|Zk Z<|Zk Z<|Zq (pkT Z Z)<|Zn<|zfv Z<|gSR<|Zb Z<|z0r<|z0s<|Ze [] [1001] Z
    ·
     refine lKn 51 Z h15<|z1g Zx Z Z (mv Z)<|z1g Zx Z Z (faB 1 Z Z Tryz.underlying84 Z (by exact z87))<|z1g Zx Z Z (ld 1 Z Z (fP (z83 _)) zbh Z)<|z1g Zx Z Z (W.neq Z Z)<|Zq (pkF Z Z)<|Zj Z (fun h16=>?_) (fun h16=>?_)
     ·
      refine gKn 56 Z h16<|gSR<|Zb Z<|z0r<|z0s<|Ze [] [1001] Z
     ·
      refine gKn 56 Z h16<|Zt<|gSR<|Zb Z<|z0r<|Ze [] [1001] Z
def ze8 (a0:z04):Option (Int) :=
 zd4 a0 >>= fun r2 =>
 if r2 != 0 then
  some r2
 else
  z9e a0 >>= fun r5 =>
  zdo a0.Author r5.1 a0.Sig >>= fun r7 =>
  some r7
theorem zhj (a0:z04):z2t Tryz.prog 64 [.rd z03 a0] [zG1] (ze8 a0) (fun r nv=>⟨[.rd z08 r],[(1001,some (.bool true,.glob 1 (z38 64 z10) z3v))]⟩):=by
 refine z3n 22 Tryz.func64 Z Z Z fun H w=>?_
 refine gSR<|Eb Z (bx 1 Z) fun v1=>Zb Z<|z0v<|gSR<|Zq (ld 1 Z Z fH zcv Z)<|Zc [] [] Tryz.func82 Z (zfn _) fun r2 n3=>Zb Z<|gSR<|Zm Z<|Zq (I.neq Z Z)<|Zj Z (fun h4=>?_) (fun h4=>?_)
 ·
  refine gSR<|Zm Z<|Zb Z<|z0r<|z0s<|Ze [] [1001] Z
 ·
  refine Zt<|gSR<|Zq (ld 1 Z Z fH zcv Z)<|Zc [] [(100,2)] Tryz.func62 Z (zdp _) fun r5 n6=>Zm Z<|Zq (ext Z Z)<|Zq (ext Z Z)<|Za Z<|Zb Z<|gSR<|Zq (faB 1 Z Z Tryz.underlying86 Z (by exact z87))<|Zq (ld 1 Z Z (fP (z2m _)) zbh Z)<|Zm Z<|Zq (faB 1 Z Z Tryz.underlying86 Z (by exact zk7))<|Zq (ld 1 Z Z (fP (z2n _)) zyr Z)<|z7h 2 [14,4,18] Z (fS Z<|fS Z<|fS Z<|fN)<|Zc [1001] [] Tryz.func92 Z (zkg _ _ _) fun r7 n8=>Zb Z<|z0r<|Ze [] [1001] Z
def z4c (s4:UInt64 × (List UInt8)):Option (Sum ((List UInt8)) (UInt64 × (List UInt8))) :=
 if decide (0<s4.1) then
  app 1 s4.2 [(s4.1 % 256).toUInt8] >>= fun x8 =>
  some (.inr (s4.1 / 256,x8))
 else
  some (.inl s4.2)
def z4e (s3:(List UInt8)) (s15:(List UInt8) × Int):Option (Sum ((List UInt8)) ((List UInt8) × Int)) :=
 if decide (0≤s15.2) then
  idx s3 s15.2 >>= fun x18 =>
  app 1 s15.1 [x18] >>= fun x21 =>
  some (w64 (s15.2 - 1)) >>= fun y24 =>
  some (.inr (x21,y24))
 else
  some (.inl s15.1)
def z2f (a0:UInt64):Option ((List UInt8)) :=
 if decide (a0≤247) then
  some [a0.toUInt8]
 else
  (iter (z4c) (a0,[])) >>= fun s3 =>
  (some (w64 ((s3.length:Int) - 1)) >>= fun y14 =>
  iter (z4e s3) ([UInt8.ofInt (w64 (247+(s3.length:Int)))],y14)) >>= fun s13 =>
  some s13
def z5c (a0:List V3) (s4:(List UInt8) × Int):Option (Sum ((List UInt8)) ((List UInt8) × Int)) :=
 if decide (s4.2<(a0.length:Int)) then
  idx a0 s4.2 >>= fun x7 =>
  app 1 s4.1 x7.toList >>= fun x9 =>
  some (w64 (s4.2+1)) >>= fun y12 =>
  some (.inr (x9,y12))
 else
  some (.inl s4.1)
def zb5 (a0:List V3):Option ((List UInt8)) :=
 z2f (UInt64.ofInt (a0.length:Int)) >>= fun r1 =>
 (iter (z5c a0) (r1,0)) >>= fun s3 =>
 some s3
def z6z (a0:List UInt8):Option ((List UInt8)) :=
 z2f (UInt64.ofInt (a0.length:Int)) >>= fun r1 =>
 app 1 r1 a0 >>= fun x3 =>
 some x3
def z9b (a0:Int):Option ((List UInt8)) :=
 if decide (0≤a0) then
  z2f (2 * (UInt64.ofInt a0)) >>= fun r2 =>
  some r2
 else
  z2f ((2 * (UInt64.ofInt (w64 (0 - (w64 (a0+1))))))+1) >>= fun r4 =>
  some r4
def z4u (a0:z05) (s11:(List UInt8) × Int):Option (Sum ((List UInt8)) ((List UInt8) × Int)) :=
 if decide (0≤s11.2) then
  chk (0≤w64 (8 * s11.2)) >>= fun u14 =>
  app 1 s11.1 [(z66 a0.Bits ((w64 (8 * s11.2):Int).toNat)).toUInt8] >>= fun x17 =>
  some (w64 (s11.2 - 1)) >>= fun y20 =>
  some (.inr (x17,y20))
 else
  some (.inl s11.1)
def za3 (a0:z05):Option ((List UInt8)) :=
 if a0.Kind==1 then
  z9b a0.Num >>= fun r4 =>
  app 1 [a0.Kind] r4 >>= fun x6 =>
  some x6
 else
  if a0.Kind==2 then
   (iter (z4u a0) ([a0.Kind],7)) >>= fun s10 =>
   some s10
  else
   chk (a0.Text.length≤281474976710656) >>= fun u22 =>
   z6z a0.Text >>= fun r24 =>
   app 1 [a0.Kind] r24 >>= fun x26 =>
   some x26
def z8k (a0:z04):Option ((List UInt8)) :=
 z2f a0.Author.toUInt64 >>= fun r3 =>
 app 1 [111] r3 >>= fun x5 =>
 zb5 a0.Preds >>= fun r8 =>
 app 1 x5 r8 >>= fun x10 =>
 z2f a0.Stamp >>= fun r13 =>
 app 1 x10 r13 >>= fun x15 =>
 app 1 x15 [a0.Act.Kind] >>= fun x19 =>
 (if a0.Act.Kind != 1 then
  chk (a0.Act.Key.length≤281474976710656) >>= fun u24 =>
  z6z a0.Act.Key >>= fun r26 =>
  app 1 x19 r26 >>= fun x28 =>
  some x28
 else
  some x19) >>= fun s22 =>
 if a0.Act.Kind==4 then
  za3 a0.Act.Value >>= fun r33 =>
  app 1 s22 r33 >>= fun x35 =>
  some x35
 else
  some s22
def za5 (a0:z04):Option ((List UInt8)) :=
 z8k a0 >>= fun r2 =>
 z2f a0.Sig.E.toUInt64 >>= fun r4 =>
 app 1 r2 r4 >>= fun x6 =>
 z2f a0.Sig.S.toUInt64 >>= fun r9 =>
 app 1 x6 r9 >>= fun x11 =>
 some x11
def zds  : Option ((Vector UInt32 8)) :=
 some (#v[1779033703,3144134277,1013904242,2773480762,1359893119,2600822924,528734635,1541459225]:Vector UInt32 8)
def z5d (a0:Int) (s3:(List UInt8)):Option (Sum ((List UInt8)) ((List UInt8))) :=
 if (Int.tmod (w64 ((w64 (a0+(s3.length:Int)))+8)) 64) != 0 then
  app 1 s3 [0] >>= fun x7 =>
  some (.inr x7)
 else
  some (.inl s3)
def z5e (a0:Int) (s12:(List UInt8) × Int):Option (Sum ((List UInt8)) ((List UInt8) × Int)) :=
 if decide (0≤s12.2) then
  chk (0≤w64 (8 * s12.2)) >>= fun u15 =>
  app 1 s12.1 [(z66 (8 * (UInt64.ofInt a0)) ((w64 (8 * s12.2):Int).toNat)).toUInt8] >>= fun x18 =>
  some (w64 (s12.2 - 1)) >>= fun y21 =>
  some (.inr (x18,y21))
 else
  some (.inl s12.1)
def zav (a0:Int):Option ((List UInt8)) :=
 (iter (z5d a0) [128]) >>= fun s2 =>
 (iter (z5e a0) (s2,7)) >>= fun s11 =>
 some s11
def z2c (a0:UInt32) (a1:Int):Option (UInt32) :=
 chk (0≤a1) >>= fun u1 =>
 chk (0≤w64 (32 - a1)) >>= fun u3 =>
 some ((z4y a0 ((a1:Int).toNat)) ||| (zmg a0 ((w64 (32 - a1):Int).toNat))) >>= fun y5 =>
 some y5
def zag  : Option ((List UInt32)) :=
 some [1116352408,1899447441,3049323471,3921009573,961987163,1508970993,2453635748,2870763221,3624381080,310598401,607225278,1426881987,1925078388,2162078206,2614888103,3248222580,3835390401,4022224774,264347078,604807628,770255983,1249150122,1555081692,1996064986,2554220882,2821834349,2952996808,3210313671,3336571891,3584528711,113926993,338241895,666307205,773529912,1294757372,1396182291,1695183700,1986661051,2177026350,2456956037,2730485921,2820302411,3259730800,3345764771,3516065817,3600352804,4094571909,275423344,430227734,506948616,659060556,883997877,958139571,1322822218,1537002063,1747873779,1955562222,2024104815,2227730452,2361852424,2428436474,2756734187,3204031479,3329325298]
def z48 (a1:List UInt8) (s4:(List UInt32) × Int):Option (Sum ((List UInt32)) ((List UInt32) × Int)) :=
 if decide (s4.2<16) then
  idx a1 (w64 (4 * s4.2)) >>= fun x7 =>
  idx a1 (w64 ((w64 (4 * s4.2))+1)) >>= fun x9 =>
  idx a1 (w64 ((w64 (4 * s4.2))+2)) >>= fun x11 =>
  idx a1 (w64 ((w64 (4 * s4.2))+3)) >>= fun x13 =>
  app 4 s4.1 [(((((x7.toUInt32 * 256)+x9.toUInt32) * 256)+x11.toUInt32) * 256)+x13.toUInt32] >>= fun x16 =>
  some (w64 (s4.2+1)) >>= fun y19 =>
  some (.inr (x16,y19))
 else
  some (.inl s4.1)
def z49 (s22:(List UInt32) × Int):Option (Sum ((List UInt32)) ((List UInt32) × Int)) :=
 if decide (s22.2<64) then
  idx s22.1 (w64 (s22.2 - 15)) >>= fun x25 =>
  idx s22.1 (w64 (s22.2 - 2)) >>= fun x27 =>
  idx s22.1 (w64 (s22.2 - 16)) >>= fun x29 =>
  idx s22.1 (w64 (s22.2 - 7)) >>= fun x31 =>
  z2c x25 7 >>= fun r33 =>
  z2c x25 18 >>= fun r36 =>
  z2c x27 17 >>= fun r39 =>
  z2c x27 19 >>= fun r42 =>
  app 4 s22.1 [((x29+x31)+((r33 ^^^ r36) ^^^ (z4y x25 3)))+((r39 ^^^ r42) ^^^ (z4y x27 10))] >>= fun x45 =>
  some (w64 (s22.2+1)) >>= fun y48 =>
  some (.inr (x45,y48))
 else
  some (.inl s22.1)
def z2p (s21:(List UInt32)) (r50:(List UInt32)) (s54:(Vector UInt32 8) × Int):Option (Sum ((Vector UInt32 8)) ((Vector UInt32 8) × Int)) :=
 if decide (s54.2<64) then
  z4w s54.1 0 >>= fun x56 =>
  z4w s54.1 1 >>= fun x58 =>
  z4w s54.1 2 >>= fun x60 =>
  z4w s54.1 4 >>= fun x62 =>
  z4w s54.1 5 >>= fun x64 =>
  z4w s54.1 6 >>= fun x66 =>
  z4w s54.1 7 >>= fun x68 =>
  idx r50 s54.2 >>= fun x70 =>
  idx s21 s54.2 >>= fun x72 =>
  z2c x62 6 >>= fun r74 =>
  z2c x62 11 >>= fun r76 =>
  z2c x62 25 >>= fun r78 =>
  some ((((x68+((r74 ^^^ r76) ^^^ r78))+((x62 &&& x64) ^^^ ((~~~x62) &&& x66)))+x70)+x72) >>= fun y80 =>
  z2c x56 2 >>= fun r81 =>
  z2c x56 13 >>= fun r83 =>
  z2c x56 22 >>= fun r85 =>
  some (((r81 ^^^ r83) ^^^ r85)+(((x56 &&& x58) ^^^ (x56 &&& x60)) ^^^ (x58 &&& x60))) >>= fun y87 =>
  z4w s54.1 3 >>= fun x88 =>
  some (w64 (s54.2+1)) >>= fun y90 =>
  some (.inr ((#v[y80+y87,x56,x58,x60,x88+y80,x62,x64,x66]:Vector UInt32 8),y90))
 else
  some (.inl s54.1)
def z1m (s53:(Vector UInt32 8)) (s92:(Vector UInt32 8) × Int):Option (Sum ((Vector UInt32 8)) ((Vector UInt32 8) × Int)) :=
 if decide (s92.2<8) then
  z4w s92.1 s92.2 >>= fun x94 =>
  z4w s53 s92.2 >>= fun x96 =>
  z4w s92.1 s92.2 >>= fun x98 =>
  some (w64 (s92.2+1)) >>= fun y100 =>
  some (.inr (zca s92.1 s92.2 (x94+x96),y100))
 else
  some (.inl s92.1)
def z94 (a0:Vector UInt32 8) (a1:List UInt8):Option ((Vector UInt32 8)) :=
 (iter (z48 a1) ([],0)) >>= fun s3 =>
 (iter (z49) (s3,16)) >>= fun s21 =>
 zag >>= fun r50 =>
 (iter (z2p s21 r50) (a0,0)) >>= fun s53 =>
 (iter (z1m s53) (a0,0)) >>= fun s91 =>
 some s91
def z4b (a1:List UInt8) (s4:(Vector UInt32 8) × Int):Option (Sum ((Vector UInt32 8)) ((Vector UInt32 8) × Int)) :=
 if decide ((w64 (s4.2+64))≤(a1.length:Int)) then
  cut a1 s4.2 (w64 (s4.2+64)) >>= fun x6 =>
  z94 s4.1 x6 >>= fun r8 =>
  some (w64 (s4.2+64)) >>= fun y10 =>
  some (.inr (r8,y10))
 else
  some (.inl s4.1)
def z98 (a0:Vector UInt32 8) (a1:List UInt8):Option ((Vector UInt32 8)) :=
 (iter (z4b a1) (a0,0)) >>= fun s3 =>
 some s3
def z3t (a0:Vector UInt32 8) (s5:V3 × Int):Option (Sum (V3) (V3 × Int)) :=
 if decide (s5.2<32) then
  z4w a0 (w64 (Int.tdiv s5.2 4)) >>= fun x7 =>
  chk (0≤w64 (24 - (w64 (8 * (Int.tmod s5.2 4))))) >>= fun u9 =>
  z4w s5.1 s5.2 >>= fun x11 =>
  some (w64 (s5.2+1)) >>= fun y13 =>
  some (.inr (zca s5.1 s5.2 ((z4y x7 ((w64 (24 - (w64 (8 * (Int.tmod s5.2 4)))):Int).toNat)).toUInt8),y13))
 else
  some (.inl s5.1)
def z8o (a0:Vector UInt32 8):Option (V3) :=
 (iter (z3t a0) ((Vector.replicate 32 0),0)) >>= fun s4 =>
 some s4
def zai (a0:List UInt8):Option (V3) :=
 zds >>= fun r2 =>
 app 1 ([]:List UInt8) a0 >>= fun x5 =>
 zav (a0.length:Int) >>= fun r8 =>
 app 1 x5 r8 >>= fun x10 =>
 z98 r2 x10 >>= fun r13 =>
 z8o r13 >>= fun r15 =>
 some r15
def zda (a0:z04):Option (V3) :=
 za5 a0 >>= fun r3 =>
 zai r3 >>= fun r5 =>
 some r5
def z5u (a0:V3) (a1:V3) (s4:Int):Option (Sum (Sum Int Unit) Int) :=
 if decide (s4<32) then
  z4w a0 s4 >>= fun x6 =>
  z4w a1 s4 >>= fun x8 =>
  if decide (x6<x8) then
   some (.inl (.inl (-1)))
  else
   z4w a0 s4 >>= fun x11 =>
   z4w a1 s4 >>= fun x13 =>
   if decide (x13<x11) then
    some (.inl (.inl 1))
   else
    some (.inr (w64 (s4+1)))
 else
  some (.inl (.inr ()))
def zc9 (a0:V3) (a1:V3):Option (Int) :=
 z36 (iter (z5u a0 a1) 0) fun s3 =>
 some 0
def z3d (a0:List V3) (s2:Int):Option (Sum (Sum Bool Unit) Int) :=
 if decide (s2<(a0.length:Int)) then
  idx a0 (w64 (s2 - 1)) >>= fun x4 =>
  idx a0 s2 >>= fun x6 =>
  zc9 x4 x6 >>= fun r8 =>
  if decide (0≤r8) then
   some (.inl (.inl false))
  else
   some (.inr (w64 (s2+1)))
 else
  some (.inl (.inr ()))
def z75 (a0:List V3):Option (Bool) :=
 z36 (iter (z3d a0) 1) fun s1 =>
 some true
def z4t (a2:UInt64) (s2:UInt64 × UInt64 × UInt64):Option (Sum UInt64 (UInt64 × UInt64 × UInt64)) :=
 if decide (0<s2.2.1) then
  (if (s2.2.1 % 2)==1 then
   chk (a2≠0) >>= fun u6 =>
   some ((s2.2.2 * s2.1) % a2) >>= fun y8 =>
   some y8
  else
   some s2.2.2) >>= fun s4 =>
  chk (a2≠0) >>= fun u9 =>
  some ((s2.1 * s2.1) % a2) >>= fun y11 =>
  some (.inr (y11,s2.2.1 / 2,s4))
 else
  some (.inl s2.2.2)
def z7q (a0:UInt64) (a1:UInt64) (a2:UInt64):Option (UInt64) :=
 (iter (z4t a2) (a0,a1,1)) >>= fun s1 =>
 some s1
def zal (a0:UInt32):Option (Bool) :=
 if decide (1≤a0) then
  if decide (a0<1000000007) then
   z7q a0.toUInt64 500000003 1000000007 >>= fun r3 =>
   some (r3==1)
  else
   some false
 else
  some false
def z58 (a0:List UInt8) (s4:Int):Option (Sum (Sum Bool Unit) Int) :=
 if decide (s4<(a0.length:Int)) then
  idx a0 s4 >>= fun x6 =>
  if decide (x6<33) then
   some (.inl (.inl false))
  else
   idx a0 s4 >>= fun x9 =>
   if decide (126<x9) then
    some (.inl (.inl false))
   else
    some (.inr (w64 (s4+1)))
 else
  some (.inl (.inr ()))
def z8e (a0:List UInt8):Option (Bool) :=
 if decide ((a0.length:Int)<1) then
  some false
 else
  if decide (20<(a0.length:Int)) then
   some false
  else
   z36 (iter (z58 a0) 0) fun s3 =>
   some true
def z81 (a0:UInt64):Option (Int) :=
 some (w64 (((a0 % 9223372036854775808) / 4503599627370496).toNat:Int)) >>= fun y1 =>
 some y1
def zas (a0:UInt64):Option (UInt64) :=
 some (a0 % 4503599627370496) >>= fun y1 =>
 some y1
def za1 (a0:UInt64):Option (UInt8) :=
 z81 a0 >>= fun r1 =>
 zas a0 >>= fun r3 =>
 z36 (if r1==0 then
  if r3==0 then
   some (.inl 1)
  else
   some (.inr ())
 else
  some (.inr ())) fun s5 =>
 if r1==0 then
  some 2
 else
  if decide (r1<2047) then
   some 3
  else
   if r3==0 then
    some 4
   else
    some 5
def za2 (a0:UInt64):Option (UInt64) :=
 za1 a0 >>= fun r1 =>
 if r1==5 then
  some 9221120237041090560
 else
  some a0
def z3a (a0:List UInt8) (s2:Int):Option (Sum (Sum Bool Unit) Int) :=
 if decide (s2<(a0.length:Int)) then
  idx a0 s2 >>= fun x4 =>
  if decide (x4<32) then
   some (.inl (.inl false))
  else
   idx a0 s2 >>= fun x7 =>
   if decide (126<x7) then
    some (.inl (.inl false))
   else
    some (.inr (w64 (s2+1)))
 else
  some (.inl (.inr ()))
def z7f (a0:List UInt8):Option (Bool) :=
 z36 (iter (z3a a0) 0) fun s1 =>
 some true
def za7 (a0:z05):Option (Int) :=
 if a0.Kind==1 then
  if a0.Bits==0 then
   if a0.Text==[] then
    some 0
   else
    some 8
  else
   some 8
 else
  if a0.Kind==2 then
   (if a0.Num==0 then
    if a0.Text==[] then
     za2 a0.Bits >>= fun r9 =>
     some (r9==a0.Bits)
    else
     some false
   else
    some false) >>= fun s6 =>
   if s6 then
    some 0
   else
    some 8
  else
   if a0.Kind==3 then
    (if a0.Num==0 then
     if a0.Bits==0 then
      if decide ((a0.Text.length:Int)≤30) then
       z7f a0.Text >>= fun r17 =>
       some r17
      else
       some false
     else
      some false
    else
     some false) >>= fun s13 =>
    if s13 then
     some 0
    else
     some 8
   else
    some 8
def z7z (a0:z0i):Option (Int) :=
 some (decide (a0.Value=(⟨0,0,0,[]⟩:z05))) >>= fun y2 =>
 if a0.Kind==1 then
  if a0.Key==[] then
   if y2 then
    some 0
   else
    some 8
  else
   some 8
 else
  (if a0.Kind==2 then
   some true
  else
   some (a0.Kind==3)) >>= fun s6 =>
  if s6 then
   z8e a0.Key >>= fun r9 =>
   if r9 then
    if y2 then
     some 0
    else
     some 8
   else
    some 8
  else
   if a0.Kind==4 then
    z8e a0.Key >>= fun r14 =>
    if r14 then
     za7 a0.Value >>= fun r17 =>
     if r17==0 then
      some 0
     else
      some 8
    else
     some 8
   else
    some 8
def z3q (a0:UInt32):Option (Bool) :=
 some (decide (a0.toUInt64<500000003)) >>= fun y1 =>
 some y1
def z7r (a0:z04):Option (Int) :=
 if decide (4<(a0.Preds.length:Int)) then
  some 4
 else
  z75 a0.Preds >>= fun r3 =>
  if !r3 then
   some 32
  else
   (zal a0.Author >>= fun r7 =>
   if !r7 then
    some true
   else
    if decide (1000000000000<a0.Stamp) then
     some true
    else
     z7z a0.Act >>= fun r11 =>
     if r11 != 0 then
      some true
     else
      z3q a0.Sig.E >>= fun r14 =>
      if !r14 then
       some true
      else
       z3q a0.Sig.S >>= fun r17 =>
       some (!r17)) >>= fun s6 =>
   if s6 then
    some 8
   else
    some 0
def z5t (a0:UInt32) (a1:UInt64):Option (UInt32) :=
 z7q a0.toUInt64 a1 1000000007 >>= fun r1 =>
 some r1.toUInt32
def zfa (a0:UInt32):Option (UInt32 × Int) :=
 zal a0 >>= fun r1 =>
 if !r1 then
  some (0,2)
 else
  z5t a0 500000002 >>= fun r4 =>
  some (r4,0)
def ze2 (a0:UInt64):Option (UInt32) :=
 z5t 4 a0 >>= fun r1 =>
 some r1
def zfg (a0:UInt32):Option (UInt32) :=
 ze2 a0.toUInt64 >>= fun r1 =>
 some r1
def zbo (a0:UInt32) (a1:UInt32):Option (UInt32) :=
 some (((a0.toUInt64 * a1.toUInt64) % 1000000007).toUInt32) >>= fun y1 =>
 some y1
def z8w (a0:UInt32):Option ((List UInt8)) :=
 some [(a0 / 16777216).toUInt8,((a0 / 65536) % 256).toUInt8,((a0 / 256) % 256).toUInt8,(a0 % 256).toUInt8]
def z4d (r1:V3) (s5:UInt64 × Int):Option (Sum UInt64 (UInt64 × Int)) :=
 if decide (s5.2<8) then
  z4w r1 s5.2 >>= fun x7 =>
  some ((256 * s5.1)+x7.toUInt64) >>= fun y9 =>
  some (w64 (s5.2+1)) >>= fun y10 =>
  some (.inr (y9,y10))
 else
  some (.inl s5.1)
def z9h (a0:List UInt8):Option (UInt64) :=
 zai a0 >>= fun r1 =>
 (iter (z4d r1) (0,0)) >>= fun s4 =>
 some s4
def z7d (a0:UInt32) (a1:UInt32) (a2:List UInt8):Option (UInt32) :=
 z8w a0 >>= fun r2 =>
 app 1 [99] r2 >>= fun x4 =>
 z8w a1 >>= fun r7 =>
 app 1 x4 r7 >>= fun x9 =>
 app 1 x9 a2 >>= fun x12 =>
 z9h x12 >>= fun r15 =>
 some ((r15 % 500000003).toUInt32) >>= fun y17 =>
 some y17
def z9y (a0:UInt32) (a1:List UInt8) (a2:z0b):Option (Bool) :=
 z3q a2.E >>= fun r2 =>
 if !r2 then
  some false
 else
  z3q a2.S >>= fun r5 =>
  if !r5 then
   some false
  else
   z5t a0 a2.E.toUInt64 >>= fun r8 =>
   zfa r8 >>= fun r10 =>
   zfg a2.S >>= fun r12 =>
   zbo r12 r10.1 >>= fun r14 =>
   z7d r14 a0 a1 >>= fun r16 =>
   some (r16==a2.E)
def zcq (a0:z04):Option (Bool) :=
 z8k a0 >>= fun r2 =>
 z9y a0.Author r2 a0.Sig >>= fun r4 =>
 some r4
def z9i (a0:z04):Option (Int) :=
 z7r a0 >>= fun r2 =>
 if r2 != 0 then
  z7r a0 >>= fun r5 =>
  some r5
 else
  zcq a0 >>= fun r7 =>
  if !r7 then
   some 22
  else
   some 0
end
section
open Go Go.RowKit
set_option maxRecDepth 100000
def z0e (a0:List V3) (a1:V3) (s4:Int × Int):Option (Sum Int (Int × Int)) :=
 if decide (s4.1<s4.2) then
  some (w64 ((z66 (UInt64.ofInt (w64 (s4.1+s4.2))) 1).toNat:Int)) >>= fun y6 =>
  idx a0 y6 >>= fun x7 =>
  z70 x7 a1 >>= fun r9 =>
  if decide (r9<0) then
   some (.inr (w64 (y6+1),s4.2))
  else
   some (.inr (s4.1,y6))
 else
  some (.inl s4.1)
def z0f (a0:List V3) (a1:V3):Option (Int × Bool) :=
 some (a0.length:Int) >>= fun y2 =>
 (iter (z0e a0 a1) (0,y2)) >>= fun s3 =>
 if decide (s3<y2) then
  idx a0 s3 >>= fun x13 =>
  z70 x13 a1 >>= fun r15 =>
  some (s3,r15==0)
 else
  some (s3,false)
theorem z3s (a0:List V3) (a1:V3):z2t Tryz.prog 106 [.rd (z02 aZ) a0,.rd aZ a1,.val (.func (.func 69) #[] #[])] [] (z0f a0 a1) (fun r nv=>⟨[.rd z08 r.1,.rd z0w r.2],[]⟩):=by
 refine z3n 49 Tryz.func106 Z Z Z fun H w=>?_
 refine gSR<|Eb Z (bx 1 Z) fun v1=>Za Z<|Zb Z<|gSR<|Zm Z<|Zq (z3r Z .rd Z tu46)<|Za Z<|z40 8 Z fun y2=>Zn<|gSR<|Zm Z<|Za Z<|Zb Z<|zaj (fun (s3:Int) aa ww=>Sta (ctx 49 H [] w) [(0,.rd (z02 aZ) a0),(2,.val (.func (.func 69) #[] #[])),(4,.val (z0a v1 0)),(8,.rd z08 y2),(9,.rd z08 s3)] [(1,some (v1,.box 94 [.rd aZ a1]))] aa ww) ?_ (fun s3=>?_)
 ·
  refine z2h (fun (s4:Int × Int) aa ww=>Sta (ctx 49 H [] w) [(0,.rd (z02 aZ) a0),(2,.val (.func (.func 69) #[] #[])),(4,.val (z0a v1 0)),(8,.rd z08 y2),(9,.rd z08 s4.1),(10,.rd z08 s4.2)] [(1,some (v1,.box 94 [.rd aZ a1]))] aa ww) (fun aa ww h=>Zu h [1]) (fun s4=>?_)
  refine z0v<|gSR<|Zm Z<|Zm Z<|Zq (I.lss Z Z)<|Zj Z (fun h5=>?_) (fun h5=>?_)
  ·
   refine Zt<|z5y<|gSR<|Zm Z<|Zm Z<|Zq (I.add Z Z)<|Zq (I.toU Z tu3 Tryz.underlying76)<|Zq (U.shr Z Z (Int.natCast_nonneg _))<|Zq (U.toI Z Tryz.underlying76 tu3)<|Za Z<|z40 11 Z fun y6=>Zn<|z0v<|z90 [] z4j Z Z<|hTk 0 Z Z (mv Z)<|hTk 1 Z Z (mv Z)<|hTk 2 Z Z (mv Z)<|z7e fun x7 h8=>hTk 3 Z Z (ixR Z Z h8 tu46 z7g Z)<|hTk 4 Z Z (ldR Z zbe)<|hTk 5 Z Z (ld 1 Z Z fH zbe Z)<|zpt 6 [] [] Z (by kernel_rfl) Z (gd0 Z) Z Tryz.func69 Z Z Z (z8u _ _) (Y2 Z Z) (cN) Z rN Z (fun _ _=>z7s) fun r9 n10=>hTk 7 Z Z (I.lss Z Z)<|z5r (by kernel_rfl)<|z0y<|gIf Z Z (fun h11=>?_) (fun h11=>?_)
   ·
    refine z2o<|Zm Z<|Zq (I.add Z Z)<|Za Z<|z20<|z44<|z23 (fun aa ww h=>Zu h [1])
   ·
    refine z2o<|Zm Z<|Za Z<|z20<|z44<|z23 (fun aa ww h=>Zu h [1])
  ·
   refine z2i<|z1b<|z1a<|z4a (fun aa ww h=>Zu h [1])
 ·
  refine z0v<|z90 [] z4j Z Z<|hTk 0 Z Z (mv Z)<|hTk 1 Z Z (mv Z)<|hTk 2 Z Z (mv Z)<|hTk 3 Z Z (I.lss Z Z)<|hTk 4 Z Z (mv Z)<|hIf 39 Z Z (fun h12=>?_) (fun h12=>?_)
  ·
   refine hKn 38 Z Z h12<|Zg 5 Z Z (mv Z)<|Zg 6 Z Z (mv Z)<|Zg 7 Z Z (mv Z)<|z7e fun x13 h14=>Zg 8 Z Z (ixR Z Z h14 tu46 z7g Z)<|Zg 9 Z Z (ldR Z zbe)<|Zg 10 Z Z (ld 1 Z Z fH zbe Z)<|zpt 11 [] [] Z (by kernel_rfl) Z Zx Z Tryz.func69 Z Z Z (z8u _ _) (Y2 Z Z) (cN) Z rN Z (fun _ _=>z7s) fun r15 n16=>Zg 12 Z Z (I.eql Z Z)<|hTk 13 Z Z (pkT Z Z)<|hTk 14 Z Z (asg Z)<|hTk 15 Z Z (asg Z)<|z5r (by kernel_rfl)<|z0y<|z0r<|Ze [] [] Z
  ·
   refine hKn 38 Z Z h12<|hSk 5 Z Z<|hSk 6 Z Z<|hSk 7 Z Z<|hSk 8 Z Z<|hSk 9 Z Z<|hSk 10 Z Z<|hSk 11 Z Z<|hSk 12 Z Z<|hTk 13 Z Z (pkF Z Z)<|hTk 14 Z Z (asg Z)<|hTk 15 Z Z (asg Z)<|z5r (by kernel_rfl)<|z0y<|z0r<|Ze [] [] Z
def zbn (a0:z00) (a1:V3):Option (Int × Bool) :=
 z0f a0.IDs a1 >>= fun r3 =>
 some (r3.1,r3.2)
theorem zfi (a0:z00) (a1:V3):z2t Tryz.prog 76 [.rd z01 a0,.rd aZ a1] [] (zbn a0 a1) (fun r nv=>⟨[.rd z08 r.1,.rd z0w r.2],[]⟩):=by
 refine z3n 12 Tryz.func76 Z Z Z fun H w=>?_
 refine gSR<|Eb Z (bx 1 Z) fun v1=>Eb Z (bx 2 Z) fun v2=>Za Z<|Zb Z<|gSR<|Zq (faB 1 Z Z Tryz.underlying49 Z (by exact zbt))<|Zq (ld 1 Z Z (fP (z0q _)) zcn Z)<|Zq (ld 2 Z Z fH zbe Z)<|Zc [] [] Tryz.func106 Z (z3s _ _) fun r3 n4=>Zq (ext Z Z)<|Zq (ext Z Z)<|Za Z<|Zb Z<|z0r<|Ze [] [] Z
def z6t (a0:z00) (s3:Int):Option (Sum (Sum Int Unit) Int) :=
 if decide (s3<(a0.IDs.length:Int)) then
  idx a0.IDs (w64 (s3 - 1)) >>= fun x5 =>
  idx a0.IDs s3 >>= fun x7 =>
  z70 x5 x7 >>= fun r9 =>
  if decide (0≤r9) then
   some (.inl (.inl 32))
  else
   some (.inr (w64 (s3+1)))
 else
  some (.inl (.inr ()))
def z85 (a0:z00) (s19:(List Int) × (List (List Int)) × (List Int) × Int) (x22:z04) (s26:(List (List Int)) × Int):Option (Sum (Sum (Sum (Sum Int ((List Int) × (List (List Int)) × (List Int))) ((List Int) × (List (List Int)) × (List Int) × Int)) ((List (List Int)))) ((List (List Int)) × Int)) :=
 if decide (s26.2<(x22.Preds.length:Int)) then
  idx x22.Preds s26.2 >>= fun x29 =>
  zbn a0 x29 >>= fun r32 =>
  if !r32.2 then
   some (.inl (.inl (.inl (.inl 40))))
  else
   idx s26.1 r32.1 >>= fun x35 =>
   app 8 x35 [s19.2.2.2] >>= fun x38 =>
   some (.inr (s26.1.set (r32.1:Int).toNat x38,w64 (s26.2+1)))
 else
  some (.inl (.inr s26.1))
def z84 (a0:z00) (s19:(List Int) × (List (List Int)) × (List Int) × Int):Option (Sum (Sum Int ((List Int) × (List (List Int)) × (List Int))) ((List Int) × (List (List Int)) × (List Int) × Int)) :=
 if decide (s19.2.2.2<(a0.Ops.length:Int)) then
  idx a0.Ops s19.2.2.2 >>= fun x22 =>
  z36 (iter (z85 a0 s19 x22) (s19.2.1,0)) fun s25 =>
  idx s19.1 s19.2.2.2 >>= fun x42 =>
  idx (s19.1.set (s19.2.2.2:Int).toNat (x22.Preds.length:Int)) s19.2.2.2 >>= fun x44 =>
  if x44==0 then
   app 8 s19.2.2.1 [s19.2.2.2] >>= fun x48 =>
   some (.inr (s19.1.set (s19.2.2.2:Int).toNat (x22.Preds.length:Int),s25,x48,w64 (s19.2.2.2+1)))
  else
   some (.inr (s19.1.set (s19.2.2.2:Int).toNat (x22.Preds.length:Int),s25,s19.2.2.1,w64 (s19.2.2.2+1)))
 else
  some (.inl (.inr (s19.1,s19.2.1,s19.2.2.1)))
def z86 (x59:List Int) (s61:(List Int) × (List Int) × Int):Option (Sum ((List Int) × (List Int)) ((List Int) × (List Int) × Int)) :=
 if decide (s61.2.2<(x59.length:Int)) then
  idx x59 s61.2.2 >>= fun x64 =>
  idx s61.1 x64 >>= fun x66 =>
  idx s61.1 x64 >>= fun x68 =>
  idx (s61.1.set (x64:Int).toNat (w64 (x66 - 1))) x64 >>= fun x70 =>
  if x70==0 then
   app 8 s61.2.1 [x64] >>= fun x74 =>
   some (.inr (s61.1.set (x64:Int).toNat (w64 (x66 - 1)),x74,w64 (s61.2.2+1)))
  else
   some (.inr (s61.1.set (x64:Int).toNat (w64 (x66 - 1)),s61.2.1,w64 (s61.2.2+1)))
 else
  some (.inl (s61.1,s61.2.1))
def z9s (s18:(List Int) × (List (List Int)) × (List Int)) (s53:(List Int) × (List Int) × Int):Option (Sum Int ((List Int) × (List Int) × Int)) :=
 if decide (s53.2.2<(s53.2.1.length:Int)) then
  (idx s53.2.1 s53.2.2 >>= fun x57 =>
  idx s18.2.1 x57 >>= fun x59 =>
  iter (z86 x59) (s53.1,s53.2.1,0)) >>= fun s56 =>
  some (w64 (s53.2.2+1)) >>= fun y78 =>
  some (.inr (s56.1,s56.2,y78))
 else
  some (.inl s53.2.2)
def ze4 (a0:z00):Option (Int) :=
 z36 (iter (z6t a0) 1) fun s2 =>
 mkn 8 0 (a0.Ops.length:Int) >>= fun x12 =>
 mkn 24 ([]:List Int) (a0.Ops.length:Int) >>= fun x15 =>
 z36 (iter (z84 a0) (x12,x15,[],0)) fun s18 =>
 (iter (z9s s18) (s18.1,s18.2.2,0)) >>= fun s52 =>
 if decide (s52<(a0.Ops.length:Int)) then
  some 36
 else
  some 0
theorem zhq (a0:z00):z2t Tryz.prog 67 [.rd z01 a0] [] (ze4 a0) (fun r nv=>⟨[.rd z08 r],[]⟩):=by
 refine z3n 133 Tryz.func67 Z Z Z fun H w=>?_
 refine gSR<|Eb Z (bx 1 Z) fun v1=>Zb Z<|z5m (fun (s2:Unit) aa ww=>Sta (ctx 133 H [] w) [(1,.val (z0a v1 0))] [(1,some (v1,.box 49 [.rd z01 a0]))] aa ww) ?_ (fun s2=>?_)
 ·
  refine gSR<|Zb Z<|z2h (fun (s3:Int) aa ww=>Sta (ctx 133 H [] w) [(1,.val (z0a v1 0)),(3,.rd z08 s3)] [(1,some (v1,.box 49 [.rd z01 a0]))] aa ww) (fun aa ww h=>h.sub [1] (sS Z<|sS Z<|sN) (y1 Z)) (fun s3=>?_)
  refine z0v<|gSR<|Zm Z<|Zq (faB 1 Z Z Tryz.underlying49 Z (by exact zbt))<|Zq (ld 1 Z Z (fP (z0q _)) zcn Z)<|Zq (z3r Z .rd Z tu46)<|Zq (I.lss Z Z)<|Zj Z (fun h4=>?_) (fun h4=>?_)
  ·
   refine Zt<|z0v<|z5y<|z0v<|z90 [] z4j Z Z<|hTk 0 Z Z (faB 1 Z Z Tryz.underlying49 Z (by exact zbt))<|hTk 1 Z Z (ld 1 Z Z (fP (z0q _)) zcn Z)<|hTk 2 Z Z (mv Z)<|hTk 3 Z Z (I.sub Z Z)<|z7e fun x5 h6=>hTk 4 Z Z (ixR Z Z h6 tu46 z7g Z)<|hTk 5 Z Z (ldR Z zbe)<|hTk 6 Z Z (faB 1 Z Z Tryz.underlying49 Z (by exact zbt))<|hTk 7 Z Z (ld 1 Z Z (fP (z0q _)) zcn Z)<|hTk 8 Z Z (mv Z)<|z7e fun x7 h8=>hTk 9 Z Z (ixR Z Z h8 tu46 z7g Z)<|hTk 10 Z Z (ldR Z zbe)<|z79 11 [] [] Z (by kernel_rfl) Z (gd0 Z) Z Tryz.func69 Z Z (z8u _ _) (Y2 Z Z) rN Z (fun _ _=>z7s) fun r9 n10=>hTk 12 Z Z (I.geq Z Z)<|z5r (by kernel_rfl)<|z0y<|gIf Z Z (fun h11=>?_) (fun h11=>?_)
   ·
    refine gSR<|Zb Z<|z0r<|z42<|z0s<|z55<|z4q<|zbi [] [] Z (eE Z<|eN) (rN)
   ·
    refine z41<|z44<|z0y<|z2o<|Zm Z<|Zq (I.add Z Z)<|Za Z<|z20<|z23 (fun aa ww h=>h.sub [1] (sS Z<|sS Z<|sN) (y1 Z))
  ·
   refine z2i<|z1b<|z1a<|z53 (fun aa ww h=>h.sub [1] (sS Z<|sN) (y1 Z))
 ·
  refine gSR<|Zq (faB 1 Z Z Tryz.underlying49 Z (by exact zde))<|Zq (ld 1 Z Z (fP (z0m _)) zif Z)<|Zq (z3r Z .rd Z tu47)<|z11 fun x12 h13=>Ef Z (mks (R:=z08) 44 Z Z h13 tu54 ti3 (Zr.num Z) Z) fun v14=>Zb Z<|gSR<|Zq (faB 1 Z Z Tryz.underlying49 Z (by exact zde))<|Zq (ld 1 Z Z (fP (z0m _)) zif Z)<|Zq (z3r Z .rd Z tu47)<|z11 fun x15 h16=>Ef Z (mksF 45 Z Z h16 tu50 zpv Z) fun v17=>z15j (base:=100000) (lits:=[(1,some (v1,.box 49 [.rd z01 a0])),(44,some (v14,.list z08 3 x12)),(45,some (v17,.list zfb 54 (z8l (fun _=>Value.slice none 0 0) x15)))]) z08 3 [1,44,45] (z10j h16) (Zi Z<|Zi Z<|Zi Z<|rN)<|Zb Z<|gSR<|Zb Z<|z5m (fun (s18:(List Int) × (List (List Int)) × (List Int)) aa ww=>∃ nv:Nat→Value,Sta (ctx 133 H [] w) [(1,.val (z0a v1 0)),(4,.val v14),(5,.val v17),(6,.val (nv 0))] ([(1,some (v1,.box 49 [.rd z01 a0])),(44,some (v14,.list z08 3 s18.1)),(45,some (v17,.list zfb 54 (z8l (fun j=>nv (j+1)) s18.2.1))),(50,some ((nv 0),.list z08 3 s18.2.2))]++zmh 100000 z08 3 (fun j=>nv (j+1)) s18.2.1 0) aa ww) ?_ (fun s18=>?_)
  ·
   refine gSR<|Zq (faB 1 Z Z Tryz.underlying49 Z (by exact zde))<|Zq (ld 1 Z Z (fP (z0m _)) zif Z)<|Zq (z3r Z .rd Z tu47)<|Zm Z<|Zn<|zt4 z08 3 56<|z2h (fun (s19:(List Int) × (List (List Int)) × (List Int) × Int) aa ww=>∃ nv:Nat→Value,Sta (ctx 133 H [] w) [(1,.val (z0a v1 0)),(4,.val v14),(5,.val v17),(6,.val (nv 0)),(45,.rd (z02 z03) a0.Ops),(46,.rd z08 (a0.Ops.length:Int)),(47,.rd z08 s19.2.2.2)] ([(1,some (v1,.box 49 [.rd z01 a0])),(44,some (v14,.list z08 3 s19.1)),(45,some (v17,.list zfb 54 (z8l (fun j=>nv (j+1)) s19.2.1))),(55,some ((nv 0),.list z08 3 s19.2.2.1))]++zmh 100000 z08 3 (fun j=>nv (j+1)) s19.2.1 0) aa ww) (fun aa ww h=>⟨nvlF [(.slice none 0 0)] (fun _=>Value.slice none 0 0),h.subF (by repeat (first | refine z5o.cons Z ?_ | exact z5o.tail)) [1,44,45,56] (Zs Z Z Z Z<|sS Z<|sS Z<|sS Z<|sN) (Zi Z<|Zi Z<|Zi Z<|Zi Z<|rN) rfl⟩) (fun s19=>?_)
   refine gEx fun n20=>gSR<|Zq (I.lss Z Z)<|Zn<|z0v<|gIf Z Z (fun h21=>?_) (fun h21=>?_)
   ·
    refine Zt<|z0v<|z5y<|gSR<|Zm Z<|z11 fun x22 h23=>Zq (ixR Z Z h23 tu47 z80 Z)<|Zq (ldR Z zcv)<|Eb Z (z6m 57 z80 (ZrE.rd (R:=z10) (x:=0) (Zr.num Z) (ZrE.nilS (ZrE.rd (R:=z2b) (x:=0) (Zr.num Z) (ZrE.rd (R:=z0k) (x:=(⟨0,[],(⟨0,0,0,[]⟩:z05)⟩:z0i)) zmr (ZrE.rd (R:=z0l) (x:=(⟨0,0⟩:z0b)) zmk ZrE.nil Z) Z) Z)) Z)) fun v24=>Za Z<|z8x aZ [.rd z10 0,.rd (z02 aZ) [],.rd z2b 0,.rd z0k (⟨0,[],(⟨0,0,0,[]⟩:z05)⟩:z0i),.rd z0l (⟨0,0⟩:z0b)] 57 [.rd z10 0] [.rd z2b 0,.rd z0k (⟨0,[],(⟨0,0,0,[]⟩:z05)⟩:z0i),.rd z0l (⟨0,0⟩:z0b)] Z Z Z<|zbf (R:=z03) (⟨0,[],0,(⟨0,[],(⟨0,0,0,[]⟩:z05)⟩:z0i),(⟨0,0⟩:z0b)⟩:z04) 57 Z (Sp.via (Sp.prod (Sp.prod (Sp.prod (Sp.prod (Sp.prod Sp.unit))))))<|Es (sto 57 Z Z fH Z z80)<|Zn<|z5m (fun (s25:(List (List Int))) aa ww=>∃ nv:Nat→Value,Sta (ctx 133 H [] w) [(1,.val (z0a v1 0)),(4,.val v14),(5,.val v17),(6,.val (n20 0)),(7,.rd z08 s19.2.2.2),(8,.val (z0a v24 0)),(45,.rd (z02 z03) a0.Ops),(46,.rd z08 (a0.Ops.length:Int)),(47,.rd z08 s19.2.2.2)] ([(1,some (v1,.box 49 [.rd z01 a0])),(44,some (v14,.list z08 3 s19.1)),(45,some (v17,.list zfb 54 (z8l (fun j=>nv (j+0)) s25))),(55,some ((n20 0),.list z08 3 s19.2.2.1)),(57,some (v24,.box 86 [.rd z03 x22]))]++zmh 100000 z08 3 (fun j=>nv (j+0)) s25 0) aa ww) ?_ (fun s25=>?_)
    ·
     refine gSR<|Zq (faB 57 Z Z Tryz.underlying86 Z (by exact zbt))<|Zq (ld 57 Z Z (fP (z1h _)) zcn Z)<|Zq (z3r Z .rd Z tu46)<|Zm Z<|Zn<|z2h (fun (s26:(List (List Int)) × Int) aa ww=>∃ nv:Nat→Value,Sta (ctx 133 H [] w) [(1,.val (z0a v1 0)),(4,.val v14),(5,.val v17),(6,.val (n20 0)),(7,.rd z08 s19.2.2.2),(8,.val (z0a v24 0)),(45,.rd (z02 z03) a0.Ops),(46,.rd z08 (a0.Ops.length:Int)),(47,.rd z08 s19.2.2.2),(53,.rd (z02 aZ) x22.Preds),(54,.rd z08 (x22.Preds.length:Int)),(55,.rd z08 s26.2)] ([(1,some (v1,.box 49 [.rd z01 a0])),(44,some (v14,.list z08 3 s19.1)),(45,some (v17,.list zfb 54 (z8l (fun j=>nv (j+0)) s26.1))),(55,some ((n20 0),.list z08 3 s19.2.2.1)),(57,some (v24,.box 86 [.rd z03 x22]))]++zmh 100000 z08 3 (fun j=>nv (j+0)) s26.1 0) aa ww) (fun aa ww h=>⟨nvlF [] (fun j=>n20 (j+1)),h.subF (by repeat (first | refine z5o.cons Z ?_ | exact z5o.tail)) [1,44,45,55,57] (Zs Z Z Z Z<|Zs Z Z Z Z<|Zs Z Z Z Z<|sN) (Zi Z<|Zi Z<|Zi Z<|Zi Z<|Zi Z<|rN) rfl⟩) (fun s26=>?_)
     refine gEx fun n27=>gSR<|Zq (I.lss Z Z)<|Zn<|z0v<|gIf Z Z (fun h28=>?_) (fun h28=>?_)
     ·
      refine Zt<|z0v<|z5y<|gSR<|z11 fun x29 h30=>Zq (ixR Z Z h30 tu46 z7g Z)<|Zq (ldR Z zbe)<|Eb Z (z6m 58 z7g (.zr (R:=aZ) (x:=(Vector.replicate 32 0)) zmx)) fun v31=>Es (sto 58 Z Z fH Z z7g)<|Zn<|gSR<|Zq (ld 1 Z Z fH z7n Z)<|Zq (ld 58 Z Z fH zbe Z)<|call [] [] Z Tryz.func76 Z Z (zfi _ _) (Y2 Z Z) rN fun r32 n33=>Zm Z<|Zq (ext Z Z)<|Zq (ext Z Z)<|Za Z<|Zb Z<|z0v<|gSR<|Zm Z<|Zq (zgz Z)<|Zj Z (fun h34=>?_) (fun h34=>?_)
      ·
       refine gSR<|Zb Z<|z0r<|z0s<|z42<|z0s<|z55<|z4q<|z42<|z0s<|z55<|z4q<|zbi [] [] Z (eE Z<|eN) (rN)
      ·
       refine Zt<|z2o<|Zm Z<|Zm Z<|Zm Z<|Zm Z<|z11 fun x35 h36=>Zq (ixO 45 Z Z Z (zly h36) tu50 zpv)<|Zq (ldF 45 Z Z h36 zzm Z)<|Zm Z<|Ef Z (lit (R:=z08) ([s19.2.2.2]:List Int) 59 (pP Z Z<|pN) Z tu54 ti3 Z Z) fun v37=>z11 fun x38 h39=>lApF (base:=100000) (lits:=[(1,some (v1,.box 49 [.rd z01 a0])),(44,some (v14,.list z08 3 s19.1)),(55,some ((n20 0),.list z08 3 s19.2.2.1)),(57,some (v24,.box 86 [.rd z03 x22])),(58,some (v31,.box 94 [.rd aZ x29])),(59,some (v37,.list z08 3 [s19.2.2.2]))]) 45 [1,44,55,57,58,59] (by repeat (first | refine z5o.cons Z ?_ | exact z5o.tail)) Z Z Z h36 Z Z Z Z (.own 59 Z) h39 Z (fun _ h=>by cases h; rfl) (fun _ h=>by cases h; rfl) Z Z tu54 ti3 Z Z Z tu50 zpv zzm (Zi Z<|Zi Z<|Zi Z<|Zi Z<|Zi Z<|Zi Z<|rN) Z fun v40=>z20<|z44<|z0y<|z2o<|Zq (I.add Z Z)<|Zm Z<|z20<|z23 (fun aa ww h=>⟨nvlF [] (zwx (fun j=>n27 (j+0)) (r32.1:Int).toNat v40),h.subF (by repeat (first | refine z5o.cons Z ?_ | exact z5o.tail)) [1,44,45,55,57] (Zs Z Z Z Z<|Zs Z Z Z Z<|Zs Z Z Z Z<|sN) (Zi Z<|Zi Z<|Zi Z<|Zi Z<|Zi Z<|rN) rfl⟩)
     ·
      refine z2i<|z1b<|z1a<|z53 (fun aa ww h=>⟨nvlF [] (fun j=>n27 (j+0)),h.subF (by repeat (first | refine z5o.cons Z ?_ | exact z5o.tail)) [1,44,45,55,57] (Zs Z Z Z Z<|Zs Z Z Z Z<|sS Z<|sN) (Zi Z<|Zi Z<|Zi Z<|Zi Z<|Zi Z<|rN) rfl⟩)
    ·
     refine gEx fun n41=>gSR<|Zm Z<|Zm Z<|Zq (faB 57 Z Z Tryz.underlying86 Z (by exact zbt))<|Zq (ld 57 Z Z (fP (z1h _)) zcn Z)<|Zq (z3r Z .rd Z tu46)<|z11 fun x42 h43=>Zq (ixO 44 Z Z Z h43 tu54 ti3)<|Es (sto 44 Z Z (Foc.el h43) Z ti3)<|Zn<|gSR<|Zm Z<|Zm Z<|z11 fun x44 h45=>Zq (ixO 44 Z Z Z h45 tu54 ti3)<|Zq (ld 44 Z Z (Foc.el h45) ty3 Z)<|Zq (I.eql Z Z)<|Zj Z (fun h46=>?_) (fun h46=>?_)
     ·
      refine z2o<|Zm Z<|Zm Z<|Ef Z (lit (R:=z08) ([s19.2.2.2]:List Int) 60 (pP Z Z<|pN) Z tu54 ti3 Z Z) fun v47=>z11 fun x48 h49=>Ef Z (apn 55 Z Z Z (.own 60 Z) h49 tu54 ti3 Z Z Z) fun v50=>Za Z<|z20<|z44<|z0y<|z2o<|Zq (I.add Z Z)<|Zm Z<|z20<|z23 (fun aa ww h=>⟨nvlF [v50] (fun j=>n41 (j+0)),h.subF (by repeat (first | refine z5o.cons Z ?_ | exact z5o.tail)) [1,44,45,55] (Zs Z Z Z Z<|sS Z<|sS Z<|sS Z<|sN) (Zi Z<|Zi Z<|Zi Z<|Zi Z<|rN) rfl⟩)
     ·
      refine z41<|z44<|z0y<|z2o<|Zq (I.add Z Z)<|Zm Z<|z20<|z23 (fun aa ww h=>⟨nvlF [(n20 0)] (fun j=>n41 (j+0)),h.subF (by repeat (first | refine z5o.cons Z ?_ | exact z5o.tail)) [1,44,45,55] (Zs Z Z Z Z<|sS Z<|sS Z<|sS Z<|sN) (Zi Z<|Zi Z<|Zi Z<|Zi Z<|rN) rfl⟩)
   ·
    refine z2i<|z1b<|z1a<|z53 (fun aa ww h=>⟨nvlF [(n20 0)] (fun j=>n20 (j+1)),h.subF (by repeat (first | refine z5o.cons Z ?_ | exact z5o.tail)) [1,44,45,55] (Zs Z Z Z Z<|sN) (Zi Z<|Zi Z<|Zi Z<|Zi Z<|rN) rfl⟩)
  ·
   refine gEx fun n51=>gSR<|Zb Z<|zaj (fun (s52:Int) aa ww=>Sta (ctx 133 H [] w) [(1,.val (z0a v1 0)),(13,.rd z08 s52)] [(1,some (v1,.box 49 [.rd z01 a0]))] aa ww) ?_ (fun s52=>?_)
   ·
    refine z160 (base:=100000) (T:=3) (lits:=[(1,some (v1,.box 49 [.rd z01 a0])),(44,some (v14,.list z08 3 s18.1)),(50,some ((n51 0),.list z08 3 s18.2.2))]) (by repeat (first | refine z5o.cons Z ?_ | exact z5o.tail)) 45 Z [1,44,50] (Zi Z<|Zi Z<|Zi Z<|rN) Z Z<|z2h (fun (s53:(List Int) × (List Int) × Int) aa ww=>∃ nv:Nat→Value,Sta (ctx 133 H [] w) [(1,.val (z0a v1 0)),(4,.val v14),(5,.val v17),(6,.val (nv 0)),(13,.rd z08 s53.2.2)] [(1,some (v1,.box 49 [.rd z01 a0])),(44,some (v14,.list z08 3 s53.1)),(45,some (v17,.list (z02 z08) 54 s18.2.1)),(50,some ((nv 0),.list z08 3 s53.2.1))] aa ww) (fun aa ww h=>⟨nvl [(n51 0)],h.sub [1,44,45,50] (Zs Z Z Z Z<|sS Z<|sN) (Zi Z<|Zi Z<|Zi Z<|Zi Z<|rN)⟩) (fun s53=>?_)
    refine gEx fun n54=>z0v<|gSR<|Zm Z<|Zm Z<|Zq (z3r Z (.own 50 Z) Z tu54)<|Zq (I.lss Z Z)<|Zj Z (fun h55=>?_) (fun h55=>?_)
    ·
     refine Zt<|zaj (fun (s56:(List Int) × (List Int)) aa ww=>∃ nv:Nat→Value,Sta (ctx 133 H [] w) [(1,.val (z0a v1 0)),(4,.val v14),(5,.val v17),(6,.val (nv 0)),(13,.rd z08 s53.2.2)] [(1,some (v1,.box 49 [.rd z01 a0])),(44,some (v14,.list z08 3 s56.1)),(45,some (v17,.list (z02 z08) 54 s18.2.1)),(50,some ((nv 0),.list z08 3 s56.2))] aa ww) ?_ (fun s56=>?_)
     ·
      refine z5y<|gSR<|Zm Z<|Zm Z<|Zm Z<|z11 fun x57 h58=>Zq (ixO 50 Z Z Z h58 tu54 ti3)<|Zq (ld 50 Z Z (Foc.el h58) ty3 Z)<|z11 fun x59 h60=>Zq (ixO 45 Z Z Z h60 tu50 zpv)<|Zq (ld 45 Z Z (Foc.el h60) zzm Z)<|Zq (z3r Z .rd Z tu54)<|Zm Z<|Zn<|z2h (fun (s61:(List Int) × (List Int) × Int) aa ww=>∃ nv:Nat→Value,Sta (ctx 133 H [] w) [(1,.val (z0a v1 0)),(4,.val v14),(5,.val v17),(6,.val (nv 0)),(13,.rd z08 s53.2.2),(106,.rd (z02 z08) x59),(107,.rd z08 (x59.length:Int)),(108,.rd z08 s61.2.2)] [(1,some (v1,.box 49 [.rd z01 a0])),(44,some (v14,.list z08 3 s61.1)),(45,some (v17,.list (z02 z08) 54 s18.2.1)),(50,some ((nv 0),.list z08 3 s61.2.1))] aa ww) (fun aa ww h=>⟨nvl [(n54 0)],h.sub [1,44,45,50] (Zs Z Z Z Z<|Zs Z Z Z Z<|sN) (Zi Z<|Zi Z<|Zi Z<|Zi Z<|rN)⟩) (fun s61=>?_)
      refine gEx fun n62=>gSR<|Zq (I.lss Z Z)<|Zn<|z0v<|gIf Z Z (fun h63=>?_) (fun h63=>?_)
      ·
       refine Zt<|z0v<|z5y<|gSR<|z11 fun x64 h65=>Zq (ixR Z Z h65 tu54 ti3 Z)<|Zq (ldR Z ty3)<|Zb Z<|gSR<|Zm Z<|Zm Z<|z11 fun x66 h67=>Zq (ixO 44 Z Z Z h67 tu54 ti3)<|Zq (ld 44 Z Z (Foc.el h67) ty3 Z)<|Zq (I.sub Z Z)<|z11 fun x68 h69=>Zq (ixO 44 Z Z Z h69 tu54 ti3)<|Es (sto 44 Z Z (Foc.el h69) Z ti3)<|Zn<|gSR<|Zm Z<|Zm Z<|z11 fun x70 h71=>Zq (ixO 44 Z Z Z h71 tu54 ti3)<|Zq (ld 44 Z Z (Foc.el h71) ty3 Z)<|Zq (I.eql Z Z)<|Zj Z (fun h72=>?_) (fun h72=>?_)
       ·
        refine z2o<|Zm Z<|Zm Z<|Ef Z (lit (R:=z08) ([x64]:List Int) 61 (pP Z Z<|pN) Z tu54 ti3 Z Z) fun v73=>z11 fun x74 h75=>Ef Z (apn 50 Z Z Z (.own 61 Z) h75 tu54 ti3 Z Z Z) fun v76=>Za Z<|z20<|z44<|z0y<|z2o<|Zq (I.add Z Z)<|Zm Z<|z20<|z23 (fun aa ww h=>⟨nvl [v76],h.sub [1,44,45,50] (Zs Z Z Z Z<|Zs Z Z Z Z<|sN) (Zi Z<|Zi Z<|Zi Z<|Zi Z<|rN)⟩)
       ·
        refine z41<|z44<|z0y<|z2o<|Zq (I.add Z Z)<|Zm Z<|z20<|z23 (fun aa ww h=>⟨nvl [(n62 0)],h.sub [1,44,45,50] (Zs Z Z Z Z<|Zs Z Z Z Z<|sN) (Zi Z<|Zi Z<|Zi Z<|Zi Z<|rN)⟩)
      ·
       refine z2i<|z1b<|z1a<|z44<|z4a (fun aa ww h=>⟨nvl [(n62 0)],h.sub [1,44,45,50] (Zs Z Z Z Z<|sS Z<|sN) (Zi Z<|Zi Z<|Zi Z<|Zi Z<|rN)⟩)
     ·
      refine gEx fun n77=>z2o<|Zm Z<|Zq (I.add Z Z)<|Za Z<|z40 13 Z fun y78=>z20<|z23 (fun aa ww h=>⟨nvl [(n77 0)],h.sub [1,44,45,50] (Zs Z Z Z Z<|sS Z<|sN) (Zi Z<|Zi Z<|Zi Z<|Zi Z<|rN)⟩)
    ·
     refine z2i<|z1b<|z1a<|z4a (fun aa ww h=>h.sub [1] (sS Z<|sS Z<|sN) (y1 Z))
   ·
    refine z0v<|gSR<|Zm Z<|Zq (faB 1 Z Z Tryz.underlying49 Z (by exact zde))<|Zq (ld 1 Z Z (fP (z0m _)) zif Z)<|Zq (z3r Z .rd Z tu47)<|Zq (I.lss Z Z)<|Zj Z (fun h79=>?_) (fun h79=>?_)
    ·
     refine gSR<|Zb Z<|z0r<|z0s<|zbi [] [] Z (eE Z<|eN) (rN)
    ·
     refine Zt<|gSR<|Zb Z<|z0r<|zbi [] [] Z (eE Z<|eN) (rN)
def z9x (a0:z00) (s5:Int):Option (Sum (Sum Int Unit) Int) :=
 if decide (s5<(a0.Ops.length:Int)) then
  idx a0.Ops s5 >>= fun x7 =>
  zw2 x7 >>= fun r10 =>
  (if r10.2 != 0 then
   some true
  else
   idx a0.IDs s5 >>= fun x15 =>
   if !decide (r10.1=x15) then
    some true
   else
    ze8 x7 >>= fun r18 =>
    some (r18 != 0)) >>= fun s13 =>
  if s13 then
   some (.inl (.inl 8))
  else
   some (.inr (w64 (s5+1)))
 else
  some (.inl (.inr ()))
def z6g (a0:z00):Option (Int) :=
 if decide (60<(a0.Ops.length:Int)) then
  some 4
 else
  if (a0.IDs.length:Int) != (a0.Ops.length:Int) then
   some 8
  else
   z36 (iter (z9x a0) 0) fun s4 =>
   ze4 a0 >>= fun r21 =>
   some r21
theorem ze0 (a0:z00):z2t Tryz.prog 55 [.rd z01 a0] [zG1] (z6g a0) (fun r nv=>⟨[.rd z08 r],[(1001,some (.bool true,.glob 1 (z38 64 z10) z3v))]⟩):=by
 refine z3n 50 Tryz.func55 Z Z Z fun H w=>?_
 refine gSR<|Eb Z (bx 1 Z) fun v1=>Zb Z<|z0v<|gSR<|Zq (faB 1 Z Z Tryz.underlying49 Z (by exact zde))<|Zq (ld 1 Z Z (fP (z0m _)) zif Z)<|Zq (z3r Z .rd Z tu47)<|Zq (I.gtr Z Z)<|Zj Z (fun h2=>?_) (fun h2=>?_)
 ·
  refine gSR<|Zb Z<|z0r<|z0s<|Ze [] [1001] Z
 ·
  refine Zt<|z0v<|gSR<|Zq (faB 1 Z Z Tryz.underlying49 Z (by exact zbt))<|Zq (ld 1 Z Z (fP (z0q _)) zcn Z)<|Zq (z3r Z .rd Z tu46)<|Zq (faB 1 Z Z Tryz.underlying49 Z (by exact zde))<|Zq (ld 1 Z Z (fP (z0m _)) zif Z)<|Zq (z3r Z .rd Z tu47)<|Zq (I.neq Z Z)<|Zj Z (fun h3=>?_) (fun h3=>?_)
  ·
   refine gSR<|Zb Z<|z0r<|z0s<|Ze [] [1001] Z
  ·
   refine Zt<|z5m (fun (s4:Unit) aa ww=>Sta (ctx 50 H [zG1] w) [(1,.val (z0a v1 0))] [(1,some (v1,.box 49 [.rd z01 a0])),zG1] aa ww) ?_ (fun s4=>?_)
   ·
    refine gSR<|Zq (faB 1 Z Z Tryz.underlying49 Z (by exact zde))<|Zq (ld 1 Z Z (fP (z0m _)) zif Z)<|Zq (z3r Z .rd Z tu47)<|Zm Z<|Zn<|z2h (fun (s5:Int) aa ww=>Sta (ctx 50 H [zG1] w) [(1,.val (z0a v1 0)),(19,.rd (z02 z03) a0.Ops),(20,.rd z08 (a0.Ops.length:Int)),(21,.rd z08 s5)] [(1,some (v1,.box 49 [.rd z01 a0])),zG1] aa ww) (fun aa ww h=>Zu h [1,1001]) (fun s5=>?_)
    refine gSR<|Zq (I.lss Z Z)<|Zn<|z0v<|gIf Z Z (fun h6=>?_) (fun h6=>?_)
    ·
     refine Zt<|z0v<|z5y<|gSR<|Zm Z<|z11 fun x7 h8=>Zq (ixR Z Z h8 tu47 z80 Z)<|Zq (ldR Z zcv)<|Eb Z (z6m 1100 z80 (ZrE.rd (R:=z10) (x:=0) (Zr.num Z) (ZrE.nilS (ZrE.rd (R:=z2b) (x:=0) (Zr.num Z) (ZrE.rd (R:=z0k) (x:=(⟨0,[],(⟨0,0,0,[]⟩:z05)⟩:z0i)) zmr (ZrE.rd (R:=z0l) (x:=(⟨0,0⟩:z0b)) zmk ZrE.nil Z) Z) Z)) Z)) fun v9=>Za Z<|z8x aZ [.rd z10 0,.rd (z02 aZ) [],.rd z2b 0,.rd z0k (⟨0,[],(⟨0,0,0,[]⟩:z05)⟩:z0i),.rd z0l (⟨0,0⟩:z0b)] 1100 [.rd z10 0] [.rd z2b 0,.rd z0k (⟨0,[],(⟨0,0,0,[]⟩:z05)⟩:z0i),.rd z0l (⟨0,0⟩:z0b)] Z Z Z<|zbf (R:=z03) (⟨0,[],0,(⟨0,[],(⟨0,0,0,[]⟩:z05)⟩:z0i),(⟨0,0⟩:z0b)⟩:z04) 1100 Z (Sp.via (Sp.prod (Sp.prod (Sp.prod (Sp.prod (Sp.prod Sp.unit))))))<|Es (sto 1100 Z Z fH Z z80)<|Zn<|gSR<|Zq (ld 1100 Z Z fH zcv Z)<|Zc [1001] [] Tryz.func65 Z (zr0 _) fun r10 n11=>Zm Z<|Zq (ext Z Z)<|Zq (ext Z Z)<|Eb Z (z6m 1101 z7g (.zr (R:=aZ) (x:=(Vector.replicate 32 0)) zmx)) fun v12=>Es (sto 1101 Z Z fH Z z7g)<|Zb Z<|zaj (fun (s13:Bool) aa ww=>Sta (ctx 50 H [zG1] w) [(1,.val (z0a v1 0)),(19,.rd (z02 z03) a0.Ops),(20,.rd z08 (a0.Ops.length:Int)),(21,.rd z08 s5),(46,.rd z0w s13)] [(1,some (v1,.box 49 [.rd z01 a0])),zG1] aa ww) ?_ (fun s13=>?_)
     ·
      refine z90 [1001] z4j Z Z<|hTk 0 Z Z (mv Z)<|hTk 1 Z Z (I.neq Z Z)<|hTk 2 Z Z (mv Z)<|hIf 33 Z Z (fun h14=>?_) (fun h14=>?_)
      ·
       refine hKn 32 Z Z h14<|hSk 3 Z Z<|hSk 4 Z Z<|hSk 5 Z Z<|hSk 6 Z Z<|hSk 7 Z Z<|hSk 8 Z Z<|hSk 9 Z Z<|hTk 10 Z Z (pkT Z Z)<|hTk 11 Z Z (mv Z)<|hSk 12 Z Z<|hSk 13 Z Z<|hSk 14 Z Z<|hTk 15 Z Z (pkT Z Z)<|z5r (by kernel_rfl)<|z4a (fun aa ww h=>Zu h [1,1001])
      ·
       refine hKn 32 Z Z h14<|Zg 3 Z Z (ld 1101 Z Z fH zbe Z)<|Zg 4 Z Z (faB 1 Z Z Tryz.underlying49 Z (by exact zbt))<|Zg 5 Z Z (ld 1 Z Z (fP (z0q _)) zcn Z)<|Zg 6 Z Z (mv Z)<|z7e fun x15 h16=>Zg 7 Z Z (ixR Z Z h16 tu46 z7g Z)<|Zg 8 Z Z (ldR Z zbe)<|Zg 9 Z Z (neA Z Z eq94 Z Z gq94)<|hTk 10 Z Z (pkF Z Z)<|hTk 11 Z Z (mv Z)<|hIf 42 Z Z (fun h17=>?_) (fun h17=>?_)
       ·
        refine hKn 40 Z Z h17<|hKn 41 Z Z h17<|hSk 12 Z Z<|hSk 13 Z Z<|hSk 14 Z Z<|hTk 15 Z Z (pkT Z Z)<|z5r (by kernel_rfl)<|z4a (fun aa ww h=>Zu h [1,1001])
       ·
        refine hKn 40 Z Z h17<|hKn 41 Z Z h17<|Zg 12 Z Z (ld 1100 Z Z fH zcv Z)<|z79 13 [1001] [] Z (by kernel_rfl) Z Zx Z Tryz.func64 Z Z (zhj _) (Y1 Z) (y1 Z) Z (fun _ _=>z7s) fun r18 n19=>Zg 14 Z Z (I.neq Z Z)<|hTk 15 Z Z (pkF Z Z)<|z5r (by kernel_rfl)<|z4a (fun aa ww h=>Zu h [1,1001])
     ·
      refine gIf Z Z (fun h20=>?_) (fun h20=>?_)
      ·
       refine gSR<|Zb Z<|z0r<|z42<|z0s<|z55<|z4q<|Ze [] [1001] Z
      ·
       refine z41<|z44<|z0y<|z2o<|Zq (I.add Z Z)<|Zm Z<|z20<|z23 (fun aa ww h=>Zu h [1,1001])
    ·
     refine z2i<|z1b<|z1a<|z53 (fun aa ww h=>Zu h [1,1001])
   ·
    refine gSR<|Zq (ld 1 Z Z fH z7n Z)<|Zc [] [] Tryz.func67 Z (zhq _) fun r21 n22=>Zb Z<|z0r<|Ze [] [1001] Z
def z6c (a0:List V3) (a1:V3) (s3:Int):Option (Sum (Sum Int Unit) Int) :=
 if decide (s3<(a0.length:Int)) then
  idx a0 s3 >>= fun x5 =>
  if decide (x5=a1) then
   some (.inl (.inl s3))
  else
   some (.inr (w64 (s3+1)))
 else
  some (.inl (.inr ()))
def z67 (a0:List V3) (a1:V3):Option (Int) :=
 z36 (iter (z6c a0 a1) 0) fun s2 =>
 some (-1)
def z5z (a0:List V3) (a1:List V3) (s2:Int):Option (Sum (Sum Bool Unit) Int) :=
 if decide (s2<(a1.length:Int)) then
  idx a1 s2 >>= fun x4 =>
  z67 a0 x4 >>= fun r6 =>
  if decide (r6<0) then
   some (.inl (.inl false))
  else
   some (.inr (w64 (s2+1)))
 else
  some (.inl (.inr ()))
def z4i (a0:List V3) (a1:List V3):Option (Bool) :=
 z36 (iter (z5z a0 a1) 0) fun s1 =>
 some true
def z2v (a0:z00) (s6:(List Int) × (List V3) × (List Bool) × Bool) (s9:Int):Option (Sum (Sum ((List Int)) ((List Int) × (List V3) × (List Bool) × Bool)) Int) :=
 if decide (s9<(a0.Ops.length:Int)) then
  (idx s6.2.2.1 s9 >>= fun x12 =>
  if !x12 then
   idx a0.Ops s9 >>= fun x15 =>
   z4i s6.2.1 x15.Preds >>= fun r17 =>
   some r17
  else
   some false) >>= fun s11 =>
  if s11 then
   app 8 s6.1 [s9] >>= fun x20 =>
   idx a0.IDs s9 >>= fun x22 =>
   app 32 s6.2.1 [x22] >>= fun x24 =>
   idx s6.2.2.1 s9 >>= fun x26 =>
   some (.inl (.inr (x20,x24,s6.2.2.1.set (s9:Int).toNat true,true)))
  else
   some (.inr (w64 (s9+1)))
 else
  some (.inl (.inr (s6.1,s6.2.1,s6.2.2.1,false)))
def z65 (a0:z00) (s6:(List Int) × (List V3) × (List Bool) × Bool):Option (Sum ((List Int)) ((List Int) × (List V3) × (List Bool) × Bool)) :=
 if s6.2.2.2 then
  iter (z2v a0 s6) 0
 else
  some (.inl s6.1)
def za4 (a0:z00):Option ((List Int)) :=
 mkn 1 false (a0.Ops.length:Int) >>= fun x2 =>
 (iter (z65 a0) ([],[],x2,true)) >>= fun s5 =>
 some s5
def z4o (a0:z00) (s6:Int):Option (Sum (Sum Int Unit) Int) :=
 if decide (s6<(a0.Ops.length:Int)) then
  idx a0.Ops s6 >>= fun x8 =>
  z4i a0.IDs x8.Preds >>= fun r10 =>
  if !r10 then
   some (.inl (.inl 40))
  else
   some (.inr (w64 (s6+1)))
 else
  some (.inl (.inr ()))
def zab (a0:z00):Option (Int) :=
 z75 a0.IDs >>= fun r2 =>
 if !r2 then
  some 32
 else
  z36 (iter (z4o a0) 0) fun s5 =>
  za4 a0 >>= fun r13 =>
  if decide ((r13.length:Int)<(a0.Ops.length:Int)) then
   some 36
  else
   some 0
def z4p (a0:z00) (s5:Int):Option (Sum (Sum Int Unit) Int) :=
 if decide (s5<(a0.Ops.length:Int)) then
  idx a0.Ops s5 >>= fun x7 =>
  z9i x7 >>= fun r9 =>
  if r9 != 0 then
   some (.inl (.inl 8))
  else
   idx a0.Ops s5 >>= fun x12 =>
   idx a0.IDs s5 >>= fun x14 =>
   zda x12 >>= fun r16 =>
   if !decide (r16=x14) then
    some (.inl (.inl 8))
   else
    some (.inr (w64 (s5+1)))
 else
  some (.inl (.inr ()))
def z7v (a0:z00):Option (Int) :=
 if decide (60<(a0.Ops.length:Int)) then
  some 4
 else
  if (a0.IDs.length:Int) != (a0.Ops.length:Int) then
   some 8
  else
   z36 (iter (z4p a0) 0) fun s4 =>
   zab a0 >>= fun r19 =>
   some r19
end
section
open Go
section
variable {σ β α ρ τ:Type}
theorem bs (x:α) (f:α→Option β):(some x >>= f)=f x:=rfl
theorem bS (x:α) (f:α→Option β):(some x >>= f)=f x:=Eq.trans (rfl:(some x >>= f)=f x) rfl
theorem or_l (r:ρ) (k:τ→Option ρ):z36 (some (.inl r)) k=some r:=rfl
theorem zp6 (t:τ) (k:τ→Option ρ):z36 (some (.inr t)) k=k t:=rfl
theorem z0t {F:σ→Option (Sum β σ)} {s:σ} {b:β} (h:F s=some (.inl b)):iter F s=some b:=by rw [iter,h]; rfl
theorem z19 {F:σ→Option (Sum β σ)} {s s':σ} (h:F s=some (.inr s')):iter F s=iter F s':=by rw [iter,h]; rfl
theorem zes {F:σ→Option (Sum β σ)} (I:σ→Prop) (μ:σ→Nat) (Q:β→Prop) (h:∀ s,I s→(∃ b,F s=some (.inl b)∧Q b)∨∃ s',F s=some (.inr s')∧I s'∧μ s'<μ s) (s:σ) (hs:I s):∃ b,iter F s=some b∧Q b:=by
 have key:∀ n s,μ s=n→I s→∃ b,iter F s=some b∧Q b:=by
  intro n
  induction n using Nat.strongRecOn with
  | _ n ih =>
   intro s hn hs
   rcases h s hs with ⟨b,h1,h2⟩ | ⟨s',h1,h2,h3⟩
   ·
    exact ⟨b,z0t h1,h2⟩
   ·
    rw [z19 h1]; exact ih (μ s') (hn ▸ h3) s' rfl h2
 exact key _ s rfl hs
theorem zc3 {F:σ→Option (Sum β σ)} (n:Nat) (I:Nat→σ→Prop) (Q:β→Prop) (h1:∀ i s,i<n→I i s→∃ s',F s=some (.inr s')∧I (i+1) s') (h2:∀ s,I n s→∃ b,F s=some (.inl b)∧Q b) (s:σ) (i:Nat) (hi:i≤n) (hs:I i s):∃ b,iter F s=some b∧Q b:=by
 have key:∀ k i s,n - i=k→i≤n→I i s→∃ b,iter F s=some b∧Q b:=by
  intro k
  induction k with
  | zero =>
   intro i s hk hi hs
   have:i=n:=by omega
   subst this
   obtain ⟨b,h3,h4⟩:=h2 s hs
   exact ⟨b,z0t h3,h4⟩
  | succ k ih =>
   intro i s hk hi hs
   obtain ⟨s',h3,h4⟩:=h1 i s (by omega) hs
   rw [z19 h3]; exact ih (i+1) s' (by omega) (by omega) h4
 exact key _ i s rfl hi hs
theorem z1q {F:σ→Option (Sum β σ)} (n:Nat) (g:Nat→σ) {b:β} (h1:∀ i,i<n→F (g i)=some (.inr (g (i+1)))) (h2:F (g n)=some (.inl b)):iter F (g 0)=some b:=by
 obtain ⟨b',h3,rfl⟩:=zc3 n (fun i s=>s=g i) (fun x=>x=b) (fun i s hi hs=>⟨_, by rw [hs]; exact h1 i hi,rfl⟩) (fun s hs=>⟨_, by rw [hs]; exact h2,rfl⟩) (g 0) 0 (Nat.zero_le _) rfl
 exact h3
theorem z0c {l:List α} {i:Nat} (h:i<l.length):idx l (i:Int)=some l[i]:=by simp [idx,h]
theorem zmf {l:List α} {i:Int} (h0:0≤i) (h:i.toNat<l.length):idx l i=some l[i.toNat]:=by simp [idx,h0,h]
theorem z5a {n:Nat} {v:Vector α n} {i:Nat} (h:i<n):z4w v (i:Int)=some v[i]:=by unfold z4w; rw [z0c (by simpa using h)]; simp
theorem zqz {n:Nat} {v:Vector α n} {i:Int} (h0:0≤i) (h:i.toNat<n):z4w v i=some v[i.toNat]:=by
 obtain ⟨j,rfl⟩:∃ j:Nat,i=(j:Int):=⟨i.toNat, by omega⟩
 exact z5a (by simpa using h)
theorem zak {n:Nat} {v:Vector α n} {i:Int} {x:α} {j:Nat} (hj:j<n):(zca v i x)[j]=if i.toNat=j then x else v[j]:=by
 unfold zca; rw [Vector.getElem_setIfInBounds hj]
theorem z35 {p:Prop} [Decidable p] (h:p):chk p=some ():=by simp [chk,h]
theorem z1p {by_:Nat} {b c:List α} (h:(b.length+c.length) * by_≤140737488355328):app by_ b c=some (b++c):=by simp [app,h]
theorem zgp {by_:Nat} {x:α} {n:Nat} (h:by_ * n≤281474976710656) (h2:n≤9223372036854775807):mkn by_ x (n:Int)=some (List.replicate n x):=by
 unfold mkn; rw [if_pos ⟨by omega, by simpa using h, by omega⟩]; simp
theorem zhm {b:List α} {i j:Nat} (h:i≤j) (hj:j≤b.length):cut b (i:Int) (j:Int)=some ((b.drop i).take (j - i)):=by
 unfold cut; rw [if_pos ⟨by omega, by omega, by omega⟩]; simp
end
theorem z0u {x:Int} (h1:-9223372036854775808≤x) (h2:x≤9223372036854775807):w64 x=x:=zei h1 h2
theorem z0h {n:Nat} (h:n<9223372036854775807):w64 ((n:Int)+1)=((n+1:Nat):Int):=by rw [z0u (by omega) (by omega)]; omega
theorem zb1 (a:UInt64) (n:Nat):(z66 a n).toNat=a.toNat / 2 ^ (min n 64):=by
 unfold z66
 have h1:=UInt64.toNat_lt a
 have h2:a.toNat / 2 ^ (min n 64)≤a.toNat:=Nat.div_le_self _ _
 simp; omega
theorem zft (a:UInt64) (n:Nat):(zjt a n).toNat=a.toNat * 2 ^ (min n 64) % 18446744073709551616:=by
 unfold zjt; simp
theorem z14i (a:UInt64) (k:Nat) (hk:k<64):((z66 a k &&& 1)==1)=a.toNat.testBit k:=by
 rw [Bool.eq_iff_iff,beq_iff_eq,← UInt64.toNat_inj,UInt64.toNat_and,zb1,Nat.min_eq_left (by omega)]
 have:(1:UInt64).toNat=1:=rfl
 rw [this,Nat.and_one_is_mod,Nat.testBit_eq_decide_div_mod_eq]
 simp
end
section
open Go
def z5n (n:Nat):Nat:=if n=0 then 0 else n.log2+1
theorem zbj (n k:Nat) (h:2 ^ k≤n):z5n n=k+z5n (n / 2 ^ k):=by
 have hp:0<2 ^ k:=Nat.pow_pos (by decide)
 have h1:n / 2 ^ k≠0:=by
  have:1≤n / 2 ^ k:=(Nat.le_div_iff_mul_le hp).2 (by rw [Nat.one_mul]; exact h)
  omega
 have h2:n≠0:=by omega
 unfold z5n
 rw [if_neg h1,if_neg h2]
 have h3:n.log2=k+(n / 2 ^ k).log2:=by
  rw [Nat.log2_eq_iff h2]
  have h4:=(Nat.log2_eq_iff h1).1 rfl
  refine ⟨?_,?_⟩
  ·
   rw [Nat.pow_add,Nat.mul_comm]; exact (Nat.le_div_iff_mul_le hp).1 h4.1
  ·
   rw [Nat.add_assoc,Nat.pow_add,Nat.mul_comm]; exact (Nat.div_lt_iff_lt_mul hp).1 h4.2
 omega
theorem zg2 (n k:Nat) (h:n<2 ^ k):z5n n≤k:=by
 unfold z5n; split
 ·
  omega
 ·
  rename_i h0; have:=(Nat.log2_lt h0).2 h; omega
def zu5:ByteArray:=⟨#[0,1,2,2,3,3,3,3,4,4,4,4,4,4,4,4,5,5,5,5,5,5,5,5,5,5,5,5,5,5,5,5,6,6,6,6,6,6,6,6,6,6,6,6,6,6,6,6,6,6,6,6,6,6,6,6,6,6,6,6,6,6,6,6,7,7,7,7,7,7,7,7,7,7,7,7,7,7,7,7,7,7,7,7,7,7,7,7,7,7,7,7,7,7,7,7,7,7,7,7,7,7,7,7,7,7,7,7,7,7,7,7,7,7,7,7,7,7,7,7,7,7,7,7,7,7,7,7,8,8,8,8,8,8,8,8,8,8,8,8,8,8,8,8,8,8,8,8,8,8,8,8,8,8,8,8,8,8,8,8,8,8,8,8,8,8,8,8,8,8,8,8,8,8,8,8,8,8,8,8,8,8,8,8,8,8,8,8,8,8,8,8,8,8,8,8,8,8,8,8,8,8,8,8,8,8,8,8,8,8,8,8,8,8,8,8,8,8,8,8,8,8,8,8,8,8,8,8,8,8,8,8,8,8,8,8,8,8,8,8,8,8,8,8,8,8,8,8,8,8,8,8,8,8,8,8]⟩
set_option maxRecDepth 100000 in
theorem zxl:∀ x:Fin 256,zu5.data[x.val]? = some (UInt8.ofNat (z5n x.val)):=by decide +kernel
def z2l (n:Nat):List UInt8:=if h:n=0 then [] else UInt8.ofNat n::z2l (n / 256)
termination_by n
theorem zba:z2l 0=[]:=by rw [z2l]; simp
theorem zet (n:Nat) (h:n≠0):z2l n=UInt8.ofNat n::z2l (n / 256):=by rw [z2l]; simp [h]
def z1r (n:Nat):List UInt8:=if n≤247 then [UInt8.ofNat n] else UInt8.ofNat (247+(z2l n).length)::(z2l n).reverse
theorem zl1 (n:Nat):(z2l n).length=(z5n n+7) / 8:=by
 induction n using Nat.strongRecOn with
 | _ n ih =>
  by_cases h:n=0
  ·
   subst h; rw [zba]; simp [z5n]
  ·
   rw [zet n h,List.length_cons,ih (n / 256) (by omega)]
   by_cases h2:n<256
   ·
    have:n / 256=0:=by omega
    rw [this]
    have h3:z5n n≤8:=zg2 n 8 h2
    have h4:1≤z5n n:=by unfold z5n; rw [if_neg h]; omega
    simp [z5n] at h3 h4 ⊢
    rw [if_neg h] at h3 h4 ⊢; omega
   ·
    have:=zbj n 8 (by omega)
    rw [show (2:Nat) ^ 8=256 from rfl] at this
    omega
theorem zrv (n:Nat):∀ (i:Nat),i<(z2l n).length→(z2l n)[i]? = some (UInt8.ofNat (n / 256 ^ i)):=by
 induction n using Nat.strongRecOn with
 | _ n ih =>
  intro i hi
  by_cases h:n=0
  ·
   subst h; rw [zba] at hi; simp at hi
  ·
   rw [zet n h] at hi ⊢
   cases i with
   | zero=>simp
   | succ i =>
    simp only [List.length_cons] at hi
    rw [List.getElem?_cons_succ,ih (n / 256) (by omega) i (by omega),Nat.div_div_eq_div_mul]
    congr 3
    rw [Nat.pow_succ,Nat.mul_comm]
theorem ziw (n:Nat) (h:n<18446744073709551616):(z2l n).length≤8:=by
 rw [zl1]; have:=zg2 n 64 (by simpa using h); omega
theorem z14 (n:Nat) (h:n<18446744073709551616):1≤(z1r n).length∧(z1r n).length≤9:=by
 unfold z1r; have:=ziw n h; split <;> simp <;> omega
def zaf (n i:Nat):List UInt8:=UInt8.ofNat (247+(z2l n).length)::(List.replicate ((z2l n).length - i) 0++((z2l n).take i).reverse)
theorem zp2 (n i:Nat) (h:i≤(z2l n).length):(zaf n i).length=(z2l n).length+1:=by simp [zaf]; omega
theorem zn5 (n:Nat):(List.replicate ((z2l n).length+1) (0:UInt8)).set 0 (UInt8.ofNat (247+(z2l n).length))=zaf n 0:=by
 simp [zaf,List.replicate_succ]
theorem znz (n i:Nat) (h:i<(z2l n).length):(zaf n i).set ((z2l n).length - i) (UInt8.ofNat (n / 2 ^ (8 * i)))=zaf n (i+1):=by
 have hg:=zrv n i h
 have he:n / 2 ^ (8 * i)=n / 256 ^ i:=by rw [Nat.pow_mul]
 rw [he]
 unfold zaf
 obtain ⟨m,hm⟩:∃ m,(z2l n).length - i=m+1:=⟨(z2l n).length - i - 1, by omega⟩
 have hm2:(z2l n).length - (i+1)=m:=by omega
 rw [hm,hm2,List.set_cons_succ,List.take_succ_eq_append_getElem h,List.reverse_append,List.reverse_singleton,List.replicate_succ']
 rw [List.getElem?_eq_getElem h,Option.some.injEq] at hg
 rw [hg,List.append_assoc,List.set_append_right _ _ (by simp)]
 simp
theorem znb (n:Nat) (h:247<n):zaf n (z2l n).length=z1r n:=by
 unfold zaf z1r; rw [if_neg (by omega)]; simp
theorem zo8 (n m:Nat) (ds:List UInt8) (hm:m≠0) (h:z2l n=ds++z2l m):z2l n=(ds++[UInt8.ofNat (m % 256)])++z2l (m / 256):=by
 rw [h,zet m hm,List.append_assoc]
 have:UInt8.ofNat (m % 256)=UInt8.ofNat m:=by
  apply UInt8.toNat_inj.1; simp
 rw [this]; rfl
theorem zkj {α} {l a b:List α} (h:l=a++b):a.length≤l.length:=by rw [h]; simp
def zig (n:Int):Nat:=if 0≤n then (2 * n).toNat else (-2 * n - 1).toNat
theorem z142 {n:Int} (h1:-9223372036854775808≤n) (h2:n≤9223372036854775807):zig n<18446744073709551616:=by unfold zig; split <;> omega
end
section
open Go Go.RowKit
def zo3 (x:z05):Prop:=(fun _=>True) x.Kind∧inI x.Num∧(fun _=>True) x.Bits∧(fun s:List UInt8=>s.length≤9223372036854775807) x.Text∧True
def zsu (x:z0i):Prop:=(fun _=>True) x.Kind∧(fun s:List UInt8=>s.length≤9223372036854775807) x.Key∧zo3 x.Value∧True
def zs9 (x:z0b):Prop:=(fun _=>True) x.E∧(fun _=>True) x.S∧True
def zgj (x:z04):Prop:=(fun _=>True) x.Author∧(fun l:List V3=>(∀ x∈l,(fun v:V3=>∀ x∈v.toList,(fun _=>True) x) x)∧l.length≤9223372036854775807) x.Preds∧(fun _=>True) x.Stamp∧zsu x.Act∧zs9 x.Sig∧True
def z6x (x:z00):Prop:=(fun l:List V3=>(∀ x∈l,(fun v:V3=>∀ x∈v.toList,(fun _=>True) x) x)∧l.length≤9223372036854775807) x.IDs∧(fun l:List z04=>(∀ x∈l,zgj x)∧l.length≤9223372036854775807) x.Ops∧True
end
section
open Go
theorem zyi {n k:Nat} (hn:n<9223372036854775808) (hk:k<9223372036854775808):andI (n:Int) (k:Int)=((n &&& k:Nat):Int):=by
 show IntKind.i64.wrap (BitVec.toNat (BitVec.ofInt 64 (n:Int) &&& BitVec.ofInt 64 (k:Int)):Int)=_
 rw [BitVec.ofInt_natCast,BitVec.ofInt_natCast,BitVec.toNat_and,BitVec.toNat_ofNat,BitVec.toNat_ofNat,Nat.mod_eq_of_lt (by omega),Nat.mod_eq_of_lt (by omega)]
 have:=Nat.and_le_left (n:=n) (m:=k)
 exact zei (by omega) (by omega)
def okb (c:UInt8):Bool:=decide (32≤c.toNat)&&decide (c.toNat≤126)
theorem zme {b:List UInt8} {q:Nat} (h:q<b.length) (ha:(b[q]).toNat<128):z7a b q=((b[q]).toNat,1):=by
 unfold z7a
 exact decode_ascii ⟨b.toArray⟩ q (by show q<b.toArray.size; simpa using h) ha
theorem zvj {b:List UInt8} {q:Nat} (h:q<b.length) (ha:128≤(b[q]).toNat):128≤(z7a b q).1:=by
 unfold z7a
 have e:((ByteArray.mk b.toArray).get! (q+0)).toNat=(b[q]).toNat:=by
  show ((ByteArray.mk b.toArray).get! q).toNat=_
  simp [ByteArray.get!,h]
 simp only [Utf8.decode,e]
 rw [if_neg (by omega)]
 repeat' split
 all_goals (first | (simp only [Utf8.runeError]; omega) | (rename_i h1; simp at h1; omega) | omega)
theorem zyo (x:Int):zbw x=some (decide (x<32) || decide (126<x)):=by
 unfold zbw
 cases decide (x<32) <;> rfl
theorem zr5 (b:List UInt8):∀ (rest pre:List UInt8),b=pre++rest →
  (rest.all okb=true→iter (z1j b true) pre.length=some (.inr ()))∧(rest.all okb=false→∃ i:Nat,iter (z1j b true) pre.length=some (.inl (i:Int)))
 | [],pre,e=>by
  refine ⟨fun _=>z0t ?_, fun h=>by simp at h⟩
  subst e
  unfold z1j
  simp
 | c::rest,pre,e=>by
  have hlen:pre.length<b.length:=by rw [e]; simp
  have hget:b[pre.length]'hlen=c:=by subst e; simp
  have hF:z1j b true pre.length=if ((decide (((z7a b pre.length).1:Int)<32) || decide (126<((z7a b pre.length).1:Int)))==true) then some (.inl (.inl (pre.length:Int))) else some (.inr (pre.length+(z7a b pre.length).2)):=by
   unfold z1j
   rw [if_pos hlen]
   simp only [bs,zyo]
  cases hc:okb c with
  | false =>
   refine ⟨fun h=>by simp [hc] at h, fun _=>⟨pre.length,z0t ?_⟩⟩
   rw [hF,if_pos]
   by_cases h8:c.toNat<128
   ·
    rw [zme hlen (by rw [hget]; exact h8),hget]
    simp only [okb,Bool.and_eq_false_iff,decide_eq_false_iff_not] at hc
    simp; omega
   ·
    have:=zvj hlen (by rw [hget]; omega)
    simp; omega
  | true =>
   simp only [okb,Bool.and_eq_true,decide_eq_true_eq] at hc
   rw [zme hlen (by rw [hget]; omega),hget,if_neg (by simp; omega)] at hF
   have ih:=zr5 b rest (pre++[c]) (by simp [e])
   simp only [List.length_append,List.length_cons,List.length_nil,Nat.zero_add] at ih
   rw [z19 hF]
   have hc':okb c=true:=by simp [okb,hc]
   simpa [hc'] using ih
theorem zhl (b:List UInt8) (hb:b.length≤9223372036854775807):∀ (rest pre:List UInt8),b=pre++rest→iter (z3a b) (pre.length:Int)=some (if rest.all okb then .inr () else .inl false)
 | [],pre,e=>by
  refine z0t ?_
  subst e
  unfold z3a
  simp
 | c::rest,pre,e=>by
  have hlen:pre.length<b.length:=by rw [e]; simp
  have hget:b[pre.length]'hlen=c:=by subst e; simp
  have hF:z3a b (pre.length:Int)=if okb c then some (.inr ((pre.length+1:Nat):Int)) else some (.inl (.inl false)):=by
   unfold z3a
   rw [if_pos (by simp <;> omega)]
   simp only [z0c hlen,hget,bs,z0h (show pre.length<9223372036854775807 by omega)]
   simp only [okb,UInt8.lt_iff_toNat_lt,UInt8.reduceToNat]
   by_cases h1:c.toNat<32
   ·
    have:¬ 32≤c.toNat:=by omega
    simp [h1,this]
   ·
    by_cases h2:126<c.toNat
    ·
     have:¬ c.toNat≤126:=by omega
     simp [h1,h2,this]
    ·
     have h3:32≤c.toNat:=by omega
     have h4:c.toNat≤126:=by omega
     simp [h1,h2,h3,h4]
  cases hc:okb c with
  | false=>rw [hc] at hF; rw [z0t hF]; simp [hc]
  | true =>
   rw [hc] at hF
   rw [z19 hF]
   have ih:=zhl b hb rest (pre++[c]) (by simp [e])
   simp only [List.length_append,List.length_cons,List.length_nil,Nat.zero_add] at ih
   rw [ih]; simp [hc]
theorem zo1 (b:List UInt8) (hb:b.length≤9223372036854775807):z7f b=some (b.all okb):=by
 have h:=zhl b hb b [] rfl
 unfold z7f
 rw [show (0:Int)=(([]:List UInt8).length:Int) from rfl,h]
 cases b.all okb <;> rfl
theorem zyt (b:List UInt8) (hb:b.length≤9223372036854775807):zf0 b=some (if decide (30<(b.length:Int)) then (⟨0,0,0,[]⟩,4) else if b.all okb then (⟨3,0,0,b⟩,0) else (⟨0,0,0,[]⟩,8)):=by
 unfold zf0 z3y z3x
 cases decide (30<(b.length:Int))
 ·
  simp only [Bool.false_eq_true,if_false]
  obtain ⟨h1,h2⟩:=zr5 b b [] rfl
  simp only [List.length_nil] at h1 h2
  cases h:b.all okb
  ·
   obtain ⟨i,hi⟩:=h2 h
   rw [hi]
   simp only [or_l,bs]
   rw [if_pos (by simp)]; rfl
  ·
   rw [h1 h]; rfl
 ·
  rfl
theorem zxv (a:UInt64):zd0 a=some (((a.toNat / 4503599627370496 % 2048:Nat):Int),a % 4503599627370496):=by
 unfold zd0
 simp only [bs]
 have h0:=UInt64.toNat_lt a
 rw [zb1]
 have e1:(2:Nat) ^ (min 52 64)=4503599627370496:=by decide
 rw [e1,z0u (by omega) (by omega), show (2047:Int)=((2047:Nat):Int) from rfl,zyi (by omega) (by omega)]
 congr 2
 ·
  congr 1
  exact Nat.and_two_pow_sub_one_eq_mod _ 11
 ·
  apply UInt64.toNat_inj.1
  rw [UInt64.toNat_and,UInt64.toNat_mod]
  exact Nat.and_two_pow_sub_one_eq_mod _ 52
theorem z146 (a:UInt64):z81 a=some ((a.toNat / 4503599627370496 % 2048:Nat):Int):=by
 unfold z81
 have h0:=UInt64.toNat_lt a
 simp only [bs,UInt64.toNat_div,UInt64.toNat_mod,UInt64.reduceToNat]
 rw [z0u (by omega) (by omega)]
 congr 2
 omega
def zp1 (a:UInt64):Nat:=a.toNat / 4503599627370496 % 2048
def zx3 (a:UInt64):Nat:=a.toNat % 4503599627370496
theorem z11e (a:UInt64):zp1 a<2048:=Nat.mod_lt _ (by omega)
def clsF (a:UInt64):UInt8:=if zp1 a=2047 then (if zx3 a=0 then 4 else 5) else if zp1 a=0 then (if zx3 a=0 then 1 else 2) else 3
theorem z109 (a:UInt64):(a % 4503599627370496==0)=decide (zx3 a=0):=by
 rw [Bool.eq_iff_iff]
 simp only [beq_iff_eq,decide_eq_true_eq,← UInt64.toNat_inj,UInt64.toNat_mod]
 rfl
theorem zwa (a:UInt64):zdm a=some (clsF a):=by
 unfold zdm clsF
 rw [zxv]
 simp only [bs]
 have hm:=z109 a
 have hne:(a % 4503599627370496 != 0)=!decide (zx3 a=0):=by rw [← hm]; rfl
 have he:((a.toNat / 4503599627370496 % 2048:Nat):Int)=(zp1 a:Int):=rfl
 rw [hne,he]
 by_cases h1:zp1 a=2047
 ·
  rw [h1]
  by_cases h2:zx3 a=0
  ·
   rw [decide_eq_true h2,if_pos h2]; rfl
  ·
   rw [decide_eq_false h2,if_neg h2]; rfl
 ·
  have e1:((zp1 a:Int)==2047)=false:=by simp; omega
  rw [if_neg h1,e1]
  simp only [Bool.false_eq_true,if_false,bs]
  by_cases h0:zp1 a=0
  ·
   rw [h0]
   by_cases h2:zx3 a=0
   ·
    rw [decide_eq_true h2,if_pos h2]; rfl
   ·
    rw [decide_eq_false h2,if_neg h2]; rfl
  ·
   have e0:((zp1 a:Int) != 0)=true:=by simp; omega
   rw [e0,if_neg h0]; rfl
theorem zwt (a:UInt64):za1 a=some (clsF a):=by
 unfold za1 zas clsF
 rw [z146]
 simp only [bs]
 rw [z109 a]
 have hx:=z11e a
 show z36 (if ((zp1 a:Int)==0)=true then if decide (zx3 a=0)=true then some (.inl 1) else some (.inr ()) else some (.inr ())) (fun s5=>if ((zp1 a:Int)==0)=true then some 2 else if decide ((zp1 a:Int)<2047)=true then some 3 else if decide (zx3 a=0)=true then some 4 else some 5)=_
 by_cases h1:zp1 a=2047
 ·
  rw [h1]
  by_cases h2:zx3 a=0 <;> simp [h2,zp6,or_l]
 ·
  by_cases h0:zp1 a=0
  ·
   rw [h0]
   by_cases h2:zx3 a=0 <;> simp [h2,zp6,or_l]
  ·
   have e0:((zp1 a:Int)==0)=false:=by simp; omega
   have e2:decide ((zp1 a:Int)<2047)=true:=by simp; omega
   rw [e0,e2,if_neg h1,if_neg h0]; rfl
def zgl (a:UInt64):UInt64:=if clsF a=5 then 9221120237041090560 else a
theorem zw9 (a:UInt64):zcy a=some (zgl a):=by
 unfold zcy zgl
 rw [zwa]
 simp only [bs]
 by_cases h:clsF a=5 <;> simp [h]
theorem zvv (a:UInt64):za2 a=some (zgl a):=by
 unfold za2 zgl
 rw [zwt]
 simp only [bs]
 by_cases h:clsF a=5 <;> simp [h]
theorem zv7 (a:UInt64):zcw a=some ⟨2,0,zgl a,[]⟩:=by
 unfold zcw; rw [zw9]; rfl
def okV (v:z05):Bool :=
 if v.Kind=1 then decide (v.Bits=0)&&decide (v.Text=[])
 else if v.Kind=2 then decide (v.Num=0)&&decide (v.Text=[])&&decide (zgl v.Bits=v.Bits)
 else if v.Kind=3 then decide (v.Num=0)&&decide (v.Bits=0)&&decide (v.Text.length≤30)&&v.Text.all okb
 else false
theorem zug (v:z05) (hb:v.Text.length≤9223372036854775807):za7 v=some (if okV v then 0 else 8):=by
 obtain ⟨K,n,f,t⟩:=v
 unfold za7 okV
 simp only at hb ⊢
 rw [zvv,zo1 t hb]
 by_cases h1:K=1
 ·
  subst h1
  by_cases hf:f=0 <;> by_cases ht:t=[] <;> simp [hf,ht]
 by_cases h2:K=2
 ·
  subst h2
  by_cases hn:n=0 <;> by_cases ht:t=[] <;> by_cases hc:zgl f=f <;> simp [hn,ht,hc,bs]
 by_cases h3:K=3
 ·
  subst h3
  by_cases hl:t.length≤30
  ·
   have hl':(t.length:Int)≤30:=by omega
   by_cases hn:n=0 <;> by_cases hf:f=0 <;> cases t.all okb <;> simp [hn,hf,hl,hl',bs]
  ·
   have hl':¬ (t.length:Int)≤30:=by omega
   by_cases hn:n=0 <;> by_cases hf:f=0 <;> simp [hn,hf,hl,hl',bs]
 ·
  simp [h1,h2,h3]
theorem zoe (v:z05) (hb:v.Text.length≤9223372036854775807):zb2 v=some (if okV v then 0 else 8):=by
 obtain ⟨K,n,f,t⟩:=v
 unfold zb2 zec okV
 simp only at hb ⊢
 rw [zv7,zyt t hb]
 by_cases h1:K=1
 ·
  subst h1
  by_cases hf:f=0 <;> by_cases ht:t=[] <;> simp [hf,ht,bs]
 by_cases h2:K=2
 ·
  subst h2
  by_cases hc:zgl f=f
  ·
   by_cases hn:n=0 <;> by_cases ht:t=[] <;> simp [hn,ht,hc,bs]
  ·
   have hc':¬ f=zgl f:=fun e=>hc e.symm
   by_cases hn:n=0 <;> by_cases ht:t=[] <;> simp [hn,ht,hc,hc',bs]
 by_cases h3:K=3
 ·
  subst h3
  by_cases hl:30<(t.length:Int)
  ·
   have h4:¬ t.length≤30:=by omega
   rw [decide_eq_true hl,decide_eq_false h4]
   simp [bs]
  ·
   have h4:t.length≤30:=by omega
   rw [decide_eq_false hl,decide_eq_true h4]
   cases t.all okb <;> by_cases hn:n=0 <;> by_cases hf:f=0 <;> simp [hn,hf,bs]
 ·
  have e1:(K==1)=false:=by simpa using h1
  have e2:(K==2)=false:=by simpa using h2
  have e3:(K==3)=false:=by simpa using h3
  simp only [e1,e2,e3,Bool.false_eq_true,if_false,bs,h1,h2,h3]
  by_cases h0:K=0
  ·
   subst h0
   split <;> rfl
  ·
   simp [h0]
end
section
open Go
theorem zvi:∀ (n:Nat) (a:UInt64) (ds:List UInt8) (N:Nat),a.toNat=n→z2l N=ds++z2l n→(z2l N).length≤8→iter z4c (a,ds)=some (z2l N):=by
 intro n
 induction n using Nat.strongRecOn with
 | _ n ih =>
  intro a ds N ha hd hl
  by_cases h0:n=0
  ·
   subst h0
   refine z0t ?_
   unfold z4c
   rw [if_neg (by simp [UInt64.lt_iff_toNat_lt,ha])]
   rw [zba,List.append_nil] at hd
   rw [hd]
  ·
   have hF:z4c (a,ds)=some (.inr (a / 256,ds++[(a % 256).toUInt8])):=by
    unfold z4c
    rw [if_pos (by simp [UInt64.lt_iff_toNat_lt,ha]; omega)]
    have:ds.length≤8:=Nat.le_trans (zkj hd) hl
    simp only [z1p (show (ds.length+[(a % 256).toUInt8].length) * 1≤140737488355328 by simp; omega),bs]
   rw [z19 hF]
   have hd2:=zo8 N n ds h0 hd
   refine ih (n / 256) (Nat.div_lt_self (by omega) (by omega)) _ _ N ?_ ?_ hl
   ·
    simp [ha]
   ·
    rw [hd2]
    congr 2
    congr 1
    apply UInt8.toNat_inj.1
    simp [ha]
theorem zo0 (s:List UInt8) (hl:s.length≤8):∀ (i:Nat) (acc:List UInt8),i≤s.length→acc.length+i≤100→iter (z4e s) (acc,(i:Int) - 1)=some (acc++(s.take i).reverse)
 | 0,acc,_,_=>by
  refine z0t ?_
  unfold z4e
  rw [if_neg (by simp)]; simp
 | i+1,acc,hi,ha=>by
  have hlt:i<s.length:=by omega
  have e:((i+1:Nat):Int) - 1=(i:Int):=by omega
  have hF:z4e s (acc,((i+1:Nat):Int) - 1)=some (.inr (acc++[s[i]],(i:Int) - 1)):=by
   unfold z4e
   rw [e,if_pos (by simp)]
   simp only [z0c hlt,bs]
   rw [z1p (by simp; omega)]
   simp only [bs,z0u (show -9223372036854775808≤(i:Int) - 1 by omega) (by omega)]
  rw [z19 hF,zo0 s hl i _ (by omega) (by simp; omega)]
  have:List.take (i+1) s=List.take i s++[s[i]]:=by rw [List.take_add_one,List.getElem?_eq_getElem hlt]; rfl
  rw [this]; simp only [List.reverse_append,List.reverse_cons,List.reverse_nil,List.nil_append,List.append_assoc]
theorem z63 (a:UInt64):z2f a=some (z1r a.toNat):=by
 unfold z2f z1r
 have h0:=UInt64.toNat_lt a
 by_cases h:a.toNat≤247
 ·
  have h':decide (a≤247)=true:=by simpa [UInt64.le_iff_toNat_le] using h
  rw [if_pos h',if_pos h]
  congr 2
 ·
  have h':¬ decide (a≤247)=true:=by simpa [UInt64.le_iff_toNat_le] using h
  rw [if_neg h',if_neg h]
  have hd:=ziw a.toNat h0
  rw [zvi a.toNat a [] a.toNat rfl rfl hd]
  simp only [bs]
  rw [z0u (show -9223372036854775808≤((z2l a.toNat).length:Int) - 1 by omega) (by omega),z0u (show -9223372036854775808≤247+((z2l a.toNat).length:Int) by omega) (by omega)]
  rw [zo0 _ hd _ _ (Nat.le_refl _) (by simp; omega)]
  simp only [bs,List.take_length]
  rw [show (247+((z2l a.toNat).length:Int))=((247+(z2l a.toNat).length:Nat):Int) by omega]
  congr 1
  show _::_=_
  congr 1
  apply UInt8.toNat_inj.1
  simp [UInt8.ofInt]
  omega
theorem zsn (a:UInt64) (k:Nat) (hk:k=(z2l a.toNat).length) (hk8:k≤8):iter (z9k a (k:Int)) (zaf a.toNat 0,0)=some (zaf a.toNat k):=by
 refine z1q k (fun i=>(zaf a.toNat i,(i:Int))) (fun i hi=>?_) ?_
 ·
  have hf:=zp2 a.toNat i (by omega)
  unfold z9k
  rw [if_pos (by simp; omega)]
  simp only [z0u (show -9223372036854775808≤8 * (i:Int) by omega) (by omega),z35 (show (0:Int)≤8 * (i:Int) by omega),bs,z0u (show -9223372036854775808≤(k:Int) - (i:Int) by omega) (by omega),z0h (show i<9223372036854775807 by omega)]
  rw [zmf (by omega) (by omega)]
  simp only [bs]
  have:=znz a.toNat i (by omega)
  rw [← this]
  have e1:((k:Int) - (i:Int)).toNat=(z2l a.toNat).length - i:=by omega
  have e2:(z66 a (8 * (i:Int)).toNat).toUInt8=UInt8.ofNat (a.toNat / 2 ^ (8 * i)):=by
   apply UInt8.toNat_inj.1
   have e3:(8 * (i:Int)).toNat=8 * i:=by omega
   rw [e3]
   simp only [UInt64.toNat_toUInt8,zb1,Nat.min_eq_left (show 8 * i≤64 by omega)]
   simp
  rw [e1,e2]
 ·
  unfold z9k
  rw [if_neg (by simp)]
theorem zem (a:UInt64) (k:Nat) (hk:k<64):(z66 a k).toNat=a.toNat / 2 ^ k:=by rw [zb1,Nat.min_eq_left (by omega)]
set_option maxRecDepth 100000 in
theorem zxs (a:UInt64):z8j a=some (z5n a.toNat:Int):=by
 unfold z8j
 have h0:=UInt64.toNat_lt a
 have s1:∃ (y:UInt64) (n:Nat),(if decide (4294967296≤a) then some (z66 a 32,(32:Int)) else some (a,0))=some (y,(n:Int))∧y.toNat<2 ^ 32∧n≤32∧z5n a.toNat=n+z5n y.toNat:=by
  by_cases h:4294967296≤a.toNat
  ·
   refine ⟨z66 a 32,32, by rw [if_pos (by simpa [UInt64.le_iff_toNat_le] using h)]; rfl,?_, by omega,?_⟩
   ·
    rw [zem a 32 (by omega)]; omega
   ·
    rw [zem a 32 (by omega)]; exact zbj _ 32 (by omega)
  ·
   exact ⟨a,0, by rw [if_neg (by simpa [UInt64.le_iff_toNat_le] using h)]; rfl, by omega, by omega, by omega⟩
 obtain ⟨y,n,e1,hy,hn,hb⟩:=s1
 rw [e1]; simp only [bs]
 have s2:∃ (z:UInt64) (k:Nat),(if decide (65536≤y) then some (z66 y 16) >>= fun y5=>some (w64 ((n:Int)+16)) >>= fun y6=>some (y5,y6) else some (y,(n:Int)))=some (z,(k:Int))∧z.toNat<2 ^ 16∧k≤48∧z5n a.toNat=k+z5n z.toNat:=by
  by_cases h:65536≤y.toNat
  ·
   refine ⟨z66 y 16,n+16, by rw [if_pos (by simpa [UInt64.le_iff_toNat_le] using h)]; simp only [bs,z0u (show -9223372036854775808≤(n:Int)+16 by omega) (by omega)]; rfl,?_, by omega,?_⟩
   ·
    rw [zem y 16 (by omega)]; omega
   ·
    rw [zem y 16 (by omega),hb,zbj y.toNat 16 (by omega)]; omega
  ·
   exact ⟨y,n, by rw [if_neg (by simpa [UInt64.le_iff_toNat_le] using h)], by omega, by omega,hb⟩
 obtain ⟨z,k,e2,hz,hk,hb2⟩:=s2
 simp only [bs] at e2
 rw [e2]; simp only [bs]
 have s3:∃ (x:UInt64) (j:Nat),(if decide (256≤z) then some (w64 ((k:Int)+8)) >>= fun y9=>some (z66 z 8,y9) else some (z,(k:Int)))=some (x,(j:Int))∧x.toNat<256∧j≤56∧z5n a.toNat=j+z5n x.toNat:=by
  by_cases h:256≤z.toNat
  ·
   refine ⟨z66 z 8,k+8, by rw [if_pos (by simpa [UInt64.le_iff_toNat_le] using h)]; simp only [bs,z0u (show -9223372036854775808≤(k:Int)+8 by omega) (by omega)]; rfl,?_, by omega,?_⟩
   ·
    rw [zem z 8 (by omega)]; omega
   ·
    rw [zem z 8 (by omega),hb2,zbj z.toNat 8 (by omega)]; omega
  ·
   exact ⟨z,k, by rw [if_neg (by simpa [UInt64.le_iff_toNat_le] using h)], by omega, by omega,hb2⟩
 obtain ⟨x,j,e3,hx,hj,hb3⟩:=s3
 simp only [bs] at e3
 rw [e3]; simp only [bs]
 have ht:=zxl ⟨x.toNat,hx⟩
 have hx8:(x.toUInt8.toNat:Int)=((x.toNat:Nat):Int):=by simp; omega
 have hle:z5n x.toNat≤8:=zg2 _ 8 (by omega)
 rw [hx8]
 have hlist:∀ (l:List UInt8),l=zu5.data.toList→idx l ((x.toNat:Nat):Int)=some (UInt8.ofNat (z5n x.toNat)):=fun l hl=>by
  subst hl
  unfold idx
  rw [if_pos (by omega)]
  simpa using ht
 refine Eq.trans (congrArg (fun o:Option UInt8=>o >>= fun x10=>some (w64 ((j:Int)+(x10.toNat:Int)))) (hlist _ ?hh)) ?_
 case hh=>rfl
 simp only [bs]
 have e4:((UInt8.ofNat (z5n x.toNat)).toNat:Int)=(z5n x.toNat:Int):=by simp; omega
 rw [e4,z0u (by omega) (by omega),hb3]
 simp
theorem z69 (a:UInt64):z5h a=some (z1r a.toNat):=by
 unfold z5h
 have h0:=UInt64.toNat_lt a
 by_cases h:a.toNat≤247
 ·
  have h':decide (a≤247)=true:=by simpa [UInt64.le_iff_toNat_le] using h
  unfold z1r
  rw [if_pos h',if_pos h]
  congr 2
 ·
  have h':¬ decide (a≤247)=true:=by simpa [UInt64.le_iff_toNat_le] using h
  rw [if_neg h',zxs]
  have hd:=ziw a.toNat h0
  have hl:=zl1 a.toNat
  have hb:z5n a.toNat≤64:=zg2 _ 64 h0
  simp only [bs]
  rw [z0u (show -9223372036854775808≤(z5n a.toNat:Int)+7 by omega) (by omega)]
  have e1:Int.tdiv ((z5n a.toNat:Int)+7) 8=((z2l a.toNat).length:Int):=by
   rw [hl, show ((z5n a.toNat:Int)+7)=((z5n a.toNat+7:Nat):Int) by omega]
   rfl
  rw [e1,z0u (show -9223372036854775808≤((z2l a.toNat).length:Int) by omega) (by omega),z0h (by omega),zgp (by omega) (by omega)]
  simp only [bs]
  rw [show (0:Int)=((0:Nat):Int) from rfl,z0c (by simp)]
  simp only [bs,Int.toNat_natCast]
  rw [z0u (show -9223372036854775808≤247+((z2l a.toNat).length:Int) by omega) (by omega)]
  have e2:UInt8.ofInt (247+((z2l a.toNat).length:Int))=UInt8.ofNat (247+(z2l a.toNat).length):=by
   apply UInt8.toNat_inj.1
   rw [show (247+((z2l a.toNat).length:Int))=((247+(z2l a.toNat).length:Nat):Int) by omega]
   simp [UInt8.ofInt]
   omega
  have:=zn5 a.toNat
  rw [e2,this]
  have:=zsn a (z2l a.toNat).length rfl hd
  rw [show (0:Int)=((0:Nat):Int) from rfl] at this
  rw [this]
  simp only [bs]
  rw [znb a.toNat (by omega)]
end
section
open Go
theorem okV3 {v:z05} (h:okV v=true) (k:v.Kind=3):v.Num=0∧v.Bits=0∧v.Text.length≤30∧v.Text.all okb=true:=by
 unfold okV at h; rw [if_neg (by rw [k]; decide),if_neg (by rw [k]; decide),if_pos k] at h
 simp only [Bool.and_eq_true,decide_eq_true_eq] at h
 exact ⟨h.1.1.1,h.1.1.2,h.1.2,h.2⟩
theorem zm5 {v:z05} (h:okV v=true):v.Kind=1∨v.Kind=2∨v.Kind=3:=by
 by_cases h1:v.Kind=1
 ·
  exact .inl h1
 by_cases h2:v.Kind=2
 ·
  exact .inr (.inl h2)
 by_cases h3:v.Kind=3
 ·
  exact .inr (.inr h3)
 ·
  unfold okV at h; simp [h1,h2,h3] at h
theorem zz0 (x:UInt64):(x ^^^ 18446744073709551615).toNat=18446744073709551615 - x.toNat:=by
 have e:x ^^^ 18446744073709551615 = ~~~x:=by
  apply UInt64.eq_of_toBitVec_eq
  rw [UInt64.toBitVec_xor,UInt64.toBitVec_not]
  exact BitVec.xor_allOnes
 rw [e,UInt64.toNat_not]; rfl
theorem zb0 (n:Int):(UInt64.ofInt n).toNat=(n % 18446744073709551616).toNat:=by
 simp [UInt64.ofInt]; omega
theorem z15a (n:Int) (h:inI n):((zjt (UInt64.ofInt n) 1) ^^^ (UInt64.ofInt (shrI n 63))).toNat=zig n:=by
 obtain ⟨h1,h2⟩:=h
 have es:(zjt (UInt64.ofInt n) 1).toNat=(n % 18446744073709551616).toNat * 2 % 18446744073709551616:=by
  rw [zft,zb0]; rfl
 by_cases h0:0≤n
 ·
  have e:shrI n 63=0:=by
   unfold shrI
   rw [show (2:Int) ^ (min 63 64)=9223372036854775808 from rfl,Int.fdiv_eq_ediv_of_nonneg _ (by omega)]; omega
  rw [e, show UInt64.ofInt 0=0 from rfl,UInt64.xor_zero,es]
  unfold zig; rw [if_pos h0]; omega
 ·
  have e:shrI n 63 = -1:=by
   unfold shrI
   rw [show (2:Int) ^ (min 63 64)=9223372036854775808 from rfl,Int.fdiv_eq_ediv_of_nonneg _ (by omega)]; omega
  rw [e, show UInt64.ofInt (-1)=18446744073709551615 from rfl,zz0,es]
  unfold zig; rw [if_neg h0]; omega
theorem zwd (n:Int) (h:inI n):zdl n=some (z1r (zig n)):=by
 unfold zdl
 rw [z69,z15a n h]; rfl
theorem zom (s:List UInt8) (h:s.length≤10000):zao s=some (z1r s.length++s,0):=by
 unfold zao
 rw [if_neg (by simp; omega),z69]
 have e:(UInt64.ofInt (s.length:Int)).toNat=s.length:=by rw [zb0]; omega
 have:=z14 s.length (by omega)
 simp only [bs,e]
 rw [z1p (by omega)]; rfl
def be8 (b:UInt64):List UInt8:=[(z66 b 56).toUInt8,(z66 b 48).toUInt8,(z66 b 40).toUInt8,(z66 b 32).toUInt8,(z66 b 24).toUInt8,(z66 b 16).toUInt8,(z66 b 8).toUInt8,(z66 b 0).toUInt8]
theorem zwo (v:z05) (l:List UInt8) (k:Nat) (hl:l.length≤100) (hk:k≤56):z6u v (l,(k:Int))=some (.inr (l++[(z66 v.Bits k).toUInt8],(k:Int) - 8)):=by
 unfold z6u
 rw [if_pos (by simp)]
 simp only
 rw [z35 (by omega)]
 simp only [bs,Int.toNat_natCast]
 rw [z1p (by simp; omega)]
 simp only [bs]
 rw [z0u (by omega) (by omega)]
theorem zze (v:z05):iter (z6u v) ([v.Kind],56)=some (v.Kind::be8 v.Bits):=by
 have hs:=fun l k h1 h2=>zwo v l k h1 h2
 rw [show (56:Int)=((56:Nat):Int) from rfl,z19 (hs [v.Kind] 56 (by simp) (by omega))]
 simp only [List.cons_append,List.nil_append, show ((56:Nat):Int) - 8=((48:Nat):Int) from rfl]
 rw [z19 (hs _ 48 (by simp) (by omega))]
 simp only [List.cons_append,List.nil_append, show ((48:Nat):Int) - 8=((40:Nat):Int) from rfl]
 rw [z19 (hs _ 40 (by simp) (by omega))]
 simp only [List.cons_append,List.nil_append, show ((40:Nat):Int) - 8=((32:Nat):Int) from rfl]
 rw [z19 (hs _ 32 (by simp) (by omega))]
 simp only [List.cons_append,List.nil_append, show ((32:Nat):Int) - 8=((24:Nat):Int) from rfl]
 rw [z19 (hs _ 24 (by simp) (by omega))]
 simp only [List.cons_append,List.nil_append, show ((24:Nat):Int) - 8=((16:Nat):Int) from rfl]
 rw [z19 (hs _ 16 (by simp) (by omega))]
 simp only [List.cons_append,List.nil_append, show ((16:Nat):Int) - 8=((8:Nat):Int) from rfl]
 rw [z19 (hs _ 8 (by simp) (by omega))]
 simp only [List.cons_append,List.nil_append, show ((8:Nat):Int) - 8=((0:Nat):Int) from rfl]
 rw [z19 (hs _ 0 (by simp) (by omega))]
 simp only [List.cons_append,List.nil_append]
 refine z0t ?_
 unfold z6u
 rw [if_neg (by simp)]; rfl
def encV (v:z05):List UInt8:=v.Kind::(if v.Kind=1 then z1r (zig v.Num) else if v.Kind=2 then be8 v.Bits else z1r v.Text.length++v.Text)
theorem zuq {n:Int} (h:inI n):zig n<18446744073709551616:=z142 h.1 h.2
theorem z14z (v:z05) (hI:inI v.Num) (hl:v.Text.length≤9223372036854775807):zbp v=some (if okV v then (encV v,0) else ([],8)):=by
 unfold zbp
 rw [zoe v hl]
 cases hv:okV v
 ·
  rfl
 simp only [bs,if_true]
 rw [if_neg (by simp)]
 unfold encV
 rcases zm5 hv with k | k | k
 ·
  have h1:=z14 (zig v.Num) (zuq hI)
  rw [k,zwd v.Num hI]
  simp only [bs]
  rw [if_pos (by decide),z1p (by simp; omega)]; simp [bs]
 ·
  rw [k,if_neg (by decide),if_pos (by decide),if_neg (by decide),if_pos rfl,← k,zze]; rfl
 ·
  have h3:=(okV3 hv k).2.2.1
  have h1:=z14 v.Text.length (by omega)
  rw [k,zom v.Text (by omega)]
  rw [if_neg (by decide),if_neg (by decide),if_pos (by decide),if_neg (by decide),if_neg (by decide),z35 (by omega)]
  simp only [bs]
  rw [z1p (by simp; omega)]; rfl
theorem zo2 (n:Int) (h:inI n):z9b n=some (z1r (zig n)):=by
 obtain ⟨h1,h2⟩:=h
 unfold z9b
 by_cases h0:0≤n
 ·
  rw [if_pos (by simpa using h0),z63]
  have e:(2 * UInt64.ofInt n).toNat=zig n:=by
   rw [UInt64.toNat_mul,zb0, show (2:UInt64).toNat=2 from rfl]
   unfold zig; rw [if_pos h0]; omega
  rw [e]; rfl
 ·
  rw [if_neg (by simpa using h0),z63]
  have e:((2 * UInt64.ofInt (w64 (0 - (w64 (n+1)))))+1).toNat=zig n:=by
   rw [z0u (x:=n+1) (by omega) (by omega),z0u (by omega) (by omega),UInt64.toNat_add,UInt64.toNat_mul,zb0, show (2:UInt64).toNat=2 from rfl, show (1:UInt64).toNat=1 from rfl]
   unfold zig; rw [if_neg h0]; omega
  rw [e]; rfl
theorem zl9 (s:List UInt8) (h:s.length≤100000):z6z s=some (z1r s.length++s):=by
 unfold z6z
 rw [z63]
 have e:(UInt64.ofInt (s.length:Int)).toNat=s.length:=by rw [zb0]; omega
 have:=z14 s.length (by omega)
 rw [e]
 simp only [bs]
 rw [z1p (by omega)]; rfl
theorem zwj (v:z05) (l:List UInt8) (k:Nat) (hl:l.length≤100) (hk:k≤7):z4u v (l,(k:Int))=some (.inr (l++[(z66 v.Bits (8 * k)).toUInt8],(k:Int) - 1)):=by
 unfold z4u
 rw [if_pos (by simp)]
 simp only
 have e:w64 (8 * (k:Int))=((8 * k:Nat):Int):=by rw [z0u (by omega) (by omega)]; omega
 rw [e,z35 (by omega)]
 simp only [bs,Int.toNat_natCast]
 rw [z1p (by simp; omega)]
 simp only [bs]
 rw [z0u (by omega) (by omega)]
theorem zyu (v:z05):iter (z4u v) ([v.Kind],7)=some (v.Kind::be8 v.Bits):=by
 have hs:=fun l k h1 h2=>zwj v l k h1 h2
 rw [show (7:Int)=((7:Nat):Int) from rfl,z19 (hs [v.Kind] 7 (by simp) (by omega))]
 simp only [List.cons_append,List.nil_append, show ((7:Nat):Int) - 1=((6:Nat):Int) from rfl]
 rw [z19 (hs _ 6 (by simp) (by omega))]
 simp only [List.cons_append,List.nil_append, show ((6:Nat):Int) - 1=((5:Nat):Int) from rfl]
 rw [z19 (hs _ 5 (by simp) (by omega))]
 simp only [List.cons_append,List.nil_append, show ((5:Nat):Int) - 1=((4:Nat):Int) from rfl]
 rw [z19 (hs _ 4 (by simp) (by omega))]
 simp only [List.cons_append,List.nil_append, show ((4:Nat):Int) - 1=((3:Nat):Int) from rfl]
 rw [z19 (hs _ 3 (by simp) (by omega))]
 simp only [List.cons_append,List.nil_append, show ((3:Nat):Int) - 1=((2:Nat):Int) from rfl]
 rw [z19 (hs _ 2 (by simp) (by omega))]
 simp only [List.cons_append,List.nil_append, show ((2:Nat):Int) - 1=((1:Nat):Int) from rfl]
 rw [z19 (hs _ 1 (by simp) (by omega))]
 simp only [List.cons_append,List.nil_append, show ((1:Nat):Int) - 1=((0:Nat):Int) from rfl]
 rw [z19 (hs _ 0 (by simp) (by omega))]
 simp only [List.cons_append,List.nil_append]
 refine z0t ?_
 unfold z4u
 rw [if_neg (by simp)]; rfl
theorem zv4 (v:z05) (hI:inI v.Num) (hv:okV v=true):za3 v=some (encV v):=by
 unfold encV za3
 rcases zm5 hv with k | k | k
 ·
  have h1:=z14 (zig v.Num) (zuq hI)
  rw [k,zo2 v.Num hI]
  simp only [bs]
  rw [if_pos (by decide),z1p (by simp; omega)]; simp [bs]
 ·
  rw [k,if_neg (by decide),if_pos (by decide),if_neg (by decide),if_pos rfl,← k,zyu]; rfl
 ·
  have h3:=(okV3 hv k).2.2.1
  have h1:=z14 v.Text.length (by omega)
  rw [k,zl9 v.Text (by omega)]
  rw [if_neg (by decide),if_neg (by decide),if_neg (by decide),if_neg (by decide),z35 (by omega)]
  simp only [bs]
  rw [z1p (by simp; omega)]; rfl
end
section
open Go
theorem zy3 (a b:V3):∀ (n i:Nat),32 - i=n→i≤32→∃ r:Sum Int Unit,iter (z5u a b) (i:Int)=some r∧(z36 (some r) (fun _=>some 0)=some (Lib.compareBytes (a.toList.drop i) (b.toList.drop i))):=by
 intro n
 induction n with
 | zero =>
  intro i hn hi
  have:i=32:=by omega
  subst this
  refine ⟨.inr (),z0t ?_,?_⟩
  ·
   unfold z5u; rw [if_neg (by simp)]
  ·
   rw [List.drop_eq_nil_of_le (by simp),List.drop_eq_nil_of_le (by simp)]; rfl
 | succ n ih =>
  intro i hn hi
  have hlt:i<32:=by omega
  have da:a.toList.drop i=a[i]::a.toList.drop (i+1):=by rw [List.drop_eq_getElem_cons (by simpa using hlt)]; simp
  have db:b.toList.drop i=b[i]::b.toList.drop (i+1):=by rw [List.drop_eq_getElem_cons (by simpa using hlt)]; simp
  have hF:z5u a b (i:Int)=if decide (a[i]<b[i]) then some (.inl (.inl (-1))) else if decide (b[i]<a[i]) then some (.inl (.inl 1)) else some (.inr ((i+1:Nat):Int)):=by
   unfold z5u
   rw [if_pos (by simp; omega)]
   simp only [z5a hlt,bs,z0h (show i<9223372036854775807 by omega)]
  rw [da,db,Lib.compareBytes]
  by_cases h1:a[i]<b[i]
  ·
   rw [decide_eq_true h1] at hF
   exact ⟨_,z0t hF, by rw [if_pos h1]; rfl⟩
  ·
   rw [decide_eq_false h1] at hF
   by_cases h2:b[i]<a[i]
   ·
    rw [decide_eq_true h2] at hF
    exact ⟨_,z0t hF, by rw [if_neg h1,if_pos h2]; rfl⟩
   ·
    rw [decide_eq_false h2] at hF
    obtain ⟨r,k1,k2⟩:=ih (i+1) (by omega) (by omega)
    exact ⟨r, by rw [z19 hF]; exact k1, by rw [if_neg h1,if_neg h2]; exact k2⟩
theorem zvy (a b:V3):zc9 a b=some (Lib.compareBytes a.toList b.toList):=by
 obtain ⟨r,h1,h2⟩:=zy3 a b 32 0 rfl (by omega)
 unfold zc9
 rw [show (0:Int)=((0:Nat):Int) from rfl,h1]
 simpa using h2
theorem zpx (a b:V3):z70 a b=some (Lib.compareBytes a.toList b.toList):=by
 unfold z70 zdj; rfl
def z7c:List V3→Bool
 | a::b::l=>!decide (0≤Lib.compareBytes a.toList b.toList)&&z7c (b::l)
 | _=>true
theorem zj2 (l:List V3) (hl:l.length≤9223372036854775807):∀ (n i:Nat),l.length - i=n→1≤i→i≤l.length→iter (z3d l) (i:Int)=some (if z7c (l.drop (i - 1)) then .inr () else .inl false):=by
 intro n
 induction n with
 | zero =>
  intro i hn h1 hi
  have:i=l.length:=by omega
  refine z0t ?_
  have e:l.drop (i - 1)=[l[i - 1]'(by omega)]:=by
   rw [List.drop_eq_getElem_cons (by omega),List.drop_eq_nil_of_le (by omega)]
  rw [e]
  unfold z3d
  rw [if_neg (by simp; omega)]
  simp [z7c]
 | succ n ih =>
  intro i hn h1 hi
  have hlt:i<l.length:=by omega
  have e:l.drop (i - 1)=l[i - 1]::l[i]::l.drop (i+1):=by
   rw [List.drop_eq_getElem_cons (by omega), show i - 1+1=i by omega,List.drop_eq_getElem_cons hlt]
  have e':l.drop (i+1 - 1)=l[i]::l.drop (i+1):=by rw [Nat.add_sub_cancel,List.drop_eq_getElem_cons hlt]
  have hF:z3d l (i:Int)=if decide (0≤Lib.compareBytes (l[i - 1]).toList (l[i]).toList) then some (.inl (.inl false)) else some (.inr ((i+1:Nat):Int)):=by
   unfold z3d
   rw [if_pos (by simp; omega),z0u (by omega) (by omega), show ((i:Int) - 1)=((i - 1:Nat):Int) by omega]
   simp only [z0c hlt,z0c (show i - 1<l.length by omega),bs,zvy,z0h (show i<9223372036854775807 by omega)]
  rw [e,z7c]
  cases hc:decide (0≤Lib.compareBytes (l[i - 1]).toList (l[i]).toList) with
  | true=>rw [hc] at hF; rw [z0t hF]; rfl
  | false =>
   rw [hc] at hF
   rw [z19 hF,ih (i+1) (by omega) (by omega) (by omega),e']; simp
theorem zok (l:List V3) (hl:l.length≤9223372036854775807):z75 l=some (z7c l):=by
 unfold z75
 cases l with
 | nil =>
  rw [z0t (b:=.inr ()) (by unfold z3d; rw [if_neg (by simp)])]; rfl
 | cons x l =>
  have:=zj2 (x::l) hl _ 1 rfl (by omega) (by simp)
  rw [show (1:Int)=((1:Nat):Int) from rfl,this]
  simp only [Nat.sub_self,List.drop_zero]
  cases z7c (x::l) <;> rfl
theorem zml (l:List V3) (hl:l.length≤9223372036854775806):∀ (n i:Nat),l.length - i=n→i≤l.length→∃ r,iter (z0g l l) ((i:Int),(i:Int))=some r∧(z7c (l.drop i)=true→∃ c,r=.inr c)∧(z7c (l.drop i)=false→∃ (k:Nat) (c:Int),r=.inl ((k:Int),c)):=by
 intro n
 induction n with
 | zero =>
  intro i hn hi
  have:i=l.length:=by omega
  refine ⟨.inr (i:Int),z0t ?_, fun _=>⟨_,rfl⟩, fun h=>?_⟩
  ·
   unfold z0g
   rw [if_neg (by simp; omega)]
  ·
   rw [List.drop_eq_nil_of_le (by omega)] at h; simp [z7c] at h
 | succ n ih =>
  intro i hn hi
  have hlt:i<l.length:=by omega
  by_cases h2:i+1<l.length
  ·
   have e:l.drop i=l[i]::l[i+1]::l.drop (i+2):=by rw [List.drop_eq_getElem_cons hlt,List.drop_eq_getElem_cons h2]
   have e':l.drop (i+1)=l[i+1]::l.drop (i+2):=by rw [List.drop_eq_getElem_cons h2]
   have hF:z0g l l ((i:Int),(i:Int))=if decide (0≤Lib.compareBytes (l[i]).toList (l[i+1]).toList) then some (.inl (.inl ((i:Int),((i+1:Nat):Int)))) else some (.inr (((i+1:Nat):Int),((i+1:Nat):Int))):=by
    unfold z0g zam
    rw [if_pos (by simp; omega)]
    simp only [z0c hlt,bs,z0h (show i<9223372036854775807 by omega)]
    rw [if_pos (by simp; omega),z0u (by omega) (by omega), show ((i+1:Nat):Int) - 1=(i:Int) by omega]
    simp only [z0c hlt,z0c h2,bs,zpx]
   rw [e,z7c]
   cases hc:decide (0≤Lib.compareBytes (l[i]).toList (l[i+1]).toList) with
   | true =>
    rw [hc] at hF
    exact ⟨_,z0t hF, fun h=>by simp at h, fun _=>⟨i,_,rfl⟩⟩
   | false =>
    rw [hc] at hF
    obtain ⟨r,k1,k2,k3⟩:=ih (i+1) (by omega) (by omega)
    rw [e'] at k2 k3
    exact ⟨r, by rw [z19 hF]; exact k1, fun h=>k2 (by simpa using h), fun h=>k3 (by simpa using h)⟩
  ·
   have e:l.drop i=[l[i]]:=by rw [List.drop_eq_getElem_cons hlt,List.drop_eq_nil_of_le (by omega)]
   have hF:z0g l l ((i:Int),(i:Int))=some (.inr (((i+1:Nat):Int),((i+1:Nat):Int))):=by
    unfold z0g zam
    rw [if_pos (by simp; omega)]
    simp only [z0c hlt,bs,z0h (show i<9223372036854775807 by omega)]
    rw [if_neg (by simp; omega)]
    simp only [bs]; rfl
   obtain ⟨r,k1,k2,k3⟩:=ih (i+1) (by omega) (by omega)
   rw [List.drop_eq_nil_of_le (by omega)] at k2 k3
   exact ⟨r, by rw [z19 hF]; exact k1, fun _=>k2 rfl, fun h=>by rw [e] at h; simp [z7c] at h⟩
theorem zsm (l:List V3) (hl:l.length≤9223372036854775806):zdd l=some (z7c l):=by
 obtain ⟨r,k1,k2,k3⟩:=zml l hl _ 0 rfl (by omega)
 unfold zdd z1x z26
 rw [show ((0:Int),(0:Int))=(((0:Nat):Int),((0:Nat):Int)) from rfl,k1]
 simp only [List.drop_zero] at k2 k3
 cases h:z7c l with
 | true=>obtain ⟨c,rfl⟩:=k2 h; rfl
 | false =>
  obtain ⟨k,c,rfl⟩:=k3 h
  simp only [or_l,bs]
  rw [decide_eq_true (by omega)]; rfl
def zkk (l:List V3):List UInt8:=l.flatMap Vector.toList
theorem zfz (l:List V3):(zkk l).length=32 * l.length:=by
 induction l with
 | nil=>rfl
 | cons x l ih=>unfold zkk at ih ⊢; rw [List.flatMap_cons,List.length_append,ih]; simp; omega
theorem zna (l:List V3) (i:Nat) (hi:i<l.length):zkk (l.take (i+1))=zkk (l.take i)++(l[i]).toList:=by
 rw [List.take_add_one,List.getElem?_eq_getElem hi]; unfold zkk; rw [List.flatMap_append,Option.toList_some,List.flatMap_cons,List.flatMap_nil,List.append_nil]
theorem z11j (l:List V3) (h:l.length≤1000) (s:List UInt8) (hs:s.length≤9):iter (z5c l) (s,0)=some (s++zkk l):=by
 have:=z1q (F:=z5c l) (b:=s++zkk l) l.length (fun i=>(s++zkk (l.take i),(i:Int))) (fun i hi=>?_) ?_
 ·
  simpa [zkk] using this
 ·
  unfold z5c
  have hf:=zfz (l.take i)
  rw [if_pos (by simp; omega)]
  simp only [z0c hi,bs]
  rw [z1p (by simp at hf ⊢; omega)]
  simp only [bs,z0h (show i<9223372036854775807 by omega),zna l i hi,List.append_assoc]
 ·
  unfold z5c
  rw [if_neg (by simp)]
  simp
theorem z138 (l:List V3) (h:l.length≤1000) (s:List UInt8) (hs:s.length≤9):iter (zaw l) (s,0)=some (s++zkk l):=by
 have:=z1q (F:=zaw l) (b:=s++zkk l) l.length (fun i=>(s++zkk (l.take i),(i:Int))) (fun i hi=>?_) ?_
 ·
  simpa [zkk] using this
 ·
  unfold zaw
  have hf:=zfz (l.take i)
  rw [if_pos (by simp; omega)]
  simp only [z0c hi,bs]
  rw [z1p (by simp at hf ⊢; omega)]
  simp only [bs,z0h (show i<9223372036854775807 by omega),zna l i hi,List.append_assoc]
 ·
  unfold zaw
  rw [if_neg (by simp)]
  simp
theorem zjq {n:Nat} (h:n<18446744073709551616):(UInt64.ofInt (n:Int)).toNat=n:=by
 simp [UInt64.ofInt]; omega
theorem zy7 (l:List V3) (h:l.length≤1000):zb5 l=some (z1r l.length++zkk l):=by
 unfold zb5
 have hn:=z14 l.length (by omega)
 rw [z63,zjq (by omega)]
 simp only [bs]
 rw [z11j l h _ (by omega)]; rfl
theorem z10o (l:List V3) (h:l.length≤60) (hi:z7c l=true):zij l=some (z1r l.length++zkk l,0):=by
 unfold zij
 have hn:=z14 l.length (by omega)
 rw [if_neg (by simp; omega),zsm l (by omega),hi,z69,zjq (by omega)]
 simp only [bs,Bool.not_true,Bool.false_eq_true,if_false]
 rw [z138 l (by omega) _ (by omega)]; rfl
end
section
open Go
def nk:List UInt8→Nat
 | []=>0
 | a::l=>a.toNat * 256 ^ l.length+nk l
theorem z10i:∀ l:List UInt8,nk l<256 ^ l.length
 | []=>by simp [nk]
 | a::l=>by
  have ih:=z10i l
  have ha:=UInt8.toNat_lt a
  simp only [nk,List.length_cons,Nat.pow_succ]
  have h1:(a.toNat+1) * 256 ^ l.length≤256 * 256 ^ l.length:=Nat.mul_le_mul_right _ (by omega)
  rw [Nat.add_mul,Nat.one_mul] at h1
  omega
theorem zvh:∀ a b:List UInt8,a.length=b.length→Lib.compareBytes a b=(if nk a<nk b then -1 else if nk b<nk a then 1 else 0)∧(nk a=nk b→a=b)
 | [],[],_=>by simp [Lib.compareBytes,nk]
 | [],_::_,h=>by simp at h
 | _::_,[],h=>by simp at h
 | a::x,b::y,h=>by
  have hl:x.length=y.length:=by simpa using h
  obtain ⟨i1,i2⟩:=zvh x y hl
  have lx:=z10i x
  have ly:=z10i y
  simp only [Lib.compareBytes,nk,hl] at *
  have e:∀ u v:UInt8,u.toNat<v.toNat→u.toNat * 256 ^ y.length+256 ^ y.length≤v.toNat * 256 ^ y.length:=fun u v huv=>by
   have:=Nat.mul_le_mul_right (256 ^ y.length) (show u.toNat+1≤v.toNat from huv)
   rwa [Nat.add_mul,Nat.one_mul] at this
  by_cases h1:a<b
  ·
   have h1':a.toNat<b.toNat:=UInt8.lt_iff_toNat_lt.1 h1
   have:=e a b h1'
   rw [if_pos h1,if_pos (by omega)]
   exact ⟨rfl, fun h=>by omega⟩
  ·
   by_cases h2:b<a
   ·
    have h2':b.toNat<a.toNat:=UInt8.lt_iff_toNat_lt.1 h2
    have:=e b a h2'
    rw [if_neg h1,if_pos h2,if_neg (by omega),if_pos (by omega)]
    exact ⟨rfl, fun h=>by omega⟩
   ·
    have h3:a=b:=UInt8.toNat_inj.1 (by rw [UInt8.lt_iff_toNat_lt] at h1 h2; omega)
    subst h3
    rw [if_neg h1,if_neg h1,i1]
    refine ⟨?_, fun h=>by rw [i2 (by omega)]⟩
    by_cases c1:nk x<nk y
    ·
     rw [if_pos c1,if_pos (by omega)]
    ·
     by_cases c2:nk y<nk x
     ·
      rw [if_neg c1,if_pos c2,if_neg (by omega),if_pos (by omega)]
     ·
      rw [if_neg c1,if_neg c2,if_neg (by omega),if_neg (by omega)]
def kd (d:V3):Nat:=nk d.toList
theorem zz6 (a b:V3):Lib.compareBytes a.toList b.toList=if kd a<kd b then -1 else if kd b<kd a then 1 else 0:=(zvh a.toList b.toList (by simp)).1
theorem zvb {a b:V3} (h:kd a=kd b):a=b:=by
 have:=(zvh a.toList b.toList (by simp)).2 h
 exact Vector.toList_inj.1 this
theorem zrg (a b:V3):z70 a b=some (if kd a<kd b then -1 else if kd b<kd a then 1 else 0):=by rw [zpx,zz6]
theorem z108 (a b:V3):decide ((if kd a<kd b then (-1:Int) else if kd b<kd a then 1 else 0)<0)=decide (kd a<kd b):=by
 by_cases h:kd a<kd b
 ·
  simp [h]
 ·
  by_cases h2:kd b<kd a <;> simp [h,h2]
theorem zzw (a b:V3):decide (0≤(if kd a<kd b then (-1:Int) else if kd b<kd a then 1 else 0))=decide (kd b≤kd a):=by
 by_cases h:kd a<kd b
 ·
  have:¬ kd b≤kd a:=by omega
  simp [h,this]
 ·
  have h3:kd b≤kd a:=by omega
  by_cases h2:kd b<kd a <;> simp [h,h2,h3]
theorem z12x (a b:V3):((if kd a<kd b then (-1:Int) else if kd b<kd a then 1 else 0)==0)=decide (a=b):=by
 by_cases h:kd a<kd b
 ·
  have:a≠b:=fun e=>by rw [e] at h; omega
  simp [h,this]
 ·
  by_cases h2:kd b<kd a
  ·
   have:a≠b:=fun e=>by rw [e] at h2; omega
   simp [h,h2,this]
  ·
   have:a=b:=zvb (by omega)
   simp [h,h2,this]
theorem zqf:∀ l:List V3,z7c l=true↔∀ i (h:i+1<l.length),kd (l[i]'(by omega))<kd l[i+1]
 | []=>by simp [z7c]
 | [a]=>by simp [z7c]
 | a::b::l=>by
  have ih:=zqf (b::l)
  rw [z7c,Bool.and_eq_true,ih,zz6,zzw]
  constructor
  ·
   rintro ⟨h1,h2⟩ i hi
   cases i with
   | zero=>simpa using h1
   | succ i=>exact h2 i (by simpa using hi)
  ·
   intro h
   refine ⟨?_, fun i hi=>h (i+1) (by simpa using hi)⟩
   have:=h 0 (by simp)
   simpa using this
theorem zel:∀ l:List V3,z7c l=true↔l.Pairwise (fun a b=>kd a<kd b)
 | []=>by simp [z7c]
 | [a]=>by simp [z7c]
 | a::b::l=>by
  have ih:=zel (b::l)
  rw [z7c,Bool.and_eq_true,ih,zz6,zzw]
  constructor
  ·
   rintro ⟨h1,h2⟩
   have h1':kd a<kd b:=by simpa using h1
   refine List.pairwise_cons.2 ⟨fun c hc=>?_,h2⟩
   rcases List.mem_cons.1 hc with rfl | hc
   ·
    exact h1'
   ·
    have:=(List.pairwise_cons.1 h2).1 c hc; omega
  ·
   intro h
   obtain ⟨h1,h2⟩:=List.pairwise_cons.1 h
   have:=h1 b (by simp)
   exact ⟨by simp; omega,h2⟩
theorem zuj (l:List V3) (hl:l.length≤9223372036854775807):∃ b,z12 l=some b∧(b=true↔∀ i (h:i+1<l.length),kd (l[i]'(by omega))≤kd l[i+1]):=by
 have key:∀ n,n<l.length→∃ r:Sum Bool Unit,iter (z0n l) (n:Int)=some r∧((r=.inr ()∧∀ i (h:i+1<l.length),i+1≤n→kd (l[i]'(by omega))≤kd l[i+1])∨(r=.inl false∧∃ i,∃ h:i+1<l.length,¬ kd (l[i]'(by omega))≤kd l[i+1])):=by
  intro n
  induction n with
  | zero =>
   intro h
   refine ⟨_,z0t ?_,.inl ⟨rfl, fun i _ h=>by omega⟩⟩
   unfold z0n
   rw [if_neg (by simp)]
  | succ n ih =>
   intro h
   have hF:z0n l ((n+1:Nat):Int)=if decide (kd l[n+1]<kd l[n]) then some (.inl (.inl false)) else some (.inr (n:Int)):=by
    unfold z0n
    rw [if_pos (by simp <;> omega),z0c h,z0u (by omega) (by omega), show (((n+1:Nat):Int) - 1)=(n:Int) by omega,z0c (by omega)]
    simp only [bS]
    rw [zrg]
    simp only [bS]
    rw [z108]
   by_cases hc:kd l[n+1]<kd l[n]
   ·
    rw [decide_eq_true hc,if_pos rfl] at hF
    exact ⟨_,z0t hF,.inr ⟨rfl,n,h, by omega⟩⟩
   ·
    rw [decide_eq_false hc,if_neg (by simp)] at hF
    obtain ⟨r,h1,h2⟩:=ih (by omega)
    refine ⟨r, by rw [z19 hF]; exact h1,?_⟩
    rcases h2 with ⟨h2,h3⟩ | h2
    ·
     refine .inl ⟨h2, fun i hi hn=>?_⟩
     by_cases hin:i=n
     ·
      subst hin; omega
     ·
      exact h3 i hi (by omega)
    ·
     exact .inr h2
 unfold z12
 simp only [bS]
 by_cases h0:l.length=0
 ·
  refine ⟨true,?_, by simp; intro i hi; omega⟩
  rw [h0,z0u (by omega) (by omega),z0t (b:=.inr ())]
  ·
   rfl
  ·
   unfold z0n
   rw [if_neg (by simp)]
 ·
  obtain ⟨r,h1,h2⟩:=key (l.length - 1) (by omega)
  rw [z0u (by omega) (by omega), show ((l.length:Int) - 1)=((l.length - 1:Nat):Int) by omega,h1]
  rcases h2 with ⟨rfl,h3⟩ | ⟨rfl,i,hi,h3⟩
  ·
   exact ⟨true,rfl, by simp; exact fun i hi=>h3 i hi (by omega)⟩
  ·
   exact ⟨false,rfl, by simp; exact ⟨i,hi, by omega⟩⟩
theorem ztj {k n j:Nat} (h:j<n):subi k n (j:Int)=some (k+j):=by unfold subi; rw [if_pos (by omega)]; simp
theorem z115 {α:Type} (b:List α) (k n:Nat) (x:α) (h:k+n≤b.length):(clr b k n x).length=b.length:=by
 unfold clr
 simp only [List.length_append,List.length_take,List.length_replicate,List.length_drop]; omega
theorem zpj (l:List V3) (s:Nat) (h1:1≤s) (hs:s<l.length) (hl:l.length≤9223372036854775806):∃ b:List V3 × Int,iter (z24 l s) (l,(s:Int),1)=some b∧b.1.length=l.length∧∃ j:Nat,b.2=(j:Int)∧j<l.length:=by
 refine zc3 (F:=z24 l s) (l.length - s) (fun i st=>st.1.length=l.length∧st.2.2=(i:Int)∧1≤i∧∃ j:Nat,st.2.1=(j:Int)∧j+1≤s+i) _ ?_ ?_ _ 1 (by omega) ⟨rfl,rfl, by omega,s,rfl, by omega⟩
 ·
  rintro i ⟨c,j',i'⟩ hi ⟨e1,e2,e0,j,e3,e4⟩
  simp only at e1 e2 e3
  subst e2 e3
  unfold z24
  rw [if_pos (by simp; omega)]
  simp only [Int.toNat_natCast]
  rw [ztj (by omega),z0u (x:=(i:Int) - 1) (by omega) (by omega), show ((i:Int) - 1)=((i - 1:Nat):Int) by omega,ztj (by omega)]
  simp only [bS]
  rw [z0c (by omega),z0c (by omega)]
  simp only [bS]
  by_cases hc:c[s+i]'(by omega)=c[s+(i - 1)]'(by omega)
  ·
   rw [decide_eq_true hc,if_neg (by simp)]
   exact ⟨_,rfl,e1,z0h (by omega), by omega,j,rfl, by omega⟩
  ·
   rw [decide_eq_false hc,if_pos (by simp),z0c (by omega)]
   simp only [bS]
   exact ⟨_,rfl, by simpa using e1,z0h (by omega), by omega,j+1,z0h (by omega), by omega⟩
 ·
  rintro ⟨c,j',i'⟩ ⟨e1,e2,e0,j,e3,e4⟩
  simp only at e1 e2 e3
  subst e2 e3
  unfold z24
  rw [if_neg (by simp <;> omega)]
  exact ⟨_,rfl,e1,j,rfl, by omega⟩
theorem zsh (l:List V3) (hl:l.length≤9223372036854775806):∃ c,z2j l=some c∧(c.length=l.length↔∀ i (h:i+1<l.length),l[i]'(by omega)≠l[i+1]):=by
 have key:∀ k n,l.length - n=k→1≤n→n≤l.length→∃ r:Sum (List V3) Unit,iter (z1d l) (n:Int)=some r∧((r=.inr ()∧∀ i (h:i+1<l.length),n≤i+1→l[i]'(by omega)≠l[i+1])∨(∃ c,r=.inl c∧c.length≠l.length∧∃ i,∃ h:i+1<l.length,l[i]'(by omega)=l[i+1])):=by
  intro k
  induction k with
  | zero =>
   intro n hk h1 hn
   refine ⟨_,z0t ?_,.inl ⟨rfl, fun i _ h=>by omega⟩⟩
   unfold z1d
   rw [if_neg (by simp; omega)]
  | succ k ih =>
   intro n hk h1 hn
   have hlt:n<l.length:=by omega
   by_cases hc:l[n]=l[n - 1]
   ·
    obtain ⟨⟨c,j'⟩,e1,e2,j,e3,e4⟩:=zpj l n h1 hlt hl
    simp only at e2 e3
    subst e3
    have hF:z1d l (n:Int)=some (.inl (.inl ((clr c j (c.length - j) (Vector.replicate 32 0)).take j))):=by
     unfold z1d
     rw [if_pos (by simp; omega),z0c hlt,z0u (by omega) (by omega), show ((n:Int) - 1)=((n - 1:Nat):Int) by omega,z0c (by omega)]
     simp only [bS]
     rw [decide_eq_true hc,if_pos rfl,z35 (by omega)]
     simp only [bS]
     rw [e1]
     simp only [bS]
     rw [z35 (by omega),z35 (by simp; omega)]
     simp only [bS,Int.toNat_natCast]
     rw [show (0:Int)=((0:Nat):Int) from rfl,zhm (by omega) (by rw [z115 _ _ _ _ (by omega)]; omega)]
     simp
    refine ⟨_,z0t hF,.inr ⟨_,rfl,?_,n - 1, by omega,?_⟩⟩
    ·
     rw [List.length_take]; omega
    ·
     have:n - 1+1=n:=by omega
     simp only [this]; exact hc.symm
   ·
    have hF:z1d l (n:Int)=some (.inr ((n+1:Nat):Int)):=by
     unfold z1d
     rw [if_pos (by simp; omega),z0c hlt,z0u (x:=(n:Int) - 1) (by omega) (by omega), show ((n:Int) - 1)=((n - 1:Nat):Int) by omega,z0c (by omega)]
     simp only [bS]
     rw [decide_eq_false hc,if_neg (by simp),z0h (by omega)]
    obtain ⟨r,h2,h3⟩:=ih (n+1) (by omega) (by omega) (by omega)
    refine ⟨r, by rw [z19 hF]; exact h2,?_⟩
    rcases h3 with ⟨h3,h4⟩ | h3
    ·
     refine .inl ⟨h3, fun i hi hni=>?_⟩
     by_cases hin:i+1=n
     ·
      subst hin; exact fun e=>hc e.symm
     ·
      exact h4 i hi (by omega)
    ·
     exact .inr h3
 unfold z2j
 by_cases h2:l.length<2
 ·
  rw [if_pos (by simp; omega)]
  exact ⟨l,rfl, by simp; intro i hi; omega⟩
 ·
  rw [if_neg (by simp; omega)]
  obtain ⟨r,e1,e2⟩:=key (l.length - 1) 1 rfl (by omega) (by omega)
  rw [show (1:Int)=((1:Nat):Int) from rfl,e1]
  rcases e2 with ⟨rfl,h3⟩ | ⟨c,rfl,h3,i,hi,h4⟩
  ·
   exact ⟨l,rfl, by simp; exact fun i hi=>h3 i hi (by omega)⟩
  ·
   exact ⟨c,rfl,⟨fun h=>absurd h h3, fun h=>absurd h4 (h i hi)⟩⟩
theorem zxg (l:List V3):z7c l=true↔(∀ i (h:i+1<l.length),kd (l[i]'(by omega))≤kd l[i+1])∧∀ i (h:i+1<l.length),l[i]'(by omega)≠l[i+1]:=by
 rw [zqf]
 constructor
 ·
  intro h
  refine ⟨fun i hi=>Nat.le_of_lt (h i hi), fun i hi e=>?_⟩
  have:=h i hi
  rw [e] at this; omega
 ·
  rintro ⟨h1,h2⟩ i hi
  have:=h1 i hi
  rcases Nat.lt_or_eq_of_le this with h | h
  ·
   exact h
  ·
   exact absurd (zvb h) (h2 i hi)
end
section
open Go Go.Shelf Go.RowKit Go.Lib
theorem zxj {P:Program} {k:Nat} (w:World) (dT sT ty elem:TypeId) (g o dLen dCap:Nat) (a:Addr) (sLen sCap:Nat) (cur:Array Value) (t:TypeId) (cs:List Value)
  (hu:P.underlying dT=some (.slice elem)) (hs:(P.info? elem).map (·.size)=some k)
  (hg:w.heap[g]? = some (.cells cur t (0,0))) (hn:cs.length=Nat.min sLen dLen * k)
  (hsrc:∀ j v,cs[j]? = some v→w.cell? (a.add j)=some v) (hfit:o+cs.length≤cur.size) (h1:∀ v∈cs,v.oneCell'=true) :
  (Builtin.copy_ #[dT,sT] ty #[.slice (some ⟨g,o,none⟩) dLen dCap,.slice (some a) sLen sCap]).run P w =
   .ok (goInt (Nat.min sLen dLen)) (w.setRow g (cur.toList.take o++cs++cur.toList.drop (o+cs.length)).toArray):=by
 have hl:=run_firstCells_some (P:=P) w k (Nat.min sLen dLen) a sLen sCap cs hn hsrc
 have hst:=run_storeCells_at P g o t cs 0 cur w hg (by simpa using hfit) h1
 cases hq:P.info? elem with
 | none=>simp [hq] at hs
 | some i =>
  have hi:i.size=k:=by simpa [hq] using hs
  simp [Builtin.copy_,run_underlying hu,Builtin.lenOf,sizeOf,typeInfo,hq,hi,hl,hst]
theorem zxi {P:Program} (w:World) {o:Oper} {a:Act} {K:Act→World→Prop} {Q:Exit→Act→World→Prop} (d s:Operand) (t t':TypeId)
  (ho:o.op=.call { callee:=.builtin .copy,args:=#[d,s],argTypes:=#[t,t'] }) (v u:Value) (hd:a.eval d=v) (hs:a.eval s=u) {v':Value} {w':World}
  (hr:(Builtin.copy_ #[t,t'] o.type #[v,u]).run P w=.ok v' w') (h:K (a.put o.dst v') w'):o.wp P a w K Q:=by
 unfold Oper.wp execOp
 simp only [ho,resolve,invoke,builtin,Sem.run_bind,Sem.run_pure,Result.andThen_ok,List.map_toArray,List.map_cons,List.map_nil,hd,hs,hr]
 exact h
theorem zhs {P:Program} (w:World) {ops:Array Oper} {rest:List Oper} {o:Oper} {a:Act} {Q:Exit→Act→World→Prop} (hgd:o.guard=none) (d s:Operand) (t t':TypeId)
  (ho:o.op=.call { callee:=.builtin .copy,args:=#[d,s],argTypes:=#[t,t'] }) (v u:Value) (hd:a.eval d=v) (hs:a.eval s=u) {v':Value} {w':World}
  (hr:(Builtin.copy_ #[t,t'] o.type #[v,u]).run P w=.ok v' w') (h:wpList P ops Q rest (a.put o.dst v') w'):wpList P ops Q (o::rest) a w :=
 wpList_plain hgd fun _ hK=>zxi w d s t t' ho v u hd hs hr (hK _ _ h)
theorem zla {P:Program} {ops:Array Oper} {o:Oper} {a:Act} {w:World} {K:Act→World→Prop} {Q:Exit→Act→World→Prop} {E:Prop}
  (hg:o.guard=none) (d x:Operand) (dT sT:TypeId) (hop:o.op=Op.call { callee:=Callee.builtin Builtin.copy,args:=#[d,x],argTypes:=#[dT,sT] })
  (v u:Value) (hd:a.eval d=v) (hx:a.eval x=u) {v':Value} {w':World} (hr:(Builtin.copy_ #[dT,sT] o.type #[v,u]).run P w=.ok v' w') (hK:K (a.put o.dst v') w') :
  if Region.wanted o (yielded ops a.tmps)=true then Oper.wp P o a w K Q else E:=by
 have hw:Region.wanted o (yielded ops a.tmps)=true:=by simp [Region.wanted,hg]
 rw [if_pos hw]
 unfold Oper.wp
 simp [execOp,hop,resolve,invoke,builtin,hd,hx,hr,Result.andThen]
 exact hK
section
variable (b n c i vb vc:Nat) (xs ys:List Value) (C V:Array Value) (w:World)
theorem zwp:TI Tryz.prog 94 (.agg (Array.replicate 32 (.int .u8 0))) 32 32:=z7g
theorem zvf:(Tryz.prog.info? 94).map (·.size)=some 32:=by kernel_rfl
set_option maxHeartbeats 4000000 in
set_option maxRecDepth 100000 in
theorem zvs (hi:i<n) (hroom:n+1≤c) (hc63:c≤9223372036854775807) (hvb:vb≠b) (hC:w.heap[b]? = some (.cells C 94 (0,0))) (hV:w.heap[vb]? = some (.cells V 94 (0,0)))
  (hCs:C.size=c * 32) (hxs:C.toList.take (n * 32)=xs) (hys:V.toList.take 32=ys) (hyl:ys.length=32) (h1x:∀ v∈xs,v.oneCell'=true) (h1y:∀ v∈ys,v.oneCell'=true) :
  Calls Tryz.prog 95 #[.slice (some ⟨b,0,none⟩) n c,.int .i64 i,.slice (some ⟨vb,0,none⟩) 1 vc] w fun e w' =>
   e=.returned (.slice (some ⟨b,0,none⟩) (n+1) c)∧∃ D,w'=w.drew.setRow b D∧D.size=C.size∧D.toList.take ((n+1) * 32)=xs.take (i * 32)++ys++xs.drop (i * 32):=by
 have hsz:=zvf
 have u22:Tryz.prog.underlying 46=some (.slice 94):=Tryz.underlying46
 have hcc:∀ j v,C.toList[j]? = some v→w.cell? ⟨b,j,none⟩=some v:=fun j v hj=>by
  rw [Array.getElem?_toList] at hj; unfold World.cell?; rw [hC]; exact hj
 have hcv:∀ j v,V.toList[j]? = some v→w.cell? ⟨vb,j,none⟩=some v:=fun j v hj=>by
  rw [Array.getElem?_toList] at hj; unfold World.cell?; rw [hV]; exact hj
 have hxl:xs.length=n * 32:=by rw [← hxs,List.length_take,Array.length_toList]; omega
 have hxg:∀ j v,xs[j]? = some v→C.toList[j]? = some v:=fun j v hj=>by
  rw [← hxs,List.getElem?_take] at hj; split at hj
  ·
   exact hj
  ·
   cases hj
 have hyg:∀ j v,ys[j]? = some v→V.toList[j]? = some v:=fun j v hj=>by
  rw [← hys,List.getElem?_take] at hj; split at hj
  ·
   exact hj
  ·
   cases hj
 have hVs:V.size≠0:=by
  have:ys.length≤V.size:=by rw [← hys,List.length_take,Array.length_toList]; omega
  omega
 have hov:∀ lb cb,(callFunc 122 #[.slice (some ⟨vb,0,none⟩) 1 vc,.slice (some ⟨b,(i+1) * 32,none⟩) lb cb]).run Tryz.prog w=.ok (.value (.bool false)) w:=fun lb cb=>by
  rw [run_callFunc_extern Tryz.func122 (by kernel_rfl) (by kernel_rfl) (by kernel_rfl) (e:=Extern.SlicesOverlaps.overlaps #[46,46] #[4]) (by kernel_rfl),
   Lib.run_overlaps_apart w 46 4 94 u22 32 Tryz.sizeOf94 ⟨vb,0,none⟩ ⟨b,(i+1) * 32,none⟩ 1 vc lb cb hvb 94 94 V.size C.size (by simp [World.shape?,hV]) (by simp [World.shape?,hC]) (by omega) (by simp [World.frozen?,hV]) (by simp [World.frozen?,hV])]
  rfl
 have hdl:(xs.drop (i * 32)).length=(n - i) * 32:=by rw [List.length_drop,hxl,Nat.sub_mul]
 have hmin1:Nat.min (n+1 - i) (n - i)=n - i:=by simp only [Nat.min_def]; split <;> omega
 have hcp1:∀ ty dc sc,(Builtin.copy_ #[46,46] ty #[.slice (some ⟨b,(i+1) * 32,none⟩) (n - i) dc,.slice (some ⟨b,i * 32,none⟩) (n+1 - i) sc]).run Tryz.prog w.drew =
   .ok (goInt ((n - i:Nat):Int)) (w.drew.setRow b (C.toList.take ((i+1) * 32)++xs.drop (i * 32)++C.toList.drop ((i+1) * 32+(xs.drop (i * 32)).length)).toArray):=fun ty dc sc=>by
  have e:=zxj (P:=Tryz.prog) w.drew 46 46 ty 94 b ((i+1) * 32) (n - i) dc ⟨b,i * 32,none⟩ (n+1 - i) sc C 94 (xs.drop (i * 32)) u22 hsz hC (by rw [hmin1,hdl])
   (fun j v hj=>by rw [Addr.add_lit]; exact hcc _ v (hxg _ v (by rwa [List.getElem?_drop] at hj))) (by rw [hdl,hCs]; omega) (fun v hv=>h1x v (List.mem_of_mem_drop hv))
  rw [hmin1] at e; exact e
 obtain ⟨D1,hD1⟩:∃ D1,D1=(C.toList.take ((i+1) * 32)++xs.drop (i * 32)++C.toList.drop ((i+1) * 32+(xs.drop (i * 32)).length)).toArray:=⟨_,rfl⟩
 rw [← hD1] at hcp1
 have hD1s:D1.size=C.size:=by
  rw [hD1]; simp only [List.size_toArray,List.length_append,List.length_take,List.length_drop,Array.length_toList,hxl]; omega
 obtain ⟨W1,hW1⟩:∃ W1,W1=w.drew.setRow b D1:=⟨_,rfl⟩
 have hB1:W1.heap[b]? = some (.cells D1 94 (0,0)):=by rw [hW1]; exact setRow_heap w.drew b C D1 94 (0,0) hC
 have hV1:W1.heap[vb]? = some (.cells V 94 (0,0)):=by rw [hW1,setRow_other w.drew b vb D1 hvb]; exact hV
 obtain ⟨D2,hD2⟩:∃ D2,D2=(D1.toList.take (i * 32)++ys++D1.toList.drop (i * 32+ys.length)).toArray:=⟨_,rfl⟩
 have hcp2:∀ ty dc,(Builtin.copy_ #[46,46] ty #[.slice (some ⟨b,i * 32,none⟩) (n+1 - i) dc,.slice (some ⟨vb,0,none⟩) 1 vc]).run Tryz.prog W1=.ok (goInt 1) (W1.setRow b D2):=fun ty dc=>by
  have hm:Nat.min 1 (n+1 - i)=1:=by simp only [Nat.min_def]; split <;> omega
  have e:=zxj (P:=Tryz.prog) W1 46 46 ty 94 b (i * 32) (n+1 - i) dc ⟨vb,0,none⟩ 1 vc D1 94 ys u22 hsz hB1 (by rw [hm,hyl])
   (fun j v hj=>by
    rw [Addr.add_lit,Nat.zero_add]
    have:=hyg j v hj
    rw [Array.getElem?_toList] at this
    unfold World.cell?; rw [hV1]; exact this) (by rw [hyl,hD1s,hCs]; omega) h1y
  rw [hm,← hD2] at e; exact e
 have hfin:D2.size=C.size∧D2.toList.take ((n+1) * 32)=xs.take (i * 32)++ys++xs.drop (i * 32):=by
  have t1:D1.toList.take (i * 32)=xs.take (i * 32):=by
   rw [hD1,← hxs,List.take_take]
   simp only [List.append_assoc]
   rw [List.take_append_of_le_length (by rw [List.length_take,Array.length_toList]; omega),List.take_take]
   congr 1; omega
  have t2:(D1.toList.drop ((i+1) * 32)).take ((n - i) * 32)=xs.drop (i * 32):=by
   have el:(C.toList.take ((i+1) * 32)).length=(i+1) * 32:=by rw [List.length_take,Array.length_toList]; omega
   rw [hD1]
   simp only [List.append_assoc]
   rw [List.drop_append,el,Nat.sub_self,List.drop_zero,List.drop_eq_nil_of_le (by rw [el]; omega),List.nil_append,List.take_append_of_le_length (by rw [hdl]; omega),List.take_of_length_le (by rw [hdl]; omega)]
  constructor
  ·
   rw [hD2]; simp only [List.size_toArray,List.length_append,List.length_take,List.length_drop,Array.length_toList,hyl]; omega
  ·
   rw [hD2]
   simp only [List.append_assoc]
   have el:(D1.toList.take (i * 32)).length=i * 32:=by rw [List.length_take,Array.length_toList]; omega
   rw [List.take_append,el,List.take_of_length_le (by rw [el]; omega),List.take_append,hyl,List.take_of_length_le (l:=ys) (by rw [hyl]; omega),t1,
    show i * 32+32=(i+1) * 32 by omega, show (n+1) * 32 - i * 32 - 32=(n - i) * 32 by omega,t2]
 have hz1:¬ ((1:Int)=0):=by decide
 have hz2:¬ ((i:Int)=(n:Int)):=by omega
 have hw1:IntKind.i64.wrap ((i:Int)+1)=(i:Int)+1:=by rw [IntKind.wrap_i64]; omega
 have hb1:(0:Int)≤(i:Int)+1:=by omega
 have hin:i≤n:=by omega
 have htn:((i:Int)+1).toNat=i+1:=by omega
 have hb2:¬ (c=i+1):=by omega
 have hb3:(i:Int)≤(n:Int)+1:=by omega
 have hb4:¬ (c=i):=by omega
 subst hW1
 clear hcc hcv hxg hyg hD1 hD2 hxs hys hC hV hB1 hV1 h1x h1y hdl hmin1 hxl hyl
 go_enter Tryz.func95,Tryz.ntmps95
 go_wp2_with (simp only [hov])
 go_region_law (refine zla rfl _ _ 46 46 rfl (.slice (some ⟨b,(i+1) * 32,none⟩) (n - i) (c - (i+1))) (.slice (some ⟨b,i * 32,none⟩) (n+1 - i) (c - i)) (by simp [Act.eval,Act.put]) (by simp [Act.eval,Act.put]) (hcp1 3 (c - (i+1)) (c - i)) ?_)
 go_wp2_with (at_builtin; refine zhs _ rfl _ _ 46 46 rfl _ _ rfl rfl (hcp2 _ _) ?_)
 go_ret
 exact ⟨rfl,D2, by rw [setRow_setRow],hfin⟩
set_option maxHeartbeats 4000000 in
set_option maxRecDepth 100000 in
theorem zz1 (hi:i<n) (hnc:n≤c) (hroom:c<n+1) (hn:n≤1000000) (hvb:vb≠b) (hC:w.heap[b]? = some (.cells C 94 (0,0))) (hV:w.heap[vb]? = some (.cells V 94 (0,0)))
  (hCs:C.size=c * 32) (hxs:C.toList.take (n * 32)=xs) (hys:V.toList.take 32=ys) (hyl:ys.length=32) (h1x:∀ v∈xs,v.oneCell'=true) (h1y:∀ v∈ys,v.oneCell'=true) :
  Calls Tryz.prog 95 #[.slice (some ⟨b,0,none⟩) n c,.int .i64 i,.slice (some ⟨vb,0,none⟩) 1 vc] w fun e w' =>
   ∃ G,e=.returned (.slice (some ⟨w.heap.size,0,none⟩) (n+1) G)∧n+1≤G∧G≤maxLen∧∃ D,w'.heap[w.heap.size]? = some (.cells D 94 (0,0))∧w.grownBy w' none∧D.size=G * 32∧D.toList.take ((n+1) * 32)=xs.take (i * 32)++ys++xs.drop (i * 32):=by
 have hsz:=zvf
 have u22:Tryz.prog.underlying 46=some (.slice 94):=Tryz.underlying46
 have u3:Tryz.prog.underlying 3=some (.int .i64):=Tryz.underlying3
 have hcn:c=n:=by omega
 subst hcn
 have hcc:∀ j v,C.toList[j]? = some v→w.cell? ⟨b,j,none⟩=some v:=fun j v hj=>by
  rw [Array.getElem?_toList] at hj; unfold World.cell?; rw [hC]; exact hj
 have hxl:xs.length=c * 32:=by rw [← hxs,List.length_take,Array.length_toList]; omega
 have hxg:∀ j v,xs[j]? = some v→C.toList[j]? = some v:=fun j v hj=>by
  rw [← hxs,List.getElem?_take] at hj; split at hj
  ·
   exact hj
  ·
   cases hj
 have hyg:∀ j v,ys[j]? = some v→V.toList[j]? = some v:=fun j v hj=>by
  rw [← hys,List.getElem?_take] at hj; split at hj
  ·
   exact hj
  ·
   cases hj
 have hbw:b<w.heap.size:=(Array.getElem?_eq_some_iff.1 hC).1
 have hvw:vb<w.heap.size:=(Array.getElem?_eq_some_iff.1 hV).1
 have hkk:(c:Int)+1 - (i:Int)=((c+1 - i:Nat):Int):=by omega
 obtain ⟨i0,hi0,hz0,hzs,hzb⟩:=zwp
 have hold:(Builtin.firstCells i0.size i (.slice (some ⟨b,0,none⟩) i c)).run Tryz.prog w.drew=.ok (xs.take (i * 32)).toArray w.drew:=by
  rw [hzs]
  exact run_firstCells_some w.drew 32 i ⟨b,0,none⟩ i c (xs.take (i * 32)) (by rw [List.length_take]; omega) (fun j v hj=>by
   rw [Addr.add_lit,Nat.zero_add]
   rw [List.getElem?_take] at hj
   split at hj
   ·
    exact hcc j v (hxg j v hj)
   ·
    cases hj)
 obtain ⟨G,hG⟩:∃ G,G=grownCap w (c+1) c 94:=⟨_,rfl⟩
 obtain ⟨ROW,hROW⟩:∃ ROW:Array Value,ROW=(xs.take (i * 32)).toArray++Builtin.zeroCells (Array.replicate 32 (.int .u8 0)) (c+1 - i)++Builtin.zeroCells (Array.replicate 32 (.int .u8 0)) (G - (c+1)):=⟨_,rfl⟩
 have hrz:∀ ty,(Builtin.append_ #[46,3] ty #[.slice (some ⟨b,0,none⟩) i c,.int .i64 ((c:Int)+1 - (i:Int))]).run Tryz.prog w =
   .ok (.slice (some ⟨w.heap.size,0,none⟩) (c+1) G) (w.drew.alloc (.cells ROW 94)):=fun ty=>by
  have h:=Lib.run_append_grow_zeros w 46 3 ty 94 i0 _ .i64 .i64 u22 u3 hi0 hz0 (some ⟨b,0,none⟩) i c (xs.take (i * 32)) hold (c+1 - i) (by omega) (by omega) (by omega) (by omega) (by rw [hzb]; omega) (by rw [hzb, show i+(c+1 - i)=c+1 by omega]; exact growslice_fits (by omega) (by omega))
  rw [show i+(c+1 - i)=c+1 by omega] at h
  rw [hkk,hROW,hG]
  exact h
 have hGn:c+1≤G:=by rw [hG]; exact grownCap_ge w _ _ _
 have hGm:G≤maxLen:=by rw [hG]; exact grownCap_le_maxLen w (c+1) c 94 (by unfold maxLen; omega)
 have hG63:G≤9223372036854775807:=by unfold maxLen at hGm; omega
 have hRs:ROW.size=G * 32:=by
  rw [hROW]; simp only [Array.size_append,List.size_toArray,List.length_take,size_zeroCells,Array.size_replicate,hxl]; omega
 have hRt:ROW.toList.take (i * 32)=xs.take (i * 32):=by
  rw [hROW]; simp only [Array.toList_append,List.append_assoc]
  rw [List.take_append_of_le_length (by rw [List.length_take]; omega),List.take_take]; congr 1; omega
 obtain ⟨D1,hD1⟩:∃ D1,D1=(ROW.toList.take (i * 32)++ys++ROW.toList.drop (i * 32+ys.length)).toArray:=⟨_,rfl⟩
 have hD1s:D1.size=G * 32:=by
  rw [hD1]; simp only [List.size_toArray,List.length_append,List.length_take,List.length_drop,Array.length_toList,hyl]; omega
 obtain ⟨D2,hD2⟩:∃ D2,D2=(D1.toList.take ((i+1) * 32)++xs.drop (i * 32)++D1.toList.drop ((i+1) * 32+(xs.drop (i * 32)).length)).toArray:=⟨_,rfl⟩
 have hdl:(xs.drop (i * 32)).length=(c - i) * 32:=by rw [List.length_drop,hxl,Nat.sub_mul]
 have hD2s:D2.size=G * 32:=by
  rw [hD2]; simp only [List.size_toArray,List.length_append,List.length_take,List.length_drop,Array.length_toList,hxl]; omega
 have hfin:D2.toList.take ((c+1) * 32)=xs.take (i * 32)++ys++xs.drop (i * 32):=by
  have e1:(ROW.toList.take (i * 32)).length=i * 32:=by rw [List.length_take,Array.length_toList]; omega
  have e2:D1.toList.take ((i+1) * 32)=xs.take (i * 32)++ys:=by
   rw [hD1]; simp only [List.append_assoc]
   rw [List.take_append,e1,List.take_of_length_le (by rw [e1]; omega),List.take_append_of_le_length (by rw [hyl]; omega),List.take_of_length_le (l:=ys) (by rw [hyl]; omega),hRt]
  have e3:(D1.toList.take ((i+1) * 32)).length=(i+1) * 32:=by rw [List.length_take,Array.length_toList]; omega
  rw [hD2]; simp only [List.append_assoc]
  rw [List.take_append,e3,List.take_of_length_le (by rw [e3]; omega),List.take_append_of_le_length (by rw [hdl]; omega),List.take_of_length_le (l:=xs.drop (i * 32)) (by rw [hdl]; omega),e2,List.append_assoc]
 have hcpA:∀ (W:World),W.heap=w.heap.push (.cells ROW 94)→∀ ty dc,(Builtin.copy_ #[46,46] ty #[.slice (some ⟨w.heap.size,i * 32,none⟩) (c+1 - i) dc,.slice (some ⟨vb,0,none⟩) 1 vc]).run Tryz.prog W=.ok (goInt 1) (W.setRow w.heap.size D1):=fun W hW ty dc=>by
  have hm:Nat.min 1 (c+1 - i)=1:=by simp only [Nat.min_def]; split <;> omega
  have hN:W.heap[w.heap.size]? = some (.cells ROW 94 (0,0)):=by rw [hW,Array.getElem?_push_size]
  have hV1:W.heap[vb]? = some (.cells V 94 (0,0)):=by rw [hW,Array.getElem?_push_lt hvw]; rw [← hV,Array.getElem?_eq_getElem hvw]
  have e:=zxj (P:=Tryz.prog) W 46 46 ty 94 w.heap.size (i * 32) (c+1 - i) dc ⟨vb,0,none⟩ 1 vc ROW 94 ys u22 hsz hN (by rw [hm,hyl])
   (fun j v hj=>by
    rw [Addr.add_lit,Nat.zero_add]
    have:=hyg j v hj
    rw [Array.getElem?_toList] at this
    unfold World.cell?; rw [hV1]; exact this) (by rw [hyl,hRs]; omega) h1y
  rw [hm,← hD1] at e; exact e
 have hcpB:∀ (W W0:World),W0.heap=w.heap.push (.cells ROW 94)→W.heap=(W0.setRow w.heap.size D1).heap→∀ ty dc sc,(Builtin.copy_ #[46,46] ty #[.slice (some ⟨w.heap.size,(i+1) * 32,none⟩) (c - i) dc,.slice (some ⟨b,i * 32,none⟩) (c - i) sc]).run Tryz.prog W=.ok (goInt ((c - i:Nat):Int)) (W.setRow w.heap.size D2):=fun W W0 hW0 hW ty dc sc=>by
  have hm:Nat.min (c - i) (c - i)=c - i:=Nat.min_self _
  have hN:W.heap[w.heap.size]? = some (.cells D1 94 (0,0)):=by rw [hW]; exact setRow_heap W0 w.heap.size ROW D1 94 (0,0) (by rw [hW0,Array.getElem?_push_size])
  have hB1:W.heap[b]? = some (.cells C 94 (0,0)):=by
   rw [hW,setRow_other W0 w.heap.size b D1 (by omega),hW0,Array.getElem?_push_lt hbw,← hC,Array.getElem?_eq_getElem hbw]
  have e:=zxj (P:=Tryz.prog) W 46 46 ty 94 w.heap.size ((i+1) * 32) (c - i) dc ⟨b,i * 32,none⟩ (c - i) sc D1 94 (xs.drop (i * 32)) u22 hsz hN (by rw [hm,hdl])
   (fun j v hj=>by
    rw [Addr.add_lit]
    have:=hxg _ v (by rwa [List.getElem?_drop] at hj)
    rw [Array.getElem?_toList] at this
    unfold World.cell?; rw [hB1]; exact this) (by rw [hdl,hD1s]; omega) (fun v hv=>h1x v (List.mem_of_mem_drop hv))
  rw [hm,← hD2] at e; exact e
 have hz1:¬ ((1:Int)=0):=by decide
 have hz2:¬ ((i:Int)=(c:Int)):=by omega
 have hz3:(c:Int)<(c:Int)+1:=by omega
 have hw1:IntKind.i64.wrap ((i:Int)+1)=(i:Int)+1:=by rw [IntKind.wrap_i64]; omega
 have hb1:(0:Int)≤(i:Int)+1:=by omega
 have hin:i≤c:=by omega
 have htn:((i:Int)+1).toNat=i+1:=by omega
 have hGi:¬ (G=i):=by omega
 have hGim:¬ (G=i+1):=by omega
 have hci:¬ (c=i):=by omega
 have hb3:(i:Int)≤(c:Int):=by omega
 have hE1:((w.alloc (.cells ROW 94)).drew).heap=w.heap.push (.cells ROW 94):=rfl
 have hF1:(((w.alloc (.cells ROW 94)).drew.setRow w.heap.size D1).drew).heap=(((w.alloc (.cells ROW 94)).drew).setRow w.heap.size D1).heap:=rfl
 clear hROW hold hG hRt hD1 hD2 hxs hys hC hV h1x h1y hdl hxl hyl hcc hxg hyg hi0 hz0 hzs hzb hkk hnc hroom
 go_enter Tryz.func95,Tryz.ntmps95
 go_wp2_with (first
  | (at_builtin; refine Lib.wpList_append_run _ rfl _ _ _ _ rfl _ _ rfl rfl _ _ (hrz _) ?_)
  | (at_builtin; refine zhs _ rfl _ _ 46 46 rfl _ _ rfl rfl (hcpA _ hE1 _ _) ?_))
 go_region_law (refine zla rfl _ _ 46 46 rfl (.slice (some ⟨w.heap.size,(i+1) * 32,none⟩) (c - i) (G - (i+1))) (.slice (some ⟨b,i * 32,none⟩) (c - i) (c - i)) (by simp [Act.eval,Act.put]) (by simp [Act.eval,Act.put]) (hcpB _ _ hE1 hF1 3 (G - (i+1)) (c - i)) ?_)
 go_wp2
 go_ret
 refine ⟨G,rfl,hGn,hGm,D2,?_,⟨rfl,rfl,rfl,?_, fun k hk _=>?_⟩,hD2s,hfin⟩
 ·
  exact setRow_heap _ w.heap.size D1 D2 94 (0,0) (setRow_heap ((w.alloc (.cells ROW 94)).drew) w.heap.size ROW D1 94 (0,0) (by rw [hE1,Array.getElem?_push_size]))
 ·
  rw [setRow_size]; show _≤((w.alloc (.cells ROW 94)).drew.setRow w.heap.size D1).heap.size; rw [setRow_size,hE1,Array.size_push]; omega
 ·
  rw [setRow_other _ w.heap.size k D2 (by omega)]; show ((w.alloc (.cells ROW 94)).drew.setRow w.heap.size D1).heap[k]? = _
  rw [setRow_other _ w.heap.size k D1 (by omega),hE1,Array.getElem?_push_lt hk,Array.getElem?_eq_getElem hk]
set_option maxHeartbeats 4000000 in
set_option maxRecDepth 100000 in
theorem z11g (p0 p1:Value) (h0:w.ownsRow 0 94 32 p0 n xs) (h1:w.ownsRow 0 94 32 p1 1 ys) (hn:n≤1000000) (h1y:∀ v∈ys,v.oneCell'=true) :
  Calls Tryz.prog 95 #[p0,.int .i64 n,p1] w fun e w'=>∃ v',e=.returned v'∧w'.ownsRow 0 94 32 v' (n+1) (xs++ys)∧w.grownBy w' p0.ownBlock∧∀ b,v'.ownBlock=some b→p0.ownBlock=some b∨w.heap.size≤b:=by
 have u22:Tryz.prog.underlying 46=some (.slice 94):=Tryz.underlying46
 obtain ⟨p,c,rfl⟩:=z3e h0
 obtain ⟨q,d,rfl⟩:=z3e h1
 obtain ⟨p',c',w',hrun,ho,hg,hs⟩:=zg7 (P:=Tryz.prog) (rt:=46) (w:=w) u22 zwp (by simp [Value.cells]) (by decide) h0 (Rd.of_own h1) h1y (by omega) (by omega) (Nat.zero_le _)
 have hz1:¬ ((1:Int)=0):=by decide
 have hnc:n≤c:=by
  rcases h0.2 with ⟨e,rfl⟩ | ⟨g,cap,cur,e,_,_,h,_⟩
  ·
   omega
  ·
   simp only [Value.slice.injEq] at e; omega
 have hc63:c≤9223372036854775807:=by
  rcases h0.2 with ⟨e,rfl⟩ | ⟨g,cap,cur,e,_,_,_,h,_⟩
  ·
   simp only [Value.slice.injEq] at e; omega
  ·
   simp only [Value.slice.injEq] at e; unfold maxLen at h; omega
 have hin:n≤n:=Nat.le_refl _
 have hp0:p=none→n=0∧c=0:=fun e=>by
  rcases h0.2 with ⟨e',rfl⟩ | ⟨g,cap,cur,e',_⟩
  ·
   simp only [Value.slice.injEq] at e'; omega
  ·
   rw [e] at e'; simp at e'
 clear h0 h1 h1y
 go_enter Tryz.func95,Tryz.ntmps95
 cases p with
 | none =>
  obtain ⟨rfl,rfl⟩:=hp0 rfl
  clear hp0
  go_wp2_with (at_builtin; refine Lib.wpList_append_run _ rfl _ _ _ _ rfl _ _ rfl rfl _ _ hrun ?_)
  go_ret
  exact ⟨_,rfl,ho,hg,hs⟩
 | some a =>
  clear hp0
  obtain ⟨ab,ao,asp⟩:=a
  go_wp2_with (at_builtin; refine Lib.wpList_append_run _ rfl _ _ _ _ rfl _ _ rfl rfl _ _ hrun ?_)
  all_goals (go_ret; exact ⟨_,rfl,ho,hg,hs⟩)
end
end
section
open Go Go.RowKit
theorem relB {S S':Blk} {w w':World}:∀ {l:List UInt8} {cs:List Value},z62 u8R S w cs l→z62 u8R S' w' cs l
 | [],cs,h=>h
 | x::l,cs,h=>by
  obtain ⟨c,d,rfl,h1,h2⟩:=h
  exact ⟨c,d,rfl,h1,relB h2⟩
theorem relD {S S':Blk} {w w':World}:∀ {l:List V3} {cs:List Value},z62 (z38 32 u8R) S w cs l→z62 (z38 32 u8R) S' w' cs l
 | [],cs,h=>h
 | x::l,cs,h=>by
  obtain ⟨c,d,rfl,h1,h2⟩:=h
  exact ⟨c,d,rfl,relB h1,relD h2⟩
def insF (c0:List V3) (i:Int) (c1:List V3):Option (List V3) :=
 chk (0≤i∧i.toNat≤c0.length∧c0.length≤1000000∧c1.length=1) >>= fun _=>some (c0.take i.toNat++c1++c0.drop i.toNat)
theorem z118 (p0 p1:Value) (n i:Nat) (xs ys:List Value) (w:World) (hi:i≤n) (h0:w.ownsRow 0 94 32 p0 n xs) (h1:w.ownsRow 0 94 32 p1 1 ys) (hsep:∀ b,p0.ownBlock=some b→p1.ownBlock≠some b) (hn:n≤1000000)
  (h1x:∀ v∈xs,v.oneCell'=true) (h1y:∀ v∈ys,v.oneCell'=true) :
  Calls Tryz.prog 95 #[p0,.int .i64 i,p1] w fun e w'=>∃ v',e=.returned v'∧w'.ownsRow 0 94 32 v' (n+1) (xs.take (i * 32)++ys++xs.drop (i * 32))∧w.grownBy w' p0.ownBlock∧∀ b,v'.ownBlock=some b→p0.ownBlock=some b∨w.heap.size≤b:=by
 have hxl:=h0.1
 by_cases hin:i=n
 ·
  subst hin
  refine (z11g i xs ys w p0 p1 h0 h1 hn h1y).mono fun e w' ⟨v',a,b,c,d⟩=>⟨v',a,?_,c,d⟩
  rw [List.take_of_length_le (by omega),List.drop_eq_nil_of_le (by omega),List.append_nil]
  exact b
 ·
  rcases h0.2 with ⟨rfl,rfl⟩ | ⟨b,c,C,rfl,-,hC,hnc,hcm,hCs,hxs⟩
  ·
   omega
  rcases h1.2 with ⟨rfl,e⟩ | ⟨vb,vc,V,rfl,-,hV,-,-,hVs,hys⟩
  ·
   omega
  have hvb:vb≠b:=fun e=>hsep b rfl (by rw [e]; rfl)
  have hyl:ys.length=32:=by have:=h1.1; omega
  have hlen:(xs.take (i * 32)++ys++xs.drop (i * 32)).length=(n+1) * 32:=by
   simp only [List.length_append,List.length_take,List.length_drop,hyl]; omega
  by_cases hroom:n+1≤c
  ·
   refine (zvs b n c i vb vc xs ys C V w (by omega) hroom (by unfold maxLen at hcm; omega) hvb hC hV hCs hxs (by simpa using hys) hyl h1x h1y).mono fun e w' ⟨a,D,a2,a3,a4⟩=>⟨_,a,?_,?_, fun b' hb'=>.inl hb'⟩
   ·
    refine ⟨hlen,.inr ⟨b,c,D,rfl,Nat.zero_le _,?_,hroom,hcm,a3.trans hCs,a4⟩⟩
    rw [a2]; exact setRow_heap w.drew b C D 94 (0,0) hC
   ·
    rw [a2]
    refine ⟨rfl,rfl,rfl,?_, fun k hk hne=>?_⟩
    ·
     rw [setRow_size]; exact Nat.le_refl _
    ·
     rw [setRow_other w.drew b k D (fun e=>hne (by rw [e]; rfl))]; rfl
  ·
   refine (zz1 b n c i vb vc xs ys C V w (by omega) hnc (by omega) hn hvb hC hV hCs hxs (by simpa using hys) hyl h1x h1y).mono fun e w' ⟨G,a,g1,g2,D,a1,a2,a3,a4⟩=>⟨_,a,?_,?_, fun b' hb'=>.inr ?_⟩
   ·
    exact ⟨hlen,.inr ⟨w.heap.size,G,D,rfl,Nat.zero_le _,a1,g1,g2,a3,a4⟩⟩
   ·
    exact ⟨a2.os,a2.tape,a2.output,a2.size, fun k hk _=>a2.block k hk (by simp)⟩
   ·
    simp only [Value.ownBlock,Option.some.injEq] at hb'; omega
theorem z11i (p0 p1:Value) (c0 c1:List V3) (i:Int):z2t Tryz.prog 95 [.val p0,.rd z08 i,.val p1] [(1,some (p0,.list (z38 32 u8R) 94 c0)),(2,some (p1,.list (z38 32 u8R) 94 c1))] (insF c0 i c1)
  (fun r nv=>⟨[.val (nv 0)],[(100,some (nv 0,.list (z38 32 u8R) 94 r))]⟩):=by
 intro r hr H vs w hvs hres
 have hb:(0≤i∧i.toNat≤c0.length∧c0.length≤1000000∧c1.length=1)∧r=c0.take i.toNat++c1++c0.drop i.toNat:=by
  unfold insF chk at hr
  split at hr
  ·
   rename_i h; simp at hr; exact ⟨h, by rw [← hr,List.append_assoc]⟩
  ·
   simp at hr
 obtain ⟨⟨hi0,hi1,hn,hc1⟩,rfl⟩:=hb
 match vs,hvs with
 | [v0,v1,v2],hvs =>
 obtain ⟨h0,h1,h2,_⟩:=hvs
 have e0:v0=p0:=h0.1
 have e2:v2=p1:=h2.1
 have e1:v1=.int .i64 i:=z3i h1
 subst e0; subst e2; subst e1
 obtain ⟨j,rfl⟩:∃ j:Nat,i=(j:Int):=⟨i.toNat, by omega⟩
 simp only [Int.toNat_natCast] at hi1 ⊢
 obtain ⟨xs,x1,x2⟩:=z6e (hres.conts 1 v0 _ rfl)
 obtain ⟨ys,y1,y2⟩:=z6e (hres.conts 2 v2 _ rfl)
 rw [hc1] at y1
 have hsep:∀ b,v0.ownBlock=some b→v2.ownBlock≠some b:=fun b hb hb2=>by
  obtain ⟨p,c,rfl⟩:=z3e x1
  obtain ⟨q,d,rfl⟩:=z3e y1
  exact hres.excl 1 _ _ 2 _ _ rfl rfl (by decide) b (by rw [z73]; exact hb) (by rw [z73]; exact hb2)
 refine (z118 v0 v2 c0.length j xs ys w hi1 x1 y1 hsep hn x2.one y2.one).mono fun e w' ⟨v',he,hw,hg,hs⟩=>?_
 have only:∀ r v c (q:z37),lr [(100,some (v',q))] r=some (v,c)→r=100∧v=v'∧c=q:=fun r v c q h=>by
  rw [z16] at h
  split at h
  ·
   rename_i e; cases h; exact ⟨e.symm,rfl,rfl⟩
  ·
   simp [lr,lk] at h
 have hlen:(c0.take j++c1++c0.drop j).length=c0.length+1:=by
  simp only [List.length_append,List.length_take,List.length_drop,hc1]; omega
 obtain ⟨p',c',rfl⟩:=z3e hw
 refine ⟨fun _=>.slice p' (c0.length+1) c',[.slice p' (c0.length+1) c'],he,⟨⟨rfl,rfl⟩,trivial⟩, fun r v c h=>?_, fun r v c r' v2' c2' h h' hne=>?_, fun r v c h b hb=>?_,hg.os,hg.tape,hg.output,hg.size, fun k hk=>?_⟩
 ·
  obtain ⟨rfl,rfl,rfl⟩:=only _ _ _ _ h
  refine zfy (B:=0) (xs:=xs.take (j * 32)++ys++xs.drop (j * 32)) (by rw [hlen]; exact hw) ?_
  exact ((relD (x2.take j)).append (relD y2)).append (relD (x2.drop j))
 ·
  exact absurd ((only _ _ _ _ h).1.trans (only _ _ _ _ h').1.symm) hne
 ·
  obtain ⟨rfl,rfl,rfl⟩:=only _ _ _ _ h
  rw [z73] at hb
  rcases hs b hb with h | h
  ·
   exact .inr ⟨1,_,_,rfl, by obtain ⟨p,c,rfl⟩:=z3e x1; rw [z73]; exact h⟩
  ·
   exact .inl h
 ·
  refine hg.block k hk.1 fun e=>hk.2 ⟨1,_,_,rfl,?_⟩
  obtain ⟨p,c,rfl⟩:=z3e x1; rw [z73]; exact e.symm
end
section
open Go Go.RowKit
set_option maxRecDepth 100000
def z6b (a0:List z00) (s2:Int):Option (Sum (Sum Int Unit) Int) :=
 if decide (s2<(a0.length:Int)) then
  idx a0 s2 >>= fun x4 =>
  z6g x4 >>= fun r7 =>
  if r7 != 0 then
   some (.inl (.inl r7))
  else
   some (.inr (w64 (s2+1)))
 else
  some (.inl (.inr ()))
def zer (a0:List z00):Option (Int) :=
 z36 (iter (z6b a0) 0) fun s1 =>
 some 0
theorem zlk (a0:List z00):z2t Tryz.prog 75 [.rd (z02 z01) a0] [zG1] (zer a0) (fun r nv=>⟨[.rd z08 r],[(1001,some (.bool true,.glob 1 (z38 64 z10) z3v))]⟩):=by
 refine z3n 18 Tryz.func75 Z Z Z fun H w=>?_
 refine gSR<|Zb Z<|z5m (fun (s1:Unit) aa ww=>Sta (ctx 18 H [zG1] w) [] [zG1] aa ww) ?_ (fun s1=>?_)
 ·
  refine gSR<|Zm Z<|Zq (z3r Z .rd Z tu22)<|Zm Z<|Zn<|z2h (fun (s2:Int) aa ww=>Sta (ctx 18 H [zG1] w) [(6,.rd (z02 z01) a0),(7,.rd z08 (a0.length:Int)),(8,.rd z08 s2)] [zG1] aa ww) (fun aa ww h=>Zu h [1001]) (fun s2=>?_)
  refine gSR<|Zq (I.lss Z Z)<|Zn<|z0v<|gIf Z Z (fun h3=>?_) (fun h3=>?_)
  ·
   refine Zt<|z0v<|z5y<|gSR<|z11 fun x4 h5=>Zq (ixR Z Z h5 tu22 z2x Z)<|Zq (ldR Z z7n)<|Eb Z (z6m 1100 z2x (ZrE.nilS (ZrE.nilS ZrE.nil))) fun v6=>z8x aZ [.rd (z02 aZ) [],.val (.slice none 0 0)] 1100 [] [.val (.slice none 0 0)] Z Z Z<|z8x z03 [.rd (z02 aZ) [],.rd (z02 z03) []] 1100 [.rd (z02 aZ) []] [] Z Z Z<|zbf (R:=z01) (⟨[],[]⟩:z00) 1100 Z (Sp.via (Sp.prod (Sp.prod Sp.unit)))<|Es (sto 1100 Z Z fH Z z2x)<|Zn<|gSR<|Zq (ld 1100 Z Z fH z7n Z)<|Zc [1001] [] Tryz.func55 Z (ze0 _) fun r7 n8=>Zb Z<|gSR<|Zm Z<|Zq (I.neq Z Z)<|Zj Z (fun h9=>?_) (fun h9=>?_)
   ·
    refine gSR<|Zm Z<|Zb Z<|z0r<|z42<|z0s<|z55<|z4q<|Ze [] [1001] Z
   ·
    refine z41<|z44<|z0y<|z2o<|Zq (I.add Z Z)<|Zm Z<|z20<|z23 (fun aa ww h=>Zu h [1001])
  ·
   refine z2i<|z1b<|z1a<|z53 (fun aa ww h=>Zu h [1001])
 ·
  refine gSR<|Zb Z<|z0r<|Ze [] [1001] Z
def z1u (a0:List V3) (a1:List V3) (s3:Int):Option (Sum (Sum Bool Unit) Int) :=
 if decide (s3<(a0.length:Int)) then
  idx a0 s3 >>= fun x5 =>
  idx a1 s3 >>= fun x7 =>
  if !decide (x5=x7) then
   some (.inl (.inl false))
  else
   some (.inr (w64 (s3+1)))
 else
  some (.inl (.inr ()))
def z1l (a0:List V3) (a1:List V3):Option (Bool) :=
 if (a0.length:Int) != (a1.length:Int) then
  some false
 else
  z36 (iter (z1u a0 a1) 0) fun s2 =>
  some true
theorem z46 (a0:List V3) (a1:List V3):z2t Tryz.prog 48 [.rd (z02 aZ) a0,.rd (z02 aZ) a1] [] (z1l a0 a1) (fun r nv=>⟨[.rd z0w r],[]⟩):=by
 refine z3n 26 Tryz.func48 Z Z Z fun H w=>?_
 refine gSR<|Zb Z<|z0v<|gSR<|Zm Z<|Zq (z3r Z .rd Z tu46)<|Zm Z<|Zq (z3r Z .rd Z tu46)<|Zq (I.neq Z Z)<|Zj Z (fun h1=>?_) (fun h1=>?_)
 ·
  refine gSR<|Zb Z<|z0r<|z0s<|Ze [] [] Z
 ·
  refine Zt<|z5m (fun (s2:Unit) aa ww=>Sta (ctx 26 H [] w) [] [] aa ww) ?_ (fun s2=>?_)
  ·
   refine gSR<|Zm Z<|Zq (z3r Z .rd Z tu46)<|Zm Z<|Zn<|z2h (fun (s3:Int) aa ww=>Sta (ctx 26 H [] w) [(0,.rd (z02 aZ) a0),(1,.rd (z02 aZ) a1),(12,.rd z08 (a0.length:Int)),(13,.rd z08 s3)] [] aa ww) (fun aa ww h=>Zu h []) (fun s3=>?_)
   refine gSR<|Zq (I.lss Z Z)<|Zn<|z0v<|gIf Z Z (fun h4=>?_) (fun h4=>?_)
   ·
    refine Zt<|z0v<|z5y<|gSR<|Zm Z<|Zb Z<|z0v<|zhw z4j (by kernel_rfl)<|Rq Z (mv Z)<|Rq Z (mv Z)<|z76 fun x5 h6=>Rq Z (ixR Z Z h6 tu46 z7g Z)<|Rq Z (ldR Z zbe)<|Rq Z (mv Z)<|Rq Z (mv Z)<|z76 fun x7 h8=>Rq Z (ixR Z Z h8 tu46 z7g Z)<|Rq Z (ldR Z zbe)<|Rq Z (neA Z Z eq94 Z Z gq94)<|zt2<|z0y<|gIf Z Z (fun h9=>?_) (fun h9=>?_)
    ·
     refine gSR<|Zb Z<|z0r<|z42<|z0s<|z55<|z4q<|Ze [] [] Z
    ·
     refine z41<|z44<|z0y<|z2o<|Zq (I.add Z Z)<|Zm Z<|z20<|z23 (fun aa ww h=>Zu h [])
   ·
    refine z2i<|z1b<|z1a<|z53 (fun aa ww h=>Zu h [])
  ·
   refine gSR<|Zb Z<|z0r<|Ze [] [] Z
def zia (a0:z04) (a1:z04):Option (Bool) :=
 if a0.Author==a1.Author then
  if a0.Stamp==a1.Stamp then
   if decide (a0.Act=a1.Act) then
    if decide (a0.Sig=a1.Sig) then
     z1l a0.Preds a1.Preds >>= fun r7 =>
     some r7
    else
     some false
   else
    some false
  else
   some false
 else
  some false
theorem zpz (a0:z04) (a1:z04):z2t Tryz.prog 77 [.rd z03 a0,.rd z03 a1] [] (zia a0 a1) (fun r nv=>⟨[.rd z0w r],[]⟩):=by
 refine z3n 38 Tryz.func77 Z Z Z fun H w=>?_
 refine gSR<|Eb Z (bx 1 Z) fun v1=>Eb Z (bx 2 Z) fun v2=>Zb Z<|gSR<|Zq (faB 1 Z Z Tryz.underlying86 Z (by exact z87))<|Zq (ld 1 Z Z (fP (z2m _)) zbh Z)<|Zq (faB 2 Z Z Tryz.underlying86 Z (by exact z87))<|Zq (ld 2 Z Z (fP (z2m _)) zbh Z)<|Zq (W.eql Z Z)<|Zm Z<|z0x 10 Z (fun h3=>?_) (fun h3=>?_)
 ·
  refine lKn 9 Z h3<|z1g Zx Z Z (faB 1 Z Z Tryz.underlying86 Z (by exact zlb))<|z1g Zx Z Z (ld 1 Z Z (fP (z2s _)) zry Z)<|z1g Zx Z Z (faB 2 Z Z Tryz.underlying86 Z (by exact zlb))<|z1g Zx Z Z (ld 2 Z Z (fP (z2s _)) zry Z)<|z1g Zx Z Z (U.eql Z Z)<|Zq (pkT Z Z)<|Zm Z<|z0x 17 Z (fun h4=>?_) (fun h4=>?_)
  ·
   refine lKn 15 Z h4<|lKn 16 Z h4<|z1g Zx Z Z (faB 1 Z Z Tryz.underlying86 Z (by exact zoq))<|z1g Zx Z Z (ld 1 Z Z (fP (z2k _)) ty82 Z)<|z1g Zx Z Z (faB 2 Z Z Tryz.underlying86 Z (by exact zoq))<|z1g Zx Z Z (ld 2 Z Z (fP (z2k _)) ty82 Z)<|z1g Zx Z Z (eqA Z Z eq82 Z Z gq82)<|Zq (pkT Z Z)<|Zm Z<|z0x 24 Z (fun h5=>?_) (fun h5=>?_)
   ·
    refine lKn 22 Z h5<|lKn 23 Z h5<|z1g Zx Z Z (faB 1 Z Z Tryz.underlying86 Z (by exact zk7))<|z1g Zx Z Z (ld 1 Z Z (fP (z2n _)) zyr Z)<|z1g Zx Z Z (faB 2 Z Z Tryz.underlying86 Z (by exact zk7))<|z1g Zx Z Z (ld 2 Z Z (fP (z2n _)) zyr Z)<|z1g Zx Z Z (eqA Z Z eq84 Z Z gq84)<|Zq (pkT Z Z)<|Zm Z<|z0x 31 Z (fun h6=>?_) (fun h6=>?_)
    ·
     refine lKn 29 Z h6<|lKn 30 Z h6<|z1g Zx Z Z (faB 1 Z Z Tryz.underlying86 Z (by exact zbt))<|z1g Zx Z Z (ld 1 Z Z (fP (z1h _)) zcn Z)<|z1g Zx Z Z (faB 2 Z Z Tryz.underlying86 Z (by exact zbt))<|z1g Zx Z Z (ld 2 Z Z (fP (z1h _)) zcn Z)<|ze9 [] [] Zx Z Tryz.func48 Z Z (z46 _ _) (Y2 Z Z) rN fun r7 n8=>Zq (pkT Z Z)<|Zb Z<|z0r<|Ze [] [] Z
    ·
     refine lKn 29 Z h6<|lKn 30 Z h6<|Zk Z<|Zk Z<|Zk Z<|Zk Z<|Zk Z<|Zq (pkF Z Z)<|Zb Z<|z0r<|Ze [] [] Z
   ·
    refine lKn 22 Z h5<|lKn 23 Z h5<|Zk Z<|Zk Z<|Zk Z<|Zk Z<|Zk Z<|Zq (pkF Z Z)<|Zm Z<|Zk Z<|Zk Z<|Zk Z<|Zk Z<|Zk Z<|Zq (pkF Z Z)<|Zb Z<|z0r<|Ze [] [] Z
  ·
   refine lKn 15 Z h4<|lKn 16 Z h4<|Zk Z<|Zk Z<|Zk Z<|Zk Z<|Zk Z<|Zq (pkF Z Z)<|Zm Z<|Zk Z<|Zk Z<|Zk Z<|Zk Z<|Zk Z<|Zq (pkF Z Z)<|Zm Z<|Zk Z<|Zk Z<|Zk Z<|Zk Z<|Zk Z<|Zq (pkF Z Z)<|Zb Z<|z0r<|Ze [] [] Z
 ·
  refine lKn 9 Z h3<|Zk Z<|Zk Z<|Zk Z<|Zk Z<|Zk Z<|Zq (pkF Z Z)<|Zm Z<|Zk Z<|Zk Z<|Zk Z<|Zk Z<|Zk Z<|Zq (pkF Z Z)<|Zm Z<|Zk Z<|Zk Z<|Zk Z<|Zk Z<|Zk Z<|Zq (pkF Z Z)<|Zm Z<|Zk Z<|Zk Z<|Zk Z<|Zk Z<|Zk Z<|Zq (pkF Z Z)<|Zb Z<|z0r<|Ze [] [] Z
def zdb (a0:z04):Option (z04) :=
 z0j a0.Preds >>= fun r3 =>
 some (⟨a0.Author,r3,a0.Stamp,a0.Act,a0.Sig⟩:z04)
theorem zdk (a0:z04):z2t Tryz.prog 78 [.rd z03 a0] [] (zdb a0) (fun r nv=>⟨[.rd z03 r],[]⟩):=by
 refine z3n 8 Tryz.func78 Z Z Z fun H w=>?_
 refine gSR<|Eb Z (bx 1 Z) fun v1=>Eb Z (z6m 2 z80 (ZrE.rd (R:=z10) (x:=0) (Zr.num Z) (ZrE.nilS (ZrE.rd (R:=z2b) (x:=0) (Zr.num Z) (ZrE.rd (R:=z0k) (x:=(⟨0,[],(⟨0,0,0,[]⟩:z05)⟩:z0i)) zmr (ZrE.rd (R:=z0l) (x:=(⟨0,0⟩:z0b)) zmk ZrE.nil Z) Z) Z)) Z)) fun v2=>Zn<|gSR<|Zq (faB 1 Z Z Tryz.underlying86 Z (by exact zbt))<|Zq (ld 1 Z Z (fP (z1h _)) zcn Z)<|Zc [] [(100,3)] Tryz.func61 Z (z17 _) fun r3 n4=>Zq (faB 1 Z Z Tryz.underlying86 Z (by exact zbt))<|lSpl (R:=z03) 1 Z (Sp.via (Sp.prod (Sp.prod (Sp.prod (Sp.prod (Sp.prod Sp.unit))))))<|Es (zzi 1 Z Z (z7y.cast (z7y.next z29 (z7y.here z29)) Z) Z z1n z06 zbt)<|Zn<|gSR<|lPow [.rd z10 a0.Author,.rd (z02 aZ) r3,.rd z2b a0.Stamp,.rd z0k a0.Act,.rd z0l a0.Sig] 1 3 [.rd z10 a0.Author] [.rd z2b a0.Stamp,.rd z0k a0.Act,.rd z0l a0.Sig] Z Z Z Z Z<|zbf (R:=z03) (⟨a0.Author,r3,a0.Stamp,a0.Act,a0.Sig⟩:z04) 1 Z (Sp.via (Sp.prod (Sp.prod (Sp.prod (Sp.prod (Sp.prod Sp.unit))))))<|Zq (ld 1 Z Z fH zcv Z)<|z8x aZ [.rd z10 0,.rd (z02 aZ) [],.rd z2b 0,.rd z0k (⟨0,[],(⟨0,0,0,[]⟩:z05)⟩:z0i),.rd z0l (⟨0,0⟩:z0b)] 2 [.rd z10 0] [.rd z2b 0,.rd z0k (⟨0,[],(⟨0,0,0,[]⟩:z05)⟩:z0i),.rd z0l (⟨0,0⟩:z0b)] Z Z Z<|zbf (R:=z03) (⟨0,[],0,(⟨0,[],(⟨0,0,0,[]⟩:z05)⟩:z0i),(⟨0,0⟩:z0b)⟩:z04) 2 Z (Sp.via (Sp.prod (Sp.prod (Sp.prod (Sp.prod (Sp.prod Sp.unit))))))<|Es (sto 2 Z Z fH Z z80)<|Zn<|z0r<|zbi [] [] Z (eC 2 Z Z zcv<|eN) (rN)
def zeo (a0:z00) (a2:z04) (r5:Int × Bool) (r11:List V3) (s16:(List z04) × Int):Option (Sum ((List z04)) ((List z04) × Int)) :=
 if decide (s16.2<(r11.length:Int)) then
  some (decide (s16.2<r5.1)) >>= fun y19 =>
  if y19 then
   idx a0.Ops s16.2 >>= fun x21 =>
   zdb x21 >>= fun r23 =>
   app 112 s16.1 [r23] >>= fun x26 =>
   some (.inr (x26,w64 (s16.2+1)))
  else
   some (s16.2==r5.1) >>= fun y29 =>
   if y29 then
    zdb a2 >>= fun r31 =>
    app 112 s16.1 [r31] >>= fun x34 =>
    some (.inr (x34,w64 (s16.2+1)))
   else
    idx a0.Ops (w64 (s16.2 - 1)) >>= fun x37 =>
    zdb x37 >>= fun r39 =>
    app 112 s16.1 [r39] >>= fun x42 =>
    some (.inr (x42,w64 (s16.2+1)))
 else
  some (.inl s16.1)
def zd3 (a0:z00) (a1:V3) (a2:z04):Option (z00 × Bool) :=
 zbn a0 a1 >>= fun r5 =>
 if r5.2 then
  some (a0,false)
 else
  z0j a0.IDs >>= fun r8 =>
  insF r8 r5.1 [a1] >>= fun r11 =>
  (iter (zeo a0 a2 r5 r11) ([],0)) >>= fun s15 =>
  some ((⟨r11,s15⟩:z00),true)
set_option maxHeartbeats 4000000 in
theorem zl3 (a0:z00) (a1:V3) (a2:z04):z2t Tryz.prog 66 [.rd z01 a0,.rd aZ a1,.rd z03 a2] [] (zd3 a0 a1 a2) (fun r nv=>⟨[.rd z01 r.1,.rd z0w r.2],[]⟩):=by
 refine z3n 74 Tryz.func66 Z Z Z fun H w=>?_
 refine gSR<|Eb Z (bx 1 Z) fun v1=>Eb Z (bx 2 Z) fun v2=>Eb Z (bx 3 Z) fun v3=>Eb Z (z6m 4 z2x (ZrE.nilS (ZrE.nilS ZrE.nil))) fun v4=>Zb Z<|gSR<|Zq (ld 1 Z Z fH z7n Z)<|Zq (ld 2 Z Z fH zbe Z)<|Zc [] [] Tryz.func76 Z (zfi _ _) fun r5 n6=>Zm Z<|Zq (ext Z Z)<|Zq (ext Z Z)<|Za Z<|Zb Z<|z0v<|gSR<|Zm Z<|Zj Z (fun h7=>?_) (fun h7=>?_)
 ·
  refine gKn 17 Z h7<|gKn 9 Z h7<|gSR<|Zq (ld 1 Z Z fH z7n Z)<|z8x aZ [.rd (z02 aZ) [],.val (.slice none 0 0)] 4 [] [.val (.slice none 0 0)] Z Z Z<|z8x z03 [.rd (z02 aZ) [],.rd (z02 z03) []] 4 [.rd (z02 aZ) []] [] Z Z Z<|zbf (R:=z01) (⟨[],[]⟩:z00) 4 Z (Sp.via (Sp.prod (Sp.prod Sp.unit)))<|Es (sto 4 Z Z fH Z z2x)<|Zb Z<|z0r<|z0s<|zbi [] [] Z (eC 4 Z Z z7n<|eE Z<|eN) (rN)
 ·
  refine gKn 17 Z h7<|gKn 9 Z h7<|Zt<|z0v<|gSub [(3,.val (z0a v1 0)),(4,.val (z0a v2 0)),(5,.val (z0a v3 0)),(6,.val (z0a v4 0)),(8,.rd z08 r5.1)] [(1,some (v1,.box 49 [.rd z01 a0])),(2,some (v2,.box 94 [.rd aZ a1])),(3,some (v3,.box 86 [.rd z03 a2])),(4,some (v4,.box 49 [.val (.slice none 0 0),.val (.slice none 0 0)]))] [1,2,3,4] (Zs Z Z Z Z<|sS Z<|sN) (Zi Z<|Zi Z<|Zi Z<|Zi Z<|rN)<|zc5 fun r8 h10=>zc5 fun r11 h13=>gOr [] [⟨1,some ([], fun nv=>(v1,.box 49 [.rd z01 a0])),[]⟩,⟨5,none,[(2,some ([1], fun nv=>((nv 1),.list aZ 94 r8))),(6,none)]⟩,⟨2,some ([], fun nv=>(v2,.box 94 [.rd aZ a1])),[]⟩,⟨6,none,[(5,some ([2], fun nv=>((nv 2),.list aZ 94 [a1]))),(6,none)]⟩,⟨7,none,[(6,some ([3], fun nv=>((nv 3),.list aZ 94 r11)))]⟩,⟨8,none,[(8,some ([4], fun nv=>((nv 4),.box 49 [.val (.slice none 0 0),.val (.slice none 0 0)]))),(9,some ([3,4], fun nv=>((nv 4),.box 49 [.val (nv 3),.val (.slice none 0 0)])))]⟩] [pk 20 (.val (z0a v1 (0+0))) [(0,0,false)],pk 21 (.rd (z02 aZ) a0.IDs) [(0,0,false)],⟨some (22,[1], fun nv=>.val (nv 1)),[(1,0,true)],[1],[]⟩,pd 23 (.rd z08 r5.1),pk 24 (.rd aZ a1) [(2,0,false)],⟨some (25,[2], fun nv=>.val (nv 2)),[(3,0,true)],[2],[]⟩,⟨some (26,[3], fun nv=>.val (nv 3)),[(3,1,true),(1,1,true),(4,0,true)],[3],[]⟩,⟨some (27,[3], fun nv=>.agg [.val (nv 3),.val (.slice none 0 0)]),[],[],[]⟩,⟨some (10,[4], fun nv=>.val (z0a (nv 4) 0)),[(5,0,true)],[4],[]⟩,⟨none,[(5,1,true)],[],[]⟩] z4j (oC (oRn (fun nv E=>faB 1 Z Z Tryz.underlying49 Z (by exact zbt)))<|oC (oRn (fun nv E=>ld 1 Z Z (fP (z0q _)) zcn Z))<|oC (oCl [1] [] [(100,5)] h10 Tryz.func61 Z (fun nv=>(z17 _)) (fun nv=>(Y1 Z)) (fun nv E=>rN))<|oC (oRn (fun nv E=>mv Z))<|oC (oRn (fun nv E=>ld 2 Z Z fH zbe Z))<|oC (oEf 6 2 (fun nv E=>lit (R:=aZ) ([a1]:List V3) 6 (pP Z Z<|pN) Z tu46 z7g Z Z))<|oC (oCl [3] [5,6] [(100,7)] h13 Tryz.func95 Z (fun nv=>(z11i _ _ _ _ _)) (fun nv=>(aQ Z<|aQ Z<|aQ Z<|aN)) (fun nv E=>(Zi Z<|Zi Z<|rN)))<|oC (oRn (fun nv E=>zn6 [(0,1),(1,1)] Tryz.underlying49 z2x (ZrE.nilS (ZrE.nilS ZrE.nil)) Z (zdy.cons Z Z z06 (z7y.cast (z7y.here z06) Z)<|zdy.done Z)))<|oC (oEb 8 4 (fun nv E=>z6m 8 z2x (ZrE.nilS (ZrE.nilS ZrE.nil))))<|oC (oEs 8 (fun nv E=>zo4 8 Z Z (z09.cast (z09.cons z06 (z09.cons z06 z09.nil)) Z) Z (z2u.cons z1n (z2u.cons z1n z2u.nil)) (z09.cast (z09.cons z06 (z09.cons z06 z09.nil)) Z) z2x))<|oN) fun n14=>z0y<|zaj (fun (s15:(List z04)) aa ww=>∃ nv:Nat→Value,Sta (ctx 74 H [] w) [(6,.val (z0a v4 0)),(10,.val (z0a (nv 0) 0))] [(4,some (v4,.box 49 [.val (.slice none 0 0),.val (.slice none 0 0)])),(7,some ((nv 1),.list aZ 94 r11)),(9,some ((nv 2),.list z03 86 s15)),(8,some ((nv 0),.box 49 [.val (nv 1),.val (nv 2)]))] aa ww) ?_ (fun s15=>?_)
  ·
   refine gSR<|Zq (faB 8 Z Z Tryz.underlying49 Z (by exact zbt))<|Zq (ldV 8 Z Z (At.cast At.here Z) sc46 Z)<|Zq (z3r Z (.own 7 Z) Z tu46)<|Zm Z<|Zn<|zt4 z03 86 11<|z2h (fun (s16:(List z04) × Int) aa ww=>∃ nv:Nat→Value,Sta (ctx 74 H [] w) [(3,.val (z0a v1 0)),(5,.val (z0a v3 0)),(6,.val (z0a v4 0)),(8,.rd z08 r5.1),(10,.val (z0a (nv 0) 0)),(30,.rd z08 (r11.length:Int)),(31,.rd z08 s16.2)] [(1,some (v1,.box 49 [.rd z01 a0])),(3,some (v3,.box 86 [.rd z03 a2])),(4,some (v4,.box 49 [.val (.slice none 0 0),.val (.slice none 0 0)])),(7,some ((nv 1),.list aZ 94 r11)),(10,some ((nv 2),.list z03 86 s16.1)),(8,some ((nv 0),.box 49 [.val (nv 1),.val (nv 2)]))] aa ww) (fun aa ww h=>⟨nvl [(n14 4),(n14 3),(.slice none 0 0)],Zu h [1,3,4,7,11,8]⟩) (fun s16=>?_)
   refine gEx fun n17=>gSR<|Zq (I.lss Z Z)<|Zn<|z0v<|gIf Z Z (fun h18=>?_) (fun h18=>?_)
   ·
    refine Zt<|z0v<|z5y<|gSR<|Zm Z<|Zb Z<|z5y<|gSR<|Zm Z<|Zm Z<|Zq (I.lss Z Z)<|Za Z<|z40 46 Z fun y19=>Zj Z (fun h20=>?_) (fun h20=>?_)
    ·
     refine gSub [(3,.val (z0a v1 0)),(5,.val (z0a v3 0)),(6,.val (z0a v4 0)),(8,.rd z08 r5.1),(10,.val (z0a (n17 0) 0)),(30,.rd z08 (r11.length:Int)),(31,.rd z08 s16.2),(11,.rd z08 s16.2)] [(1,some (v1,.box 49 [.rd z01 a0])),(3,some (v3,.box 86 [.rd z03 a2])),(4,some (v4,.box 49 [.val (.slice none 0 0),.val (.slice none 0 0)])),(7,some ((n17 1),.list aZ 94 r11)),(10,some ((n17 2),.list z03 86 s16.1)),(8,some ((n17 0),.box 49 [.val (n17 1),.val (n17 2)]))] [1,3,4,7,10,8] (Zs Z Z Z Z<|Zs Z Z Z Z<|sN) (Zi Z<|Zi Z<|Zi Z<|Zi Z<|Zi Z<|Zi Z<|rN)<|zc5 fun x21 h22=>zc5 fun r23 h25=>zc5 fun x26 h27=>gOr [] [⟨8,some ([], fun nv=>((n17 0),.box 49 [.val (n17 1),.val (n17 2)])),[(11,some ([2], fun nv=>((n17 0),.box 49 [.val (n17 1),.val (nv 2)])))]⟩,⟨1,some ([], fun nv=>(v1,.box 49 [.rd z01 a0])),[]⟩,⟨12,none,[(8,none)]⟩,⟨10,some ([], fun nv=>((n17 2),.list z03 86 s16.1)),[(9,some ([2], fun nv=>((nv 2),.list z03 86 x26)))]⟩] [pk 50 (.val (z0a (n17 0) (0+1))) [(0,0,false)],pk 51 (.val (n17 2)) [(0,0,false)],pk 52 (.val (z0a v1 (0+1))) [(1,0,false)],pk 53 (.rd (z02 z03) a0.Ops) [(1,0,false)],pd 54 (.rd z08 s16.2),pd 55 (.rp z03 x21),pd 56 (.rd z03 x21),pd 57 (.rd z03 r23),⟨some (58,[], fun nv=>.rd (z02 z03) [r23]),[(2,0,true)],[1],[]⟩,⟨some (59,[2], fun nv=>.val (nv 2)),[(3,0,true)],[2],[]⟩,pk 60 (.val (z0a (n17 0) (0+1))) [(0,0,false)],⟨none,[(3,1,false),(0,0,true)],[],[]⟩] z4j (oC (oRn (fun nv E=>faB 8 Z Z Tryz.underlying49 Z (by exact zde)))<|oC (oRn (fun nv E=>ldV 8 Z Z (At.cast (At.next z06 At.here) Z) sc47 Z))<|oC (oRn (fun nv E=>faB 1 Z Z Tryz.underlying49 Z (by exact zde)))<|oC (oRn (fun nv E=>ld 1 Z Z (fP (z0m _)) zif Z))<|oC (oRn (fun nv E=>mv Z))<|oC (oRn (fun nv E=>ixR Z Z h22 tu47 z80 Z))<|oC (oRn (fun nv E=>ldR Z zcv))<|oC (oCl [] [] [] h25 Tryz.func78 Z (fun nv=>(zdk _)) (fun nv=>(Y1 Z)) (fun nv E=>rN))<|oC (oFz (A1:=fun nv=>[(12,some ((nv 1),.list z03 86 [r23]))]) 12 1 (oEf 12 1 (fun nv E=>lit (R:=z03) ([r23]:List z04) 12 (pP Z Z<|pN) Z tu47 z80 Z Z)))<|oC (oEf 10 2 (fun nv E=>apn 10 Z Z Z .rd h27 tu47 z80 Z Z Z))<|oC (oRn (fun nv E=>faB 8 Z Z Tryz.underlying49 Z (by exact zde)))<|oC (oEs 8 (fun nv E=>zzi 8 Z Z (z7y.cast (z7y.next z06 (z7y.here z06)) Z) Z z1n z06 zde))<|oN) fun n28=>z44<|z44<|z0y<|z2o<|Zq (I.add Z Z)<|Zm Z<|z20<|z23 (fun aa ww h=>⟨nvl [(n17 0),(n17 1),(n28 2)],Zu h [1,3,4,7,10,8]⟩)
    ·
     refine gSR<|Zm Z<|Zm Z<|Zq (I.eql Z Z)<|Za Z<|z40 61 Z fun y29=>Zj Z (fun h30=>?_) (fun h30=>?_)
     ·
      refine gSub [(3,.val (z0a v1 0)),(5,.val (z0a v3 0)),(6,.val (z0a v4 0)),(8,.rd z08 r5.1),(10,.val (z0a (n17 0) 0)),(30,.rd z08 (r11.length:Int)),(31,.rd z08 s16.2)] [(1,some (v1,.box 49 [.rd z01 a0])),(3,some (v3,.box 86 [.rd z03 a2])),(4,some (v4,.box 49 [.val (.slice none 0 0),.val (.slice none 0 0)])),(7,some ((n17 1),.list aZ 94 r11)),(10,some ((n17 2),.list z03 86 s16.1)),(8,some ((n17 0),.box 49 [.val (n17 1),.val (n17 2)]))] [1,3,4,7,10,8] (Zs Z Z Z Z<|sS Z<|sS Z<|sS Z<|sN) (Zi Z<|Zi Z<|Zi Z<|Zi Z<|Zi Z<|Zi Z<|rN)<|zc5 fun r31 h33=>zc5 fun x34 h35=>gOr [] [⟨8,some ([], fun nv=>((n17 0),.box 49 [.val (n17 1),.val (n17 2)])),[(7,some ([2], fun nv=>((n17 0),.box 49 [.val (n17 1),.val (nv 2)])))]⟩,⟨3,some ([], fun nv=>(v3,.box 86 [.rd z03 a2])),[]⟩,⟨13,none,[(4,none)]⟩,⟨10,some ([], fun nv=>((n17 2),.list z03 86 s16.1)),[(5,some ([2], fun nv=>((nv 2),.list z03 86 x34)))]⟩] [pk 65 (.val (z0a (n17 0) (0+1))) [(0,0,false)],pk 66 (.val (n17 2)) [(0,0,false)],pk 67 (.rd z03 a2) [(1,0,false)],pd 68 (.rd z03 r31),⟨some (69,[], fun nv=>.rd (z02 z03) [r31]),[(2,0,true)],[1],[]⟩,⟨some (70,[2], fun nv=>.val (nv 2)),[(3,0,true)],[2],[]⟩,pk 71 (.val (z0a (n17 0) (0+1))) [(0,0,false)],⟨none,[(3,1,false),(0,0,true)],[],[]⟩] z4j (oC (oRn (fun nv E=>faB 8 Z Z Tryz.underlying49 Z (by exact zde)))<|oC (oRn (fun nv E=>ldV 8 Z Z (At.cast (At.next z06 At.here) Z) sc47 Z))<|oC (oRn (fun nv E=>ld 3 Z Z fH zcv Z))<|oC (oCl [] [] [] h33 Tryz.func78 Z (fun nv=>(zdk _)) (fun nv=>(Y1 Z)) (fun nv E=>rN))<|oC (oFz (A1:=fun nv=>[(13,some ((nv 1),.list z03 86 [r31]))]) 13 1 (oEf 13 1 (fun nv E=>lit (R:=z03) ([r31]:List z04) 13 (pP Z Z<|pN) Z tu47 z80 Z Z)))<|oC (oEf 10 2 (fun nv E=>apn 10 Z Z Z .rd h35 tu47 z80 Z Z Z))<|oC (oRn (fun nv E=>faB 8 Z Z Tryz.underlying49 Z (by exact zde)))<|oC (oEs 8 (fun nv E=>zzi 8 Z Z (z7y.cast (z7y.next z06 (z7y.here z06)) Z) Z z1n z06 zde))<|oN) fun n36=>z44<|z44<|z0y<|z2o<|Zq (I.add Z Z)<|Zm Z<|z20<|z23 (fun aa ww h=>⟨nvl [(n17 0),(n17 1),(n36 2)],Zu h [1,3,4,7,10,8]⟩)
     ·
      refine gSub [(3,.val (z0a v1 0)),(5,.val (z0a v3 0)),(6,.val (z0a v4 0)),(8,.rd z08 r5.1),(10,.val (z0a (n17 0) 0)),(30,.rd z08 (r11.length:Int)),(31,.rd z08 s16.2),(11,.rd z08 s16.2)] [(1,some (v1,.box 49 [.rd z01 a0])),(3,some (v3,.box 86 [.rd z03 a2])),(4,some (v4,.box 49 [.val (.slice none 0 0),.val (.slice none 0 0)])),(7,some ((n17 1),.list aZ 94 r11)),(10,some ((n17 2),.list z03 86 s16.1)),(8,some ((n17 0),.box 49 [.val (n17 1),.val (n17 2)]))] [1,3,4,7,10,8] (Zs Z Z Z Z<|Zs Z Z Z Z<|sN) (Zi Z<|Zi Z<|Zi Z<|Zi Z<|Zi Z<|Zi Z<|rN)<|zc5 fun x37 h38=>zc5 fun r39 h41=>zc5 fun x42 h43=>gOr [] [⟨8,some ([], fun nv=>((n17 0),.box 49 [.val (n17 1),.val (n17 2)])),[(12,some ([2], fun nv=>((n17 0),.box 49 [.val (n17 1),.val (nv 2)])))]⟩,⟨1,some ([], fun nv=>(v1,.box 49 [.rd z01 a0])),[]⟩,⟨14,none,[(9,none)]⟩,⟨10,some ([], fun nv=>((n17 2),.list z03 86 s16.1)),[(10,some ([2], fun nv=>((nv 2),.list z03 86 x42)))]⟩] [pk 34 (.val (z0a (n17 0) (0+1))) [(0,0,false)],pk 35 (.val (n17 2)) [(0,0,false)],pk 36 (.val (z0a v1 (0+1))) [(1,0,false)],pk 37 (.rd (z02 z03) a0.Ops) [(1,0,false)],pd 38 (.rd z08 s16.2),pd 39 (.rd z08 (w64 (s16.2 - 1))),pd 40 (.rp z03 x37),pd 41 (.rd z03 x37),pd 42 (.rd z03 r39),⟨some (43,[], fun nv=>.rd (z02 z03) [r39]),[(2,0,true)],[1],[]⟩,⟨some (44,[2], fun nv=>.val (nv 2)),[(3,0,true)],[2],[]⟩,pk 45 (.val (z0a (n17 0) (0+1))) [(0,0,false)],⟨none,[(3,1,false),(0,0,true)],[],[]⟩] z4j (oC (oRn (fun nv E=>faB 8 Z Z Tryz.underlying49 Z (by exact zde)))<|oC (oRn (fun nv E=>ldV 8 Z Z (At.cast (At.next z06 At.here) Z) sc47 Z))<|oC (oRn (fun nv E=>faB 1 Z Z Tryz.underlying49 Z (by exact zde)))<|oC (oRn (fun nv E=>ld 1 Z Z (fP (z0m _)) zif Z))<|oC (oRn (fun nv E=>mv Z))<|oC (oRn (fun nv E=>I.sub Z Z))<|oC (oRn (fun nv E=>ixR Z Z h38 tu47 z80 Z))<|oC (oRn (fun nv E=>ldR Z zcv))<|oC (oCl [] [] [] h41 Tryz.func78 Z (fun nv=>(zdk _)) (fun nv=>(Y1 Z)) (fun nv E=>rN))<|oC (oFz (A1:=fun nv=>[(14,some ((nv 1),.list z03 86 [r39]))]) 14 1 (oEf 14 1 (fun nv E=>lit (R:=z03) ([r39]:List z04) 14 (pP Z Z<|pN) Z tu47 z80 Z Z)))<|oC (oEf 10 2 (fun nv E=>apn 10 Z Z Z .rd h43 tu47 z80 Z Z Z))<|oC (oRn (fun nv E=>faB 8 Z Z Tryz.underlying49 Z (by exact zde)))<|oC (oEs 8 (fun nv E=>zzi 8 Z Z (z7y.cast (z7y.next z06 (z7y.here z06)) Z) Z z1n z06 zde))<|oN) fun n44=>z44<|z44<|z0y<|z2o<|Zq (I.add Z Z)<|Zm Z<|z20<|z23 (fun aa ww h=>⟨nvl [(n17 0),(n17 1),(n44 2)],Zu h [1,3,4,7,10,8]⟩)
   ·
    refine z2i<|z1b<|z1a<|z4a (fun aa ww h=>⟨nvl [(n17 0),(n17 1),(n17 2)],Zu h [4,7,10,8]⟩)
  ·
   refine gEx fun n45=>gSR<|lPow [.rd (z02 aZ) r11,.val (n45 2)] 8 7 [] [.val (n45 2)] Z Z Z Z Z<|lPow [.rd (z02 aZ) r11,.rd (z02 z03) s15] 8 9 [.rd (z02 aZ) r11] [] Z Z Z Z Z<|zbf (R:=z01) (⟨r11,s15⟩:z00) 8 Z (Sp.via (Sp.prod (Sp.prod Sp.unit)))<|Zq (ld 8 Z Z fH z7n Z)<|z8x aZ [.rd (z02 aZ) [],.val (.slice none 0 0)] 4 [] [.val (.slice none 0 0)] Z Z Z<|z8x z03 [.rd (z02 aZ) [],.rd (z02 z03) []] 4 [.rd (z02 aZ) []] [] Z Z Z<|zbf (R:=z01) (⟨[],[]⟩:z00) 4 Z (Sp.via (Sp.prod (Sp.prod Sp.unit)))<|Es (sto 4 Z Z fH Z z2x)<|Zb Z<|z0r<|zbi [] [] Z (eC 4 Z Z z7n<|eE Z<|eN) (rN)
def z5f (a0:z00) (a1:z00) (s9:Int):Option (Sum (Sum (z00 × Int) Unit) Int) :=
 if decide (s9<(a1.IDs.length:Int)) then
  idx a1.IDs s9 >>= fun x11 =>
  zbn a0 x11 >>= fun r14 =>
  (if r14.2 then
   idx a0.Ops r14.1 >>= fun x18 =>
   idx a1.Ops s9 >>= fun x20 =>
   zia x18 x20 >>= fun r22 =>
   some (!r22)
  else
   some false) >>= fun s16 =>
  if s16 then
   some (.inl (.inl ((⟨[],[]⟩:z00),14)))
  else
   some (.inr (w64 (s9+1)))
 else
  some (.inl (.inr ()))
def z9p (a0:z00) (s29:(List z04) × Int):Option (Sum ((List z04)) ((List z04) × Int)) :=
 if decide (s29.2<(a0.Ops.length:Int)) then
  idx a0.Ops s29.2 >>= fun x32 =>
  zdb x32 >>= fun r35 =>
  app 112 s29.1 [r35] >>= fun x38 =>
  some (.inr (x38,w64 (s29.2+1)))
 else
  some (.inl s29.1)
def z9r (a1:z00) (s43:(List V3) × (List z04) × Int):Option (Sum ((List V3) × (List z04)) ((List V3) × (List z04) × Int)) :=
 if decide (s43.2.2<(a1.IDs.length:Int)) then
  idx a1.IDs s43.2.2 >>= fun x45 =>
  idx a1.Ops s43.2.2 >>= fun x48 =>
  zd3 (⟨s43.1,s43.2.1⟩:z00) x45 x48 >>= fun r50 =>
  some (.inr (r50.1.IDs,r50.1.Ops,w64 (s43.2.2+1)))
 else
  some (.inl (s43.1,s43.2.1))
def zg3 (a0:z00) (a1:z00):Option (z00 × Int) :=
 zer [a0,a1] >>= fun r5 =>
 if r5 != 0 then
  some ((⟨[],[]⟩:z00),r5)
 else
  z36 (iter (z5f a0 a1) 0) fun s8 =>
  z0j a0.IDs >>= fun r25 =>
  (iter (z9p a0) ([],0)) >>= fun s28 =>
  (iter (z9r a1) (r25,s28,0)) >>= fun s42 =>
  if decide (60<(s42.2.length:Int)) then
   some ((⟨[],[]⟩:z00),4)
  else
   some ((⟨s42.1,s42.2⟩:z00),0)
set_option maxHeartbeats 4000000 in
theorem zog (a0:z00) (a1:z00):z2t Tryz.prog 58 [.rd z01 a0,.rd z01 a1] [zG1] (zg3 a0 a1) (fun r nv=>⟨[.rd z01 r.1,.rd z08 r.2],[(1001,some (.bool true,.glob 1 (z38 64 z10) z3v))]⟩):=by
 refine z3n 100 Tryz.func58 Z Z Z fun H w=>?_
 refine gSR<|Eb Z (bx 1 Z) fun v1=>Eb Z (bx 2 Z) fun v2=>Eb Z (z6m 3 z2x (ZrE.nilS (ZrE.nilS ZrE.nil))) fun v3=>Zb Z<|z0v<|gSR<|Zq (ld 1 Z Z fH z7n Z)<|Zq (ld 2 Z Z fH z7n Z)<|Ef Z (lit (R:=z01) ([a0,a1]:List z00) 4 (pP Z Z<|pP Z Z<|pN) Z tu22 z2x Z Z) fun v4=>z7h 4 [18] Z (fS Z<|fN)<|Zc [1001] [] Tryz.func75 Z (zlk _) fun r5 n6=>Zb Z<|gSR<|Zm Z<|Zq (I.neq Z Z)<|Zj Z (fun h7=>?_) (fun h7=>?_)
 ·
  refine gSR<|Zq (zn6 [(0,1),(1,1)] Tryz.underlying49 z2x (ZrE.nilS (ZrE.nilS ZrE.nil)) Z (zdy.done Z))<|Zm Z<|Es (zo4 3 Z Z (z09.cast (z09.cons z06 (z09.cons z06 z09.nil)) Z) Z (z2u.cons z1n (z2u.cons z1n z2u.nil)) (z09.cast (z09.cons z06 (z09.cons z06 z09.nil)) Z) z2x)<|Zb Z<|z0r<|z0s<|zkn aZ [.rd (z02 aZ) [],.val (.slice none 0 0)] 3 [] [.val (.slice none 0 0)] Z Z Z<|zkn z03 [.rd (z02 aZ) [],.rd (z02 z03) []] 3 [.rd (z02 aZ) []] [] Z Z Z<|zt6 (R:=z01) (⟨[],[]⟩:z00) 3 Z (Sp.via (Sp.prod (Sp.prod Sp.unit)))<|zbi [] [1001] Z (eC 3 Z Z z7n<|eE Z<|eN) (y1 Z)
 ·
  refine Zt<|z5m (fun (s8:Unit) aa ww=>Sta (ctx 100 H [zG1] w) [(2,.val (z0a v1 0)),(3,.val (z0a v2 0)),(4,.val (z0a v3 0))] [(1,some (v1,.box 49 [.rd z01 a0])),(2,some (v2,.box 49 [.rd z01 a1])),(3,some (v3,.box 49 [.val (.slice none 0 0),.val (.slice none 0 0)])),zG1] aa ww) ?_ (fun s8=>?_)
  ·
   refine gSR<|Zq (faB 2 Z Z Tryz.underlying49 Z (by exact zbt))<|Zq (ld 2 Z Z (fP (z0q _)) zcn Z)<|Zq (z3r Z .rd Z tu46)<|Zm Z<|Zn<|z2h (fun (s9:Int) aa ww=>Sta (ctx 100 H [zG1] w) [(2,.val (z0a v1 0)),(3,.val (z0a v2 0)),(4,.val (z0a v3 0)),(25,.rd (z02 aZ) a1.IDs),(26,.rd z08 (a1.IDs.length:Int)),(27,.rd z08 s9)] [(1,some (v1,.box 49 [.rd z01 a0])),(2,some (v2,.box 49 [.rd z01 a1])),(3,some (v3,.box 49 [.val (.slice none 0 0),.val (.slice none 0 0)])),zG1] aa ww) (fun aa ww h=>Zu h [1,2,3,1001]) (fun s9=>?_)
   refine gSR<|Zq (I.lss Z Z)<|Zn<|z0v<|gIf Z Z (fun h10=>?_) (fun h10=>?_)
   ·
    refine Zt<|z0v<|z5y<|gSR<|Zm Z<|z11 fun x11 h12=>Zq (ixR Z Z h12 tu46 z7g Z)<|Zq (ldR Z zbe)<|Eb Z (z6m 1100 z7g (.zr (R:=aZ) (x:=(Vector.replicate 32 0)) zmx)) fun v13=>Za Z<|Es (sto 1100 Z Z fH Z z7g)<|Zn<|gSR<|Zq (ld 1 Z Z fH z7n Z)<|Zq (ld 1100 Z Z fH zbe Z)<|Zc [] [] Tryz.func76 Z (zfi _ _) fun r14 n15=>Zm Z<|Zq (ext Z Z)<|Zq (ext Z Z)<|Za Z<|Zb Z<|zaj (fun (s16:Bool) aa ww=>Sta (ctx 100 H [zG1] w) [(2,.val (z0a v1 0)),(3,.val (z0a v2 0)),(4,.val (z0a v3 0)),(25,.rd (z02 aZ) a1.IDs),(26,.rd z08 (a1.IDs.length:Int)),(27,.rd z08 s9),(52,.rd z0w s16)] [(1,some (v1,.box 49 [.rd z01 a0])),(2,some (v2,.box 49 [.rd z01 a1])),(3,some (v3,.box 49 [.val (.slice none 0 0),.val (.slice none 0 0)])),zG1] aa ww) ?_ (fun s16=>?_)
    ·
     refine z90 [] z4j Z Z<|hTk 0 Z Z (mv Z)<|hTk 1 Z Z (mv Z)<|hIf 39 Z Z (fun h17=>?_) (fun h17=>?_)
     ·
      refine hKn 37 Z Z h17<|hKn 10 Z Z h17<|hKn 38 Z Z h17<|Zg 2 Z Z (faB 1 Z Z Tryz.underlying49 Z (by exact zde))<|Zg 3 Z Z (ld 1 Z Z (fP (z0m _)) zif Z)<|Zg 4 Z Z (mv Z)<|z7e fun x18 h19=>Zg 5 Z Z (ixR Z Z h19 tu47 z80 Z)<|Zg 6 Z Z (ldR Z zcv)<|Zg 7 Z Z (faB 2 Z Z Tryz.underlying49 Z (by exact zde))<|Zg 8 Z Z (ld 2 Z Z (fP (z0m _)) zif Z)<|Zg 9 Z Z (mv Z)<|z7e fun x20 h21=>Zg 10 Z Z (ixR Z Z h21 tu47 z80 Z)<|Zg 11 Z Z (ldR Z zcv)<|z79 12 [] [] Z (by kernel_rfl) Z Zx Z Tryz.func77 Z Z (zpz _ _) (Y2 Z Z) rN Z (fun _ _=>z9t) fun r22 n23=>Zg 13 Z Z (zgz Z)<|hTk 14 Z Z (pkT Z Z)<|z5r (by kernel_rfl)<|z4a (fun aa ww h=>Zu h [1,2,3,1001])
     ·
      refine hKn 37 Z Z h17<|hKn 10 Z Z h17<|hKn 38 Z Z h17<|hSk 2 Z Z<|hSk 3 Z Z<|hSk 4 Z Z<|hSk 5 Z Z<|hSk 6 Z Z<|hSk 7 Z Z<|hSk 8 Z Z<|hSk 9 Z Z<|hSk 10 Z Z<|hSk 11 Z Z<|hSk 12 Z Z<|hSk 13 Z Z<|hTk 14 Z Z (pkF Z Z)<|z5r (by kernel_rfl)<|z4a (fun aa ww h=>Zu h [1,2,3,1001])
    ·
     refine gIf Z Z (fun h24=>?_) (fun h24=>?_)
     ·
      refine gSR<|Zq (zn6 [(0,1),(1,1)] Tryz.underlying49 z2x (ZrE.nilS (ZrE.nilS ZrE.nil)) Z (zdy.done Z))<|Es (zo4 3 Z Z (z09.cast (z09.cons z06 (z09.cons z06 z09.nil)) Z) Z (z2u.cons z1n (z2u.cons z1n z2u.nil)) (z09.cast (z09.cons z06 (z09.cons z06 z09.nil)) Z) z2x)<|Zb Z<|z0r<|z42<|z0s<|z55<|z4q<|zkn aZ [.rd (z02 aZ) [],.val (.slice none 0 0)] 3 [] [.val (.slice none 0 0)] Z Z Z<|zkn z03 [.rd (z02 aZ) [],.rd (z02 z03) []] 3 [.rd (z02 aZ) []] [] Z Z Z<|zt6 (R:=z01) (⟨[],[]⟩:z00) 3 Z (Sp.via (Sp.prod (Sp.prod Sp.unit)))<|zbi [] [1001] Z (eC 3 Z Z z7n<|eE Z<|eN) (y1 Z)
     ·
      refine z41<|z44<|z0y<|z2o<|Zq (I.add Z Z)<|Zm Z<|z20<|z23 (fun aa ww h=>Zu h [1,2,3,1001])
   ·
    refine z2i<|z1b<|z1a<|z53 (fun aa ww h=>Zu h [1,2,3,1001])
  ·
   refine gSR<|Zq (faB 1 Z Z Tryz.underlying49 Z (by exact zbt))<|Zq (ld 1 Z Z (fP (z0q _)) zcn Z)<|Zc [] [(100,1149)] Tryz.func61 Z (z17 _) fun r25 n26=>Zq (zn6 [(0,1),(1,1)] Tryz.underlying49 z2x (ZrE.nilS (ZrE.nilS ZrE.nil)) Z (zdy.cons Z Z z06 (z7y.cast (z7y.here z06) Z)<|zdy.done Z))<|Eb Z (z6m 1150 z2x (ZrE.nilS (ZrE.nilS ZrE.nil))) fun v27=>Es (zo4 1150 Z Z (z09.cast (z09.cons z06 (z09.cons z06 z09.nil)) Z) Z (z2u.cons z1n (z2u.cons z1n z2u.nil)) (z09.cast (z09.cons z06 (z09.cons z06 z09.nil)) Z) z2x)<|Zn<|zaj (fun (s28:(List z04)) aa ww=>∃ nv:Nat→Value,Sta (ctx 100 H [zG1] w) [(3,.val (z0a v2 0)),(4,.val (z0a v3 0)),(11,.val (z0a v27 0))] [(2,some (v2,.box 49 [.rd z01 a1])),(3,some (v3,.box 49 [.val (.slice none 0 0),.val (.slice none 0 0)])),(1149,some ((n26 0),.list aZ 94 r25)),(1152,some ((nv 0),.list z03 86 s28)),(1150,some (v27,.box 49 [.val (n26 0),.val (nv 0)])),zG1] aa ww) ?_ (fun s28=>?_)
   ·
    refine gSR<|Zq (faB 1 Z Z Tryz.underlying49 Z (by exact zde))<|Zq (ld 1 Z Z (fP (z0m _)) zif Z)<|Zq (z3r Z .rd Z tu47)<|Zm Z<|Zn<|zt4 z03 86 1155<|z2h (fun (s29:(List z04) × Int) aa ww=>∃ nv:Nat→Value,Sta (ctx 100 H [zG1] w) [(3,.val (z0a v2 0)),(4,.val (z0a v3 0)),(11,.val (z0a v27 0)),(60,.rd (z02 z03) a0.Ops),(61,.rd z08 (a0.Ops.length:Int)),(62,.rd z08 s29.2)] [(2,some (v2,.box 49 [.rd z01 a1])),(3,some (v3,.box 49 [.val (.slice none 0 0),.val (.slice none 0 0)])),(1149,some ((n26 0),.list aZ 94 r25)),(1154,some ((nv 0),.list z03 86 s29.1)),(1150,some (v27,.box 49 [.val (n26 0),.val (nv 0)])),zG1] aa ww) (fun aa ww h=>⟨nvl [(.slice none 0 0)],Zu h [2,3,1149,1155,1150,1001]⟩) (fun s29=>?_)
    refine gEx fun n30=>gSR<|Zq (I.lss Z Z)<|Zn<|z0v<|gIf Z Z (fun h31=>?_) (fun h31=>?_)
    ·
     refine Zt<|z0v<|z5y<|gSR<|z11 fun x32 h33=>Zq (ixR Z Z h33 tu47 z80 Z)<|Zq (ldR Z zcv)<|Eb Z (z6m 1156 z80 (ZrE.rd (R:=z10) (x:=0) (Zr.num Z) (ZrE.nilS (ZrE.rd (R:=z2b) (x:=0) (Zr.num Z) (ZrE.rd (R:=z0k) (x:=(⟨0,[],(⟨0,0,0,[]⟩:z05)⟩:z0i)) zmr (ZrE.rd (R:=z0l) (x:=(⟨0,0⟩:z0b)) zmk ZrE.nil Z) Z) Z)) Z)) fun v34=>z8x aZ [.rd z10 0,.rd (z02 aZ) [],.rd z2b 0,.rd z0k (⟨0,[],(⟨0,0,0,[]⟩:z05)⟩:z0i),.rd z0l (⟨0,0⟩:z0b)] 1156 [.rd z10 0] [.rd z2b 0,.rd z0k (⟨0,[],(⟨0,0,0,[]⟩:z05)⟩:z0i),.rd z0l (⟨0,0⟩:z0b)] Z Z Z<|zbf (R:=z03) (⟨0,[],0,(⟨0,[],(⟨0,0,0,[]⟩:z05)⟩:z0i),(⟨0,0⟩:z0b)⟩:z04) 1156 Z (Sp.via (Sp.prod (Sp.prod (Sp.prod (Sp.prod (Sp.prod Sp.unit))))))<|Es (sto 1156 Z Z fH Z z80)<|Zn<|gSub [(3,.val (z0a v2 0)),(4,.val (z0a v3 0)),(11,.val (z0a v27 0)),(60,.rd (z02 z03) a0.Ops),(61,.rd z08 (a0.Ops.length:Int)),(62,.rd z08 s29.2),(13,.val (z0a v34 0))] [(2,some (v2,.box 49 [.rd z01 a1])),(3,some (v3,.box 49 [.val (.slice none 0 0),.val (.slice none 0 0)])),(1149,some ((n26 0),.list aZ 94 r25)),(1154,some ((n30 0),.list z03 86 s29.1)),(1150,some (v27,.box 49 [.val (n26 0),.val (n30 0)])),zG1,(1156,some (v34,.box 86 [.rd z03 x32]))] [2,3,1149,1154,1150,1001,1156] (Zs Z Z Z Z<|sS Z<|sS Z<|sS Z<|sN) (Zi Z<|Zi Z<|Zi Z<|Zi Z<|Zi Z<|Zi Z<|Zi Z<|rN)<|zc5 fun r35 h37=>zc5 fun x38 h39=>gOr [] [⟨1150,some ([], fun nv=>(v27,.box 49 [.val (n26 0),.val (n30 0)])),[(7,some ([2], fun nv=>(v27,.box 49 [.val (n26 0),.val (nv 2)])))]⟩,⟨1156,some ([], fun nv=>(v34,.box 86 [.rd z03 x32])),[]⟩,⟨1157,none,[(4,none)]⟩,⟨1154,some ([], fun nv=>((n30 0),.list z03 86 s29.1)),[(5,some ([2], fun nv=>((nv 2),.list z03 86 x38)))]⟩] [pk 66 (.val (z0a v27 (0+1))) [(0,0,false)],pk 67 (.val (n30 0)) [(0,0,false)],pk 68 (.rd z03 x32) [(1,0,false)],pd 69 (.rd z03 r35),⟨some (70,[], fun nv=>.rd (z02 z03) [r35]),[(2,0,true)],[1],[]⟩,⟨some (71,[2], fun nv=>.val (nv 2)),[(3,0,true)],[2],[]⟩,pk 72 (.val (z0a v27 (0+1))) [(0,0,false)],⟨none,[(0,0,true),(3,1,false)],[],[]⟩] z4j (oC (oRn (fun nv E=>faB 1150 Z Z Tryz.underlying49 Z (by exact zde)))<|oC (oRn (fun nv E=>ldV 1150 Z Z (At.cast (At.next z06 At.here) Z) sc47 Z))<|oC (oRn (fun nv E=>ld 1156 Z Z fH zcv Z))<|oC (oCl [] [] [] h37 Tryz.func78 Z (fun nv=>(zdk _)) (fun nv=>(Y1 Z)) (fun nv E=>rN))<|oC (oFz (A1:=fun nv=>[(1157,some ((nv 1),.list z03 86 [r35]))]) 1157 1 (oEf 1157 1 (fun nv E=>lit (R:=z03) ([r35]:List z04) 1157 (pP Z Z<|pN) Z tu47 z80 Z Z)))<|oC (oEf 1154 2 (fun nv E=>apn 1154 Z Z Z .rd h39 tu47 z80 Z Z Z))<|oC (oRn (fun nv E=>faB 1150 Z Z Tryz.underlying49 Z (by exact zde)))<|oC (oEs 1150 (fun nv E=>zzi 1150 Z Z (z7y.cast (z7y.next z06 (z7y.here z06)) Z) Z z1n z06 zde))<|oN) fun n40=>z44<|z0y<|z2o<|Zq (I.add Z Z)<|Zm Z<|z20<|z23 (fun aa ww h=>⟨nvl [(n40 2)],Zu h [2,3,1149,1154,1150,1001]⟩)
    ·
     refine z2i<|z1b<|z1a<|z4a (fun aa ww h=>⟨nvl [(n30 0)],Zu h [2,3,1149,1154,1150,1001]⟩)
   ·
    refine gEx fun n41=>zaj (fun (s42:(List V3) × (List z04)) aa ww=>Sta (ctx 100 H [zG1] w) [(4,.val (z0a v3 0)),(11,.val (z0a v27 0))] [(3,some (v3,.box 49 [.val (.slice none 0 0),.val (.slice none 0 0)])),(1150,some (v27,.box 49 [.rd (z02 aZ) s42.1,.rd (z02 z03) s42.2])),zG1] aa ww) ?_ (fun s42=>?_)
    ·
     refine gSR<|Zq (faB 2 Z Z Tryz.underlying49 Z (by exact zbt))<|Zq (ld 2 Z Z (fP (z0q _)) zcn Z)<|Zq (z3r Z .rd Z tu46)<|Zm Z<|Zn<|gPow [.rd (z02 aZ) r25,.val (n41 0)] 1150 1149 [] [.val (n41 0)] Z Z Z Z Z<|gPow [.rd (z02 aZ) r25,.rd (z02 z03) s28] 1150 1152 [.rd (z02 aZ) r25] [] Z Z Z Z Z<|z2h (fun (s43:(List V3) × (List z04) × Int) aa ww=>Sta (ctx 100 H [zG1] w) [(3,.val (z0a v2 0)),(4,.val (z0a v3 0)),(11,.val (z0a v27 0)),(75,.rd (z02 aZ) a1.IDs),(76,.rd z08 (a1.IDs.length:Int)),(77,.rd z08 s43.2.2)] [(2,some (v2,.box 49 [.rd z01 a1])),(3,some (v3,.box 49 [.val (.slice none 0 0),.val (.slice none 0 0)])),(1150,some (v27,.box 49 [.rd (z02 aZ) s43.1,.rd (z02 z03) s43.2.1])),zG1] aa ww) (fun aa ww h=>Zu h [2,3,1150,1001]) (fun s43=>?_)
     refine gSR<|Zq (I.lss Z Z)<|Zn<|z0v<|gIf Z Z (fun h44=>?_) (fun h44=>?_)
     ·
      refine Zt<|z0v<|z5y<|gSR<|Zm Z<|z11 fun x45 h46=>Zq (ixR Z Z h46 tu46 z7g Z)<|Zq (ldR Z zbe)<|Eb Z (z6m 1158 z7g (.zr (R:=aZ) (x:=(Vector.replicate 32 0)) zmx)) fun v47=>Za Z<|Es (sto 1158 Z Z fH Z z7g)<|Zn<|gJoi (R:=z01) (⟨s43.1,s43.2.1⟩:z00) 1150 Z (Sp.via (Sp.prod (Sp.prod Sp.unit)))<|z90 [1150] z4j Z Z<|hTk 1 Z Z (ld 1158 Z Z fH zbe Z)<|hTk 2 Z Z (faB 2 Z Z Tryz.underlying49 Z (by exact zde))<|hTk 3 Z Z (ld 2 Z Z (fP (z0m _)) zif Z)<|hTk 4 Z Z (mv Z)<|z7e fun x48 h49=>hTk 5 Z Z (ixR Z Z h49 tu47 z80 Z)<|hTk 6 Z Z (ldR Z zcv)<|hRun 0 Z (by kernel_rfl) (gd0 Z) Z Z anyJ (ld 1150 Z Z fH z7n Z)<|zzp 7 [] [] Z (by kernel_rfl) Z (gd0 Z) Z Tryz.func66 Z Z (zl3 _ _ _) (aQ Z<|aQ Z<|aQ Z<|aN) rN Z fun r50 n51=>zno 8 Z (by kernel_rfl) (by kernel_rfl) (by kernel_rfl) (gd0 Z) Z Z (mv Z)<|zno 9 Z (by kernel_rfl) (by kernel_rfl) (by kernel_rfl) (gd0 Z) Z Z (ext Z Z)<|Zf 10 Z Z z9t (ext Z Z)<|Zp 11 Z Z Z Z Z (sto 1150 Z Z fH Z z2x)<|z5r (by kernel_rfl)<|z44<|z0y<|z2o<|Zq (I.add Z Z)<|Zm Z<|z20<|eSpl (R:=z01) 1150 Z (Sp.via (Sp.prod (Sp.prod Sp.unit)))<|z23 (fun aa ww h=>Zu h [2,3,1150,1001])
     ·
      refine z2i<|z1b<|z1a<|z4a (fun aa ww h=>Zu h [3,1150,1001])
    ·
     refine z0v<|gSR<|Zq (faB 1150 Z Z Tryz.underlying49 Z (by exact zde))<|Zq (ld 1150 Z Z (Foc.cast (Foc.next z29 fH) Z) zif Z)<|Zq (z3r Z .rd Z tu47)<|Zq (I.gtr Z Z)<|Zj Z (fun h52=>?_) (fun h52=>?_)
     ·
      refine gSR<|Zq (zn6 [(0,1),(1,1)] Tryz.underlying49 z2x (ZrE.nilS (ZrE.nilS ZrE.nil)) Z (zdy.done Z))<|Es (zo4 3 Z Z (z09.cast (z09.cons z06 (z09.cons z06 z09.nil)) Z) Z (z2u.cons z1n (z2u.cons z1n z2u.nil)) (z09.cast (z09.cons z06 (z09.cons z06 z09.nil)) Z) z2x)<|Zb Z<|z0r<|z0s<|zkn aZ [.rd (z02 aZ) [],.val (.slice none 0 0)] 3 [] [.val (.slice none 0 0)] Z Z Z<|zkn z03 [.rd (z02 aZ) [],.rd (z02 z03) []] 3 [.rd (z02 aZ) []] [] Z Z Z<|zt6 (R:=z01) (⟨[],[]⟩:z00) 3 Z (Sp.via (Sp.prod (Sp.prod Sp.unit)))<|zbi [] [1001] Z (eC 3 Z Z z7n<|eE Z<|eN) (y1 Z)
     ·
      refine Zt<|gSR<|zbf (R:=z01) (⟨s42.1,s42.2⟩:z00) 1150 Z (Sp.via (Sp.prod (Sp.prod Sp.unit)))<|Zq (ld 1150 Z Z fH z7n Z)<|z8x aZ [.rd (z02 aZ) [],.val (.slice none 0 0)] 3 [] [.val (.slice none 0 0)] Z Z Z<|z8x z03 [.rd (z02 aZ) [],.rd (z02 z03) []] 3 [.rd (z02 aZ) []] [] Z Z Z<|zbf (R:=z01) (⟨[],[]⟩:z00) 3 Z (Sp.via (Sp.prod (Sp.prod Sp.unit)))<|Es (sto 3 Z Z fH Z z2x)<|Zb Z<|z0r<|zbi [] [1001] Z (eC 3 Z Z z7n<|eE Z<|eN) (y1 Z)
def ze3 (a0:List z04) (s4:Int):Option (Sum (Sum (z00 × Int) Unit) Int) :=
 if decide (s4<(a0.length:Int)) then
  idx a0 s4 >>= fun x6 =>
  ze8 x6 >>= fun r9 =>
  if r9 != 0 then
   some (.inl (.inl ((⟨[],[]⟩:z00),r9)))
  else
   some (.inr (w64 (s4+1)))
 else
  some (.inl (.inr ()))
def zed (a0:List z04) (s14:(List V3) × (List z04) × Int):Option (Sum (Sum (z00 × Int) ((List V3) × (List z04))) ((List V3) × (List z04) × Int)) :=
 if decide (s14.2.2<(a0.length:Int)) then
  idx a0 s14.2.2 >>= fun x16 =>
  zw2 x16 >>= fun r19 =>
  zd3 (⟨s14.1,s14.2.1⟩:z00) r19.1 x16 >>= fun r22 =>
  if !r22.2 then
   some (.inl (.inl ((⟨[],[]⟩:z00),14)))
  else
   some (.inr (r22.1.IDs,r22.1.Ops,w64 (s14.2.2+1)))
 else
  some (.inl (.inr (s14.1,s14.2.1)))
def znn (a0:List z04):Option (z00 × Int) :=
 if decide (60<(a0.length:Int)) then
  some ((⟨[],[]⟩:z00),4)
 else
  z36 (iter (ze3 a0) 0) fun s3 =>
  z36 (iter (zed a0) ([],[],0)) fun s13 =>
  ze4 (⟨s13.1,s13.2⟩:z00) >>= fun r26 =>
  if r26 != 0 then
   some ((⟨[],[]⟩:z00),r26)
  else
   some ((⟨s13.1,s13.2⟩:z00),0)
theorem zmq (a0:List z04):z2t Tryz.prog 43 [.rd (z02 z03) a0] [zG1] (znn a0) (fun r nv=>⟨[.rd z01 r.1,.rd z08 r.2],[(1001,some (.bool true,.glob 1 (z38 64 z10) z3v))]⟩):=by
 refine z3n 62 Tryz.func43 Z Z Z fun H w=>?_
 refine gSR<|Eb Z (z6m 1 z2x (ZrE.nilS (ZrE.nilS ZrE.nil))) fun v1=>Zb Z<|z0v<|gSR<|Zm Z<|Zq (z3r Z .rd Z tu47)<|Zq (I.gtr Z Z)<|Zj Z (fun h2=>?_) (fun h2=>?_)
 ·
  refine gSR<|Zq (zn6 [(0,1),(1,1)] Tryz.underlying49 z2x (ZrE.nilS (ZrE.nilS ZrE.nil)) Z (zdy.done Z))<|Es (zo4 1 Z Z (z09.cast (z09.cons z06 (z09.cons z06 z09.nil)) Z) Z (z2u.cons z1n (z2u.cons z1n z2u.nil)) (z09.cast (z09.cons z06 (z09.cons z06 z09.nil)) Z) z2x)<|Zb Z<|z0r<|z0s<|zkn aZ [.rd (z02 aZ) [],.val (.slice none 0 0)] 1 [] [.val (.slice none 0 0)] Z Z Z<|zkn z03 [.rd (z02 aZ) [],.rd (z02 z03) []] 1 [.rd (z02 aZ) []] [] Z Z Z<|zt6 (R:=z01) (⟨[],[]⟩:z00) 1 Z (Sp.via (Sp.prod (Sp.prod Sp.unit)))<|zbi [] [1001] Z (eC 1 Z Z z7n<|eE Z<|eN) (y1 Z)
 ·
  refine Zt<|z5m (fun (s3:Unit) aa ww=>Sta (ctx 62 H [zG1] w) [(0,.rd (z02 z03) a0),(2,.val (z0a v1 0))] [(1,some (v1,.box 49 [.val (.slice none 0 0),.val (.slice none 0 0)])),zG1] aa ww) ?_ (fun s3=>?_)
  ·
   refine gSR<|Zm Z<|Zq (z3r Z .rd Z tu47)<|Zm Z<|Zn<|z2h (fun (s4:Int) aa ww=>Sta (ctx 62 H [zG1] w) [(0,.rd (z02 z03) a0),(2,.val (z0a v1 0)),(19,.rd (z02 z03) a0),(20,.rd z08 (a0.length:Int)),(21,.rd z08 s4)] [(1,some (v1,.box 49 [.val (.slice none 0 0),.val (.slice none 0 0)])),zG1] aa ww) (fun aa ww h=>Zu h [1,1001]) (fun s4=>?_)
   refine gSR<|Zq (I.lss Z Z)<|Zn<|z0v<|gIf Z Z (fun h5=>?_) (fun h5=>?_)
   ·
    refine Zt<|z0v<|z5y<|gSR<|z11 fun x6 h7=>Zq (ixR Z Z h7 tu47 z80 Z)<|Zq (ldR Z zcv)<|Eb Z (z6m 1100 z80 (ZrE.rd (R:=z10) (x:=0) (Zr.num Z) (ZrE.nilS (ZrE.rd (R:=z2b) (x:=0) (Zr.num Z) (ZrE.rd (R:=z0k) (x:=(⟨0,[],(⟨0,0,0,[]⟩:z05)⟩:z0i)) zmr (ZrE.rd (R:=z0l) (x:=(⟨0,0⟩:z0b)) zmk ZrE.nil Z) Z) Z)) Z)) fun v8=>z8x aZ [.rd z10 0,.rd (z02 aZ) [],.rd z2b 0,.rd z0k (⟨0,[],(⟨0,0,0,[]⟩:z05)⟩:z0i),.rd z0l (⟨0,0⟩:z0b)] 1100 [.rd z10 0] [.rd z2b 0,.rd z0k (⟨0,[],(⟨0,0,0,[]⟩:z05)⟩:z0i),.rd z0l (⟨0,0⟩:z0b)] Z Z Z<|zbf (R:=z03) (⟨0,[],0,(⟨0,[],(⟨0,0,0,[]⟩:z05)⟩:z0i),(⟨0,0⟩:z0b)⟩:z04) 1100 Z (Sp.via (Sp.prod (Sp.prod (Sp.prod (Sp.prod (Sp.prod Sp.unit))))))<|Es (sto 1100 Z Z fH Z z80)<|Zn<|gSR<|Zq (ld 1100 Z Z fH zcv Z)<|Zc [1001] [] Tryz.func64 Z (zhj _) fun r9 n10=>Zb Z<|gSR<|Zm Z<|Zq (I.neq Z Z)<|Zj Z (fun h11=>?_) (fun h11=>?_)
    ·
     refine gSR<|Zq (zn6 [(0,1),(1,1)] Tryz.underlying49 z2x (ZrE.nilS (ZrE.nilS ZrE.nil)) Z (zdy.done Z))<|Zm Z<|Es (zo4 1 Z Z (z09.cast (z09.cons z06 (z09.cons z06 z09.nil)) Z) Z (z2u.cons z1n (z2u.cons z1n z2u.nil)) (z09.cast (z09.cons z06 (z09.cons z06 z09.nil)) Z) z2x)<|Zb Z<|z0r<|z42<|z0s<|z55<|z4q<|zkn aZ [.rd (z02 aZ) [],.val (.slice none 0 0)] 1 [] [.val (.slice none 0 0)] Z Z Z<|zkn z03 [.rd (z02 aZ) [],.rd (z02 z03) []] 1 [.rd (z02 aZ) []] [] Z Z Z<|zt6 (R:=z01) (⟨[],[]⟩:z00) 1 Z (Sp.via (Sp.prod (Sp.prod Sp.unit)))<|zbi [] [1001] Z (eC 1 Z Z z7n<|eE Z<|eN) (y1 Z)
    ·
     refine z41<|z44<|z0y<|z2o<|Zq (I.add Z Z)<|Zm Z<|z20<|z23 (fun aa ww h=>Zu h [1,1001])
   ·
    refine z2i<|z1b<|z1a<|z53 (fun aa ww h=>Zu h [1,1001])
  ·
   refine gSR<|Eb Z (z6m 1101 z2x (ZrE.nilS (ZrE.nilS ZrE.nil))) fun v12=>Zn<|z5m (fun (s13:(List V3) × (List z04)) aa ww=>Sta (ctx 62 H [zG1] w) [(2,.val (z0a v1 0)),(7,.val (z0a v12 0))] [(1,some (v1,.box 49 [.val (.slice none 0 0),.val (.slice none 0 0)])),(1101,some (v12,.box 49 [.rd (z02 aZ) s13.1,.rd (z02 z03) s13.2])),zG1] aa ww) ?_ (fun s13=>?_)
   ·
    refine gSR<|Zm Z<|Zq (z3r Z .rd Z tu47)<|Zm Z<|Zn<|gPnl aZ [.rd (z02 aZ) [],.val (.slice none 0 0)] 1101 [] [.val (.slice none 0 0)] Z Z Z<|gPnl z03 [.rd (z02 aZ) [],.rd (z02 z03) []] 1101 [.rd (z02 aZ) []] [] Z Z Z<|z2h (fun (s14:(List V3) × (List z04) × Int) aa ww=>Sta (ctx 62 H [zG1] w) [(2,.val (z0a v1 0)),(7,.val (z0a v12 0)),(32,.rd (z02 z03) a0),(33,.rd z08 (a0.length:Int)),(34,.rd z08 s14.2.2)] [(1,some (v1,.box 49 [.val (.slice none 0 0),.val (.slice none 0 0)])),(1101,some (v12,.box 49 [.rd (z02 aZ) s14.1,.rd (z02 z03) s14.2.1])),zG1] aa ww) (fun aa ww h=>Zu h [1,1101,1001]) (fun s14=>?_)
    refine gSR<|Zq (I.lss Z Z)<|Zn<|z0v<|gIf Z Z (fun h15=>?_) (fun h15=>?_)
    ·
     refine Zt<|z0v<|z5y<|gSR<|z11 fun x16 h17=>Zq (ixR Z Z h17 tu47 z80 Z)<|Zq (ldR Z zcv)<|Eb Z (z6m 1102 z80 (ZrE.rd (R:=z10) (x:=0) (Zr.num Z) (ZrE.nilS (ZrE.rd (R:=z2b) (x:=0) (Zr.num Z) (ZrE.rd (R:=z0k) (x:=(⟨0,[],(⟨0,0,0,[]⟩:z05)⟩:z0i)) zmr (ZrE.rd (R:=z0l) (x:=(⟨0,0⟩:z0b)) zmk ZrE.nil Z) Z) Z)) Z)) fun v18=>z8x aZ [.rd z10 0,.rd (z02 aZ) [],.rd z2b 0,.rd z0k (⟨0,[],(⟨0,0,0,[]⟩:z05)⟩:z0i),.rd z0l (⟨0,0⟩:z0b)] 1102 [.rd z10 0] [.rd z2b 0,.rd z0k (⟨0,[],(⟨0,0,0,[]⟩:z05)⟩:z0i),.rd z0l (⟨0,0⟩:z0b)] Z Z Z<|zbf (R:=z03) (⟨0,[],0,(⟨0,[],(⟨0,0,0,[]⟩:z05)⟩:z0i),(⟨0,0⟩:z0b)⟩:z04) 1102 Z (Sp.via (Sp.prod (Sp.prod (Sp.prod (Sp.prod (Sp.prod Sp.unit))))))<|Es (sto 1102 Z Z fH Z z80)<|Zn<|gSR<|Zq (ld 1102 Z Z fH zcv Z)<|Zc [1001] [] Tryz.func65 Z (zr0 _) fun r19 n20=>Zm Z<|Zq (ext Z Z)<|Zq (ext Z Z)<|Eb Z (z6m 1103 z7g (.zr (R:=aZ) (x:=(Vector.replicate 32 0)) zmx)) fun v21=>Es (sto 1103 Z Z fH Z z7g)<|Zb Z<|gSR<|zbf (R:=z01) (⟨s14.1,s14.2.1⟩:z00) 1101 Z (Sp.via (Sp.prod (Sp.prod Sp.unit)))<|Zq (ld 1101 Z Z fH z7n Z)<|Zq (ld 1103 Z Z fH zbe Z)<|Zq (ld 1102 Z Z fH zcv Z)<|Zc [] [] Tryz.func66 Z (zl3 _ _ _) fun r22 n23=>Zm Z<|Zq (ext Z Z)<|Zq (ext Z Z)<|Eb Z (z6m 1104 z2x (ZrE.nilS (ZrE.nilS ZrE.nil))) fun v24=>z8x aZ [.rd (z02 aZ) [],.val (.slice none 0 0)] 1104 [] [.val (.slice none 0 0)] Z Z Z<|z8x z03 [.rd (z02 aZ) [],.rd (z02 z03) []] 1104 [.rd (z02 aZ) []] [] Z Z Z<|zbf (R:=z01) (⟨[],[]⟩:z00) 1104 Z (Sp.via (Sp.prod (Sp.prod Sp.unit)))<|Es (sto 1104 Z Z fH Z z2x)<|Zb Z<|z0v<|gSR<|Zm Z<|Zq (zgz Z)<|Zj Z (fun h25=>?_) (fun h25=>?_)
     ·
      refine gSR<|Zq (zn6 [(0,1),(1,1)] Tryz.underlying49 z2x (ZrE.nilS (ZrE.nilS ZrE.nil)) Z (zdy.done Z))<|Es (zo4 1 Z Z (z09.cast (z09.cons z06 (z09.cons z06 z09.nil)) Z) Z (z2u.cons z1n (z2u.cons z1n z2u.nil)) (z09.cast (z09.cons z06 (z09.cons z06 z09.nil)) Z) z2x)<|Zb Z<|z0r<|z0s<|z42<|z0s<|z55<|z4q<|zkn aZ [.rd (z02 aZ) [],.val (.slice none 0 0)] 1 [] [.val (.slice none 0 0)] Z Z Z<|zkn z03 [.rd (z02 aZ) [],.rd (z02 z03) []] 1 [.rd (z02 aZ) []] [] Z Z Z<|zt6 (R:=z01) (⟨[],[]⟩:z00) 1 Z (Sp.via (Sp.prod (Sp.prod Sp.unit)))<|zbi [] [1001] Z (eC 1 Z Z z7n<|eE Z<|eN) (y1 Z)
     ·
      refine Zt<|z2o<|Zq (ld 1104 Z Z fH z7n Z)<|Es (sto 1101 Z Z fH Z z2x)<|z20<|z44<|z0y<|z2o<|Zq (I.add Z Z)<|Zm Z<|z20<|eSpl (R:=z01) 1101 Z (Sp.via (Sp.prod (Sp.prod Sp.unit)))<|z23 (fun aa ww h=>Zu h [1,1101,1001])
    ·
     refine z2i<|z1b<|z1a<|z53 (fun aa ww h=>Zu h [1,1101,1001])
   ·
    refine z0v<|gSR<|zbf (R:=z01) (⟨s13.1,s13.2⟩:z00) 1101 Z (Sp.via (Sp.prod (Sp.prod Sp.unit)))<|Zq (ld 1101 Z Z fH z7n Z)<|Zc [] [] Tryz.func67 Z (zhq _) fun r26 n27=>Zb Z<|gSR<|Zm Z<|Zq (I.neq Z Z)<|Zj Z (fun h28=>?_) (fun h28=>?_)
    ·
     refine gSR<|Zq (zn6 [(0,1),(1,1)] Tryz.underlying49 z2x (ZrE.nilS (ZrE.nilS ZrE.nil)) Z (zdy.done Z))<|Zm Z<|Es (zo4 1 Z Z (z09.cast (z09.cons z06 (z09.cons z06 z09.nil)) Z) Z (z2u.cons z1n (z2u.cons z1n z2u.nil)) (z09.cast (z09.cons z06 (z09.cons z06 z09.nil)) Z) z2x)<|Zb Z<|z0r<|z0s<|zkn aZ [.rd (z02 aZ) [],.val (.slice none 0 0)] 1 [] [.val (.slice none 0 0)] Z Z Z<|zkn z03 [.rd (z02 aZ) [],.rd (z02 z03) []] 1 [.rd (z02 aZ) []] [] Z Z Z<|zt6 (R:=z01) (⟨[],[]⟩:z00) 1 Z (Sp.via (Sp.prod (Sp.prod Sp.unit)))<|zbi [] [1001] Z (eC 1 Z Z z7n<|eE Z<|eN) (y1 Z)
    ·
     refine Zt<|gSR<|Zq (ld 1101 Z Z fH z7n Z)<|z8x aZ [.rd (z02 aZ) [],.val (.slice none 0 0)] 1 [] [.val (.slice none 0 0)] Z Z Z<|z8x z03 [.rd (z02 aZ) [],.rd (z02 z03) []] 1 [.rd (z02 aZ) []] [] Z Z Z<|zbf (R:=z01) (⟨[],[]⟩:z00) 1 Z (Sp.via (Sp.prod (Sp.prod Sp.unit)))<|Es (sto 1 Z Z fH Z z2x)<|Zb Z<|z0r<|zbi [] [1001] Z (eC 1 Z Z z7n<|eE Z<|eN) (y1 Z)
def zay (a0:z04):Option (z04) :=
 app 32 ([]:List V3) a0.Preds >>= fun x4 =>
 some (⟨a0.Author,x4,a0.Stamp,a0.Act,a0.Sig⟩:z04)
def z3c (a0:z00) (s9:(List z04) × Int):Option (Sum ((List z04)) ((List z04) × Int)) :=
 if decide (s9.2<(a0.Ops.length:Int)) then
  idx a0.Ops s9.2 >>= fun x12 =>
  zay x12 >>= fun r14 =>
  app 112 s9.1 [r14] >>= fun x17 =>
  some (w64 (s9.2+1)) >>= fun y20 =>
  some (.inr (x17,y20))
 else
  some (.inl s9.1)
def z8v (a0:z00):Option (z00) :=
 app 32 ([]:List V3) a0.IDs >>= fun x4 =>
 (iter (z3c a0) ([],0)) >>= fun s8 =>
 some (⟨x4,s8⟩:z00)
def z1w (a0:List V3) (a1:List V3) (s3:Int):Option (Sum (Sum Bool Unit) Int) :=
 if decide (s3<(a0.length:Int)) then
  idx a0 s3 >>= fun x5 =>
  idx a1 s3 >>= fun x7 =>
  if !decide (x5=x7) then
   some (.inl (.inl false))
  else
   some (.inr (w64 (s3+1)))
 else
  some (.inl (.inr ()))
def z2q (a0:List V3) (a1:List V3):Option (Bool) :=
 if (a0.length:Int) != (a1.length:Int) then
  some false
 else
  z36 (iter (z1w a0 a1) 0) fun s2 =>
  some true
theorem z9w (a0:List V3) (a1:List V3):z2t Tryz.prog 46 [.rd (z02 aZ) a0,.rd (z02 aZ) a1] [] (z2q a0 a1) (fun r nv=>⟨[.rd z0w r],[]⟩):=by
 refine z3n 26 Tryz.func46 Z Z Z fun H w=>?_
 refine gSR<|Zb Z<|z0v<|gSR<|Zm Z<|Zq (z3r Z .rd Z tu46)<|Zm Z<|Zq (z3r Z .rd Z tu46)<|Zq (I.neq Z Z)<|Zj Z (fun h1=>?_) (fun h1=>?_)
 ·
  refine gSR<|Zb Z<|z0r<|z0s<|Ze [] [] Z
 ·
  refine Zt<|z5m (fun (s2:Unit) aa ww=>Sta (ctx 26 H [] w) [] [] aa ww) ?_ (fun s2=>?_)
  ·
   refine gSR<|Zb Z<|z2h (fun (s3:Int) aa ww=>Sta (ctx 26 H [] w) [(0,.rd (z02 aZ) a0),(1,.rd (z02 aZ) a1),(5,.rd z08 s3)] [] aa ww) (fun aa ww h=>Zu h []) (fun s3=>?_)
   refine z0v<|gSR<|Zm Z<|Zm Z<|Zq (z3r Z .rd Z tu46)<|Zq (I.lss Z Z)<|Zj Z (fun h4=>?_) (fun h4=>?_)
   ·
    refine Zt<|z0v<|z5y<|z0v<|zhw z4j (by kernel_rfl)<|Rq Z (mv Z)<|Rq Z (mv Z)<|z76 fun x5 h6=>Rq Z (ixR Z Z h6 tu46 z7g Z)<|Rq Z (ldR Z zbe)<|Rq Z (mv Z)<|Rq Z (mv Z)<|z76 fun x7 h8=>Rq Z (ixR Z Z h8 tu46 z7g Z)<|Rq Z (ldR Z zbe)<|Rq Z (neA Z Z eq94 Z Z gq94)<|zt2<|z0y<|gIf Z Z (fun h9=>?_) (fun h9=>?_)
    ·
     refine gSR<|Zb Z<|z0r<|z42<|z0s<|z55<|z4q<|Ze [] [] Z
    ·
     refine z41<|z44<|z0y<|z2o<|Zm Z<|Zq (I.add Z Z)<|Za Z<|z20<|z23 (fun aa ww h=>Zu h [])
   ·
    refine z2i<|z1b<|z1a<|z53 (fun aa ww h=>Zu h [])
  ·
   refine gSR<|Zb Z<|z0r<|Ze [] [] Z
def z4m (a0:z04) (a1:z04):Option (Bool) :=
 if a0.Author==a1.Author then
  z2q a0.Preds a1.Preds >>= fun r4 =>
  if r4 then
   if a0.Stamp==a1.Stamp then
    if decide (a0.Act=a1.Act) then
     some (decide (a0.Sig=a1.Sig)) >>= fun y9 =>
     some y9
    else
     some false
   else
    some false
  else
   some false
 else
  some false
theorem zgk (a0:z04) (a1:z04):z2t Tryz.prog 47 [.rd z03 a0,.rd z03 a1] [] (z4m a0 a1) (fun r nv=>⟨[.rd z0w r],[]⟩):=by
 refine z3n 38 Tryz.func47 Z Z Z fun H w=>?_
 refine gSR<|Eb Z (bx 1 Z) fun v1=>Eb Z (bx 2 Z) fun v2=>Zb Z<|gSR<|Zq (faB 1 Z Z Tryz.underlying86 Z (by exact z87))<|Zq (ld 1 Z Z (fP (z2m _)) zbh Z)<|Zq (faB 2 Z Z Tryz.underlying86 Z (by exact z87))<|Zq (ld 2 Z Z (fP (z2m _)) zbh Z)<|Zq (W.eql Z Z)<|Zm Z<|z0x 10 Z (fun h3=>?_) (fun h3=>?_)
 ·
  refine lKn 9 Z h3<|z1g Zx Z Z (faB 1 Z Z Tryz.underlying86 Z (by exact zbt))<|z1g Zx Z Z (ld 1 Z Z (fP (z1h _)) zcn Z)<|z1g Zx Z Z (faB 2 Z Z Tryz.underlying86 Z (by exact zbt))<|z1g Zx Z Z (ld 2 Z Z (fP (z1h _)) zcn Z)<|ze9 [] [] Zx Z Tryz.func46 Z Z (z9w _ _) (Y2 Z Z) rN fun r4 n5=>Zq (pkT Z Z)<|Zm Z<|z0x 17 Z (fun h6=>?_) (fun h6=>?_)
  ·
   refine lKn 15 Z h6<|lKn 16 Z h6<|z1g Zx Z Z (faB 1 Z Z Tryz.underlying86 Z (by exact zlb))<|z1g Zx Z Z (ld 1 Z Z (fP (z2s _)) zry Z)<|z1g Zx Z Z (faB 2 Z Z Tryz.underlying86 Z (by exact zlb))<|z1g Zx Z Z (ld 2 Z Z (fP (z2s _)) zry Z)<|z1g Zx Z Z (U.eql Z Z)<|Zq (pkT Z Z)<|Zm Z<|z0x 24 Z (fun h7=>?_) (fun h7=>?_)
   ·
    refine lKn 22 Z h7<|lKn 23 Z h7<|z1g Zx Z Z (faB 1 Z Z Tryz.underlying86 Z (by exact zoq))<|z1g Zx Z Z (ld 1 Z Z (fP (z2k _)) ty82 Z)<|z1g Zx Z Z (faB 2 Z Z Tryz.underlying86 Z (by exact zoq))<|z1g Zx Z Z (ld 2 Z Z (fP (z2k _)) ty82 Z)<|z1g Zx Z Z (eqA Z Z eq82 Z Z gq82)<|Zq (pkT Z Z)<|Zm Z<|z0x 31 Z (fun h8=>?_) (fun h8=>?_)
    ·
     refine lKn 29 Z h8<|lKn 30 Z h8<|z1g Zx Z Z (faB 1 Z Z Tryz.underlying86 Z (by exact zk7))<|z1g Zx Z Z (ld 1 Z Z (fP (z2n _)) zyr Z)<|z1g Zx Z Z (faB 2 Z Z Tryz.underlying86 Z (by exact zk7))<|z1g Zx Z Z (ld 2 Z Z (fP (z2n _)) zyr Z)<|z1g Zx Z Z (eqA Z Z eq84 Z Z gq84)<|Zq (pkT Z Z)<|Za Z<|z40 4 Z fun y9=>Zn<|z0r<|Ze [] [] Z
    ·
     refine lKn 29 Z h8<|lKn 30 Z h8<|Zk Z<|Zk Z<|Zk Z<|Zk Z<|Zk Z<|Zq (pkF Z Z)<|Zb Z<|z0r<|Ze [] [] Z
   ·
    refine lKn 22 Z h7<|lKn 23 Z h7<|Zk Z<|Zk Z<|Zk Z<|Zk Z<|Zk Z<|Zq (pkF Z Z)<|Zm Z<|Zk Z<|Zk Z<|Zk Z<|Zk Z<|Zk Z<|Zq (pkF Z Z)<|Zb Z<|z0r<|Ze [] [] Z
  ·
   refine lKn 15 Z h6<|lKn 16 Z h6<|Zk Z<|Zk Z<|Zk Z<|Zk Z<|Zk Z<|Zq (pkF Z Z)<|Zm Z<|Zk Z<|Zk Z<|Zk Z<|Zk Z<|Zk Z<|Zq (pkF Z Z)<|Zm Z<|Zk Z<|Zk Z<|Zk Z<|Zk Z<|Zk Z<|Zq (pkF Z Z)<|Zb Z<|z0r<|Ze [] [] Z
 ·
  refine lKn 9 Z h3<|Zk Z<|Zk Z<|Zk Z<|Zk Z<|Zk Z<|Zq (pkF Z Z)<|Zm Z<|Zk Z<|Zk Z<|Zk Z<|Zk Z<|Zk Z<|Zq (pkF Z Z)<|Zm Z<|Zk Z<|Zk Z<|Zk Z<|Zk Z<|Zk Z<|Zq (pkF Z Z)<|Zm Z<|Zk Z<|Zk Z<|Zk Z<|Zk Z<|Zk Z<|Zq (pkF Z Z)<|Zb Z<|z0r<|Ze [] [] Z
def z6l (a0:z00) (a1:z00) (s8:Int):Option (Sum (Sum Bool Unit) Int) :=
 if decide (s8<(a0.Ops.length:Int)) then
  idx a0.Ops s8 >>= fun x10 =>
  idx a1.Ops s8 >>= fun x12 =>
  z4m x10 x12 >>= fun r14 =>
  if !r14 then
   some (.inl (.inl false))
  else
   some (.inr (w64 (s8+1)))
 else
  some (.inl (.inr ()))
def z8q (a0:z00) (a1:z00):Option (Bool) :=
 z2q a0.IDs a1.IDs >>= fun r3 =>
 if !r3 then
  some false
 else
  if (a0.Ops.length:Int) != (a1.Ops.length:Int) then
   some false
  else
   z36 (iter (z6l a0 a1) 0) fun s7 =>
   some true
theorem zgb (a0:z00) (a1:z00):z2t Tryz.prog 26 [.rd z01 a0,.rd z01 a1] [] (z8q a0 a1) (fun r nv=>⟨[.rd z0w r],[]⟩):=by
 refine z3n 40 Tryz.func26 Z Z Z fun H w=>?_
 refine gSR<|Eb Z (bx 1 Z) fun v1=>Eb Z (bx 2 Z) fun v2=>Zb Z<|z0v<|gSR<|Zq (faB 1 Z Z Tryz.underlying49 Z (by exact zbt))<|Zq (ld 1 Z Z (fP (z0q _)) zcn Z)<|Zq (faB 2 Z Z Tryz.underlying49 Z (by exact zbt))<|Zq (ld 2 Z Z (fP (z0q _)) zcn Z)<|Zc [] [] Tryz.func46 Z (z9w _ _) fun r3 n4=>Zq (zgz Z)<|Zm Z<|z0x 12 Z (fun h5=>?_) (fun h5=>?_)
 ·
  refine lKn 11 Z h5<|Zk Z<|Zk Z<|Zk Z<|Zk Z<|Zk Z<|Zk Z<|Zk Z<|Zq (pkT Z Z)<|Zn<|zfv Z<|gSR<|Zb Z<|z0r<|z0s<|Ze [] [] Z
 ·
  refine lKn 11 Z h5<|z1g Zx Z Z (faB 1 Z Z Tryz.underlying49 Z (by exact zde))<|z1g Zx Z Z (ld 1 Z Z (fP (z0m _)) zif Z)<|z1g Zx Z Z (z3r Z .rd Z tu47)<|z1g Zx Z Z (faB 2 Z Z Tryz.underlying49 Z (by exact zde))<|z1g Zx Z Z (ld 2 Z Z (fP (z0m _)) zif Z)<|z1g Zx Z Z (z3r Z .rd Z tu47)<|z1g Zx Z Z (I.neq Z Z)<|Zq (pkF Z Z)<|Zj Z (fun h6=>?_) (fun h6=>?_)
  ·
   refine gKn 19 Z h6<|gSR<|Zb Z<|z0r<|z0s<|Ze [] [] Z
  ·
   refine gKn 19 Z h6<|Zt<|z5m (fun (s7:Unit) aa ww=>Sta (ctx 40 H [] w) [] [] aa ww) ?_ (fun s7=>?_)
   ·
    refine gSR<|Zb Z<|z2h (fun (s8:Int) aa ww=>Sta (ctx 40 H [] w) [(2,.val (z0a v1 0)),(3,.val (z0a v2 0)),(5,.rd z08 s8)] [(1,some (v1,.box 49 [.rd z01 a0])),(2,some (v2,.box 49 [.rd z01 a1]))] aa ww) (fun aa ww h=>Zu h [1,2]) (fun s8=>?_)
    refine z0v<|gSR<|Zm Z<|Zq (faB 1 Z Z Tryz.underlying49 Z (by exact zde))<|Zq (ld 1 Z Z (fP (z0m _)) zif Z)<|Zq (z3r Z .rd Z tu47)<|Zq (I.lss Z Z)<|Zj Z (fun h9=>?_) (fun h9=>?_)
    ·
     refine Zt<|z0v<|z5y<|z0v<|z90 [] z4j Z Z<|hTk 0 Z Z (faB 1 Z Z Tryz.underlying49 Z (by exact zde))<|hTk 1 Z Z (ld 1 Z Z (fP (z0m _)) zif Z)<|hTk 2 Z Z (mv Z)<|z7e fun x10 h11=>hTk 3 Z Z (ixR Z Z h11 tu47 z80 Z)<|hTk 4 Z Z (ldR Z zcv)<|hTk 5 Z Z (faB 2 Z Z Tryz.underlying49 Z (by exact zde))<|hTk 6 Z Z (ld 2 Z Z (fP (z0m _)) zif Z)<|hTk 7 Z Z (mv Z)<|z7e fun x12 h13=>hTk 8 Z Z (ixR Z Z h13 tu47 z80 Z)<|hTk 9 Z Z (ldR Z zcv)<|z79 10 [] [] Z (by kernel_rfl) Z (gd0 Z) Z Tryz.func47 Z Z (zgk _ _) (Y2 Z Z) rN Z (fun _ _=>z9t) fun r14 n15=>hTk 11 Z Z (zgz Z)<|z5r (by kernel_rfl)<|z0y<|gIf Z Z (fun h16=>?_) (fun h16=>?_)
     ·
      refine gSR<|Zb Z<|z0r<|z42<|z0s<|z55<|z4q<|Ze [] [] Z
     ·
      refine z41<|z44<|z0y<|z2o<|Zm Z<|Zq (I.add Z Z)<|Za Z<|z20<|z23 (fun aa ww h=>Zu h [1,2])
    ·
     refine z2i<|z1b<|z1a<|z53 (fun aa ww h=>Zu h [])
   ·
    refine gSR<|Zb Z<|z0r<|Ze [] [] Z
end
section
open Go Go.RowKit
set_option maxRecDepth 100000
def zch (a0:UInt32):Option (Int) :=
 if decide (500000002≤(a0 - 1)) then
  some 2
 else
  some 0
theorem zgx (a0:UInt32):z2t Tryz.prog 80 [.rd z10 a0] [] (zch a0) (fun r nv=>⟨[.rd z08 r],[]⟩):=by
 refine z3n 6 Tryz.func80 Z Z Z fun H w=>?_
 refine gSR<|Zb Z<|z0v<|gSR<|Zm Z<|Zq (W.sub Z Z)<|Zq (W.geq Z Z)<|Zj Z (fun h1=>?_) (fun h1=>?_)
 ·
  refine gSR<|Zb Z<|z0r<|z0s<|Ze [] [] Z
 ·
  refine Zt<|gSR<|Zb Z<|z0r<|Ze [] [] Z
def zb4 (a0:UInt32):Option (UInt32 × Int) :=
 zch a0 >>= fun r1 =>
 if r1 != 0 then
  some (0,r1)
 else
  z97 a0.toUInt64 >>= fun r4 =>
  some (r4,0)
theorem zfc (a0:UInt32):z2t Tryz.prog 60 [.rd z10 a0] [] (zb4 a0) (fun r nv=>⟨[.rd z10 r.1,.rd z08 r.2],[]⟩):=by
 refine z3n 13 Tryz.func60 Z Z Z fun H w=>?_
 refine gSR<|Za Z<|Zb Z<|z0v<|gSR<|Zm Z<|Zc [] [] Tryz.func80 Z (zgx _) fun r1 n2=>Zb Z<|gSR<|Zm Z<|Zq (I.neq Z Z)<|Zj Z (fun h3=>?_) (fun h3=>?_)
 ·
  refine gSR<|Zm Z<|Za Z<|Zb Z<|z0r<|z0s<|Ze [] [] Z
 ·
  refine Zt<|gSR<|Zm Z<|Zq (W.toU Z tu78 tu56)<|Zc [] [] Tryz.func81 Z (zd1 _) fun r4 n5=>Za Z<|Zb Z<|z0r<|Ze [] [] Z
def zeu (a0:UInt32) (a1:List UInt8):Option (UInt32 × Int) :=
 zch a0 >>= fun r1 =>
 if r1 != 0 then
  some (0,r1)
 else
  zat 110 a1 [a0] >>= fun r5 =>
  if r5.2 != 0 then
   some (0,r5.2)
  else
   some (((r5.1 % 500000002).toUInt32)+1) >>= fun y8 =>
   some (y8,0)
theorem zma (a0:UInt32) (a1:List UInt8):z2t Tryz.prog 88 [.rd z10 a0,.rd (z02 u8R) a1] [zG1] (zeu a0 a1) (fun r nv=>⟨[.rd z10 r.1,.rd z08 r.2],[(1001,some (.bool true,.glob 1 (z38 64 z10) z3v))]⟩):=by
 refine z3n 28 Tryz.func88 Z Z Z fun H w=>?_
 refine gSR<|Za Z<|Zb Z<|z0v<|gSR<|Zm Z<|Zc [] [] Tryz.func80 Z (zgx _) fun r1 n2=>Zb Z<|gSR<|Zm Z<|Zq (I.neq Z Z)<|Zj Z (fun h3=>?_) (fun h3=>?_)
 ·
  refine gSR<|Zm Z<|Za Z<|Zb Z<|z0r<|z0s<|Ze [] [1001] Z
 ·
  refine Zt<|gSR<|Zm Z<|Zm Z<|Ef Z (lit (R:=z10) ([a0]:List UInt32) 1 (pP Z Z<|pN) Z tu188 z87 Z Z) fun v4=>z7h 1 [17] Z (fS Z<|fN)<|Zc [1001] [] Tryz.func117 Z (zhu _ _ _) fun r5 n6=>Zm Z<|Zq (ext Z Z)<|Zq (ext Z Z)<|Za Z<|Zb Z<|z0v<|gSR<|Zm Z<|Zq (I.neq Z Z)<|Zj Z (fun h7=>?_) (fun h7=>?_)
  ·
   refine gSR<|Zm Z<|Za Z<|Zb Z<|z0r<|z0s<|Ze [] [1001] Z
  ·
   refine Zt<|gSR<|Zm Z<|Zq (U.rem Z Z (by decide))<|Zq (U.toW Z tu56 tu78)<|Zq (W.add Z Z)<|Za Z<|z40 4 Z fun y8=>Zb Z<|z0r<|Ze [] [1001] Z
def zd9 (a0:UInt32) (a1:UInt32):Option (UInt32 × Int) :=
 if decide (500000003≤(max a0 a1)) then
  some (0,2)
 else
  z8p 500000003 [a0,a1] >>= fun r3 =>
  some (r3,0)
theorem zkc (a0:UInt32) (a1:UInt32):z2t Tryz.prog 90 [.rd z10 a0,.rd z10 a1] [] (zd9 a0 a1) (fun r nv=>⟨[.rd z10 r.1,.rd z08 r.2],[]⟩):=by
 refine z3n 14 Tryz.func90 Z Z Z fun H w=>?_
 refine gSR<|Za Z<|Zb Z<|z0v<|gSR<|Zm Z<|Zm Z<|Zq (W.max Z Z)<|Zq (W.geq Z Z)<|Zj Z (fun h1=>?_) (fun h1=>?_)
 ·
  refine gSR<|Za Z<|Zb Z<|z0r<|z0s<|Ze [] [] Z
 ·
  refine Zt<|gSR<|Zm Z<|Zm Z<|Ef Z (lit (R:=z10) ([a0,a1]:List UInt32) 1 (pP Z Z<|pP Z Z<|pN) Z tu188 z87 Z Z) fun v2=>z7h 1 [12] Z (fS Z<|fN)<|Zc [] [] Tryz.func118 Z (zbk _ _) fun r3 n4=>Za Z<|Zb Z<|z0r<|Ze [] [] Z
def zex (a0:UInt32) (a1:UInt32):Option (UInt32 × Int) :=
 if decide (500000003≤(max a0 a1)) then
  some (0,2)
 else
  some ((a0+a1) % 500000003) >>= fun y2 =>
  some (y2,0)
theorem zlh (a0:UInt32) (a1:UInt32):z2t Tryz.prog 91 [.rd z10 a0,.rd z10 a1] [] (zex a0 a1) (fun r nv=>⟨[.rd z10 r.1,.rd z08 r.2],[]⟩):=by
 refine z3n 14 Tryz.func91 Z Z Z fun H w=>?_
 refine gSR<|Za Z<|Zb Z<|z0v<|gSR<|Zm Z<|Zm Z<|Zq (W.max Z Z)<|Zq (W.geq Z Z)<|Zj Z (fun h1=>?_) (fun h1=>?_)
 ·
  refine gSR<|Za Z<|Zb Z<|z0r<|z0s<|Ze [] [] Z
 ·
  refine Zt<|gSR<|Zm Z<|Zm Z<|Zq (W.add Z Z)<|Zq (W.rem Z Z (by decide))<|Za Z<|z40 4 Z fun y2=>Zb Z<|z0r<|Ze [] [] Z
def zgd (a0:UInt32) (a1:List UInt8):Option (z0b × Int) :=
 zeu a0 a1 >>= fun r2 =>
 if r2.2 != 0 then
  some ((⟨0,0⟩:z0b),r2.2)
 else
  zb4 a0 >>= fun r5 =>
  z97 r2.1.toUInt64 >>= fun r7 =>
  z7p r7 r5.1 a1 >>= fun r9 =>
  zd9 r9.1 a0 >>= fun r11 =>
  zex r2.1 r11.1 >>= fun r13 =>
  some ((⟨r9.1,r13.1⟩:z0b),0)
theorem zn7 (a0:UInt32) (a1:List UInt8):z2t Tryz.prog 63 [.rd z10 a0,.rd (z02 u8R) a1] [zG1] (zgd a0 a1) (fun r nv=>⟨[.rd z0l r.1,.rd z08 r.2],[(1001,some (.bool true,.glob 1 (z38 64 z10) z3v))]⟩):=by
 refine z3n 55 Tryz.func63 Z Z Z fun H w=>?_
 refine gSR<|Eb Z (z6m 1 zk7 (.zr (R:=z0l) (x:=(⟨0,0⟩:z0b)) zmk)) fun v1=>Zb Z<|gSR<|Zm Z<|Zm Z<|Zc [1001] [] Tryz.func88 Z (zma _ _) fun r2 n3=>Zm Z<|Zq (ext Z Z)<|Zq (ext Z Z)<|Za Z<|Zb Z<|z0v<|gSR<|Zm Z<|Zq (I.neq Z Z)<|Zj Z (fun h4=>?_) (fun h4=>?_)
 ·
  refine gSR<|Zq (bld (x':=(⟨0,0⟩:z0b)) [(0,1),(1,1)] Tryz.underlying84 zk7 Z zmk Z (Bld.done Z))<|Zm Z<|Es (sto 1 Z Z fH Z zk7)<|Zb Z<|z0r<|z0s<|zbi [] [1001] Z (eC 1 Z Z zyr<|eE Z<|eN) (y1 Z)
 ·
  refine Zt<|gSR<|Zm Z<|Zc [] [] Tryz.func60 Z (zfc _) fun r5 n6=>Zm Z<|Zq (ext Z Z)<|Zq (ext Z Z)<|Za Z<|Zb Z<|gSR<|Zm Z<|Zq (W.toU Z tu78 tu56)<|Zc [] [] Tryz.func81 Z (zd1 _) fun r7 n8=>Zm Z<|Zm Z<|Zc [1001] [] Tryz.func89 Z (zce _ _ _) fun r9 n10=>Zm Z<|Zq (ext Z Z)<|Zq (ext Z Z)<|Za Z<|Zb Z<|gSR<|Zm Z<|Zm Z<|Zc [] [] Tryz.func90 Z (zkc _ _) fun r11 n12=>Zm Z<|Zq (ext Z Z)<|Zq (ext Z Z)<|Za Z<|Zb Z<|gSR<|Zm Z<|Zm Z<|Zc [] [] Tryz.func91 Z (zlh _ _) fun r13 n14=>Zm Z<|Zq (ext Z Z)<|Zq (ext Z Z)<|Za Z<|Zb Z<|gSR<|Zm Z<|Zm Z<|Zq (bld (x':=(⟨r9.1,r13.1⟩:z0b)) [(0,1),(1,1)] Tryz.underlying84 zk7 Z zmk Z (Bld.cons (z83 _) Z Z<|Bld.cons (z9u _) Z Z<|Bld.done Z))<|Es (sto 1 Z Z fH Z zk7)<|Zb Z<|z0r<|zbi [] [1001] Z (eC 1 Z Z zyr<|eE Z<|eN) (y1 Z)
def zh8 (a0:UInt32) (a1:z04):Option (z04 × Int) :=
 zb4 a0 >>= fun r3 =>
 if r3.2 != 0 then
  some ((⟨0,[],0,(⟨0,[],(⟨0,0,0,[]⟩:z05)⟩:z0i),(⟨0,0⟩:z0b)⟩:z04),r3.2)
 else
  z0j a1.Preds >>= fun r6 =>
  z9e (⟨({ a1 with Author:=r3.1 }).Author,r6,({ a1 with Author:=r3.1 }).Stamp,({ a1 with Author:=r3.1 }).Act,({ a1 with Author:=r3.1 }).Sig⟩:z04) >>= fun r8 =>
  if r8.2 != 0 then
   some ((⟨0,[],0,(⟨0,[],(⟨0,0,0,[]⟩:z05)⟩:z0i),(⟨0,0⟩:z0b)⟩:z04),r8.2)
  else
   zgd a0 r8.1 >>= fun r11 =>
   some ({ (⟨({ a1 with Author:=r3.1 }).Author,r6,({ a1 with Author:=r3.1 }).Stamp,({ a1 with Author:=r3.1 }).Act,({ a1 with Author:=r3.1 }).Sig⟩:z04) with Sig:=r11.1 },0)
theorem zld (a0:UInt32) (a1:z04):z2t Tryz.prog 42 [.rd z10 a0,.rd z03 a1] [zG1] (zh8 a0 a1) (fun r nv=>⟨[.rd z03 r.1,.rd z08 r.2],[(1001,some (.bool true,.glob 1 (z38 64 z10) z3v))]⟩):=by
 refine z3n 41 Tryz.func42 Z Z Z fun H w=>?_
 refine gSR<|Eb Z (bx 1 Z) fun v1=>Eb Z (z6m 2 z80 (ZrE.rd (R:=z10) (x:=0) (Zr.num Z) (ZrE.nilS (ZrE.rd (R:=z2b) (x:=0) (Zr.num Z) (ZrE.rd (R:=z0k) (x:=(⟨0,[],(⟨0,0,0,[]⟩:z05)⟩:z0i)) zmr (ZrE.rd (R:=z0l) (x:=(⟨0,0⟩:z0b)) zmk ZrE.nil Z) Z) Z)) Z)) fun v2=>Zb Z<|gSR<|Zm Z<|Zc [] [] Tryz.func60 Z (zfc _) fun r3 n4=>Zm Z<|Zq (ext Z Z)<|Zq (ext Z Z)<|Za Z<|Zb Z<|z0v<|gSR<|Zm Z<|Zq (I.neq Z Z)<|Zj Z (fun h5=>?_) (fun h5=>?_)
 ·
  refine gSR<|Zq (zn6 [(0,1),(1,1),(2,1),(3,6),(9,2)] Tryz.underlying86 z80 (ZrE.rd (R:=z10) (x:=0) (Zr.num Z) (ZrE.nilS (ZrE.rd (R:=z2b) (x:=0) (Zr.num Z) (ZrE.rd (R:=z0k) (x:=(⟨0,[],(⟨0,0,0,[]⟩:z05)⟩:z0i)) zmr (ZrE.rd (R:=z0l) (x:=(⟨0,0⟩:z0b)) zmk ZrE.nil Z) Z) Z)) Z) Z (zdy.done Z))<|Zm Z<|Es (zo4 2 Z Z (z09.cast (z09.cons z29 (z09.cons z06 (z09.cons z29 (z09.cons z29 (z09.cons z29 z09.nil))))) Z) Z (z2u.cons zc7 (z2u.cons z1n (z2u.cons zc7 (z2u.cons zc7 (z2u.cons zc7 z2u.nil))))) (z09.cast (z09.cons z29 (z09.cons z06 (z09.cons z29 (z09.cons z29 (z09.cons z29 z09.nil))))) Z) z80)<|Zb Z<|z0r<|z0s<|zkn aZ [.rd z10 0,.rd (z02 aZ) [],.rd z2b 0,.rd z0k (⟨0,[],(⟨0,0,0,[]⟩:z05)⟩:z0i),.rd z0l (⟨0,0⟩:z0b)] 2 [.rd z10 0] [.rd z2b 0,.rd z0k (⟨0,[],(⟨0,0,0,[]⟩:z05)⟩:z0i),.rd z0l (⟨0,0⟩:z0b)] Z Z Z<|zt6 (R:=z03) (⟨0,[],0,(⟨0,[],(⟨0,0,0,[]⟩:z05)⟩:z0i),(⟨0,0⟩:z0b)⟩:z04) 2 Z (Sp.via (Sp.prod (Sp.prod (Sp.prod (Sp.prod (Sp.prod Sp.unit))))))<|zbi [] [1001] Z (eC 2 Z Z zcv<|eE Z<|eN) (y1 Z)
 ·
  refine Zt<|gSR<|Zm Z<|Zq (faB 1 Z Z Tryz.underlying86 Z (by exact zbt))<|Zq (ld 1 Z Z (fP (z1h _)) zcn Z)<|Zc [] [(100,3)] Tryz.func61 Z (z17 _) fun r6 n7=>Zq (faB 1 Z Z Tryz.underlying86 Z (by exact z87))<|Es (sto 1 Z Z (fP (z2m _)) Z z87)<|Zq (faB 1 Z Z Tryz.underlying86 Z (by exact zbt))<|lSpl (R:=z03) 1 Z (Sp.via (Sp.prod (Sp.prod (Sp.prod (Sp.prod (Sp.prod Sp.unit))))))<|Es (zzi 1 Z Z (z7y.cast (z7y.next z29 (z7y.here z29)) Z) Z z1n z06 zbt)<|Zn<|gSR<|lPow [.rd z10 (({ a1 with Author:=r3.1 }).Author),.rd (z02 aZ) r6,.rd z2b (({ a1 with Author:=r3.1 }).Stamp),.rd z0k (({ a1 with Author:=r3.1 }).Act),.rd z0l (({ a1 with Author:=r3.1 }).Sig)] 1 3 [.rd z10 (({ a1 with Author:=r3.1 }).Author)] [.rd z2b (({ a1 with Author:=r3.1 }).Stamp),.rd z0k (({ a1 with Author:=r3.1 }).Act),.rd z0l (({ a1 with Author:=r3.1 }).Sig)] Z Z Z Z Z<|zbf (R:=z03) (⟨({ a1 with Author:=r3.1 }).Author,r6,({ a1 with Author:=r3.1 }).Stamp,({ a1 with Author:=r3.1 }).Act,({ a1 with Author:=r3.1 }).Sig⟩:z04) 1 Z (Sp.via (Sp.prod (Sp.prod (Sp.prod (Sp.prod (Sp.prod Sp.unit))))))<|Zq (ld 1 Z Z fH zcv Z)<|Zc [] [(100,4)] Tryz.func62 Z (zdp _) fun r8 n9=>Zm Z<|Zq (ext Z Z)<|Zq (ext Z Z)<|Za Z<|Zb Z<|z0v<|gSR<|Zm Z<|Zq (I.neq Z Z)<|Zj Z (fun h10=>?_) (fun h10=>?_)
  ·
   refine gSR<|Zq (zn6 [(0,1),(1,1),(2,1),(3,6),(9,2)] Tryz.underlying86 z80 (ZrE.rd (R:=z10) (x:=0) (Zr.num Z) (ZrE.nilS (ZrE.rd (R:=z2b) (x:=0) (Zr.num Z) (ZrE.rd (R:=z0k) (x:=(⟨0,[],(⟨0,0,0,[]⟩:z05)⟩:z0i)) zmr (ZrE.rd (R:=z0l) (x:=(⟨0,0⟩:z0b)) zmk ZrE.nil Z) Z) Z)) Z) Z (zdy.done Z))<|Zm Z<|Es (zo4 2 Z Z (z09.cast (z09.cons z29 (z09.cons z06 (z09.cons z29 (z09.cons z29 (z09.cons z29 z09.nil))))) Z) Z (z2u.cons zc7 (z2u.cons z1n (z2u.cons zc7 (z2u.cons zc7 (z2u.cons zc7 z2u.nil))))) (z09.cast (z09.cons z29 (z09.cons z06 (z09.cons z29 (z09.cons z29 (z09.cons z29 z09.nil))))) Z) z80)<|Zb Z<|z0r<|z0s<|zkn aZ [.rd z10 0,.rd (z02 aZ) [],.rd z2b 0,.rd z0k (⟨0,[],(⟨0,0,0,[]⟩:z05)⟩:z0i),.rd z0l (⟨0,0⟩:z0b)] 2 [.rd z10 0] [.rd z2b 0,.rd z0k (⟨0,[],(⟨0,0,0,[]⟩:z05)⟩:z0i),.rd z0l (⟨0,0⟩:z0b)] Z Z Z<|zt6 (R:=z03) (⟨0,[],0,(⟨0,[],(⟨0,0,0,[]⟩:z05)⟩:z0i),(⟨0,0⟩:z0b)⟩:z04) 2 Z (Sp.via (Sp.prod (Sp.prod (Sp.prod (Sp.prod (Sp.prod Sp.unit))))))<|zbi [] [1001] Z (eC 2 Z Z zcv<|eE Z<|eN) (y1 Z)
  ·
   refine Zt<|gSR<|Zm Z<|Zm Z<|z7h 4 [27,8,35] Z (fS Z<|fS Z<|fS Z<|fN)<|Zc [1001] [] Tryz.func63 Z (zn7 _ _) fun r11 n12=>Zm Z<|Zq (ext Z Z)<|Zq (ext Z Z)<|Zq (faB 1 Z Z Tryz.underlying86 Z (by exact zk7))<|Es (sto 1 Z Z (fP (z2n _)) Z zk7)<|Zn<|gSR<|Zq (ld 1 Z Z fH zcv Z)<|z8x aZ [.rd z10 0,.rd (z02 aZ) [],.rd z2b 0,.rd z0k (⟨0,[],(⟨0,0,0,[]⟩:z05)⟩:z0i),.rd z0l (⟨0,0⟩:z0b)] 2 [.rd z10 0] [.rd z2b 0,.rd z0k (⟨0,[],(⟨0,0,0,[]⟩:z05)⟩:z0i),.rd z0l (⟨0,0⟩:z0b)] Z Z Z<|zbf (R:=z03) (⟨0,[],0,(⟨0,[],(⟨0,0,0,[]⟩:z05)⟩:z0i),(⟨0,0⟩:z0b)⟩:z04) 2 Z (Sp.via (Sp.prod (Sp.prod (Sp.prod (Sp.prod (Sp.prod Sp.unit))))))<|Es (sto 2 Z Z fH Z z80)<|Zb Z<|z0r<|zbi [] [1001] Z (eC 2 Z Z zcv<|eE Z<|eN) (y1 Z)
end
section
open Go Go.RowKit
def zoi (v:Value) (n:Nat):Prop:=∃ b,v=.slice (some ⟨b,0,none⟩) n n
def z37.listF {α:Type} (R:Rep α) (T:TypeId) (l:List α):z37 where
 nil _ _ _:=False
 nilm _ h:=h
 nilb h:=h.elim
 rel S w v o:=zoi v l.length∧(z37.list R T l).rel S w v o
 mono k h:=⟨h.1,(z37.list R T l).mono k h.2⟩
theorem zl2 {α:Type} {R:Rep α} {T:TypeId} {l:List α} {S:Blk} {w:World} {v:Value} (h:(z37.listF R T l).holds S w v):zoi v l.length∧(z37.list R T l).holds S w v:=by
 rcases h with h | ⟨b,o,h1,h2,h3,h4⟩
 ·
  exact h.elim
 ·
  exact ⟨h3,.inr ⟨b,o,h1,h2,h4⟩⟩
theorem zl6 {α:Type} {R:Rep α} {T:TypeId} {l:List α} {S:Blk} {w:World} {v:Value} (hF:zoi v l.length) (h:(z37.list R T l).holds S w v):(z37.listF R T l).holds S w v:=by
 rcases h with ⟨h,-⟩ | ⟨b,o,h1,h2,h4⟩
 ·
  obtain ⟨b,e⟩:=hF; rw [h] at e; cases e
 ·
  exact .inr ⟨b,o,h1,h2,hF,h4⟩
section
variable {C:World→World→Prop} {ρ:Type} {P:Program} {Γ:Ctx} {l:z1c} {res:Res} {m:Option ρ} {os rest:List Oper} {N:ρ→Exit→Act→World→Prop}
 {d:Tmp} {ty:TypeId} {pos:String} {after:Array Edge} {g:Option (Nat × Bool)} {ro:Option Nat} {Q:ρ→Exit→Act→World→Prop} {c:Code} {e:Exit}
theorem xOpF {X:ρ→Act→World→Prop} {α:Type} {R:Rep α} {T:TypeId} {b:List α} {v:Value} (r:Nat) (hr:lr res r=some (v,.listF R T b)) (k:zoi v b.length→GX X (Sta Γ l ((r,some (v,.list R T b))::res)) m):GX X (Sta Γ l res) m:=fun a w ha =>
 k (zl2 (ha.conts _ _ _ hr)).1 a w (ha.recont r hr fun h=>(zl2 h).2)
theorem xShF {X:ρ→Act→World→Prop} {α:Type} {R:Rep α} {T:TypeId} {b:List α} {v:Value} (r:Nat) (hr:lr res r=some (v,.list R T b)) (hF:zoi v b.length) (k:GX X (Sta Γ l ((r,some (v,.listF R T b))::res)) m):GX X (Sta Γ l res) m:=fun a w ha =>
 k a w (ha.recont r hr fun h=>zl6 hF h)
theorem lOpF {α:Type} {R:Rep α} {T:TypeId} {b:List α} {v:Value} (r:Nat) (hr:lr res r=some (v,.listF R T b)) (k:zoi v b.length→GL P os (Sta Γ l ((r,some (v,.list R T b))::res)) rest N m):GL P os (Sta Γ l res) rest N m:=xOpF r hr k
theorem eShF {α:Type} {R:Rep α} {T:TypeId} {b:List α} {v:Value} (r:Nat) (hr:lr res r=some (v,.list R T b)) (hF:zoi v b.length) (k:GE (Sta Γ l ((r,some (v,.listF R T b))::res)) e Q m):GE (Sta Γ l res) e Q m:=xShF r hr hF k
theorem z15m {α:Type} {R:Rep α} (b:List α) {n:Nat} (xs:List Operand) {parts:Array (Nat × Operand)} {z:Value} {T e:TypeId} {by_:Nat} (r:Nat) (hp:parts=(xs.zipIdx.map fun x=>(x.2,x.1)).toArray) (hx:RdA l R xs b) (hl:b.length=n)
  (hT:P.underlying T=some (.slice e)) (hE:TI P e z R.sz by_) (h0:Nat.blt 0 R.sz=true) (hm:Nat.ble (n * R.sz) 16777216=true) :
  Eff P Γ l res ⟨some d,.buildSlice T n parts,ty,pos,after,g⟩ r (fun u=>(u,.listF R e b)):=fun a w ha=>by
 have h0:0<R.sz:=Eq.mp Nat.blt_eq h0
 have hm:n * R.sz≤16777216:=Nat.le_of_ble_eq_true hm
 subst hl
 obtain ⟨k1,k2,k3⟩:=RdA.get ha hx
 have hc:Instr.fill (fun i=>some (i * R.sz,R.sz)) (zee z (b.length * R.sz)) ((xs.map a.eval).zipIdx.map fun x=>(x.2,x.1))=some (z6p (xs.map a.eval)).toArray:=by
  have:=zi5 (xs.map a.eval) 0 (zee z (b.length * R.sz)) k3 (by simp [zee,k2])
  simpa using this
 have hev:(parts.map fun (i,x)=>(i,a.eval x)).toList=(xs.map a.eval).zipIdx.map fun x=>(x.2,x.1):=by
  subst hp
  simp [List.zipIdx_map]
 have hrun:=zl0 (P:=P) (w:=w) (m:=b.length) (vs:=parts.map fun (i,x)=>(i,a.eval x)) hT hE hm (by rw [hev]; exact hc)
 have hlen:=k1.len
 refine ⟨w.alloc (.cells (z6p (xs.map a.eval)).toArray e),.slice (some ⟨w.heap.size,0,none⟩) b.length b.length,?_,?_,rfl,_,zdq w _, by simp⟩
 ·
  simp only [execOp,Sem.run_bind,hrun,Result.andThen,Sem.run_pure]
 ·
  refine ha.upd r (c:=.listF R e b) (v:=.slice (some ⟨w.heap.size,0,none⟩) b.length b.length) (zdq w _) (by simp) (fun bb hbb=>.inr (by simp [z3f] at hbb; omega)) (fun S' k'=>?_)
  refine zl6 ⟨_,rfl⟩ (.inr ⟨w.heap.size,_,rfl,heap_alloc_new _ _,w.heap.size,b.length,_,rfl,rfl,Nat.le_refl _,?_, by simp [hlen],?_⟩)
  ·
   have:b.length≤b.length * R.sz:=Nat.le_mul_of_pos_right _ h0
   unfold maxLen; omega
  ·
   simp only []
   rw [← hlen,List.take_length]; exact k1.mono k'
theorem litF {α:Type} {R:Rep α} (b:List α) {n:Nat} {parts:List (Nat × Operand)} {z:Value} {T e:TypeId} {by_:Nat} (r:Nat) (hx:RdP l R 0 parts b) (hl:b.length=n)
  (hT:P.underlying T=some (.slice e)) (hE:TI P e z R.sz by_) (h0:Nat.blt 0 R.sz=true) (hm:Nat.ble (n * R.sz) 16777216=true) :
  Eff P Γ l res ⟨some d,.buildSlice T n parts.toArray,ty,pos,after,g⟩ r (fun u=>(u,.listF R e b)):=by
 obtain ⟨os,rfl,h2⟩:=hx.get
 exact z15m b os r rfl h2 hl hT hE h0 hm
theorem apF {α:Type} {R:Rep α} {b b2 b3:List α} {x y:Operand} {v z:Value} {E:Ent} {T e:TypeId} {by_:Nat} (r r2:Nat) (hx:opE l x=some (.val v)) (hr:lr res r=some (v,.list R e b)) (hF:zoi v b.length) (hy:opE l y=some E) (hv:Vw R res E b2) (hne:Nat.blt 0 b2.length=true) (hb:app by_ b b2=some b3)
  (hT:P.underlying T=some (.slice e)) (hE:TI P e z R.sz by_) (hz:z.cells.size=R.sz) (h0:Nat.blt 0 R.sz=true) (h1:Nat.blt 0 by_=true) :
  Eff P Γ l res ⟨some d,.call ⟨.builtin .append,#[x,y],#[T,T]⟩,ty,pos,after,g⟩ r2 (fun u=>(u,.list R e b3)):=fun a w ha=>by
 have h0:0<R.sz:=Eq.mp Nat.blt_eq h0
 have h1:0<by_:=Eq.mp Nat.blt_eq h1
 have hne:0<b2.length:=Eq.mp Nat.blt_eq hne
 obtain ⟨hby,rfl⟩:=zqu hb
 have e1:=(ha.vl hx).1
 obtain ⟨q,c2,news,e2,k1,k2⟩:=hv.get ha (ha.vl hy)
 obtain ⟨xs,k3,k4⟩:=z6e (ha.conts r v _ hr)
 obtain ⟨blk,rfl⟩:=hF
 have hlen:b.length+b2.length≤140737488355328:=Nat.le_trans (Nat.le_mul_of_pos_right _ h1) hby
 obtain ⟨ti,g1,g2,g3,g4⟩:=hE
 have k1l:=k1.1
 have hold:∀ j u,xs[j]? = some u→w.cell? ((⟨blk,0,none⟩:Addr).add j)=some u:=fun j u hu=>by
  rcases (Rd.of_own k3).2 with ⟨hv0,-⟩ | ⟨b',o,sp,cap,hv0,_,_,hsp,hcell⟩
  ·
   cases hv0
  ·
   simp only [Value.slice.injEq,true_and,Option.some.injEq,Addr.mk.injEq] at hv0
   obtain ⟨⟨rfl,rfl,rfl⟩,-⟩:=hv0
   rw [z4f]
   exact hcell j u hu
 rcases k1.2 with ⟨hq,-⟩ | ⟨b',o,sp,cap,hq,_,_,hsp,hcell⟩
 ·
  simp only [Value.slice.injEq] at hq
  omega
 ·
  simp only [Value.slice.injEq,true_and] at hq
  obtain ⟨rfl,rfl⟩:=hq
  have hnew:∀ j u,news[j]? = some u→w.cell? ((⟨b',o,sp⟩:Addr).add j)=some u:=fun j u hu=>by
   rcases hsp with rfl | rfl
   ·
    simp at hu
   ·
    rw [z4f]; exact hcell j u hu
  obtain ⟨v',w',r1,r3,r4⟩:=run_append_arg_grows (P:=P) w T ty e ti z R.sz by_ hT g1 g2 g3 g4 hz h0 ⟨blk,0,none⟩ b.length b.length xs k3.1 hold ⟨b',o,sp⟩ b2.length c2 news k1l hnew (by omega) (by unfold maxLen; omega) hby
  have hvb:v'.oneCell'=true∧∀ bb,z3f v'=some bb→w.heap.size≤bb:=by
   rcases r3.2 with ⟨rfl,-⟩ | ⟨gg,cp,cur,rfl,hge,-⟩
   ·
    exact ⟨rfl, fun bb h=>by simp [z3f] at h⟩
   ·
    exact ⟨rfl, fun bb h=>by simp only [z3f,Option.some.injEq] at h; omega⟩
  refine ⟨w',v',?_,?_,hvb.1,_,r4, by simp⟩
  ·
   simp [execOp,resolve,invoke,builtin,e1,e2,r1]
  ·
   refine ha.upd r2 r4 (by simp) (fun bb hbb=>.inr (hvb.2 bb hbb)) (fun S' k'=>?_)
   exact zfy (B:=w.heap.size) (xs:=xs++news) (by rw [List.length_append]; exact r3) ((k4.mono k').append (k2.mono k'))
end
end
end Go.Proofs.YthimiiphpckifaaGreatDoor
