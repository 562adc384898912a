import Derived.Test.YthgpinfkodaefaaGreatDoorVc
set_option linter.unusedSimpArgs false
set_option linter.unusedVariables false
namespace Go.Proofs.YthgpinfkodaefaaGreatDoor
section
open Go Go.RowKit
set_option maxRecDepth 100000
def zae (a0:z05):Option (z05) :=
 app 32 ([]:List V3) a0.Preds >>= fun x4 =>
 some (⟨a0.Author,x4,a0.Stamp,a0.Act,a0.Sig⟩:z05)
theorem zh0 (a0:z05):z1x Tryz.prog 46 [.rd z03 a0] [] (zae a0) (fun r nv=>⟨[.rd z03 r],[]⟩):=by
 refine z2n 9 Tryz.func46 Z Z Z fun H w=>?_
 refine gSR<|Eb Z (bx 1 Z) fun v1=>Eb Z (z83 2 zbm (ZrE.rd (R:=z0r) (x:=0) (Zr.num Z) (ZrE.nilS (ZrE.rd (R:=z34) (x:=0) (Zr.num Z) (ZrE.rd (R:=z16) (x:=(⟨0,[],(⟨0,0,0,[]⟩:z04)⟩:z0f)) zzp (ZrE.rd (R:=z1f) (x:=(⟨0,0⟩:z0a)) zz3 ZrE.nil Z) Z) Z)) Z)) fun v2=>Zn<|gSR<|Ef Z (lit (R:=aZ) (([]:List V3):List V3) 3 (pN) Z tu24 z2l Z Z) fun v3=>Zq (faB 1 Z Z Tryz.underlying72 Z (by exact z61))<|Zq (ld 1 Z Z (fP (z0w _)) z8s Z)<|z0o fun x4 h5=>Ef Z (apn 3 Z Z Z .rd h5 tu24 z2l Z Z Z) fun v6=>Zq (faB 1 Z Z Tryz.underlying72 Z (by exact z61))<|lSpl (R:=z03) 1 Z (Sp.via (Sp.prod (Sp.prod (Sp.prod (Sp.prod (Sp.prod Sp.unit))))))<|Es (zqd 1 Z Z (zah.cast (zah.next z6r (zah.here z6r)) Z) Z z20 z0b z61)<|Zn<|gSR<|zox [.rd z0r a0.Author,.rd (z02 aZ) x4,.rd z34 a0.Stamp,.rd z16 a0.Act,.rd z1f a0.Sig] 1 3 [.rd z0r a0.Author] [.rd z34 a0.Stamp,.rd z16 a0.Act,.rd z1f a0.Sig] Z Z Z Z Z<|zco (R:=z03) (⟨a0.Author,x4,a0.Stamp,a0.Act,a0.Sig⟩:z05) 1 Z (Sp.via (Sp.prod (Sp.prod (Sp.prod (Sp.prod (Sp.prod Sp.unit))))))<|Zq (ld 1 Z Z fH ze3 Z)<|zan aZ [.rd z0r 0,.rd (z02 aZ) [],.rd z34 0,.rd z16 (⟨0,[],(⟨0,0,0,[]⟩:z04)⟩:z0f),.rd z1f (⟨0,0⟩:z0a)] 2 [.rd z0r 0] [.rd z34 0,.rd z16 (⟨0,[],(⟨0,0,0,[]⟩:z04)⟩:z0f),.rd z1f (⟨0,0⟩:z0a)] Z Z Z<|zco (R:=z03) (⟨0,[],0,(⟨0,[],(⟨0,0,0,[]⟩:z04)⟩:z0f),(⟨0,0⟩:z0a)⟩:z05) 2 Z (Sp.via (Sp.prod (Sp.prod (Sp.prod (Sp.prod (Sp.prod Sp.unit))))))<|Es (sto 2 Z Z fH Z zbm)<|Zn<|z0i<|zcl [] [] Z (eC 2 Z Z ze3<|eN) (rN)
def z3p (a0:z00) (s9:(List z05) × Int):Option (Sum ((List z05)) ((List z05) × Int)) :=
 if decide (s9.2<(a0.Ops.length:Int)) then
  idx a0.Ops s9.2 >>= fun x12 =>
  zae x12 >>= fun r14 =>
  app 112 s9.1 [r14] >>= fun x17 =>
  some (w64 (s9.2+1)) >>= fun y20 =>
  some (.inr (x17,y20))
 else
  some (.inl s9.1)
def z3o (a0:z00):Option (z00) :=
 app 32 ([]:List V3) a0.IDs >>= fun x4 =>
 (iter (z3p a0) ([],0)) >>= fun s8 =>
 some (⟨x4,s8⟩:z00)
set_option maxHeartbeats 4000000 in
theorem zad (a0:z00):z1x Tryz.prog 10 [.rd z01 a0] [] (z3o a0) (fun r nv=>⟨[.rd z01 r],[]⟩):=by
 refine z2n 29 Tryz.func10 Z Z Z fun H w=>?_
 refine gSR<|Eb Z (bx 1 Z) fun v1=>Eb Z (z83 2 z4u (ZrE.nilS (ZrE.nilS ZrE.nil))) fun v2=>Zn<|gSR<|Ef Z (lit (R:=aZ) (([]:List V3):List V3) 3 (pN) Z tu24 z2l Z Z) fun v3=>Zq (faB 1 Z Z Tryz.underlying27 Z (by exact z61))<|Zq (ld 1 Z Z (fP (z08 _)) z8s Z)<|z0o fun x4 h5=>Ef Z (apn 3 Z Z Z .rd h5 tu24 z2l Z Z Z) fun v6=>Zq (zwj [(0,1),(1,1)] Tryz.underlying27 z4u (ZrE.nilS (ZrE.nilS ZrE.nil)) Z (zkg.cons Z Z z0b (zah.cast (zah.here z0b) Z)<|zkg.done Z))<|Eb Z (z83 4 z4u (ZrE.nilS (ZrE.nilS ZrE.nil))) fun v7=>Es (zwr 4 Z Z (z0s.cast (z0s.cons z0b (z0s.cons z0b z0s.nil)) Z) Z (z7x.cons z20 (z7x.cons z20 z7x.nil)) (z0s.cast (z0s.cons z0b (z0s.cons z0b z0s.nil)) Z) z4u)<|Zn<|z7y (fun (s8:(List z05)) aa ww=>∃ nv:Nat→Value,Sta (ctx 29 H [] w) [(2,.val (z07 v2 0)),(3,.val (z07 v7 0))] [(2,some (v2,.box 27 [.val (.slice none 0 0),.val (.slice none 0 0)])),(3,some (v6,.list aZ 78 x4)),(5,some ((nv 0),.list z03 72 s8)),(4,some (v7,.box 27 [.val v6,.val (nv 0)]))] aa ww) ?_ (fun s8=>?_)
 ·
  refine gSR<|Zb Z<|zms z03 72 7<|z1i (fun (s9:(List z05) × Int) aa ww=>∃ nv:Nat→Value,Sta (ctx 29 H [] w) [(1,.val (z07 v1 0)),(2,.val (z07 v2 0)),(3,.val (z07 v7 0)),(4,.rd z09 s9.2)] [(1,some (v1,.box 27 [.rd z01 a0])),(2,some (v2,.box 27 [.val (.slice none 0 0),.val (.slice none 0 0)])),(3,some (v6,.list aZ 78 x4)),(6,some ((nv 0),.list z03 72 s9.1)),(4,some (v7,.box 27 [.val v6,.val (nv 0)]))] aa ww) (fun aa ww h=>⟨nvl [(.slice none 0 0)],Zu h [1,2,3,7,4]⟩) (fun s9=>?_)
  refine gEx fun n10=>z0k<|gSR<|Zm Z<|Zq (faB 1 Z Z Tryz.underlying27 Z (by exact zal))<|Zq (ld 1 Z Z (fP (z06 _)) zct Z)<|Zq (z3c Z .rd Z tu25)<|Zq (I.lss Z Z)<|Zj Z (fun h11=>?_) (fun h11=>?_)
  ·
   refine Zt<|z0k<|z4j<|zwt [(1,.val (z07 v1 0)),(2,.val (z07 v2 0)),(3,.val (z07 v7 0)),(4,.rd z09 s9.2)] [(1,some (v1,.box 27 [.rd z01 a0])),(2,some (v2,.box 27 [.val (.slice none 0 0),.val (.slice none 0 0)])),(3,some (v6,.list aZ 78 x4)),(6,some ((n10 0),.list z03 72 s9.1)),(4,some (v7,.box 27 [.val v6,.val (n10 0)]))] [1,2,3,6,4] (Zs Z Z Z Z<|sN) (Zi Z<|Zi Z<|Zi Z<|Zi Z<|Zi Z<|rN)<|z8e fun x12 h13=>z8e fun r14 h16=>z8e fun x17 h18=>gOr [] [⟨4,some ([], fun nv=>(v7,.box 27 [.val v6,.val (n10 0)])),[(11,some ([2], fun nv=>(v7,.box 27 [.val v6,.val (nv 2)])))]⟩,⟨1,some ([], fun nv=>(v1,.box 27 [.rd z01 a0])),[]⟩,⟨8,none,[(8,none)]⟩,⟨6,some ([], fun nv=>((n10 0),.list z03 72 s9.1)),[(9,some ([2], fun nv=>((nv 2),.list z03 72 x17)))]⟩] [pk 17 (.val (z07 v7 (0+1))) [(0,0,false)],pk 18 (.val (n10 0)) [(0,0,false)],pk 19 (.val (z07 v1 (0+1))) [(1,0,false)],pk 20 (.rd (z02 z03) a0.Ops) [(1,0,false)],pd 21 (.rd z09 s9.2),pd 22 (.rp z03 x12),pd 23 (.rd z03 x12),pd 24 (.rd z03 r14),⟨some (25,[], fun nv=>.rd (z02 z03) [r14]),[(2,0,true)],[1],[]⟩,⟨some (26,[2], fun nv=>.val (nv 2)),[(3,0,true)],[2],[]⟩,pk 27 (.val (z07 v7 (0+1))) [(0,0,false)],⟨none,[(3,1,false),(0,0,true)],[],[]⟩] mixed (oC (oRn (fun nv E=>faB 4 Z Z Tryz.underlying27 Z (by exact zal)))<|oC (oRn (fun nv E=>ldV 4 Z Z (At.cast (At.next z0b At.here) Z) sc25 Z))<|oC (oRn (fun nv E=>faB 1 Z Z Tryz.underlying27 Z (by exact zal)))<|oC (oRn (fun nv E=>ld 1 Z Z (fP (z06 _)) zct Z))<|oC (oRn (fun nv E=>mv Z))<|oC (oRn (fun nv E=>ixR Z Z h13 tu25 zbm Z))<|oC (oRn (fun nv E=>ldR Z ze3))<|oC (oCl [] [] [] h16 Tryz.func46 Z (fun nv=>(zh0 _)) (fun nv=>(Y1 Z)) (fun nv E=>rN))<|oC (oFz (A1:=fun nv=>[(8,some ((nv 1),.list z03 72 [r14]))]) 8 1 (oEf 8 1 (fun nv E=>lit (R:=z03) ([r14]:List z05) 8 (pP Z Z<|pN) Z tu25 zbm Z Z)))<|oC (oEf 6 2 (fun nv E=>apn 6 Z Z Z .rd h18 tu25 zbm Z Z Z))<|oC (oRn (fun nv E=>faB 4 Z Z Tryz.underlying27 Z (by exact zal)))<|oC (oEs 4 (fun nv E=>zqd 4 Z Z (zah.cast (zah.next z0b (zah.here z0b)) Z) Z z20 z0b zal))<|oN) fun n19=>z2t<|z0e<|z21<|Zm Z<|Zq (I.add Z Z)<|Za Z<|z1h 4 Z fun y20=>z1q<|z14 (fun aa ww h=>⟨nvl [(n19 2)],Zu h [1,2,3,6,4]⟩)
  ·
   refine z1c<|z0m<|z0l<|z41 (fun aa ww h=>⟨nvl [(n10 0)],Zu h [2,3,6,4]⟩)
 ·
  refine gEx fun n21=>gSR<|zox [.rd (z02 aZ) x4,.val (n21 0)] 4 3 [] [.val (n21 0)] Z Z Z Z Z<|zox [.rd (z02 aZ) x4,.rd (z02 z03) s8] 4 5 [.rd (z02 aZ) x4] [] Z Z Z Z Z<|zco (R:=z01) (⟨x4,s8⟩:z00) 4 Z (Sp.via (Sp.prod (Sp.prod Sp.unit)))<|Zq (ld 4 Z Z fH zbn Z)<|zan aZ [.rd (z02 aZ) [],.val (.slice none 0 0)] 2 [] [.val (.slice none 0 0)] Z Z Z<|zan z03 [.rd (z02 aZ) [],.rd (z02 z03) []] 2 [.rd (z02 aZ) []] [] Z Z Z<|zco (R:=z01) (⟨[],[]⟩:z00) 2 Z (Sp.via (Sp.prod (Sp.prod Sp.unit)))<|Es (sto 2 Z Z fH Z z4u)<|Zn<|z0i<|zcl [] [] Z (eC 2 Z Z zbn<|eN) (rN)
def z1t (a0:List V3) (a1:List V3) (s3:Int):Option (Sum (Sum Bool Unit) Int) :=
 if decide (s3<(a0.length:Int)) then
  idx a0 s3 >>= fun x5 =>
  idx a1 s3 >>= fun x7 =>
  if !decide (x5=x7) then
   some (.inl (.inl false))
  else
   some (.inr (w64 (s3+1)))
 else
  some (.inl (.inr ()))
def z2o (a0:List V3) (a1:List V3):Option (Bool) :=
 if (a0.length:Int) != (a1.length:Int) then
  some false
 else
  z4v (iter (z1t a0 a1) 0) fun s2 =>
  some true
theorem z69 (a0:List V3) (a1:List V3):z1x Tryz.prog 48 [.rd (z02 aZ) a0,.rd (z02 aZ) a1] [] (z2o a0 a1) (fun r nv=>⟨[.rd z0j r],[]⟩):=by
 refine z2n 26 Tryz.func48 Z Z Z fun H w=>?_
 refine gSR<|Zb Z<|z0k<|gSR<|Zm Z<|Zq (z3c Z .rd Z tu24)<|Zm Z<|Zq (z3c Z .rd Z tu24)<|Zq (I.neq Z Z)<|Zj Z (fun h1=>?_) (fun h1=>?_)
 ·
  refine gSR<|Zb Z<|z0i<|z0t<|Ze [] [] Z
 ·
  refine Zt<|z6v (fun (s2:Unit) aa ww=>Sta (ctx 26 H [] w) [] [] aa ww) ?_ (fun s2=>?_)
  ·
   refine gSR<|Zb Z<|z1i (fun (s3:Int) aa ww=>Sta (ctx 26 H [] w) [(0,.rd (z02 aZ) a0),(1,.rd (z02 aZ) a1),(5,.rd z09 s3)] [] aa ww) (fun aa ww h=>Zu h []) (fun s3=>?_)
   refine z0k<|gSR<|Zm Z<|Zm Z<|Zq (z3c Z .rd Z tu24)<|Zq (I.lss Z Z)<|Zj Z (fun h4=>?_) (fun h4=>?_)
   ·
    refine Zt<|z0k<|z4j<|z0k<|zfk mixed (by kernel_rfl)<|Rq Z (mv Z)<|Rq Z (mv Z)<|z7g fun x5 h6=>Rq Z (ixR Z Z h6 tu24 z2l Z)<|Rq Z (ldR Z z6c)<|Rq Z (mv Z)<|Rq Z (mv Z)<|z7g fun x7 h8=>Rq Z (ixR Z Z h8 tu24 z2l Z)<|Rq Z (ldR Z z6c)<|Rq Z (neA Z Z zwi Z Z zwm)<|zon<|z0e<|gIf Z Z (fun h9=>?_) (fun h9=>?_)
    ·
     refine gSR<|Zb Z<|z0i<|z3y<|z0t<|z6i<|z5t<|Ze [] [] Z
    ·
     refine z2a<|z2t<|z0e<|z21<|Zm Z<|Zq (I.add Z Z)<|Za Z<|z1q<|z14 (fun aa ww h=>Zu h [])
   ·
    refine z1c<|z0m<|z0l<|z5w (fun aa ww h=>Zu h [])
  ·
   refine gSR<|Zb Z<|z0i<|Ze [] [] Z
def z5d (a0:z05) (a1:z05):Option (Bool) :=
 if a0.Author==a1.Author then
  z2o a0.Preds a1.Preds >>= fun r4 =>
  if r4 then
   if a0.Stamp==a1.Stamp then
    if decide (a0.Act=a1.Act) then
     some (decide (a0.Sig=a1.Sig)) >>= fun y9 =>
     some y9
    else
     some false
   else
    some false
  else
   some false
 else
  some false
theorem zci (a0:z05) (a1:z05):z1x Tryz.prog 59 [.rd z03 a0,.rd z03 a1] [] (z5d a0 a1) (fun r nv=>⟨[.rd z0j r],[]⟩):=by
 refine z2n 38 Tryz.func59 Z Z Z fun H w=>?_
 refine gSR<|Eb Z (bx 1 Z) fun v1=>Eb Z (bx 2 Z) fun v2=>Zb Z<|gSR<|Zq (faB 1 Z Z Tryz.underlying72 Z (by exact z5o))<|Zq (ld 1 Z Z (fP (z2w _)) z82 Z)<|Zq (faB 2 Z Z Tryz.underlying72 Z (by exact z5o))<|Zq (ld 2 Z Z (fP (z2w _)) z82 Z)<|Zq (W.eql Z Z)<|Zm Z<|z1u 10 Z (fun h3=>?_) (fun h3=>?_)
 ·
  refine lKn 9 Z h3<|z1d Zx Z Z (faB 1 Z Z Tryz.underlying72 Z (by exact z61))<|z1d Zx Z Z (ld 1 Z Z (fP (z0w _)) z8s Z)<|z1d Zx Z Z (faB 2 Z Z Tryz.underlying72 Z (by exact z61))<|z1d Zx Z Z (ld 2 Z Z (fP (z0w _)) z8s Z)<|zeg [] [] Zx Z Tryz.func48 Z Z (z69 _ _) (Y2 Z Z) rN fun r4 n5=>Zq (pkT Z Z)<|Zm Z<|z1u 17 Z (fun h6=>?_) (fun h6=>?_)
  ·
   refine lKn 15 Z h6<|lKn 16 Z h6<|z1d Zx Z Z (faB 1 Z Z Tryz.underlying72 Z (by exact zp4))<|z1d Zx Z Z (ld 1 Z Z (fP (z4i _)) zoo Z)<|z1d Zx Z Z (faB 2 Z Z Tryz.underlying72 Z (by exact zp4))<|z1d Zx Z Z (ld 2 Z Z (fP (z4i _)) zoo Z)<|z1d Zx Z Z (U.eql Z Z)<|Zq (pkT Z Z)<|Zm Z<|z1u 24 Z (fun h7=>?_) (fun h7=>?_)
   ·
    refine lKn 22 Z h7<|lKn 23 Z h7<|z1d Zx Z Z (faB 1 Z Z Tryz.underlying72 Z (by exact zl4))<|z1d Zx Z Z (ld 1 Z Z (fP (z1l _)) ty64 Z)<|z1d Zx Z Z (faB 2 Z Z Tryz.underlying72 Z (by exact zl4))<|z1d Zx Z Z (ld 2 Z Z (fP (z1l _)) ty64 Z)<|z1d Zx Z Z (eqA Z Z eq64 Z Z gq64)<|Zq (pkT Z Z)<|Zm Z<|z1u 31 Z (fun h8=>?_) (fun h8=>?_)
    ·
     refine lKn 29 Z h8<|lKn 30 Z h8<|z1d Zx Z Z (faB 1 Z Z Tryz.underlying72 Z (by exact zmo))<|z1d Zx Z Z (ld 1 Z Z (fP (z2c _)) ty70 Z)<|z1d Zx Z Z (faB 2 Z Z Tryz.underlying72 Z (by exact zmo))<|z1d Zx Z Z (ld 2 Z Z (fP (z2c _)) ty70 Z)<|z1d Zx Z Z (eqA Z Z eq70 Z Z gq70)<|Zq (pkT Z Z)<|Za Z<|z1h 4 Z fun y9=>Zn<|z0i<|Ze [] [] Z
    ·
     refine lKn 29 Z h8<|lKn 30 Z h8<|Zk Z<|Zk Z<|Zk Z<|Zk Z<|Zk Z<|Zq (pkF Z Z)<|Zb Z<|z0i<|Ze [] [] Z
   ·
    refine lKn 22 Z h7<|lKn 23 Z h7<|Zk Z<|Zk Z<|Zk Z<|Zk Z<|Zk Z<|Zq (pkF Z Z)<|Zm Z<|Zk Z<|Zk Z<|Zk Z<|Zk Z<|Zk Z<|Zq (pkF Z Z)<|Zb Z<|z0i<|Ze [] [] Z
  ·
   refine lKn 15 Z h6<|lKn 16 Z h6<|Zk Z<|Zk Z<|Zk Z<|Zk Z<|Zk Z<|Zq (pkF Z Z)<|Zm Z<|Zk Z<|Zk Z<|Zk Z<|Zk Z<|Zk Z<|Zq (pkF Z Z)<|Zm Z<|Zk Z<|Zk Z<|Zk Z<|Zk Z<|Zk Z<|Zq (pkF Z Z)<|Zb Z<|z0i<|Ze [] [] Z
 ·
  refine lKn 9 Z h3<|Zk Z<|Zk Z<|Zk Z<|Zk Z<|Zk Z<|Zq (pkF Z Z)<|Zm Z<|Zk Z<|Zk Z<|Zk Z<|Zk Z<|Zk Z<|Zq (pkF Z Z)<|Zm Z<|Zk Z<|Zk Z<|Zk Z<|Zk Z<|Zk Z<|Zq (pkF Z Z)<|Zm Z<|Zk Z<|Zk Z<|Zk Z<|Zk Z<|Zk Z<|Zq (pkF Z Z)<|Zb Z<|z0i<|Ze [] [] Z
def z80 (a0:z00) (a1:z00) (s8:Int):Option (Sum (Sum Bool Unit) Int) :=
 if decide (s8<(a0.Ops.length:Int)) then
  idx a0.Ops s8 >>= fun x10 =>
  idx a1.Ops s8 >>= fun x12 =>
  z5d x10 x12 >>= fun r14 =>
  if !r14 then
   some (.inl (.inl false))
  else
   some (.inr (w64 (s8+1)))
 else
  some (.inl (.inr ()))
def z78 (a0:z00) (a1:z00):Option (Bool) :=
 z2o a0.IDs a1.IDs >>= fun r3 =>
 if !r3 then
  some false
 else
  if (a0.Ops.length:Int) != (a1.Ops.length:Int) then
   some false
  else
   z4v (iter (z80 a0 a1) 0) fun s7 =>
   some true
theorem zag (a0:z00) (a1:z00):z1x Tryz.prog 19 [.rd z01 a0,.rd z01 a1] [] (z78 a0 a1) (fun r nv=>⟨[.rd z0j r],[]⟩):=by
 refine z2n 40 Tryz.func19 Z Z Z fun H w=>?_
 refine gSR<|Eb Z (bx 1 Z) fun v1=>Eb Z (bx 2 Z) fun v2=>Zb Z<|z0k<|gSR<|Zq (faB 1 Z Z Tryz.underlying27 Z (by exact z61))<|Zq (ld 1 Z Z (fP (z08 _)) z8s Z)<|Zq (faB 2 Z Z Tryz.underlying27 Z (by exact z61))<|Zq (ld 2 Z Z (fP (z08 _)) z8s Z)<|Zc [] [] Tryz.func48 Z (z69 _ _) fun r3 n4=>Zq (ze5 Z)<|Zm Z<|z1u 12 Z (fun h5=>?_) (fun h5=>?_)
 ·
  refine lKn 11 Z h5<|Zk Z<|Zk Z<|Zk Z<|Zk Z<|Zk Z<|Zk Z<|Zk Z<|Zq (pkT Z Z)<|Zn<|zez Z<|gSR<|Zb Z<|z0i<|z0t<|Ze [] [] Z
 ·
  refine lKn 11 Z h5<|z1d Zx Z Z (faB 1 Z Z Tryz.underlying27 Z (by exact zal))<|z1d Zx Z Z (ld 1 Z Z (fP (z06 _)) zct Z)<|z1d Zx Z Z (z3c Z .rd Z tu25)<|z1d Zx Z Z (faB 2 Z Z Tryz.underlying27 Z (by exact zal))<|z1d Zx Z Z (ld 2 Z Z (fP (z06 _)) zct Z)<|z1d Zx Z Z (z3c Z .rd Z tu25)<|z1d Zx Z Z (I.neq Z Z)<|Zq (pkF Z Z)<|Zj Z (fun h6=>?_) (fun h6=>?_)
  ·
   refine gKn 19 Z h6<|gSR<|Zb Z<|z0i<|z0t<|Ze [] [] Z
  ·
   refine gKn 19 Z h6<|Zt<|z6v (fun (s7:Unit) aa ww=>Sta (ctx 40 H [] w) [] [] aa ww) ?_ (fun s7=>?_)
   ·
    refine gSR<|Zb Z<|z1i (fun (s8:Int) aa ww=>Sta (ctx 40 H [] w) [(2,.val (z07 v1 0)),(3,.val (z07 v2 0)),(5,.rd z09 s8)] [(1,some (v1,.box 27 [.rd z01 a0])),(2,some (v2,.box 27 [.rd z01 a1]))] aa ww) (fun aa ww h=>Zu h [1,2]) (fun s8=>?_)
    refine z0k<|gSR<|Zm Z<|Zq (faB 1 Z Z Tryz.underlying27 Z (by exact zal))<|Zq (ld 1 Z Z (fP (z06 _)) zct Z)<|Zq (z3c Z .rd Z tu25)<|Zq (I.lss Z Z)<|Zj Z (fun h9=>?_) (fun h9=>?_)
    ·
     refine Zt<|z0k<|z4j<|z0k<|z5p [] mixed Z Z<|hTk 0 Z Z (faB 1 Z Z Tryz.underlying27 Z (by exact zal))<|hTk 1 Z Z (ld 1 Z Z (fP (z06 _)) zct Z)<|hTk 2 Z Z (mv Z)<|z2f fun x10 h11=>hTk 3 Z Z (ixR Z Z h11 tu25 zbm Z)<|hTk 4 Z Z (ldR Z ze3)<|hTk 5 Z Z (faB 2 Z Z Tryz.underlying27 Z (by exact zal))<|hTk 6 Z Z (ld 2 Z Z (fP (z06 _)) zct Z)<|hTk 7 Z Z (mv Z)<|z2f fun x12 h13=>hTk 8 Z Z (ixR Z Z h13 tu25 zbm Z)<|hTk 9 Z Z (ldR Z ze3)<|z33 10 [] [] Z (by kernel_rfl) Z (gd0 Z) Z Tryz.func59 Z Z (zci _ _) (Y2 Z Z) rN Z (fun _ _=>z7t) fun r14 n15=>hTk 11 Z Z (ze5 Z)<|z3h (by kernel_rfl)<|z0e<|gIf Z Z (fun h16=>?_) (fun h16=>?_)
     ·
      refine gSR<|Zb Z<|z0i<|z3y<|z0t<|z6i<|z5t<|Ze [] [] Z
     ·
      refine z2a<|z2t<|z0e<|z21<|Zm Z<|Zq (I.add Z Z)<|Za Z<|z1q<|z14 (fun aa ww h=>Zu h [1,2])
    ·
     refine z1c<|z0m<|z0l<|z5w (fun aa ww h=>Zu h [])
   ·
    refine gSR<|Zb Z<|z0i<|Ze [] [] Z
def z60 (a0:z05):Option (Bool) :=
 if decide (20<(a0.Preds.length:Int)) then
  some true
 else
  if decide (100<(a0.Act.Key.length:Int)) then
   some true
  else
   some (decide (100<(a0.Act.Value.Text.length:Int))) >>= fun y4 =>
   some y4
theorem zg0 (a0:z05):z1x Tryz.prog 32 [.rd z03 a0] [] (z60 a0) (fun r nv=>⟨[.rd z0j r],[]⟩):=by
 refine z2n 22 Tryz.func32 Z Z Z fun H w=>?_
 refine gSR<|Eb Z (bx 1 Z) fun v1=>Zb Z<|gSR<|Zq (faB 1 Z Z Tryz.underlying72 Z (by exact z61))<|Zq (ld 1 Z Z (fP (z0w _)) z8s Z)<|Zq (z3c Z .rd Z tu24)<|Zq (I.gtr Z Z)<|Zm Z<|z1u 7 Z (fun h2=>?_) (fun h2=>?_)
 ·
  refine lKn 6 Z h2<|Zk Z<|Zk Z<|Zk Z<|Zk Z<|Zk Z<|Zq (pkT Z Z)<|Zm Z<|Zk Z<|Zk Z<|Zk Z<|Zk Z<|Zk Z<|Zk Z<|Zq (pkT Z Z)<|Zb Z<|z0i<|Ze [] [] Z
 ·
  refine lKn 6 Z h2<|z1d Zx Z Z (faB 1 Z Z Tryz.underlying72 Z (by exact zl4))<|z1d Zx Z Z (faB 1 Z Z Tryz.underlying64 Z (by exact ti9))<|z1d Zx Z Z (ld 1 Z Z ((fP (z1l _)).part (z52 _)) ty9 Z)<|z1d Zx Z Z (zwl Z Z tu9)<|z1d Zx Z Z (I.gtr Z Z)<|Zq (pkF Z Z)<|Zm Z<|z1u 14 Z (fun h3=>?_) (fun h3=>?_)
  ·
   refine lKn 12 Z h3<|lKn 13 Z h3<|Zk Z<|Zk Z<|Zk Z<|Zk Z<|Zk Z<|Zk Z<|Zq (pkT Z Z)<|Zb Z<|z0i<|Ze [] [] Z
  ·
   refine lKn 12 Z h3<|lKn 13 Z h3<|z1d Zx Z Z (faB 1 Z Z Tryz.underlying72 Z (by exact zl4))<|z1d Zx Z Z (faB 1 Z Z Tryz.underlying64 Z (by exact zhy))<|z1d Zx Z Z (faB 1 Z Z Tryz.underlying54 Z (by exact ti9))<|z1d Zx Z Z (ld 1 Z Z (((fP (z1l _)).part (z4m _)).part (z30 _)) ty9 Z)<|z1d Zx Z Z (zwl Z Z tu9)<|z1d Zx Z Z (I.gtr Z Z)<|Zq (pkF Z Z)<|Za Z<|z1h 2 Z fun y4=>Zn<|z0i<|Ze [] [] Z
def z47 (a0:z00) (s3:Int):Option (Sum (Sum Bool Unit) Int) :=
 if decide (s3<(a0.Ops.length:Int)) then
  if decide (s3≤70) then
   idx a0.Ops s3 >>= fun x6 =>
   z60 x6 >>= fun r8 =>
   if r8 then
    some (.inl (.inl true))
   else
    some (.inr (w64 (s3+1)))
  else
   some (.inl (.inr ()))
 else
  some (.inl (.inr ()))
def z9d (a0:z00):Option (Bool) :=
 z4v (iter (z47 a0) 0) fun s2 =>
 if decide (16<(a0.Ops.length:Int)) then
  if decide ((a0.Ops.length:Int)≤60) then
   some true
  else
   if decide (70<(a0.Ops.length:Int)) then
    some true
   else
    some (decide (70<(a0.IDs.length:Int))) >>= fun y14 =>
    some y14
 else
  if decide (70<(a0.Ops.length:Int)) then
   some true
  else
   some (decide (70<(a0.IDs.length:Int))) >>= fun y16 =>
   some y16
theorem zg6 (a0:z00):z1x Tryz.prog 45 [.rd z01 a0] [] (z9d a0) (fun r nv=>⟨[.rd z0j r],[]⟩):=by
 refine z2n 43 Tryz.func45 Z Z Z fun H w=>?_
 refine gSR<|Eb Z (bx 1 Z) fun v1=>Zb Z<|z6v (fun (s2:Unit) aa ww=>Sta (ctx 43 H [] w) [(1,.val (z07 v1 0))] [(1,some (v1,.box 27 [.rd z01 a0]))] aa ww) ?_ (fun s2=>?_)
 ·
  refine gSR<|Zb Z<|z1i (fun (s3:Int) aa ww=>Sta (ctx 43 H [] w) [(1,.val (z07 v1 0)),(3,.rd z09 s3)] [(1,some (v1,.box 27 [.rd z01 a0]))] aa ww) (fun aa ww h=>Zu h [1]) (fun s3=>?_)
  refine z0k<|gSR<|Zm Z<|Zq (faB 1 Z Z Tryz.underlying27 Z (by exact zal))<|Zq (ld 1 Z Z (fP (z06 _)) zct Z)<|Zq (z3c Z .rd Z tu25)<|Zq (I.lss Z Z)<|Zm Z<|z1u 9 Z (fun h4=>?_) (fun h4=>?_)
  ·
   refine lKn 8 Z h4<|z1d Zx Z Z (mv Z)<|z1d Zx Z Z (I.leq Z Z)<|Zq (pkT Z Z)<|Zj Z (fun h5=>?_) (fun h5=>?_)
   ·
    refine gKn 11 Z h5<|Zt<|z0k<|z4j<|gSR<|Zq (faB 1 Z Z Tryz.underlying27 Z (by exact zal))<|Zq (ld 1 Z Z (fP (z06 _)) zct Z)<|Zm Z<|z0o fun x6 h7=>Zq (ixR Z Z h7 tu25 zbm Z)<|Zq (ldR Z ze3)<|Zc [] [] Tryz.func32 Z (zg0 _) fun r8 n9=>Zj Z (fun h10=>?_) (fun h10=>?_)
    ·
     refine gSR<|Zb Z<|z0i<|z3y<|z0t<|z6i<|z5t<|Ze [] [] Z
    ·
     refine z2a<|z2t<|z0e<|z21<|Zm Z<|Zq (I.add Z Z)<|Za Z<|z1q<|z14 (fun aa ww h=>Zu h [1])
   ·
    refine gKn 11 Z h5<|z1c<|z0m<|z0l<|z5w (fun aa ww h=>Zu h [1])
  ·
   refine lKn 8 Z h4<|Zk Z<|Zk Z<|Zq (pkF Z Z)<|Zn<|zbc Z<|z1c<|z0m<|z0l<|z5w (fun aa ww h=>Zu h [1])
 ·
  refine gSR<|Zq (faB 1 Z Z Tryz.underlying27 Z (by exact zal))<|Zq (ld 1 Z Z (fP (z06 _)) zct Z)<|Zq (z3c Z .rd Z tu25)<|Zq (I.gtr Z Z)<|Zm Z<|z1u 25 Z (fun h11=>?_) (fun h11=>?_)
  ·
   refine lKn 24 Z h11<|z1d Zx Z Z (faB 1 Z Z Tryz.underlying27 Z (by exact zal))<|z1d Zx Z Z (ld 1 Z Z (fP (z06 _)) zct Z)<|z1d Zx Z Z (z3c Z .rd Z tu25)<|z1d Zx Z Z (I.leq Z Z)<|Zq (pkT Z Z)<|Zm Z<|z1u 31 Z (fun h12=>?_) (fun h12=>?_)
   ·
    refine lKn 29 Z h12<|lKn 30 Z h12<|Zk Z<|Zk Z<|Zk Z<|Zk Z<|Zq (pkT Z Z)<|Zm Z<|Zk Z<|Zk Z<|Zk Z<|Zk Z<|Zq (pkT Z Z)<|Zb Z<|z0i<|Ze [] [] Z
   ·
    refine lKn 29 Z h12<|lKn 30 Z h12<|z1d Zx Z Z (faB 1 Z Z Tryz.underlying27 Z (by exact zal))<|z1d Zx Z Z (ld 1 Z Z (fP (z06 _)) zct Z)<|z1d Zx Z Z (z3c Z .rd Z tu25)<|z1d Zx Z Z (I.gtr Z Z)<|Zq (pkF Z Z)<|Zm Z<|z1u 37 Z (fun h13=>?_) (fun h13=>?_)
    ·
     refine lKn 35 Z h13<|lKn 36 Z h13<|Zk Z<|Zk Z<|Zk Z<|Zk Z<|Zq (pkT Z Z)<|Zb Z<|z0i<|Ze [] [] Z
    ·
     refine lKn 35 Z h13<|lKn 36 Z h13<|z1d Zx Z Z (faB 1 Z Z Tryz.underlying27 Z (by exact z61))<|z1d Zx Z Z (ld 1 Z Z (fP (z08 _)) z8s Z)<|z1d Zx Z Z (z3c Z .rd Z tu24)<|z1d Zx Z Z (I.gtr Z Z)<|Zq (pkF Z Z)<|Za Z<|z1h 2 Z fun y14=>Zn<|z0i<|Ze [] [] Z
  ·
   refine lKn 24 Z h11<|Zk Z<|Zk Z<|Zk Z<|Zk Z<|Zq (pkF Z Z)<|Zm Z<|z1d Zx Z Z (faB 1 Z Z Tryz.underlying27 Z (by exact zal))<|z1d Zx Z Z (ld 1 Z Z (fP (z06 _)) zct Z)<|z1d Zx Z Z (z3c Z .rd Z tu25)<|z1d Zx Z Z (I.gtr Z Z)<|Zq (pkF Z Z)<|Zm Z<|z1u 37 Z (fun h15=>?_) (fun h15=>?_)
   ·
    refine lKn 35 Z h15<|lKn 36 Z h15<|Zk Z<|Zk Z<|Zk Z<|Zk Z<|Zq (pkT Z Z)<|Zb Z<|z0i<|Ze [] [] Z
   ·
    refine lKn 35 Z h15<|lKn 36 Z h15<|z1d Zx Z Z (faB 1 Z Z Tryz.underlying27 Z (by exact z61))<|z1d Zx Z Z (ld 1 Z Z (fP (z08 _)) z8s Z)<|z1d Zx Z Z (z3c Z .rd Z tu24)<|z1d Zx Z Z (I.gtr Z Z)<|Zq (pkF Z Z)<|Za Z<|z1h 2 Z fun y16=>Zn<|z0i<|Ze [] [] Z
def z8f (a0:z00) (a1:V3) (s7:Int):Option (Sum Int Int) :=
 if decide (s7<(a0.IDs.length:Int)) then
  idx a0.IDs s7 >>= fun x9 =>
  z6j x9 a1 >>= fun r11 =>
  if decide (r11<0) then
   some (.inr (w64 (s7+1)))
  else
   some (.inl s7)
 else
  some (.inl s7)
def z95 (a0:z00) (a1:V3) (a2:z05):Option (z00) :=
 (iter (z8f a0 a1) 0) >>= fun s6 =>
 cut a0.IDs 0 s6 >>= fun x14 =>
 app 32 ([]:List V3) x14 >>= fun x16 =>
 app 32 x16 [a1] >>= fun x18 =>
 cut a0.IDs s6 (a0.IDs.length:Int) >>= fun x20 =>
 app 32 x18 x20 >>= fun x22 =>
 cut a0.Ops 0 s6 >>= fun x25 =>
 app 112 ([]:List z05) x25 >>= fun x27 =>
 app 112 x27 [a2] >>= fun x29 =>
 cut a0.Ops s6 (a0.Ops.length:Int) >>= fun x31 =>
 app 112 x29 x31 >>= fun x33 =>
 z3o (⟨x22,x33⟩:z00) >>= fun r36 =>
 some r36
set_option maxHeartbeats 4000000 in
theorem zhm (a0:z00) (a1:V3) (a2:z05):z1x Tryz.prog 90 [.rd z01 a0,.rd aZ a1,.rd z03 a2] [] (z95 a0 a1 a2) (fun r nv=>⟨[.rd z01 r],[]⟩):=by
 refine z2n 59 Tryz.func90 Z Z Z fun H w=>?_
 refine gSR<|Eb Z (bx 1 Z) fun v1=>Eb Z (bx 2 Z) fun v2=>Eb Z (bx 3 Z) fun v3=>Eb Z (z83 4 z4u (ZrE.nilS (ZrE.nilS ZrE.nil))) fun v4=>Zn<|gSR<|Zq (zwj [(0,1),(1,1)] Tryz.underlying27 z4u (ZrE.nilS (ZrE.nilS ZrE.nil)) Z (zkg.done Z))<|Eb Z (z83 5 z4u (ZrE.nilS (ZrE.nilS ZrE.nil))) fun v5=>Es (zwr 5 Z Z (z0s.cast (z0s.cons z0b (z0s.cons z0b z0s.nil)) Z) Z (z7x.cons z20 (z7x.cons z20 z7x.nil)) (z0s.cast (z0s.cons z0b (z0s.cons z0b z0s.nil)) Z) z4u)<|Zn<|gSR<|Zb Z<|z7y (fun (s6:Int) aa ww=>Sta (ctx 59 H [] w) [(3,.val (z07 v1 0)),(4,.val (z07 v2 0)),(5,.val (z07 v3 0)),(6,.val (z07 v4 0)),(7,.val (z07 v5 0)),(8,.rd z09 s6)] [(1,some (v1,.box 27 [.rd z01 a0])),(2,some (v2,.box 78 [.rd aZ a1])),(3,some (v3,.box 72 [.rd z03 a2])),(4,some (v4,.box 27 [.val (.slice none 0 0),.val (.slice none 0 0)])),(5,some (v5,.box 27 [.val (.slice none 0 0),.val (.slice none 0 0)]))] aa ww) ?_ (fun s6=>?_)
 ·
  refine z1i (fun (s7:Int) aa ww=>Sta (ctx 59 H [] w) [(3,.val (z07 v1 0)),(4,.val (z07 v2 0)),(5,.val (z07 v3 0)),(6,.val (z07 v4 0)),(7,.val (z07 v5 0)),(8,.rd z09 s7)] [(1,some (v1,.box 27 [.rd z01 a0])),(2,some (v2,.box 78 [.rd aZ a1])),(3,some (v3,.box 72 [.rd z03 a2])),(4,some (v4,.box 27 [.val (.slice none 0 0),.val (.slice none 0 0)])),(5,some (v5,.box 27 [.val (.slice none 0 0),.val (.slice none 0 0)]))] aa ww) (fun aa ww h=>Zu h [1,2,3,4,5]) (fun s7=>?_)
  refine z0k<|z0k<|z5p [] mixed Z Z<|hTk 0 Z Z (mv Z)<|hTk 1 Z Z (faB 1 Z Z Tryz.underlying27 Z (by exact z61))<|hTk 2 Z Z (ld 1 Z Z (fP (z08 _)) z8s Z)<|hTk 3 Z Z (z3c Z .rd Z tu24)<|hTk 4 Z Z (I.lss Z Z)<|hTk 5 Z Z (mv Z)<|hIf 15 Z Z (fun h8=>?_) (fun h8=>?_)
  ·
   refine hKn 14 Z Z h8<|Zg 6 Z Z (faB 1 Z Z Tryz.underlying27 Z (by exact z61))<|Zg 7 Z Z (ld 1 Z Z (fP (z08 _)) z8s Z)<|Zg 8 Z Z (mv Z)<|z2f fun x9 h10=>Zg 9 Z Z (ixR Z Z h10 tu24 z2l Z)<|Zg 10 Z Z (ldR Z z6c)<|Zg 11 Z Z (ld 2 Z Z fH z6c Z)<|z33 12 [] [] Z (by kernel_rfl) Z Zx Z Tryz.func85 Z Z (zap _ _) (Y2 Z Z) rN Z (fun _ _=>z1m) fun r11 n12=>Zg 13 Z Z (I.lss Z Z)<|hTk 14 Z Z (pkT Z Z)<|z3h (by kernel_rfl)<|z0e<|gIf Z Z (fun h13=>?_) (fun h13=>?_)
   ·
    refine gKn 23 Z h13<|Zt<|z4j<|z21<|Zm Z<|Zq (I.add Z Z)<|Za Z<|z1q<|z2t<|z14 (fun aa ww h=>Zu h [1,2,3,4,5])
   ·
    refine gKn 23 Z h13<|z1c<|z0m<|z0l<|z41 (fun aa ww h=>Zu h [1,2,3,4,5])
  ·
   refine hKn 14 Z Z h8<|hSk 6 Z Z<|hSk 7 Z Z<|hSk 8 Z Z<|hSk 9 Z Z<|hSk 10 Z Z<|hSk 11 Z Z<|hSk 12 Z Z<|hSk 13 Z Z<|hTk 14 Z Z (pkF Z Z)<|z3h (by kernel_rfl)<|z0e<|zbc Z<|z1c<|z0m<|z0l<|z41 (fun aa ww h=>Zu h [1,2,3,4,5])
 ·
  refine z0k<|zwt [(3,.val (z07 v1 0)),(4,.val (z07 v2 0)),(5,.val (z07 v3 0)),(6,.val (z07 v4 0)),(7,.val (z07 v5 0)),(8,.rd z09 s6)] [(1,some (v1,.box 27 [.rd z01 a0])),(2,some (v2,.box 78 [.rd aZ a1])),(3,some (v3,.box 72 [.rd z03 a2])),(4,some (v4,.box 27 [.val (.slice none 0 0),.val (.slice none 0 0)])),(5,some (v5,.box 27 [.val (.slice none 0 0),.val (.slice none 0 0)]))] [1,2,3,4,5] (Zs Z Z Z Z<|sS Z<|sS Z<|sN) (Zi Z<|Zi Z<|Zi Z<|Zi Z<|Zi Z<|rN)<|z8e fun x14 h15=>z8e fun x16 h17=>z8e fun x18 h19=>z8e fun x20 h21=>z8e fun x22 h23=>gOr [] [⟨54,none,[(0,some ([1], fun nv=>((nv 1),.list aZ 78 ([]:List V3)))),(5,some ([2], fun nv=>((nv 2),.list aZ 78 x16))),(8,some ([4], fun nv=>((nv 4),.list aZ 78 x18))),(13,some ([5], fun nv=>((nv 5),.list aZ 78 x22)))]⟩,⟨1,some ([], fun nv=>(v1,.box 27 [.rd z01 a0])),[]⟩,⟨2,some ([], fun nv=>(v2,.box 78 [.rd aZ a1])),[]⟩,⟨55,none,[(7,none)]⟩,⟨5,some ([], fun nv=>(v5,.box 27 [.val (.slice none 0 0),.val (.slice none 0 0)])),[(15,some ([5], fun nv=>(v5,.box 27 [.val (nv 5),.val (.slice none 0 0)])))]⟩] [⟨some (27,[1], fun nv=>.val (nv 1)),[(0,0,true)],[1],[]⟩,pk 28 (.val (z07 v1 (0+0))) [(1,0,false)],pk 29 (.rd (z02 aZ) a0.IDs) [(1,0,false)],pd 30 (.rd z09 s6),pd 31 (.rd (z02 aZ) x14),⟨some (32,[2], fun nv=>.val (nv 2)),[(0,1,true)],[2],[]⟩,pk 33 (.rd aZ a1) [(2,0,false)],⟨some (34,[], fun nv=>.rd (z02 aZ) [a1]),[(3,0,true)],[3],[]⟩,⟨some (35,[4], fun nv=>.val (nv 4)),[(0,2,true)],[4],[]⟩,pk 36 (.val (z07 v1 (0+0))) [(1,0,false)],pk 37 (.rd (z02 aZ) a0.IDs) [(1,0,false)],pd 38 (.rd z09 s6),pd 39 (.rd (z02 aZ) x20),⟨some (40,[5], fun nv=>.val (nv 5)),[(0,3,true)],[5],[]⟩,pk 41 (.val (z07 v5 (0+0))) [(4,0,false)],⟨none,[(0,4,false),(4,0,true)],[],[]⟩] mixed (oC (oEf 54 1 (fun nv E=>lit (R:=aZ) (([]:List V3):List V3) 54 (pN) Z tu24 z2l Z Z))<|oC (oRn (fun nv E=>faB 1 Z Z Tryz.underlying27 Z (by exact z61)))<|oC (oRn (fun nv E=>ld 1 Z Z (fP (z08 _)) z8s Z))<|oC (oRn (fun nv E=>mv Z))<|oC (oRn (fun nv E=>zy5 Z .no (.to Z) h15 tu24 z2l))<|oC (oEf 54 2 (fun nv E=>apn 54 Z Z Z .rd h17 tu24 z2l Z Z Z))<|oC (oRn (fun nv E=>ld 2 Z Z fH z6c Z))<|oC (oFz (A1:=fun nv=>[(55,some ((nv 3),.list aZ 78 [a1]))]) 55 3 (oEf 55 3 (fun nv E=>lit (R:=aZ) ([a1]:List V3) 55 (pP Z Z<|pN) Z tu24 z2l Z Z)))<|oC (oEf 54 4 (fun nv E=>apn 54 Z Z Z .rd h19 tu24 z2l Z Z Z))<|oC (oRn (fun nv E=>faB 1 Z Z Tryz.underlying27 Z (by exact z61)))<|oC (oRn (fun nv E=>ld 1 Z Z (fP (z08 _)) z8s Z))<|oC (oRn (fun nv E=>mv Z))<|oC (oRn (fun nv E=>zy5 Z (.to Z) .no h21 tu24 z2l))<|oC (oEf 54 5 (fun nv E=>apn 54 Z Z Z .rd h23 tu24 z2l Z Z Z))<|oC (oRn (fun nv E=>faB 5 Z Z Tryz.underlying27 Z (by exact z61)))<|oC (oEs 5 (fun nv E=>zqd 5 Z Z (zah.cast (zah.here z0b) Z) Z z20 z0b z61))<|oN) fun n24=>z0e<|z0k<|zwt [(3,.val (z07 v1 0)),(5,.val (z07 v3 0)),(6,.val (z07 v4 0)),(7,.val (z07 v5 0)),(8,.rd z09 s6)] [(1,some (v1,.box 27 [.rd z01 a0])),(2,some (v2,.box 78 [.rd aZ a1])),(3,some (v3,.box 72 [.rd z03 a2])),(4,some (v4,.box 27 [.val (.slice none 0 0),.val (.slice none 0 0)])),(5,some (v5,.box 27 [.val (n24 5),.val (.slice none 0 0)])),(54,some ((n24 5),.list aZ 78 x22))] [1,2,3,4,5,54] (Zs Z Z Z Z<|sS Z<|sN) (Zi Z<|Zi Z<|Zi Z<|Zi Z<|Zi Z<|Zi Z<|rN)<|z8e fun x25 h26=>z8e fun x27 h28=>z8e fun x29 h30=>z8e fun x31 h32=>z8e fun x33 h34=>gOr [] [⟨56,none,[(0,some ([1], fun nv=>((nv 1),.list z03 72 ([]:List z05)))),(5,some ([2], fun nv=>((nv 2),.list z03 72 x27))),(8,some ([4], fun nv=>((nv 4),.list z03 72 x29))),(13,some ([5], fun nv=>((nv 5),.list z03 72 x33)))]⟩,⟨1,some ([], fun nv=>(v1,.box 27 [.rd z01 a0])),[]⟩,⟨3,some ([], fun nv=>(v3,.box 72 [.rd z03 a2])),[]⟩,⟨57,none,[(7,none)]⟩,⟨5,some ([], fun nv=>(v5,.box 27 [.val (n24 5),.val (.slice none 0 0)])),[(15,some ([5], fun nv=>(v5,.box 27 [.val (n24 5),.val (nv 5)])))]⟩] [⟨some (42,[1], fun nv=>.val (nv 1)),[(0,0,true)],[1],[]⟩,pk 43 (.val (z07 v1 (0+1))) [(1,0,false)],pk 44 (.rd (z02 z03) a0.Ops) [(1,0,false)],pd 45 (.rd z09 s6),pd 46 (.rd (z02 z03) x25),⟨some (47,[2], fun nv=>.val (nv 2)),[(0,1,true)],[2],[]⟩,pk 48 (.rd z03 a2) [(2,0,false)],⟨some (49,[], fun nv=>.rd (z02 z03) [a2]),[(3,0,true)],[3],[]⟩,⟨some (50,[4], fun nv=>.val (nv 4)),[(0,2,true)],[4],[]⟩,pk 51 (.val (z07 v1 (0+1))) [(1,0,false)],pk 52 (.rd (z02 z03) a0.Ops) [(1,0,false)],pd 53 (.rd z09 s6),pd 54 (.rd (z02 z03) x31),⟨some (55,[5], fun nv=>.val (nv 5)),[(0,3,true)],[5],[]⟩,pk 56 (.val (z07 v5 (0+1))) [(4,0,false)],⟨none,[(4,0,true),(0,4,false)],[],[]⟩] mixed (oC (oEf 56 1 (fun nv E=>lit (R:=z03) (([]:List z05):List z05) 56 (pN) Z tu25 zbm Z Z))<|oC (oRn (fun nv E=>faB 1 Z Z Tryz.underlying27 Z (by exact zal)))<|oC (oRn (fun nv E=>ld 1 Z Z (fP (z06 _)) zct Z))<|oC (oRn (fun nv E=>mv Z))<|oC (oRn (fun nv E=>zy5 Z .no (.to Z) h26 tu25 zbm))<|oC (oEf 56 2 (fun nv E=>apn 56 Z Z Z .rd h28 tu25 zbm Z Z Z))<|oC (oRn (fun nv E=>ld 3 Z Z fH ze3 Z))<|oC (oFz (A1:=fun nv=>[(57,some ((nv 3),.list z03 72 [a2]))]) 57 3 (oEf 57 3 (fun nv E=>lit (R:=z03) ([a2]:List z05) 57 (pP Z Z<|pN) Z tu25 zbm Z Z)))<|oC (oEf 56 4 (fun nv E=>apn 56 Z Z Z .rd h30 tu25 zbm Z Z Z))<|oC (oRn (fun nv E=>faB 1 Z Z Tryz.underlying27 Z (by exact zal)))<|oC (oRn (fun nv E=>ld 1 Z Z (fP (z06 _)) zct Z))<|oC (oRn (fun nv E=>mv Z))<|oC (oRn (fun nv E=>zy5 Z (.to Z) .no h32 tu25 zbm))<|oC (oEf 56 5 (fun nv E=>apn 56 Z Z Z .rd h34 tu25 zbm Z Z Z))<|oC (oRn (fun nv E=>faB 5 Z Z Tryz.underlying27 Z (by exact zal)))<|oC (oEs 5 (fun nv E=>zqd 5 Z Z (zah.cast (zah.next z0b (zah.here z0b)) Z) Z z20 z0b zal))<|oN) fun n35=>z0e<|gSR<|zox [.rd (z02 aZ) x22,.val (n35 5)] 5 54 [] [.val (n35 5)] Z Z Z Z Z<|zox [.rd (z02 aZ) x22,.rd (z02 z03) x33] 5 56 [.rd (z02 aZ) x22] [] Z Z Z Z Z<|zco (R:=z01) (⟨x22,x33⟩:z00) 5 Z (Sp.via (Sp.prod (Sp.prod Sp.unit)))<|Zq (ld 5 Z Z fH zbn Z)<|Zc [] [] Tryz.func10 Z (zad _) fun r36 n37=>zan aZ [.rd (z02 aZ) [],.val (.slice none 0 0)] 4 [] [.val (.slice none 0 0)] Z Z Z<|zan z03 [.rd (z02 aZ) [],.rd (z02 z03) []] 4 [.rd (z02 aZ) []] [] Z Z Z<|zco (R:=z01) (⟨[],[]⟩:z00) 4 Z (Sp.via (Sp.prod (Sp.prod Sp.unit)))<|Es (sto 4 Z Z fH Z z4u)<|Zn<|z0i<|zcl [] [] Z (eC 4 Z Z zbn<|eN) (rN)
def z68 (a0:z00) (a1:List V3) (s5:(List V3) × (List z05) × Int):Option (Sum ((List V3) × (List z05)) ((List V3) × (List z05) × Int)) :=
 if decide (s5.2.2<(a0.IDs.length:Int)) then
  idx a0.IDs s5.2.2 >>= fun x8 =>
  z2z a1 x8 >>= fun r10 =>
  if decide (0≤r10) then
   idx a0.IDs s5.2.2 >>= fun x13 =>
   app 32 s5.1 [x13] >>= fun x15 =>
   idx a0.Ops s5.2.2 >>= fun x18 =>
   app 112 s5.2.1 [x18] >>= fun x20 =>
   some (w64 (s5.2.2+1)) >>= fun y23 =>
   some (.inr (x15,x20,y23))
  else
   some (w64 (s5.2.2+1)) >>= fun y24 =>
   some (.inr (s5.1,s5.2.1,y24))
 else
  some (.inl (s5.1,s5.2.1))
def za2 (a0:z00) (a1:List V3):Option (z00) :=
 (iter (z68 a0 a1) ([],[],0)) >>= fun s4 =>
 z3o (⟨s4.1,s4.2⟩:z00) >>= fun r26 =>
 some r26
set_option maxHeartbeats 4000000 in
theorem zhe (a0:z00) (a1:List V3):z1x Tryz.prog 53 [.rd z01 a0,.rd (z02 aZ) a1] [] (za2 a0 a1) (fun r nv=>⟨[.rd z01 r],[]⟩):=by
 refine z2n 44 Tryz.func53 Z Z Z fun H w=>?_
 refine gSR<|Eb Z (bx 1 Z) fun v1=>Eb Z (z83 2 z4u (ZrE.nilS (ZrE.nilS ZrE.nil))) fun v2=>Zn<|gSR<|Eb Z (z83 3 z4u (ZrE.nilS (ZrE.nilS ZrE.nil))) fun v3=>Zn<|z7y (fun (s4:(List V3) × (List z05)) aa ww=>∃ nv:Nat→Value,Sta (ctx 44 H [] w) [(4,.val (z07 v2 0)),(5,.val (z07 v3 0))] [(2,some (v2,.box 27 [.val (.slice none 0 0),.val (.slice none 0 0)])),(4,some ((nv 0),.list aZ 78 s4.1)),(6,some ((nv 1),.list z03 72 s4.2)),(3,some (v3,.box 27 [.val (nv 0),.val (nv 1)]))] aa ww) ?_ (fun s4=>?_)
 ·
  refine gSR<|Zb Z<|zms aZ 78 10<|zms z03 72 11<|z1i (fun (s5:(List V3) × (List z05) × Int) aa ww=>∃ nv:Nat→Value,Sta (ctx 44 H [] w) [(1,.rd (z02 aZ) a1),(2,.val (z07 v1 0)),(4,.val (z07 v2 0)),(5,.val (z07 v3 0)),(6,.rd z09 s5.2.2)] [(1,some (v1,.box 27 [.rd z01 a0])),(2,some (v2,.box 27 [.val (.slice none 0 0),.val (.slice none 0 0)])),(7,some ((nv 0),.list aZ 78 s5.1)),(9,some ((nv 1),.list z03 72 s5.2.1)),(3,some (v3,.box 27 [.val (nv 0),.val (nv 1)]))] aa ww) (fun aa ww h=>⟨nvl [(.slice none 0 0),(.slice none 0 0)],Zu h [1,2,10,11,3]⟩) (fun s5=>?_)
  refine gEx fun n6=>z0k<|gSR<|Zm Z<|Zq (faB 1 Z Z Tryz.underlying27 Z (by exact z61))<|Zq (ld 1 Z Z (fP (z08 _)) z8s Z)<|Zq (z3c Z .rd Z tu24)<|Zq (I.lss Z Z)<|Zj Z (fun h7=>?_) (fun h7=>?_)
  ·
   refine Zt<|z0k<|z4j<|gSR<|Zm Z<|Zq (faB 1 Z Z Tryz.underlying27 Z (by exact z61))<|Zq (ld 1 Z Z (fP (z08 _)) z8s Z)<|Zm Z<|z0o fun x8 h9=>Zq (ixR Z Z h9 tu24 z2l Z)<|Zq (ldR Z z6c)<|Zc [] [] Tryz.func39 Z (z5y _ _) fun r10 n11=>Zq (I.geq Z Z)<|Zj Z (fun h12=>?_) (fun h12=>?_)
   ·
    refine z0k<|zwt [(1,.rd (z02 aZ) a1),(2,.val (z07 v1 0)),(4,.val (z07 v2 0)),(5,.val (z07 v3 0)),(6,.rd z09 s5.2.2)] [(1,some (v1,.box 27 [.rd z01 a0])),(2,some (v2,.box 27 [.val (.slice none 0 0),.val (.slice none 0 0)])),(7,some ((n6 0),.list aZ 78 s5.1)),(9,some ((n6 1),.list z03 72 s5.2.1)),(3,some (v3,.box 27 [.val (n6 0),.val (n6 1)]))] [1,2,7,9,3] (Zs Z Z Z Z<|sS Z<|sN) (Zi Z<|Zi Z<|Zi Z<|Zi Z<|Zi Z<|rN)<|z8e fun x13 h14=>z8e fun x15 h16=>gOr [] [⟨3,some ([], fun nv=>(v3,.box 27 [.val (n6 0),.val (n6 1)])),[(10,some ([2], fun nv=>(v3,.box 27 [.val (nv 2),.val (n6 1)])))]⟩,⟨1,some ([], fun nv=>(v1,.box 27 [.rd z01 a0])),[]⟩,⟨12,none,[(7,none)]⟩,⟨7,some ([], fun nv=>((n6 0),.list aZ 78 s5.1)),[(8,some ([2], fun nv=>((nv 2),.list aZ 78 x15)))]⟩] [pk 22 (.val (z07 v3 (0+0))) [(0,0,false)],pk 23 (.val (n6 0)) [(0,0,false)],pk 24 (.val (z07 v1 (0+0))) [(1,0,false)],pk 25 (.rd (z02 aZ) a0.IDs) [(1,0,false)],pd 26 (.rd z09 s5.2.2),pd 27 (.rp aZ x13),pd 28 (.rd aZ x13),⟨some (29,[], fun nv=>.rd (z02 aZ) [x13]),[(2,0,true)],[1],[]⟩,⟨some (30,[2], fun nv=>.val (nv 2)),[(3,0,true)],[2],[]⟩,pk 31 (.val (z07 v3 (0+0))) [(0,0,false)],⟨none,[(3,1,false),(0,0,true)],[],[]⟩] mixed (oC (oRn (fun nv E=>faB 3 Z Z Tryz.underlying27 Z (by exact z61)))<|oC (oRn (fun nv E=>ldV 3 Z Z (At.cast At.here Z) zzo Z))<|oC (oRn (fun nv E=>faB 1 Z Z Tryz.underlying27 Z (by exact z61)))<|oC (oRn (fun nv E=>ld 1 Z Z (fP (z08 _)) z8s Z))<|oC (oRn (fun nv E=>mv Z))<|oC (oRn (fun nv E=>ixR Z Z h14 tu24 z2l Z))<|oC (oRn (fun nv E=>ldR Z z6c))<|oC (oFz (A1:=fun nv=>[(12,some ((nv 1),.list aZ 78 [x13]))]) 12 1 (oEf 12 1 (fun nv E=>lit (R:=aZ) ([x13]:List V3) 12 (pP Z Z<|pN) Z tu24 z2l Z Z)))<|oC (oEf 7 2 (fun nv E=>apn 7 Z Z Z .rd h16 tu24 z2l Z Z Z))<|oC (oRn (fun nv E=>faB 3 Z Z Tryz.underlying27 Z (by exact z61)))<|oC (oEs 3 (fun nv E=>zqd 3 Z Z (zah.cast (zah.here z0b) Z) Z z20 z0b z61))<|oN) fun n17=>z0e<|zwt [(1,.rd (z02 aZ) a1),(2,.val (z07 v1 0)),(4,.val (z07 v2 0)),(5,.val (z07 v3 0)),(6,.rd z09 s5.2.2)] [(1,some (v1,.box 27 [.rd z01 a0])),(2,some (v2,.box 27 [.val (.slice none 0 0),.val (.slice none 0 0)])),(7,some ((n17 2),.list aZ 78 x15)),(9,some ((n6 1),.list z03 72 s5.2.1)),(3,some (v3,.box 27 [.val (n17 2),.val (n6 1)]))] [1,2,7,9,3] (Zs Z Z Z Z<|sS Z<|sN) (Zi Z<|Zi Z<|Zi Z<|Zi Z<|Zi Z<|rN)<|z8e fun x18 h19=>z8e fun x20 h21=>gOr [] [⟨3,some ([], fun nv=>(v3,.box 27 [.val (n17 2),.val (n6 1)])),[(10,some ([2], fun nv=>(v3,.box 27 [.val (n17 2),.val (nv 2)])))]⟩,⟨1,some ([], fun nv=>(v1,.box 27 [.rd z01 a0])),[]⟩,⟨13,none,[(7,none)]⟩,⟨9,some ([], fun nv=>((n6 1),.list z03 72 s5.2.1)),[(8,some ([2], fun nv=>((nv 2),.list z03 72 x20)))]⟩] [pk 32 (.val (z07 v3 (0+1))) [(0,0,false)],pk 33 (.val (n6 1)) [(0,0,false)],pk 34 (.val (z07 v1 (0+1))) [(1,0,false)],pk 35 (.rd (z02 z03) a0.Ops) [(1,0,false)],pd 36 (.rd z09 s5.2.2),pd 37 (.rp z03 x18),pd 38 (.rd z03 x18),⟨some (39,[], fun nv=>.rd (z02 z03) [x18]),[(2,0,true)],[1],[]⟩,⟨some (40,[2], fun nv=>.val (nv 2)),[(3,0,true)],[2],[]⟩,pk 41 (.val (z07 v3 (0+1))) [(0,0,false)],⟨none,[(3,1,false),(0,0,true)],[],[]⟩] mixed (oC (oRn (fun nv E=>faB 3 Z Z Tryz.underlying27 Z (by exact zal)))<|oC (oRn (fun nv E=>ldV 3 Z Z (At.cast (At.next z0b At.here) Z) sc25 Z))<|oC (oRn (fun nv E=>faB 1 Z Z Tryz.underlying27 Z (by exact zal)))<|oC (oRn (fun nv E=>ld 1 Z Z (fP (z06 _)) zct Z))<|oC (oRn (fun nv E=>mv Z))<|oC (oRn (fun nv E=>ixR Z Z h19 tu25 zbm Z))<|oC (oRn (fun nv E=>ldR Z ze3))<|oC (oFz (A1:=fun nv=>[(13,some ((nv 1),.list z03 72 [x18]))]) 13 1 (oEf 13 1 (fun nv E=>lit (R:=z03) ([x18]:List z05) 13 (pP Z Z<|pN) Z tu25 zbm Z Z)))<|oC (oEf 9 2 (fun nv E=>apn 9 Z Z Z .rd h21 tu25 zbm Z Z Z))<|oC (oRn (fun nv E=>faB 3 Z Z Tryz.underlying27 Z (by exact zal)))<|oC (oEs 3 (fun nv E=>zqd 3 Z Z (zah.cast (zah.next z0b (zah.here z0b)) Z) Z z20 z0b zal))<|oN) fun n22=>z2t<|z0e<|z21<|Zm Z<|Zq (I.add Z Z)<|Za Z<|z1h 6 Z fun y23=>z1q<|z14 (fun aa ww h=>⟨nvl [(n17 2),(n22 2)],Zu h [1,2,7,9,3]⟩)
   ·
    refine z2a<|z2t<|z0e<|z21<|Zm Z<|Zq (I.add Z Z)<|Za Z<|z1h 6 Z fun y24=>z1q<|z14 (fun aa ww h=>⟨nvl [(n6 0),(n6 1)],Zu h [1,2,7,9,3]⟩)
  ·
   refine z1c<|z0m<|z0l<|z41 (fun aa ww h=>⟨nvl [(n6 0),(n6 1)],Zu h [2,7,9,3]⟩)
 ·
  refine gEx fun n25=>gSR<|zox [.rd (z02 aZ) s4.1,.val (n25 1)] 3 4 [] [.val (n25 1)] Z Z Z Z Z<|zox [.rd (z02 aZ) s4.1,.rd (z02 z03) s4.2] 3 6 [.rd (z02 aZ) s4.1] [] Z Z Z Z Z<|zco (R:=z01) (⟨s4.1,s4.2⟩:z00) 3 Z (Sp.via (Sp.prod (Sp.prod Sp.unit)))<|Zq (ld 3 Z Z fH zbn Z)<|Zc [] [] Tryz.func10 Z (zad _) fun r26 n27=>zan aZ [.rd (z02 aZ) [],.val (.slice none 0 0)] 2 [] [.val (.slice none 0 0)] Z Z Z<|zan z03 [.rd (z02 aZ) [],.rd (z02 z03) []] 2 [.rd (z02 aZ) []] [] Z Z Z<|zco (R:=z01) (⟨[],[]⟩:z00) 2 Z (Sp.via (Sp.prod (Sp.prod Sp.unit)))<|Es (sto 2 Z Z fH Z z4u)<|Zn<|z0i<|zcl [] [] Z (eC 2 Z Z zbn<|eN) (rN)
def z3x (a0:List V3) (s2:(List V3) × Int) (s6:Int):Option (Sum Int Int) :=
 if decide (s6<(s2.1.length:Int)) then
  idx s2.1 s6 >>= fun x8 =>
  idx a0 s2.2 >>= fun x10 =>
  z6j x8 x10 >>= fun r12 =>
  if decide (r12<0) then
   some (.inr (w64 (s6+1)))
  else
   some (.inl s6)
 else
  some (.inl s6)
def z4t (a0:List V3) (s2:(List V3) × Int):Option (Sum ((List V3)) ((List V3) × Int)) :=
 if decide (s2.2<(a0.length:Int)) then
  (iter (z3x a0 s2) 0) >>= fun s5 =>
  (if s5==(s2.1.length:Int) then
   some true
  else
   idx s2.1 s5 >>= fun x17 =>
   idx a0 s2.2 >>= fun x19 =>
   some (!decide (x17=x19))) >>= fun s15 =>
  if s15 then
   cut s2.1 0 s5 >>= fun x22 =>
   idx a0 s2.2 >>= fun x24 =>
   cut s2.1 s5 (s2.1.length:Int) >>= fun x26 =>
   app 32 ([]:List V3) x22 >>= fun x29 =>
   app 32 x29 [x24] >>= fun x33 =>
   app 32 x33 x26 >>= fun x36 =>
   some (w64 (s2.2+1)) >>= fun y39 =>
   some (.inr (x36,y39))
  else
   some (w64 (s2.2+1)) >>= fun y63 =>
   some (.inr (s2.1,y63))
 else
  some (.inl s2.1)
def z8g (a0:List V3):Option ((List V3)) :=
 (iter (z4t a0) ([],0)) >>= fun s1 =>
 some s1
theorem zf4 (a0:List V3):z1x Tryz.prog 93 [.rd (z02 aZ) a0] [] (z8g a0) (fun r nv=>⟨[.val (nv 0)],[(100,some (nv 0,.list aZ 78 r))]⟩):=by
 refine z2n 61 Tryz.func93 Z Z Z fun H w=>?_
 refine gSR<|Zb Z<|gSR<|Zb Z<|z7y (fun (s1:(List V3)) aa ww=>∃ nv:Nat→Value,Sta (ctx 61 H [] w) [(3,.val (nv 0))] [(53,some ((nv 0),.list aZ 78 s1))] aa ww) ?_ (fun s1=>?_)
 ·
  refine gSR<|Zb Z<|zms aZ 78 107<|z1i (fun (s2:(List V3) × Int) aa ww=>∃ nv:Nat→Value,Sta (ctx 61 H [] w) [(0,.rd (z02 aZ) a0),(3,.val (nv 0)),(4,.rd z09 s2.2)] [(106,some ((nv 0),.list aZ 78 s2.1))] aa ww) (fun aa ww h=>⟨nvl [(.slice none 0 0)],Zu h [107]⟩) (fun s2=>?_)
  refine gEx fun n3=>z0k<|gSR<|Zm Z<|Zm Z<|Zq (z3c Z .rd Z tu24)<|Zq (I.lss Z Z)<|Zj Z (fun h4=>?_) (fun h4=>?_)
  ·
   refine Zt<|z0k<|z4j<|gSR<|Zb Z<|z7y (fun (s5:Int) aa ww=>Sta (ctx 61 H [] w) [(0,.rd (z02 aZ) a0),(3,.val (n3 0)),(4,.rd z09 s2.2),(5,.rd z09 s5)] [(106,some ((n3 0),.list aZ 78 s2.1))] aa ww) ?_ (fun s5=>?_)
   ·
    refine z1i (fun (s6:Int) aa ww=>Sta (ctx 61 H [] w) [(0,.rd (z02 aZ) a0),(3,.val (n3 0)),(4,.rd z09 s2.2),(5,.rd z09 s6)] [(106,some ((n3 0),.list aZ 78 s2.1))] aa ww) (fun aa ww h=>Zu h [106]) (fun s6=>?_)
    refine z0k<|z0k<|z5p [] mixed Z Z<|hTk 0 Z Z (mv Z)<|hTk 1 Z Z (mv Z)<|hTk 2 Z Z (z3c Z (.own 106 Z) Z tu24)<|hTk 3 Z Z (I.lss Z Z)<|hTk 4 Z Z (mv Z)<|hIf 16 Z Z (fun h7=>?_) (fun h7=>?_)
    ·
     refine hKn 15 Z Z h7<|Zg 5 Z Z (mv Z)<|Zg 6 Z Z (mv Z)<|z2f fun x8 h9=>Zg 7 Z Z (ixO 106 Z Z Z h9 tu24 z2l)<|Zg 8 Z Z (ld 106 Z Z (Foc.el h9) z6c Z)<|Zg 9 Z Z (mv Z)<|Zg 10 Z Z (mv Z)<|z2f fun x10 h11=>Zg 11 Z Z (ixR Z Z h11 tu24 z2l Z)<|Zg 12 Z Z (ldR Z z6c)<|z33 13 [] [] Z (by kernel_rfl) Z Zx Z Tryz.func85 Z Z (zap _ _) (Y2 Z Z) rN Z (fun _ _=>z1m) fun r12 n13=>Zg 14 Z Z (I.lss Z Z)<|hTk 15 Z Z (pkT Z Z)<|z3h (by kernel_rfl)<|z0e<|gIf Z Z (fun h14=>?_) (fun h14=>?_)
     ·
      refine gKn 26 Z h14<|Zt<|z4j<|z21<|Zm Z<|Zq (I.add Z Z)<|Za Z<|z1q<|z2t<|z14 (fun aa ww h=>Zu h [106])
     ·
      refine gKn 26 Z h14<|z1c<|z0m<|z0l<|z41 (fun aa ww h=>Zu h [106])
    ·
     refine hKn 15 Z Z h7<|hSk 5 Z Z<|hSk 6 Z Z<|hSk 7 Z Z<|hSk 8 Z Z<|hSk 9 Z Z<|hSk 10 Z Z<|hSk 11 Z Z<|hSk 12 Z Z<|hSk 13 Z Z<|hSk 14 Z Z<|hTk 15 Z Z (pkF Z Z)<|z3h (by kernel_rfl)<|z0e<|zbc Z<|z1c<|z0m<|z0l<|z41 (fun aa ww h=>Zu h [106])
   ·
    refine z7y (fun (s15:Bool) aa ww=>Sta (ctx 61 H [] w) [(0,.rd (z02 aZ) a0),(3,.val (n3 0)),(4,.rd z09 s2.2),(5,.rd z09 s5),(44,.rd z0j s15)] [(106,some ((n3 0),.list aZ 78 s2.1))] aa ww) ?_ (fun s15=>?_)
    ·
     refine zfk mixed (by kernel_rfl)<|Rq Z (mv Z)<|Rq Z (mv Z)<|Rq Z (z3c Z (.own 106 Z) Z tu24)<|Rq Z (I.eql Z Z)<|Rq Z (mv Z)<|z11w 34 Z (fun h16=>?_) (fun h16=>?_)
     ·
      refine qKn 33 Z h16<|zlq Zx Z Z<|zlq Zx Z Z<|zlq Zx Z Z<|zlq Zx Z Z<|zlq Zx Z Z<|zlq Zx Z Z<|zlq Zx Z Z<|zlq Zx Z Z<|zlq Zx Z Z<|Rq Z (pkT Z Z)<|zon<|z41 (fun aa ww h=>Zu h [106])
     ·
      refine qKn 33 Z h16<|zwp Zx Z Z (mv Z)<|zwp Zx Z Z (mv Z)<|z7g fun x17 h18=>zwp Zx Z Z (ixO 106 Z Z Z h18 tu24 z2l)<|zwp Zx Z Z (ld 106 Z Z (Foc.el h18) z6c Z)<|zwp Zx Z Z (mv Z)<|zwp Zx Z Z (mv Z)<|z7g fun x19 h20=>zwp Zx Z Z (ixR Z Z h20 tu24 z2l Z)<|zwp Zx Z Z (ldR Z z6c)<|zwp Zx Z Z (neA Z Z zwi Z Z zwm)<|Rq Z (pkF Z Z)<|zon<|z41 (fun aa ww h=>Zu h [106])
    ·
     refine gIf Z Z (fun h21=>?_) (fun h21=>?_)
     ·
      refine z5p [159,186] mixed Z Z<|hTk 1 Z Z (mv Z)<|hTk 2 Z Z (mv Z)<|zw2 106 [3,46] Z (fS Z<|fS Z<|fN)<|z2f fun x22 h23=>zsy 3 Z (by kernel_rfl) (by kernel_rfl) (by kernel_rfl) (gd0 Z) Z Z (zy5 Z .no (.to Z) h23 tu24 z2l)<|hTk 5 Z Z (mv Z)<|hTk 6 Z Z (mv Z)<|z2f fun x24 h25=>hTk 7 Z Z (ixR Z Z h25 tu24 z2l Z)<|hTk 8 Z Z (ldR Z z6c)<|zsy 11 Z (by kernel_rfl) (by kernel_rfl) (by kernel_rfl) (gd0 Z) Z Z (mv Z)<|hTk 12 Z Z (mv Z)<|z2f fun x26 h27=>zsy 13 Z (by kernel_rfl) (by kernel_rfl) (by kernel_rfl) (gd0 Z) Z Z (zy5 Z (.to Z) .no h27 tu24 z2l)<|hAlt [0,9] (by kernel_rfl) Z ⟨?_,?_,trivial⟩
      ·
       refine oDo 0 Z (gd0 Z) Z Z Z (lit (R:=aZ) (([]:List V3):List V3) 159 (pN) Z tu24 z2l Z Z) (fun _=>rfl) fun v28=>hAlt [4,9] (by kernel_rfl) Z ⟨?_,?_,trivial⟩
       ·
        refine z13o fun x29 h30=>oDo 4 Z (gd0 Z) Z Z Z (apn 159 Z Z Z .rd h30 tu24 z2l Z Z Z) (fun _=>rfl) fun v31=>Zo 9 Z Z Z (lit (R:=aZ) ([x24]:List V3) 186 (pP Z Z<|pN) Z tu24 z2l Z Z) fun v32=>zw2 186 [54] Z (fS Z<|fN)<|z2f fun x33 h34=>Zo 10 Z Z Z (apn 159 Z Z Z .rd h34 tu24 z2l Z Z Z) fun v35=>z2f fun x36 h37=>Zo 14 Z Z Z (apn 159 Z Z Z .rd h37 tu24 z2l Z Z Z) fun v38=>Zf 15 Z Z z3b (asg Z)<|z3h (by kernel_rfl)<|z2t<|z0e<|z21<|Zm Z<|Zq (I.add Z Z)<|Za Z<|z1h 4 Z fun y39=>z1q<|z14 (fun aa ww h=>⟨nvl [v38],Zu h [159]⟩)
       ·
        refine oDo 9 Z (gd0 Z) Z Z Z (lit (R:=aZ) ([x24]:List V3) 186 (pP Z Z<|pN) Z tu24 z2l Z Z) (fun _=>rfl) fun v40=>z2f fun x41 h42=>Zo 4 Z Z Z (apn 159 Z Z Z .rd h42 tu24 z2l Z Z Z) fun v43=>zw2 186 [54] Z (fS Z<|fN)<|z2f fun x44 h45=>Zo 10 Z Z Z (apn 159 Z Z Z .rd h45 tu24 z2l Z Z Z) fun v46=>z2f fun x47 h48=>Zo 14 Z Z Z (apn 159 Z Z Z .rd h48 tu24 z2l Z Z Z) fun v49=>Zf 15 Z Z z3b (asg Z)<|z3h (by kernel_rfl)<|z2t<|z0e<|z21<|Zm Z<|Zq (I.add Z Z)<|Za Z<|z1h 4 Z fun y50=>z1q<|z14 (fun aa ww h=>⟨nvl [v49],Zu h [159]⟩)
      ·
       refine oDo 9 Z (gd0 Z) Z Z Z (lit (R:=aZ) ([x24]:List V3) 186 (pP Z Z<|pN) Z tu24 z2l Z Z) (fun _=>rfl) fun v51=>Zo 0 Z Z Z (lit (R:=aZ) (([]:List V3):List V3) 159 (pN) Z tu24 z2l Z Z) fun v52=>z2f fun x53 h54=>Zo 4 Z Z Z (apn 159 Z Z Z .rd h54 tu24 z2l Z Z Z) fun v55=>zw2 186 [54] Z (fS Z<|fN)<|z2f fun x56 h57=>Zo 10 Z Z Z (apn 159 Z Z Z .rd h57 tu24 z2l Z Z Z) fun v58=>z2f fun x59 h60=>Zo 14 Z Z Z (apn 159 Z Z Z .rd h60 tu24 z2l Z Z Z) fun v61=>Zf 15 Z Z z3b (asg Z)<|z3h (by kernel_rfl)<|z2t<|z0e<|z21<|Zm Z<|Zq (I.add Z Z)<|Za Z<|z1h 4 Z fun y62=>z1q<|z14 (fun aa ww h=>⟨nvl [v61],Zu h [159]⟩)
     ·
      refine z2a<|z2t<|z0e<|z21<|Zm Z<|Zq (I.add Z Z)<|Za Z<|z1h 4 Z fun y63=>z1q<|z14 (fun aa ww h=>⟨nvl [(n3 0)],Zu h [106]⟩)
  ·
   refine z1c<|z0m<|z0l<|z41 (fun aa ww h=>⟨nvl [(n3 0)],Zu h [106]⟩)
 ·
  refine gEx fun n64=>gSR<|Zm Z<|Zb Z<|z0i<|Ze [(n64 0)] [53] Z
def z6q (a0:List V3) (a1:List V3) (s2:(List V3) × Int):Option (Sum ((List V3)) ((List V3) × Int)) :=
 if decide (s2.2<(a1.length:Int)) then
  idx a1 s2.2 >>= fun x5 =>
  z2z a0 x5 >>= fun r7 =>
  if decide (r7<0) then
   idx a1 s2.2 >>= fun x10 =>
   app 32 s2.1 [x10] >>= fun x13 =>
   some (w64 (s2.2+1)) >>= fun y16 =>
   some (.inr (x13,y16))
  else
   some (w64 (s2.2+1)) >>= fun y17 =>
   some (.inr (s2.1,y17))
 else
  some (.inl s2.1)
def z6x (a0:List V3) (a1:List V3):Option ((List V3)) :=
 (iter (z6q a0 a1) ([],0)) >>= fun s1 =>
 z8g s1 >>= fun r19 =>
 some r19
theorem zfa (a0:List V3) (a1:List V3):z1x Tryz.prog 58 [.rd (z02 aZ) a0,.rd (z02 aZ) a1] [] (z6x a0 a1) (fun r nv=>⟨[.val (nv 0)],[(100,some (nv 0,.list aZ 78 r))]⟩):=by
 refine z2n 29 Tryz.func58 Z Z Z fun H w=>?_
 refine gSR<|Zb Z<|gSR<|Zb Z<|z7y (fun (s1:(List V3)) aa ww=>∃ nv:Nat→Value,Sta (ctx 29 H [] w) [(5,.val (nv 0))] [(2,some ((nv 0),.list aZ 78 s1))] aa ww) ?_ (fun s1=>?_)
 ·
  refine gSR<|Zb Z<|zms aZ 78 5<|z1i (fun (s2:(List V3) × Int) aa ww=>∃ nv:Nat→Value,Sta (ctx 29 H [] w) [(0,.rd (z02 aZ) a0),(1,.rd (z02 aZ) a1),(5,.val (nv 0)),(6,.rd z09 s2.2)] [(4,some ((nv 0),.list aZ 78 s2.1))] aa ww) (fun aa ww h=>⟨nvl [(.slice none 0 0)],Zu h [5]⟩) (fun s2=>?_)
  refine gEx fun n3=>z0k<|gSR<|Zm Z<|Zm Z<|Zq (z3c Z .rd Z tu24)<|Zq (I.lss Z Z)<|Zj Z (fun h4=>?_) (fun h4=>?_)
  ·
   refine Zt<|z0k<|z4j<|gSR<|Zm Z<|Zm Z<|Zm Z<|z0o fun x5 h6=>Zq (ixR Z Z h6 tu24 z2l Z)<|Zq (ldR Z z6c)<|Zc [] [] Tryz.func39 Z (z5y _ _) fun r7 n8=>Zq (I.lss Z Z)<|Zj Z (fun h9=>?_) (fun h9=>?_)
   ·
    refine z21<|Zm Z<|Zm Z<|Zm Z<|z0o fun x10 h11=>Zq (ixR Z Z h11 tu24 z2l Z)<|Zq (ldR Z z6c)<|Ef Z (lit (R:=aZ) ([x10]:List V3) 6 (pP Z Z<|pN) Z tu24 z2l Z Z) fun v12=>zhi 6 [25] Z (fS Z<|fN)<|z0o fun x13 h14=>Ef Z (apn 4 Z Z Z .rd h14 tu24 z2l Z Z Z) fun v15=>Za Z<|z1q<|z2t<|z0e<|z21<|Zm Z<|Zq (I.add Z Z)<|Za Z<|z1h 6 Z fun y16=>z1q<|z14 (fun aa ww h=>⟨nvl [v15],Zu h [4]⟩)
   ·
    refine z2a<|z2t<|z0e<|z21<|Zm Z<|Zq (I.add Z Z)<|Za Z<|z1h 6 Z fun y17=>z1q<|z14 (fun aa ww h=>⟨nvl [(n3 0)],Zu h [4]⟩)
  ·
   refine z1c<|z0m<|z0l<|z41 (fun aa ww h=>⟨nvl [(n3 0)],Zu h [4]⟩)
 ·
  refine gEx fun n18=>gSR<|Zm Z<|zhi 2 [5,27] Z (fS Z<|fS Z<|fN)<|Zc [] [(100,7)] Tryz.func93 Z (zf4 _) fun r19 n20=>Zb Z<|z0i<|Ze [(n20 0)] [7] Z
end
section
open Go Go.RowKit
def zfq {α σ:Type} (F:α→σ→Option σ):List α→σ→Option σ
 | [],s=>some s
 | e::L,s=>F e s >>= zfq F L
def z129 {α σ:Type} (F:α→σ→Option σ) (E:σ→σ→Prop):Prop:=∀ (L L':List α) (s r:σ),L.Perm L'→zfq F L s=some r→∃ r',zfq F L' s=some r'∧E r r'
def zqi {κ:Type} (by_:Nat) (acc:List κ) (l:List κ):Option (List κ):=if l=[] then some acc else app by_ acc l
theorem zqg {κ:Type} {by_:Nat} {acc l r:List κ}:zqi by_ acc l=some r↔r=acc++l∧(l=[]∨(acc.length+l.length) * by_≤140737488355328):=by
 unfold zqi app
 by_cases h:l=[]
 ·
  rw [if_pos h,h,List.append_nil]
  exact ⟨fun e=>⟨(Option.some.inj e).symm,.inl rfl⟩, fun e=>by rw [e.1]⟩
 ·
  rw [if_neg h]
  by_cases h2:(acc.length+l.length) * by_≤140737488355328
  ·
   rw [if_pos h2]
   exact ⟨fun e=>⟨(Option.some.inj e).symm,.inr h2⟩, fun e=>by rw [e.1]⟩
  ·
   rw [if_neg h2]
   exact ⟨fun e=>(by cases e), fun e=>(e.2.elim h h2).elim⟩
def zyt {α κ:Type} (by_:Nat) (F:α→List κ→Option (List κ)):Prop:=∀ e,∃ o:Option (List κ),∀ acc,F e acc=o >>= fun l=>zqi by_ acc l
theorem zyt.fold {α κ:Type} {by_:Nat} {F:α→List κ→Option (List κ)} {sel:α→Option (List κ)} (h:∀ e acc,F e acc=sel e >>= fun l=>zqi by_ acc l):∀ (L:List α) (s r:List κ),zfq F L s=some r↔(∀ e∈L,(sel e).isSome)∧r=s++(L.flatMap fun e=>(sel e).getD [])∧(L.flatMap (fun e=>(sel e).getD [])=[]∨r.length * by_≤140737488355328)
 | [],s,r=>by
  simp only [zfq,List.flatMap_nil,List.append_nil]
  exact ⟨fun e=>⟨fun _ h=>absurd h (by simp),(Option.some.inj e).symm,.inl trivial⟩, fun e=>by rw [e.2.1]⟩
 | e::L,s,r=>by
  unfold zfq
  rw [h]
  cases hs:sel e with
  | none=>simp [hs]
  | some l =>
   simp only [Option.bind_eq_bind,Option.bind_some]
   cases ha:zqi by_ s l with
   | none =>
    simp only [Option.bind_none]
    constructor
    ·
     intro h; cases h
    ·
     rintro ⟨-,h2,h3⟩
     exfalso
     simp only [List.flatMap_cons,hs,Option.getD_some] at h2 h3
     have:zqi by_ s l=some (s++l):=by
      rw [zqg]
      refine ⟨rfl,?_⟩
      rcases h3 with h3 | h3
      ·
       exact .inl (by simpa using (List.append_eq_nil_iff.1 h3).1)
      ·
       refine .inr (Nat.le_trans (Nat.mul_le_mul_right _ ?_) h3)
       rw [h2]; simp
     rw [this] at ha; cases ha
   | some t =>
    obtain ⟨rfl,hb⟩:=zqg.1 ha
    simp only [Option.bind_some]
    rw [zyt.fold h L (s++l) r]
    simp only [List.flatMap_cons,hs,Option.getD_some,List.mem_cons,forall_eq_or_imp,Option.isSome_some,true_and,List.append_assoc]
    constructor
    ·
     rintro ⟨h1,h2,h3⟩
     refine ⟨h1,h2,?_⟩
     rcases h3 with h3 | h3
     ·
      rcases hb with hb | hb
      ·
       exact .inl (by rw [hb,h3]; rfl)
      ·
       refine .inr ?_
       rw [h2,h3]; simpa using hb
     ·
      exact .inr h3
    ·
     rintro ⟨h1,h2,h3⟩
     refine ⟨h1,h2,?_⟩
     rcases h3 with h3 | h3
     ·
      exact .inl (List.append_eq_nil_iff.1 h3).2
     ·
      exact .inr h3
theorem zyt.comm {α κ:Type} {by_:Nat} {F:α→List κ→Option (List κ)} (hF:zyt by_ F):z129 F List.Perm:=by
 have hF':∃ sel:α→Option (List κ),∀ e acc,F e acc=sel e >>= fun l=>zqi by_ acc l:=⟨fun e=>Classical.choose (hF e), fun e=>Classical.choose_spec (hF e)⟩
 obtain ⟨sel,h⟩:=hF'
 intro L L' s r hp hr
 obtain ⟨h1,h2,h3⟩:=(zyt.fold h L s r).1 hr
 have hq:(L.flatMap fun e=>(sel e).getD []).Perm (L'.flatMap fun e=>(sel e).getD []):=hp.flatMap_right _
 refine ⟨s++L'.flatMap fun e=>(sel e).getD [],(zyt.fold h L' s _).2 ⟨fun e he=>h1 e (hp.mem_iff.2 he),rfl,?_⟩, by rw [h2]; exact hq.append_left s⟩
 rcases h3 with h3 | h3
 ·
  rw [h3] at hq; exact .inl hq.symm.eq_nil
 ·
  refine .inr ?_
  rw [h2,List.length_append,hq.length_eq] at h3
  rwa [List.length_append]
theorem zuu {κ:Type} {by_:Nat} (x:κ):∃ o:Option (List κ),∀ acc:List κ,(app by_ acc [x] >>= fun z=>some z)=o >>= fun l=>zqi by_ acc l:=⟨some [x], fun acc=>by
 simp only [Option.bind_eq_bind,Option.bind_some,zqi]
 rw [if_neg (by simp)]
 cases app by_ acc [x] <;> rfl⟩
theorem zqp {κ τ:Type} {by_:Nat} {m:Option τ} {f:τ→List κ→Option (List κ)} (h:∀ r,∃ o:Option (List κ),∀ acc,f r acc=o >>= fun l=>zqi by_ acc l):∃ o:Option (List κ),∀ acc,(m >>= fun r=>f r acc)=o >>= fun l=>zqi by_ acc l:=by
 cases m with
 | none=>exact ⟨none, fun _=>rfl⟩
 | some r=>obtain ⟨o,ho⟩:=h r; exact ⟨o, fun acc=>ho acc⟩
theorem zua {κ:Type} {by_:Nat} {c:Prop} [Decidable c] {f g:List κ→Option (List κ)} (hf:∃ o:Option (List κ),∀ acc,f acc=o >>= fun l=>zqi by_ acc l) (hg:∃ o:Option (List κ),∀ acc,g acc=o >>= fun l=>zqi by_ acc l):∃ o:Option (List κ),∀ acc,(if c then f acc else g acc)=o >>= fun l=>zqi by_ acc l:=by
 by_cases h:c
 ·
  obtain ⟨o,ho⟩:=hf; exact ⟨o, fun acc=>by rw [if_pos h]; exact ho acc⟩
 ·
  obtain ⟨o,ho⟩:=hg; exact ⟨o, fun acc=>by rw [if_neg h]; exact ho acc⟩
theorem gExM {ρ σ τ:Type} {ro:Option Nat} {P:Program} {A:σ→τ→Asn} {E:σ→Prop} {c:Code} {Q:ρ→Exit→Act→World→Prop} {m:Option ρ} (h:∀ s nv,E s→G ro P (A s nv) c Q m):G ro P (fun a w=>∃ s nv,E s∧A s nv a w) c Q m:=fun a w ⟨s,nv,h1,h2⟩=>h s nv h1 a w h2
theorem eExM {ρ σ τ:Type} {A:σ→τ→Asn} {E:σ→Prop} {e:Exit} {Q:ρ→Exit→Act→World→Prop} {m:Option ρ} (h:∀ s nv,E s→GE (A s nv) e Q m):GE (fun a w=>∃ s nv,E s∧A s nv a w) e Q m:=fun a w ⟨s,nv,h1,h2⟩=>h s nv h1 a w h2
theorem z1x.congr {ρ:Type} {P:Program} {f:FuncId} {pin:List Ent} {rin:Res} {m m':Option ρ} {q:ρ→(Nat→Value)→zki} (e:m=m') (h:z1x P f pin rin m q):z1x P f pin rin m' q:=e ▸ h
section
variable {κ β:Type}
def z3v.mapX (RK:Rep κ) (RV:Rep β) (es:Array MapEntry) (clock:Nat) (m:List (κ × β)):z3v where
 nil _ _ _:=False
 nilm _ h:=h
 nilb h:=h.elim
 rel S w v o:=∃ b,v=.map (some b)∧o=.map es clock∧zf1 RK RV S w es.toList m∧zr6 es.toList clock
 mono k h:=by obtain ⟨b,h1,h2,h3,h4⟩:=h; exact ⟨b,h1,h2,h3.mono k,h4⟩
def z3v.mit (vm:Value) (since:Nat) (seen:Array Nat) (c0:Nat):z3v where
 nil _ _ _:=False
 nilm _ h:=h
 nilb h:=h.elim
 rel S w v o:=∃ g bm,v=.pointer (some ⟨g,0,none⟩)∧vm=.map (some bm)∧o=.mapIter (some bm) since seen c0
 mono k h:=h
theorem zhb {RK:Rep κ} {RV:Rep β} {es clock m S w v} (h:(z3v.mapX RK RV es clock m).holds S w v):∃ b,v=.map (some b)∧w.heap[b]? = some (.map es clock)∧zf1 RK RV S w es.toList m∧zr6 es.toList clock:=by
 rcases h with h | ⟨b,o,h1,h2,b',rfl,rfl,h3,h4⟩
 ·
  exact h.elim
 ·
  simp only [z4l,Option.some.injEq] at h1
  subst h1
  exact ⟨_,rfl,h2,h3,h4⟩
theorem zqw {vm v:Value} {since c0:Nat} {seen:Array Nat} {S:Blk} {w:World} (h:(z3v.mit vm since seen c0).holds S w v):∃ g bm,v=.pointer (some ⟨g,0,none⟩)∧vm=.map (some bm)∧w.heap[g]? = some (.mapIter (some bm) since seen c0):=by
 rcases h with h | ⟨b,o,h1,h2,g,bm,rfl,rfl,rfl⟩
 ·
  exact h.elim
 ·
  simp only [z4l,Option.some.injEq] at h1
  subst h1
  exact ⟨_,_,rfl,rfl,h2⟩
def z87 (es:List MapEntry) (m:List (κ × β)) (seen:Array Nat):List (κ × β):=((es.zip m).filter fun p=>!seen.contains p.1.born).map (·.2)
theorem zs1 {RK:Rep κ} {RV:Rep β} {S:Blk} {w:World} {es:List MapEntry} {m:List (κ × β)} (h:zf1 RK RV S w es m):z87 es m #[]=m:=by
 have hl:=h.size
 unfold z87
 rw [List.filter_eq_self.2 (fun p _=>by simp)]
 exact List.map_snd_zip (by omega)
theorem zvh {es:List MapEntry} {m:List (κ × β)} {seen:Array Nat} {b:Nat} (h:∀ e∈es,e.born≠b):z87 es m (seen.push b)=z87 es m seen:=by
 unfold z87
 congr 1
 apply List.filter_congr
 intro p hp
 have:=h p.1 (List.of_mem_zip hp).1
 simp [this]
theorem zog {RK:Rep κ} {RV:Rep β} {S:Blk} {w:World} {seen:Array Nat} {e:MapEntry}:∀ {es:List MapEntry} {m:List (κ × β)},zf1 RK RV S w es m→(es.map (·.born)).Nodup→e∈es→seen.contains e.born=false→∃ (i:Nat) (k:κ) (x:β),es[i]? = some e∧m[i]? = some (k,x)∧(z87 es m seen).Perm ((k,x)::z87 es m (seen.push e.born))
 | e0::es,p::m,h,hn,he,hs=>by
  simp only [List.map_cons,List.nodup_cons] at hn
  rcases List.mem_cons.1 he with rfl | he
  ·
   refine ⟨0,p.1,p.2,rfl,rfl,?_⟩
   have hfar:∀ e'∈es,e'.born≠e.born:=fun e' h' h2=>hn.1 (List.mem_map.2 ⟨e',h',h2⟩)
   have hs':e.born∉seen:=by simpa using hs
   have h1:z87 (e::es) (p::m) seen=p::z87 es m seen:=by simp [z87,hs']
   have h2:z87 (e::es) (p::m) (seen.push e.born)=z87 es m (seen.push e.born):=by simp [z87]
   rw [h1,h2,zvh hfar]
  ·
   obtain ⟨i,k,x,h1,h2,h3⟩:=zog h.2 hn.2 he hs
   refine ⟨i+1,k,x, by simpa using h1, by simpa using h2,?_⟩
   have hne:e0.born≠e.born:=fun hh=>hn.1 (List.mem_map.2 ⟨e,he,hh.symm⟩)
   by_cases h0:seen.contains e0.born=true
   ·
    have g1:z87 (e0::es) (p::m) seen=z87 es m seen:=by simp [z87] at h0 ⊢; simp [h0]
    have g2:z87 (e0::es) (p::m) (seen.push e.born)=z87 es m (seen.push e.born):=by simp [z87] at h0 ⊢; simp [h0]
    rw [g1,g2]; exact h3
   ·
    have g1:z87 (e0::es) (p::m) seen=p::z87 es m seen:=by simp [z87] at h0 ⊢; simp [h0]
    have g2:z87 (e0::es) (p::m) (seen.push e.born)=p::z87 es m (seen.push e.born):=by simp [z87] at h0 ⊢; simp [h0,hne]
    rw [g1,g2]
    exact (h3.cons p).trans (List.Perm.swap _ _ _)
theorem zq2 {RK:Rep κ} {RV:Rep β} {S:Blk} {w:World} {seen:Array Nat}:∀ {es:List MapEntry} {m:List (κ × β)},zf1 RK RV S w es m→(es.filter fun e=>!seen.contains e.born)=[]→z87 es m seen=[]
 | [],[],_,_=>rfl
 | e::es,p::m,h,h0=>by
  rw [List.filter_cons] at h0
  split at h0
  ·
   cases h0
  ·
   rename_i hs
   have:=zq2 h.2 h0
   simp [z87] at hs this ⊢
   simp [hs]
   exact this
 | [],_::_,h,_=>h.elim
 | _::_,[],h,_=>h.elim
theorem zq5 {RK:Rep κ} {RV:Rep β} {S:Blk} {w:World}:∀ {es:List MapEntry} {m:List (κ × β)} {i:Nat} {e:MapEntry} {k:κ} {x:β},zf1 RK RV S w es m→es[i]? = some e→m[i]? = some (k,x)→RK.vrel S w e.key k∧RV.vrel S w e.val x
 | e0::es,p::m,0,e,k,x,h,h1,h2=>by
  simp only [List.getElem?_cons_zero,Option.some.injEq] at h1 h2
  subst h1; subst h2; exact h.1
 | e0::es,p::m,i+1,e,k,x,h,h1,h2=>zq5 h.2 (by simpa using h1) (by simpa using h2)
 | [],_,_,_,_,_,_,h1,_=>by simp at h1
def ItAt (P:Program) (Ci Cm:z3v) (u v:Value) (RK:Rep κ) (RV:Rep β) (k:κ) (x:β):Prop :=
 ∀ S w,Ci.holds S w u→Cm.holds S w v→∃ key val,(∀ w',(∀ b,z4l u=some b→w'.heap[b]? = w.heap[b]?)→(∀ b,z4l v=some b→w'.heap[b]? = w.heap[b]?)→(Instr.entry u).run P w'=.ok (.tuple #[key,val]) w')∧RK.vrel S w key k∧RV.vrel S w val x
theorem itAt {P:Program} {u v:Value} {RK:Rep κ} {RV:Rep β} {es:Array MapEntry} {clock:Nat} {seen:Array Nat} {m:List (κ × β)} {i:Nat} {e:MapEntry} {k:κ} {x:β} (h1:es.toList[i]? = some e) (h2:m[i]? = some (k,x)) :
  ItAt P (.mit v clock (seen.push e.born) clock) (.mapX RK RV es clock m) u v RK RV k x:=fun S w hi hm=>by
 obtain ⟨g,bm,rfl,rfl,g1⟩:=zqw hi
 obtain ⟨b,hb,m1,m2,m3⟩:=zhb hm
 cases hb
 obtain ⟨k1,k2⟩:=zq5 m2 h1 h2
 refine ⟨e.key,e.val, fun w' q1 q2=>?_,k1,k2⟩
 have g1':w'.heap[g]? = some (.mapIter (some bm) clock (seen.push e.born) clock):=(q1 g rfl).trans g1
 have m1':w'.heap[bm]? = some (.map es clock):=(q2 bm rfl).trans m1
 obtain ⟨hi,he⟩:=List.getElem?_eq_some_iff.1 h1
 have hmem:e∈es.toList:=by rw [← he]; exact List.getElem_mem _
 have hf:es.find? (·.born==e.born)=some e:=by rw [← Array.find?_toList]; exact find_born e es.toList m3.1 hmem
 simp only [Instr.entry,getObj,Sem.run_bind,Sem.run,g1',m1',Result.andThen,Array.back?_push,bne_self_eq_false,Bool.false_eq_true,if_false,hf]
 rfl
end
section
variable {ρ:Type} {P:Program} {Γ:Ctx} {l:z1a} {res:Res} {m:Option ρ} {os rest:List Oper} {N:ρ→Exit→Act→World→Prop}
 {d:Tmp} {ty:TypeId} {pos:String} {after:Array Edge} {g:Option (Nat × Bool)} {ro:Option Nat} {κ β:Type} {RK:Rep κ} {RV:Rep β} {mm:List (κ × β)}
theorem Sta.less {res':Res} {a:Act} {w:World} (ha:Sta Γ l res a w) (h:∀ r y,lr res' r=some y→lr res r=some y):Sta Γ l res' a w:=by
 have hst:z9e (Shr Γ.H res w) (Shr Γ.H res' w) w w:=fun b hb=>⟨⟨hb.1, fun r v c h1=>hb.2.1 r v c (h _ _ h1),hb.2.2⟩,rfl⟩
 exact ⟨ha.size,ha.defers, fun t e ht=>by obtain ⟨u,h1,h2⟩:=ha.slots t e ht; exact ⟨u,h1,e.mono hst h2⟩, fun r v c hr=>(ha.conts r v c (h _ _ hr)).mono hst (fun _ _=>rfl),
  fun r1 v1 c1 r2 v2 c2 h1 h2=>ha.excl r1 v1 c1 r2 v2 c2 (h _ _ h1) (h _ _ h2), fun r v c hr=>ha.own r v c (h _ _ hr),ha.keep,ha.old,ha.hid⟩
theorem z12q {x:Operand} {v:Value} {T K V:TypeId} (ri rm:Nat) (hn:Nat.blt d Γ.n=true) (hx:opE l x=some (.val v)) (hr:lr res rm=some (v,.map RK RV mm)) (hT:P.underlying T=some (.map K V))
  (k:∀ u es clock,GL P os (Sta Γ ((d,.val u)::l) ((ri,some (u,.mit v clock #[] clock))::(rm,some (v,.mapX RK RV es clock mm))::res)) rest N m) :
  GL P os (Sta Γ l res) (⟨some d,.range T x,ty,pos,after,none⟩::rest) N m:=fun a w ha ρ hm=>by
 have h1:=(ha.vl hx).1
 obtain ⟨b,es,clock,rfl,h2,h3,h4⟩:=zir (ha.conts rm v _ hr)
 have ha2:=ha.recont (c':=.mapX RK RV es clock mm) rm hr (fun _=>.inr ⟨b,_,rfl,h2,b,rfl,rfl,h3,h4⟩)
 have hrun:(execOp a.eval ⟨some d,.range T x,ty,pos,after,none⟩).run P w=.ok (.value (.pointer (some ⟨w.heap.size,0,none⟩))) (w.alloc (.mapIter (some b) clock #[] clock)):=by
  simp [execOp,h1,run_range_map w T K V b es clock hT h2]
 obtain ⟨h5,h6⟩:=ha2.upd ri (c:=.mit (.map (some b)) clock #[] clock) (v:=.pointer (some ⟨w.heap.size,0,none⟩)) (zei w (.mapIter (some b) clock #[] clock)) (by simp) (fun b hb=>.inr (by simp [z4l] at hb; omega)) (fun S' k'=>.inr ⟨w.heap.size,_,rfl,heap_alloc_new _ _,_,_,rfl,rfl,rfl⟩)
 exact st (zbz rfl) hrun (k _ es clock _ _ (h5.put hn ⟨rfl,rfl⟩) ρ hm)
theorem entM {k:κ} {x0:β} {u v:Value} {Ci Cm:z3v} {x:Operand} (ri rm:Nat) (hx:opE l x=some (.val u)) (h1:lr res ri=some (u,Ci)) (h2:lr res rm=some (v,Cm)) (hI:ItAt P Ci Cm u v RK RV k x0) :
  Run Eq P Γ l res ⟨some d,.entry x,ty,pos,after,g⟩ (.tup [.rd RK k,.rd RV x0]):=fun a w ha=>by
 obtain ⟨key,val,q1,q2,q3⟩:=hI _ _ (ha.conts ri u _ h1) (ha.conts rm v _ h2)
 refine ⟨.tuple #[key,val], fun w' hw=>?_,[key,val],⟨q2,q3,trivial⟩,rfl⟩
 subst hw
 simp [execOp,(ha.vl hx).1,q1 w (fun _ _=>rfl) (fun _ _=>rfl)]
theorem z133 {u v:Value} {x:Operand} {es:Array MapEntry} {clock c0:Nat} {seen:Array Nat} (ri rm:Nat) (hn:Nat.blt d Γ.n=true) (hx:opE l x=some (.val u)) (h1:lr res ri=some (u,.mit v clock seen c0)) (h2:lr res rm=some (v,.mapX RK RV es clock mm)) (hc:clock≤c0)
  (k0:z87 es.toList mm seen=[]→GL P os (Sta Γ ((d,.tup [.rd z0j false])::l) res) rest N m)
  (k1:∀ (i:Nat) (e:MapEntry) (k:κ) (x:β),es.toList[i]? = some e→mm[i]? = some (k,x)→(z87 es.toList mm seen).Perm ((k,x)::z87 es.toList mm (seen.push e.born))→GL P os (Sta Γ ((d,.tup [.rd z0j true,.junk,.junk])::l) ((ri,some (u,.mit v clock (seen.push e.born) clock))::res)) rest N m) :
  GL P os (Sta Γ l res) (⟨some d,.next x false,ty,pos,after,none⟩::rest) N m:=fun a w ha ρ hm=>by
 have hu:=(ha.vl hx).1
 obtain ⟨gb,bm,rfl,rfl,g1⟩:=zqw (ha.conts ri u _ h1)
 obtain ⟨b,hb,m1,m2,m3⟩:=zhb (ha.conts rm _ _ h2)
 cases hb
 rcases run_next_at (P:=P) w ty gb bm clock c0 seen es clock g1 m1 (fun x hx=>m3.2 x hx) hc with ⟨hz,hrun⟩ | ⟨e,he,w1,hw1,hrun⟩
 ·
  have hnil:(es.toList.filter fun e=>!seen.contains e.born)=[]:=by
   have:(leftOf es seen).toList=[]:=by
    rw [Array.toList_eq_nil_iff]; exact Array.eq_empty_of_size_eq_zero hz
   unfold leftOf at this
   rwa [Array.toList_filter] at this
  have hrun':(execOp a.eval ⟨some d,.next x false,ty,pos,after,none⟩).run P w=.ok (.value (.tuple #[.bool false])) w:=by
   simp [execOp,hu,hrun]
  exact st (zbz rfl) hrun' (k0 (zq2 m2 hnil) _ _ (ha.put hn ⟨[_],⟨⟨_,rfl,rfl⟩,trivial⟩,rfl⟩) ρ hm)
 ·
  have hmem:e∈es.toList∧seen.contains e.born=false:=by
   unfold leftOf at he
   rw [Array.toList_filter,List.mem_filter] at he
   exact ⟨he.1, by simpa using he.2⟩
  obtain ⟨i,k,x0,e1,e2,e3⟩:=zog m2 m3.1 hmem.1 hmem.2
  have hlt:gb<w.heap.size:=(Array.getElem?_eq_some_iff.1 g1).1
  have hheap:w1.heap=w.heap:=by rcases hw1 with rfl | rfl <;> rfl
  have hgr:w.grownBy (ChangeMaps.setBlock w1 gb (.mapIter (some bm) clock (seen.push e.born) clock)) (some gb):=by
   refine ⟨?_,?_,?_,?_, fun q hq hne=>?_⟩
   ·
    rcases hw1 with rfl | rfl <;> rfl
   ·
    rcases hw1 with rfl | rfl <;> rfl
   ·
    rcases hw1 with rfl | rfl <;> rfl
   ·
    show w.heap.size≤(w1.heap.setIfInBounds gb _).size
    rw [hheap]; simp
   ·
    have hne:q≠gb:=fun e=>hne (by rw [e])
    show (w1.heap.setIfInBounds gb _)[q]? = w.heap[q]?
    rw [hheap,Array.getElem?_setIfInBounds_ne (fun e=>hne e.symm)]
  obtain ⟨h5,h6⟩:=ha.upd ri (v:=.pointer (some ⟨gb,0,none⟩)) (c:=.mit (.map (some bm)) clock (seen.push e.born) clock) hgr (fun b hb=>⟨_,_,h1, by cases hb; rfl⟩) (fun b hb=>.inl ⟨_,_,h1,hb⟩)
   (fun S' k'=>.inr ⟨gb,.mapIter (some bm) clock (seen.push e.born) clock,rfl, by show (w1.heap.setIfInBounds gb _)[gb]? = _; rw [hheap]; simp [hlt],gb,bm,rfl,rfl,rfl⟩)
  have hrun':(execOp a.eval ⟨some d,.next x false,ty,pos,after,none⟩).run P w=.ok (.value (.tuple #[.bool true,e.key,e.val])) (ChangeMaps.setBlock w1 gb (.mapIter (some bm) clock (seen.push e.born) clock)):=by
   simp [execOp,hu,hrun]
  exact st (zbz rfl) hrun' (k1 i e k x0 e1 e2 e3 _ _ (h5.put hn ⟨[_,_,_],⟨⟨_,rfl,rfl⟩,trivial,trivial,trivial⟩,rfl⟩) ρ hm)
def mcnt:Nat→Option (Sum Unit Nat)
 | 0=>some (.inl ())
 | k+1=>some (.inr k)
theorem znj:∀ n,iter mcnt n=some ()
 | 0=>by rw [iter]; rfl
 | n+1=>by rw [iter]; exact znj n
def z11r {σ:Type} (Γ:Ctx) (L:(Nat→Value)→z1a) (ri rm:Nat) (u v:Value) (RK:Rep κ) (RV:Rep β) (es:Array MapEntry) (clock:Nat) (mm:List (κ × β)) (Rs:σ→(Nat→Value)→Res) (F:κ × β→σ→Option σ) (E:σ→σ→Prop) (r:σ) (k:Nat):Asn:=fun a w =>
 ∃ s seen c0 nv,Sta Γ (L nv) ((ri,some (u,.mit v clock seen c0))::(rm,some (v,.mapX RK RV es clock mm))::Rs s nv) a w∧clock≤c0∧(z87 es.toList mm seen).length=k∧∃ r',zfq F (z87 es.toList mm seen) s=some r'∧E r r'
theorem zzd {σ:Type} {A:Asn} {ib nb id1:Nat} {t tn tm:Tmp} {ty1 ty2:TypeId} {p1 p2:String} {a1 a2:Array Edge} {body:Code} {u v:Value} {es:Array MapEntry} {clock:Nat} {L:(Nat→Value)→z1a} {s0:σ} {nv0:Nat→Value} {F:κ × β→σ→Option σ}
  (ri rm:Nat) (E:σ→σ→Prop) (hEt:∀ a b c,E a b→E b c→E a c) (hE0:∀ a,E a a) (hC:z129 F E) (Rs:σ→(Nat→Value)→Res) (h0:∀ a w,A a w→Sta Γ (L nv0) ((ri,some (u,.mit v clock #[] clock))::(rm,some (v,.mapX RK RV es clock mm))::Rs s0 nv0) a w)
  (ht:∀ nv,lk (L nv) t=some (.val u)) (hn1:Nat.blt tn Γ.n=true) (hn2:Nat.blt tm Γ.n=true) (hL:∀ nv e1 e2,zr2 ((tm,e1)::(tn,e2)::L nv) (L nv)) (hri:∀ s nv,lr (Rs s nv) ri=none) (hne:Nat.beq ri rm=false)
  (hbody:∀ (Ci Cm:z3v) (k:κ) (x:β) (s:σ) (nv:Nat→Value),ItAt P Ci Cm u v RK RV k x→G ro P (Sta Γ (L nv) ((ri,some (u,Ci))::(rm,some (v,Cm))::Rs s nv)) (.block nb body) (zzn fun s1 aa ww=>∃ nv',Sta Γ (L nv') ((ri,some (u,Ci))::(rm,some (v,Cm))::Rs s1 nv') aa ww) (F (k,x) s)) :
  G ro P A (.block ib (.loop (.seq (.region id1 #[⟨some tn,.next (.tmp t) false,ty1,p1,a1,none⟩,⟨some tm,.extract (.tmp tn) 0,ty2,p2,a2,none⟩] false) (.seq (.cond (.tmp tm) .skip (.exit ib)) (.block nb body)))))
   (zzn fun r aa ww=>∃ s nv,E r s∧Sta Γ (L nv) ((rm,some (v,.map RK RV mm))::Rs s nv) aa ww) (zfq F mm s0):=fun a w ha r hr=>by
 have hsta:=h0 a w ha
 obtain ⟨bm,hbm,m1,m2,m3⟩:=zhb (hsta.conts rm v (.mapX RK RV es clock mm) (by
  rw [z0v,if_neg (Nat.ne_of_beq_eq_false hne),z0v,if_pos rfl]))
 have hleft:z87 es.toList mm #[]=mm:=zs1 m2
 have main:G ro P (fun aa ww=>aa=a∧ww=w) (.block ib (.loop (.seq (.region id1 #[⟨some tn,.next (.tmp t) false,ty1,p1,a1,none⟩,⟨some tm,.extract (.tmp tn) 0,ty2,p2,a2,none⟩] false) (.seq (.cond (.tmp tm) .skip (.exit ib)) (.block nb body)))))
   (zzn fun (_:Unit) aa ww=>∃ s nv,E r s∧Sta Γ (L nv) ((rm,some (v,.map RK RV mm))::Rs s nv) aa ww) (iter mcnt mm.length):=by
  refine z1i (z11r Γ L ri rm u v RK RV es clock mm Rs F E r) ?_ fun k=>?_
  ·
   rintro aa ww ⟨rfl,rfl⟩
   exact ⟨s0,#[],clock,nv0,hsta,Nat.le_refl _, by rw [hleft],r, by rw [hleft]; exact hr,hE0 r⟩
  ·
   rintro aa ww ⟨s,seen,c0,nv,hs,hc,hk,r',hf,hE⟩
   have hlr1:∀ (x:Option (Value × z3v)),lr ((ri,x)::(rm,some (v,z3v.mapX RK RV es clock mm))::Rs s nv) rm=some (v,.mapX RK RV es clock mm):=fun x=>by
    rw [z0v,if_neg (Nat.ne_of_beq_eq_false hne),z0v,if_pos rfl]
   have goal:G ro P (Sta Γ (L nv) ((ri,some (u,.mit v clock seen c0))::(rm,some (v,.mapX RK RV es clock mm))::Rs s nv)) (.seq (.region id1 #[⟨some tn,.next (.tmp t) false,ty1,p1,a1,none⟩,⟨some tm,.extract (.tmp tn) 0,ty2,p2,a2,none⟩] false) (.seq (.cond (.tmp tm) .skip (.exit ib)) (.block nb body)))
     (zm5 ib (z11r Γ L ri rm u v RK RV es clock mm Rs F E r) (zzn fun (_:Unit) aa ww=>∃ s nv,E r s∧Sta Γ (L nv) ((rm,some (v,.map RK RV mm))::Rs s nv) aa ww)) (mcnt k):=by
    refine z0k<|z21 (os:=[⟨some tn,.next (.tmp t) false,ty1,p1,a1,none⟩,⟨some tm,.extract (.tmp tn) 0,ty2,p2,a2,none⟩])<|z133 ri rm hn1 (ht nv) (by rw [z0v,if_pos rfl]) (hlr1 _) hc (fun hnil=>?_) (fun i e kk x e1 e2 e3=>?_)
    ·
     rw [hnil] at hk hf
     have hk:k=0:=hk.symm
     subst hk
     have hf:s=r':=Option.some.inj hf
     subst hf
     refine R hn2 (ext (es:=[.rd z0j false]) (by show lk _ _=_; rw [z1y,if_pos rfl]) rfl)<|z1q<|z0e<|z0k<|zbc (by show lk _ _=_; rw [z1y,if_pos rfl])<|z1c<|z0m<|z0l<|z41 fun aa ww h=>⟨s,nv,hE,?_⟩
     have h':Sta Γ (L nv) ((ri,some (u,.mit v clock seen c0))::(rm,some (v,.mapX RK RV es clock mm))::Rs s nv) aa ww:=⟨h.size,h.defers, fun t' e' ht'=>h.slots t' e' ((hL _ _ _).get ht'),h.conts,h.excl,h.own,h.keep,h.old,h.hid⟩
     refine (h'.recont (c':=.map RK RV mm) rm (hlr1 _) (fun hh=>?_)).less fun q y hq=>?_
     ·
      obtain ⟨b,rfl,q1,q2,q3⟩:=zhb hh
      exact zgj q1 q2 q3
     ·
      rw [z0v] at hq ⊢
      by_cases e:rm=q
      ·
       rw [if_pos e] at hq ⊢; exact hq
      ·
       rw [if_neg e] at hq ⊢
       rw [z0v]
       by_cases e2:ri=q
       ·
        subst e2; rw [hri] at hq; cases hq
       ·
        rw [if_neg e2,z0v,if_neg e]; exact hq
    ·
     obtain ⟨r2,hr2,hE2⟩:=hC _ _ s r' e3 hf
     have hlen:=e3.length_eq
     rw [List.length_cons,hk] at hlen
     subst hlen
     unfold zfq at hr2
     cases hF:F (kk,x) s with
     | none=>rw [hF] at hr2; cases hr2
     | some s1 =>
      rw [hF] at hr2
      have hr2:zfq F (z87 es.toList mm (seen.push e.born)) s1=some r2:=hr2
      refine R hn2 (ext (es:=[.rd z0j true,.junk,.junk]) (by show lk _ _=_; rw [z1y,if_pos rfl]) rfl)<|z1q<|z0e<|z0k<|zez (by show lk _ _=_; rw [z1y,if_pos rfl])<|z2a<|z0e ?_
      intro aa ww h ρ hρ
      have h':Sta Γ (L nv) ((ri,some (u,.mit v clock (seen.push e.born) clock))::(rm,some (v,.mapX RK RV es clock mm))::Rs s nv) aa ww:=by
       refine Sta.less (res:=(ri,some (u,.mit v clock (seen.push e.born) clock))::(ri,some (u,.mit v clock seen c0))::(rm,some (v,.mapX RK RV es clock mm))::Rs s nv) ⟨h.size,h.defers, fun t' e' ht'=>h.slots t' e' ((hL _ _ _).get ht'),h.conts,h.excl,h.own,h.keep,h.old,h.hid⟩ fun q y hq=>?_
       rw [z0v] at hq ⊢
       by_cases e:ri=q
       ·
        rw [if_pos e] at hq ⊢; exact hq
       ·
        rw [if_neg e] at hq ⊢
        rw [z0v,if_neg e]; exact hq
      have hb:=hbody (.mit v clock (seen.push e.born) clock) (.mapX RK RV es clock mm) kk x s nv (itAt e1 e2) aa ww h' s1 hF
      have hρ:Sum.inr (z87 es.toList mm (seen.push e.born)).length=ρ:=Option.some.inj hρ
      subst hρ
      refine ziw (fun ex a3 w3 hq=>?_) hb
      obtain ⟨rfl,nv',hq⟩:=hq
      exact ⟨rfl,s1,seen.push e.born,clock,nv',hq,Nat.le_refl _,rfl,r2,hr2,hEt _ _ _ hE hE2⟩
   exact goal aa ww hs
 exact main a w ⟨rfl,rfl⟩ () (znj _)
end
end
section
open Go Go.RowKit
section
variable {κ β:Type} [DecidableEq κ] {RK:Rep κ} {RV:Rep β}
theorem zmx (k:κ) (x y:β):∀ m:List (κ × β),zaw (zaw m k x) k y=zaw m k y
 | []=>by simp [zaw]
 | p::m=>by
  by_cases h:k=p.1
  ·
   have e1:zaw (p::m) k x=(p.1,x)::m:=if_pos h
   have e2:zaw (p::m) k y=(p.1,y)::m:=if_pos h
   have e3:zaw ((p.1,x)::m) k y=(p.1,y)::m:=if_pos h
   rw [e1,e2,e3]
  ·
   have e1:zaw (p::m) k x=p::zaw m k x:=if_neg h
   have e2:zaw (p::m) k y=p::zaw m k y:=if_neg h
   have e3:zaw (p::zaw m k x) k y=p::zaw (zaw m k x) k y:=if_neg h
   rw [e1,e2,e3,zmx k x y m]
theorem zo7 {k:κ} {x:β}:∀ {m:List (κ × β)},z43 m k=some x→zaw m k x=m
 | [],h=>by cases h
 | p::m,h=>by
  unfold z43 at h
  unfold zaw
  by_cases hk:k=p.1
  ·
   rw [if_pos hk] at h ⊢
   cases h; rfl
  ·
   rw [if_neg hk] at h ⊢
   rw [zo7 h]
theorem zqf (k:κ) (x:β):∀ m:List (κ × β),z43 (zaw m k x) k=some x
 | []=>by simp [zaw,z43]
 | p::m=>by
  unfold zaw
  by_cases h:k=p.1
  ·
   rw [if_pos h]; simp [z43,h]
  ·
   rw [if_neg h]; simp [z43,h,zqf k x m]
theorem zrc {k:κ} {z:β} {e:MapEntry} {S:Blk} {w:World}:∀ {es:List MapEntry} {m:List (κ × β)} {i:Nat},zf1 RK RV S w es m→fnd k es m i=none→fnd k (es++[e]) (m++[(k,z)]) i=some (i+es.length,e.val)
 | [],[],i,_,_=>by simp [fnd]
 | e0::es,p::m,i,h,h0=>by
  simp only [fnd] at h0
  split at h0
  ·
   cases h0
  ·
   rename_i hk
   simp only [List.cons_append,fnd,if_neg hk]
   rw [zrc h.2 h0,List.length_cons]
   congr 2
   omega
 | [],_::_,_,h,_=>h.elim
 | _::_,[],_,h,_=>h.elim
def z3v.mapP (RK:Rep κ) (RV:Rep β) (m:List (κ × β)) (k:κ) (z:β) (born:Nat):z3v where
 nil _ _ _:=False
 nilm _ h:=h
 nilb h:=h.elim
 rel S w v o:=∃ b es clock i u e,v=.map (some b)∧o=.map es clock∧zf1 RK RV S w es.toList (zaw m k z)∧zr6 es.toList clock∧fnd k es.toList (zaw m k z) 0=some (i,u)∧es.toList[i]? = some e∧e.born=born
 mono k h:=by obtain ⟨b,es,clock,i,u,e,h1,h2,h3,h4⟩:=h; exact ⟨b,es,clock,i,u,e,h1,h2,h3.mono k,h4⟩
theorem znz {m:List (κ × β)} {k:κ} {z:β} {born:Nat} {S:Blk} {w:World} {v:Value} (h:(z3v.mapP RK RV m k z born).holds S w v):∃ b es clock i u e,v=.map (some b)∧w.heap[b]? = some (.map es clock)∧zf1 RK RV S w es.toList (zaw m k z)∧zr6 es.toList clock∧fnd k es.toList (zaw m k z) 0=some (i,u)∧es.toList[i]? = some e∧e.born=born:=by
 rcases h with h | ⟨b,o,h1,h2,b',es,clock,i,u,e,rfl,rfl,h3⟩
 ·
  exact h.elim
 ·
  simp only [z4l,Option.some.injEq] at h1
  subst h1
  exact ⟨_,es,clock,i,u,e,rfl,h2,h3⟩
theorem zmb {es:Array MapEntry} {i:Nat} {e:MapEntry} (hn:(es.toList.map (·.born)).Nodup) (h:es.toList[i]? = some e):es.findIdx? (fun x=>(x.born:Int)==(e.born:Int))=some i:=by
 obtain ⟨hi,he⟩:=List.getElem?_eq_some_iff.1 h
 rw [Array.findIdx?_eq_some_iff_getElem]
 have he':es[i]'(by simpa using hi)=e:=by rw [← Array.getElem_toList]; exact he
 refine ⟨by simpa using hi, by rw [he']; simp, fun j hj=>?_⟩
 have hp:=List.pairwise_iff_getElem.1 hn j i (by rw [List.length_map]; omega) (by rw [List.length_map]; exact hi) hj
 simp only [List.getElem_map] at hp
 rw [he] at hp
 simp only [beq_iff_eq,Int.natCast_inj]
 simpa using hp
end
section
variable {ρ:Type} {P:Program} {Γ:Ctx} {l l0:z1a} {res res0:Res} {ws:List Nat} {m m1 m2:Option ρ} {os:List Oper} {N:ρ→Exit→Act→World→Prop}
 {d:Tmp} {op:Op} {ty:TypeId} {pos:String} {after:Array Edge} {g:Option (Nat × Bool)} {fuel i:Nat} {listed listed':Array Bool} {rest:List Oper}
def EffE (P:Program) (Γ:Ctx) (l:z1a) (res:Res) (o:Oper) (r:Nat) (v0:Value) (e:Nat→Ent) (c:Nat→z3v):Prop:=∀ a w,Sta Γ l res a w →
 ∃ w' v n,(execOp a.eval o).run P w=.ok (.value v) w'∧(Sta Γ l ((r,some (v0,c n))::res) a w'∧z9e (Shr Γ.H res w) (Shr Γ.H ((r,some (v0,c n))::res) w') w w')∧zws res r w w'∧(e n).holds (Shr Γ.H ((r,some (v0,c n))::res) w') w' v
theorem oDoE {r:Nat} {e:Nat→Ent} {v0:Value} {c:Nat→z3v} {c0:z3v} (i:Nat) (hi:os.toArray[i]? = some ⟨some d,op,ty,pos,after,g⟩) (hg:Grd os l ⟨some d,op,ty,pos,after,g⟩ true) (hn:Nat.blt d Γ.n=true) (hl:listed.setIfInBounds i true=listed') (hw:ws.contains r=true) (hv:lr res r=some (v0,c0))
  (he:EffE P Γ l res ⟨some d,op,ty,pos,after,g⟩ r v0 e c) (k:∀ n,GH P os Γ ((d,.junk)::l0) res0 ws ((d,e n)::l) ((r,some (v0,c n))::res) N fuel listed' m):GO P os Γ l0 res0 ws l res N fuel listed i m:=fun a w0 w ha ρ' hm=>by
 obtain ⟨w',v,n,h1,h2,h3,h4⟩:=he a w ha.s
 have hgw:=hg.wanted ha.s
 unfold wpOp
 simp only [hi,hgw,if_true]
 refine .inl ?_
 unfold Oper.wp; rw [h1]
 have hS:=ha.grew hw h2 h3 (fun b hb=>.inl ⟨v0,c0,hv,hb⟩)
 refine ⟨hS.cw,?_⟩
 rw [hl]
 exact k n _ w0 w' (hS.put hn trivial h4) ρ' hm
theorem hDoE {r:Nat} {e:Nat→Ent} {v0:Value} {c:Nat→z3v} {c0:z3v} (i:Nat) (hi:os.toArray[i]? = some ⟨some d,op,ty,pos,after,g⟩) (hr:Region.ready .any os.toArray listed=[i]) (hg:Grd os l ⟨some d,op,ty,pos,after,g⟩ true) (hn:Nat.blt d Γ.n=true) (hl:listed.setIfInBounds i true=listed') (hw:ws.contains r=true) (hv:lr res r=some (v0,c0))
  (he:EffE P Γ l res ⟨some d,op,ty,pos,after,g⟩ r v0 e c) (k:∀ n,GH P os Γ ((d,.junk)::l0) res0 ws ((d,e n)::l) ((r,some (v0,c n))::res) N fuel listed' m):GH P os Γ l0 res0 ws l res N (fuel+1) listed m :=
 hAlt [i] hr rfl ⟨oDoE i hi hg hn hl hw hv he k,trivial⟩
variable {κ β:Type} [DecidableEq κ] {RK:Rep κ} {RV:Rep β} {mm:List (κ × β)} {x y s:Operand} {v:Value} {k:κ} {x0 b0:β} {T K V:TypeId} {n by_:Nat} {z:Value}
theorem men (r:Nat) (hx:opE l x=some (.val v)) (hr:lr res r=some (v,.map RK RV mm)) (hy:opE l y=some (.rd RK k)) (hK:zku P K RK n) (hT:P.underlying T=some (.map K V)) (hV:TI P V z RV.sz by_) (hz:Zr RV z.cells.toList x0) (hzv:z=RV.val z.cells.toList) :
  EffE P Γ l res ⟨some d,.mapEntry T x y,ty,pos,after,g⟩ r v (fun n=>.tup [.rd RV ((z43 mm k).getD x0),.rd z09 (n:Int)]) (fun n=>.mapP RK RV mm k ((z43 mm k).getD x0) n):=fun a w ha=>by
 have e1:=(ha.vl hx).1
 obtain ⟨bk,es,clock,rfl,h1,h2,h3⟩:=zir (ha.conts r v _ hr)
 have hy1:=ha.vl hy
 obtain ⟨cs,hk1,hk2⟩:=hy1
 have hck:=hK.chk hk1 10000 (Nat.le_of_ble_eq_true hK.deep) false w
 rw [← hk2] at hck
 have hf:=zj1 hK ⟨cs,hk1,hk2⟩ w h2
 have hbi:=hK.bits hk1 10000 (Nat.le_of_ble_eq_true hK.deep)
 rw [← hk2] at hbi
 have hlt:bk<w.heap.size:=(Array.getElem?_eq_some_iff.1 h1).1
 cases hq:fnd k es.toList mm 0 with
 | none =>
  obtain ⟨q1,q2,-⟩:=zj3 h2 hq
  have hu:=ha.upd r (v:=.map (some bk)) (c:=.mapP RK RV mm k ((z43 mm k).getD x0) clock) (w':={ w with heap:=w.heap.setIfInBounds bk (.map (es.push { key:=a.eval y,val:=z,born:=clock }) (clock+1)) }) z91 (fun bb hbb=>⟨_,_,hr, by cases hbb; rfl⟩) (fun bb hbb=>.inl ⟨_,_,hr,hbb⟩)
   (fun S' k'=>.inr ⟨bk,_,rfl, by simp [hlt],bk,es.push { key:=a.eval y,val:=z,born:=clock },clock+1,es.toList.length,z,{ key:=a.eval y,val:=z,born:=clock },rfl,rfl, by
    rw [q2,Array.toList_push]
    refine (h2.mono k').push (Rep.vrel.mono ⟨cs,hk1,hk2⟩ k') ?_
    rw [q1]; exact ⟨_,hz _ _,hzv⟩, by rw [Array.toList_push]; exact h3.push rfl, by rw [q2,Array.toList_push,zrc h2 hq,Nat.zero_add], by rw [Array.toList_push]; simp,rfl⟩)
  refine ⟨_,.tuple #[z,.int .i64 (clock:Int)],clock,?_,hu,⟨some bk,z91, fun bb hbb=>⟨_,_,hr, by cases hbb; rfl⟩⟩,⟨[z,.int .i64 (clock:Int)],⟨?_,z73,trivial⟩,rfl⟩⟩
  ·
   have:(Instr.mapEntry T (a.eval x) (a.eval y)).run P w=.ok (.tuple #[z,.int .i64 (clock:Int)]) { w with heap:=w.heap.setIfInBounds bk (.map (es.push { key:=a.eval y,val:=z,born:=clock }) (clock+1)) }:=by
    rw [e1]
    unfold Instr.mapEntry
    simp only [Sem.run_bind,run_underlying hT,Result.andThen,MapKept.run_getObj_map h1,hck,hf,hq,zbh hV,MapKept.run_setObj_map _ h1,Sem.run_pure,goInt]
   simp [execOp,this]
  ·
   rw [q1]; exact ⟨_,hz _ _,hzv⟩
 | some ju =>
  obtain ⟨j,u⟩:=ju
  obtain ⟨-,e,x1,q1,q2,q3,q4,q5,q6,q7⟩:=zeq h2 hq
  simp only [Nat.sub_zero] at q1 q6
  have hj:es[j]? = some e:=by rw [← Array.getElem?_toList]; exact q1
  have hkey:e.key=a.eval y:=by
   obtain ⟨cs',h4,h5⟩:=q5
   rw [h5,hk2,hK.one h4 hk1]
  have hsame:Instr.sameBits 10000 e.key (a.eval y)=true:=by rw [hkey]; exact hbi
  have hmod:es.modify j (fun e=>{ e with key:=a.eval y })=es:=by
   apply Array.toList_inj.1
   rw [Array.toList_modify]
   apply List.ext_getElem?
   intro i
   simp only [List.getElem?_modify]
   by_cases hi:j=i
   ·
    subst hi
    rw [q1]
    show some (if j=j then _ else _)=_
    rw [if_pos rfl,← hkey]
   ·
    simp [hi]
  have hself:zaw mm k x1=mm:=zo7 q3
  have hu:=ha.upd r (v:=.map (some bk)) (c:=.mapP RK RV mm k ((z43 mm k).getD x0) e.born) (w':={ w with heap:=w.heap.setIfInBounds bk (.map es clock) }) z91 (fun bb hbb=>⟨_,_,hr, by cases hbb; rfl⟩) (fun bb hbb=>.inl ⟨_,_,hr,hbb⟩)
   (fun S' k'=>.inr ⟨bk,_,rfl, by simp [hlt],bk,es,clock,j,u,e,rfl,rfl, by rw [q3]; show zf1 RK RV S' _ es.toList (zaw mm k x1); rw [hself]; exact h2.mono k',h3, by rw [q3]; show fnd k es.toList (zaw mm k x1) 0=_; rw [hself]; exact hq,q1,rfl⟩)
  refine ⟨_,.tuple #[u,.int .i64 (e.born:Int)],e.born,?_,hu,⟨some bk,z91, fun bb hbb=>⟨_,_,hr, by cases hbb; rfl⟩⟩,⟨[u,.int .i64 (e.born:Int)],⟨?_,z73,trivial⟩,rfl⟩⟩
  ·
   have:(Instr.mapEntry T (a.eval x) (a.eval y)).run P w=.ok (.tuple #[u,.int .i64 (e.born:Int)]) { w with heap:=w.heap.setIfInBounds bk (.map es clock) }:=by
    rw [e1]
    unfold Instr.mapEntry
    simp only [Sem.run_bind,run_underlying hT,Result.andThen,MapKept.run_getObj_map h1,hck,hf,hq,hj,Option.map_some,Option.getD_some,Instr.keyThatStays,hsame,if_true,Sem.run_pure,goInt]
    rw [hmod,MapKept.run_setObj_map _ h1]
   simp [execOp,this]
  ·
   have hq4:RV.vrel (Shr Γ.H res w) w u ((z43 mm k).getD x0):=by rw [q3,← q2]; exact q4
   exact Rep.vrel.mono hq4 hu.2
theorem ens {T:TypeId} (r:Nat) (hx:opE l x=some (.val v)) (hr:lr res r=some (v,.mapP RK RV mm k x0 n)) (hs:opE l s=some (.rd z09 (n:Int))) (hy:opE l y=some (.rd RV b0)) :
  zyf P Γ l res ⟨none,.entryStore T x s y,ty,pos,after,g⟩ r (v,.map RK RV (zaw mm k b0)):=fun a w ha=>by
 have e1:=(ha.vl hx).1
 have e2:a.eval s=.int .i64 (n:Int):=z4d (ha.vl hs)
 have e3:(asInt (.int .i64 (n:Int))).run P w=.ok (n:Int) w:=rfl
 obtain ⟨bk,es,clock,i,u,e,rfl,h1,h2,h3,h4,h5,h6⟩:=znz (ha.conts r v _ hr)
 have hy1:=ha.vl hy
 have hlt:bk<w.heap.size:=(Array.getElem?_eq_some_iff.1 h1).1
 obtain ⟨-,e',x1,q1,q2,q3,q4,q5,q6,q7⟩:=zeq h2 h4
 simp only [Nat.sub_zero] at q6
 have hfi:=zmb h3.1 h5
 rw [h6] at hfi
 refine ⟨{ w with heap:=w.heap.setIfInBounds bk (.map (es.modify i fun e=>{ e with val:=a.eval y }) clock) },?_,?_,some bk,z91, fun bb hbb=>⟨_,_,hr, by cases hbb; rfl⟩⟩
 ·
  have:(Instr.entryStore T (a.eval x) (a.eval s) (a.eval y)).run P w=.ok () { w with heap:=w.heap.setIfInBounds bk (.map (es.modify i fun e=>{ e with val:=a.eval y }) clock) }:=by
   rw [e1,e2]
   unfold Instr.entryStore
   simp only [Sem.run_bind,Result.andThen,MapKept.run_getObj_map h1,e3,Sem.run_pure,hfi,MapKept.run_setObj_map _ h1]
  simp [execOp,this]
 ·
  refine ha.upd r (v:=.map (some bk)) z91 (fun bb hbb=>⟨_,_,hr, by cases hbb; rfl⟩) (fun bb hbb=>.inl ⟨_,_,hr,hbb⟩) (fun S' k'=>zgj (es:=es.modify i fun e=>{ e with val:=a.eval y }) (clock:=clock) (by simp [hlt]) ?_ ?_)
  ·
   rw [Array.toList_modify,← zmx k x0 b0 mm]
   exact q6 S' _ _ b0 k' (Rep.vrel.mono hy1 k')
  ·
   rw [Array.toList_modify]; exact h3.modify (fun _=>rfl)
theorem mlkP {n':Nat} (r:Nat) (hx:opE l x=some (.val v)) (hr:lr res r=some (v,.mapP RK RV mm k x0 n')) (hy:opE l y=some (.rd RK k)) (hK:zku P K RK n) (hT:P.underlying T=some (.map K V)) :
  Run Eq P Γ l res ⟨some d,.lookup T x y false,ty,pos,after,g⟩ (.rd RV x0):=fun a w ha=>by
 have e1:=(ha.vl hx).1
 obtain ⟨bk,es,clock,i,u,e,rfl,h1,h2,h3,h4,h5,h6⟩:=znz (ha.conts r v _ hr)
 obtain ⟨cs,hk1,hk2⟩:=ha.vl hy
 have hck:=fun em w'=>hK.chk hk1 10000 (Nat.le_of_ble_eq_true hK.deep) em w'
 rw [← hk2] at hck
 have hf:=fun w'=>zj1 hK ⟨cs,hk1,hk2⟩ w' h2
 obtain ⟨-,e',x1,q1,q2,q3,q4,q5,q6,q7⟩:=zeq h2 h4
 have hx1:x1=x0:=by rw [zqf] at q3; exact (Option.some.inj q3).symm
 subst hx1
 refine ⟨u, fun w' hw'=>?_, by rw [← q2]; exact q4⟩
 subst hw'
 have:(Instr.lookup T (a.eval x) (a.eval y) false).run P w=.ok u w:=by
  rw [e1]
  unfold Instr.lookup
  simp only [Sem.run_bind,run_underlying hT,Result.andThen,MapKept.run_getObj_map h1,Sem.run_pure,hck,hf,h4]
  rfl
 simp [execOp,this]
end
end
section
open Go Go.RowKit
set_option maxRecDepth 100000
def z49 (a0:List z00) (s2:Int):Option (Sum (Sum Bool Unit) Int) :=
 if decide (s2<(a0.length:Int)) then
  if decide (s2≤10) then
   idx a0 s2 >>= fun x5 =>
   z9d x5 >>= fun r7 =>
   if r7 then
    some (.inl (.inl true))
   else
    some (.inr (w64 (s2+1)))
  else
   some (.inl (.inr ()))
 else
  some (.inl (.inr ()))
def z9h (a0:List z00):Option (Bool) :=
 z4v (iter (z49 a0) 0) fun s1 =>
 some (decide (10<(a0.length:Int))) >>= fun y10 =>
 some y10
theorem zfl (a0:List z00):z1x Tryz.prog 9 [.rd (z02 z01) a0] [] (z9h a0) (fun r nv=>⟨[.rd z0j r],[]⟩):=by
 refine z2n 22 Tryz.func9 Z Z Z fun H w=>?_
 refine gSR<|Zb Z<|z6v (fun (s1:Unit) aa ww=>Sta (ctx 22 H [] w) [(0,.rd (z02 z01) a0)] [] aa ww) ?_ (fun s1=>?_)
 ·
  refine gSR<|Zb Z<|z1i (fun (s2:Int) aa ww=>Sta (ctx 22 H [] w) [(0,.rd (z02 z01) a0),(3,.rd z09 s2)] [] aa ww) (fun aa ww h=>Zu h []) (fun s2=>?_)
  refine z0k<|gSR<|Zm Z<|Zm Z<|Zq (z3c Z .rd Z tu22)<|Zq (I.lss Z Z)<|Zm Z<|z1u 8 Z (fun h3=>?_) (fun h3=>?_)
  ·
   refine lKn 7 Z h3<|z1d Zx Z Z (mv Z)<|z1d Zx Z Z (I.leq Z Z)<|Zq (pkT Z Z)<|Zj Z (fun h4=>?_) (fun h4=>?_)
   ·
    refine gKn 10 Z h4<|Zt<|z0k<|z4j<|gSR<|Zm Z<|Zm Z<|z0o fun x5 h6=>Zq (ixR Z Z h6 tu22 z4u Z)<|Zq (ldR Z zbn)<|Zc [] [] Tryz.func45 Z (zg6 _) fun r7 n8=>Zj Z (fun h9=>?_) (fun h9=>?_)
    ·
     refine gSR<|Zb Z<|z0i<|z3y<|z0t<|z6i<|z5t<|Ze [] [] Z
    ·
     refine z2a<|z2t<|z0e<|z21<|Zm Z<|Zq (I.add Z Z)<|Za Z<|z1q<|z14 (fun aa ww h=>Zu h [])
   ·
    refine gKn 10 Z h4<|z1c<|z0m<|z0l<|z5w (fun aa ww h=>Zu h [])
  ·
   refine lKn 7 Z h3<|Zk Z<|Zk Z<|Zq (pkF Z Z)<|Zn<|zbc Z<|z1c<|z0m<|z0l<|z5w (fun aa ww h=>Zu h [])
 ·
  refine gSR<|Zm Z<|Zq (z3c Z .rd Z tu22)<|Zq (I.gtr Z Z)<|Za Z<|z1h 2 Z fun y10=>Zn<|z0i<|Ze [] [] Z
def z1o (a0:List V3) (a1:List V3) (s3:Int):Option (Sum (Sum Bool Unit) Int) :=
 if decide (s3<(a0.length:Int)) then
  idx a0 s3 >>= fun x5 =>
  idx a1 s3 >>= fun x7 =>
  if !decide (x5=x7) then
   some (.inl (.inl false))
  else
   some (.inr (w64 (s3+1)))
 else
  some (.inl (.inr ()))
def z1n (a0:List V3) (a1:List V3):Option (Bool) :=
 if (a0.length:Int) != (a1.length:Int) then
  some false
 else
  z4v (iter (z1o a0 a1) 0) fun s2 =>
  some true
theorem z7o (a0:List V3) (a1:List V3):z1x Tryz.prog 47 [.rd (z02 aZ) a0,.rd (z02 aZ) a1] [] (z1n a0 a1) (fun r nv=>⟨[.rd z0j r],[]⟩):=by
 refine z2n 26 Tryz.func47 Z Z Z fun H w=>?_
 refine gSR<|Zb Z<|z0k<|gSR<|Zm Z<|Zq (z3c Z .rd Z tu24)<|Zm Z<|Zq (z3c Z .rd Z tu24)<|Zq (I.neq Z Z)<|Zj Z (fun h1=>?_) (fun h1=>?_)
 ·
  refine gSR<|Zb Z<|z0i<|z0t<|Ze [] [] Z
 ·
  refine Zt<|z6v (fun (s2:Unit) aa ww=>Sta (ctx 26 H [] w) [] [] aa ww) ?_ (fun s2=>?_)
  ·
   refine gSR<|Zm Z<|Zq (z3c Z .rd Z tu24)<|Zm Z<|Zn<|z1i (fun (s3:Int) aa ww=>Sta (ctx 26 H [] w) [(0,.rd (z02 aZ) a0),(1,.rd (z02 aZ) a1),(12,.rd z09 (a0.length:Int)),(13,.rd z09 s3)] [] aa ww) (fun aa ww h=>Zu h []) (fun s3=>?_)
   refine gSR<|Zq (I.lss Z Z)<|Zn<|z0k<|gIf Z Z (fun h4=>?_) (fun h4=>?_)
   ·
    refine Zt<|z0k<|z4j<|gSR<|Zm Z<|Zb Z<|z0k<|zfk mixed (by kernel_rfl)<|Rq Z (mv Z)<|Rq Z (mv Z)<|z7g fun x5 h6=>Rq Z (ixR Z Z h6 tu24 z2l Z)<|Rq Z (ldR Z z6c)<|Rq Z (mv Z)<|Rq Z (mv Z)<|z7g fun x7 h8=>Rq Z (ixR Z Z h8 tu24 z2l Z)<|Rq Z (ldR Z z6c)<|Rq Z (neA Z Z zwi Z Z zwm)<|zon<|z0e<|gIf Z Z (fun h9=>?_) (fun h9=>?_)
    ·
     refine gSR<|Zb Z<|z0i<|z3y<|z0t<|z6i<|z5t<|Ze [] [] Z
    ·
     refine z2a<|z2t<|z0e<|z21<|Zq (I.add Z Z)<|Zm Z<|z1q<|z14 (fun aa ww h=>Zu h [])
   ·
    refine z1c<|z0m<|z0l<|z5w (fun aa ww h=>Zu h [])
  ·
   refine gSR<|Zb Z<|z0i<|Ze [] [] Z
def z8l (a0:z05) (a1:z05):Option (Bool) :=
 if a0.Author==a1.Author then
  if a0.Stamp==a1.Stamp then
   if decide (a0.Act=a1.Act) then
    if decide (a0.Sig=a1.Sig) then
     z1n a0.Preds a1.Preds >>= fun r7 =>
     some r7
    else
     some false
   else
    some false
  else
   some false
 else
  some false
theorem zio (a0:z05) (a1:z05):z1x Tryz.prog 61 [.rd z03 a0,.rd z03 a1] [] (z8l a0 a1) (fun r nv=>⟨[.rd z0j r],[]⟩):=by
 refine z2n 38 Tryz.func61 Z Z Z fun H w=>?_
 refine gSR<|Eb Z (bx 1 Z) fun v1=>Eb Z (bx 2 Z) fun v2=>Zb Z<|gSR<|Zq (faB 1 Z Z Tryz.underlying72 Z (by exact z5o))<|Zq (ld 1 Z Z (fP (z2w _)) z82 Z)<|Zq (faB 2 Z Z Tryz.underlying72 Z (by exact z5o))<|Zq (ld 2 Z Z (fP (z2w _)) z82 Z)<|Zq (W.eql Z Z)<|Zm Z<|z1u 10 Z (fun h3=>?_) (fun h3=>?_)
 ·
  refine lKn 9 Z h3<|z1d Zx Z Z (faB 1 Z Z Tryz.underlying72 Z (by exact zp4))<|z1d Zx Z Z (ld 1 Z Z (fP (z4i _)) zoo Z)<|z1d Zx Z Z (faB 2 Z Z Tryz.underlying72 Z (by exact zp4))<|z1d Zx Z Z (ld 2 Z Z (fP (z4i _)) zoo Z)<|z1d Zx Z Z (U.eql Z Z)<|Zq (pkT Z Z)<|Zm Z<|z1u 17 Z (fun h4=>?_) (fun h4=>?_)
  ·
   refine lKn 15 Z h4<|lKn 16 Z h4<|z1d Zx Z Z (faB 1 Z Z Tryz.underlying72 Z (by exact zl4))<|z1d Zx Z Z (ld 1 Z Z (fP (z1l _)) ty64 Z)<|z1d Zx Z Z (faB 2 Z Z Tryz.underlying72 Z (by exact zl4))<|z1d Zx Z Z (ld 2 Z Z (fP (z1l _)) ty64 Z)<|z1d Zx Z Z (eqA Z Z eq64 Z Z gq64)<|Zq (pkT Z Z)<|Zm Z<|z1u 24 Z (fun h5=>?_) (fun h5=>?_)
   ·
    refine lKn 22 Z h5<|lKn 23 Z h5<|z1d Zx Z Z (faB 1 Z Z Tryz.underlying72 Z (by exact zmo))<|z1d Zx Z Z (ld 1 Z Z (fP (z2c _)) ty70 Z)<|z1d Zx Z Z (faB 2 Z Z Tryz.underlying72 Z (by exact zmo))<|z1d Zx Z Z (ld 2 Z Z (fP (z2c _)) ty70 Z)<|z1d Zx Z Z (eqA Z Z eq70 Z Z gq70)<|Zq (pkT Z Z)<|Zm Z<|z1u 31 Z (fun h6=>?_) (fun h6=>?_)
    ·
     refine lKn 29 Z h6<|lKn 30 Z h6<|z1d Zx Z Z (faB 1 Z Z Tryz.underlying72 Z (by exact z61))<|z1d Zx Z Z (ld 1 Z Z (fP (z0w _)) z8s Z)<|z1d Zx Z Z (faB 2 Z Z Tryz.underlying72 Z (by exact z61))<|z1d Zx Z Z (ld 2 Z Z (fP (z0w _)) z8s Z)<|zeg [] [] Zx Z Tryz.func47 Z Z (z7o _ _) (Y2 Z Z) rN fun r7 n8=>Zq (pkT Z Z)<|Zb Z<|z0i<|Ze [] [] Z
    ·
     refine lKn 29 Z h6<|lKn 30 Z h6<|Zk Z<|Zk Z<|Zk Z<|Zk Z<|Zk Z<|Zq (pkF Z Z)<|Zb Z<|z0i<|Ze [] [] Z
   ·
    refine lKn 22 Z h5<|lKn 23 Z h5<|Zk Z<|Zk Z<|Zk Z<|Zk Z<|Zk Z<|Zq (pkF Z Z)<|Zm Z<|Zk Z<|Zk Z<|Zk Z<|Zk Z<|Zk Z<|Zq (pkF Z Z)<|Zb Z<|z0i<|Ze [] [] Z
  ·
   refine lKn 15 Z h4<|lKn 16 Z h4<|Zk Z<|Zk Z<|Zk Z<|Zk Z<|Zk Z<|Zq (pkF Z Z)<|Zm Z<|Zk Z<|Zk Z<|Zk Z<|Zk Z<|Zk Z<|Zq (pkF Z Z)<|Zm Z<|Zk Z<|Zk Z<|Zk Z<|Zk Z<|Zk Z<|Zq (pkF Z Z)<|Zb Z<|z0i<|Ze [] [] Z
 ·
  refine lKn 9 Z h3<|Zk Z<|Zk Z<|Zk Z<|Zk Z<|Zk Z<|Zq (pkF Z Z)<|Zm Z<|Zk Z<|Zk Z<|Zk Z<|Zk Z<|Zk Z<|Zq (pkF Z Z)<|Zm Z<|Zk Z<|Zk Z<|Zk Z<|Zk Z<|Zk Z<|Zq (pkF Z Z)<|Zm Z<|Zk Z<|Zk Z<|Zk Z<|Zk Z<|Zk Z<|Zq (pkF Z Z)<|Zb Z<|z0i<|Ze [] [] Z
def z56 (a0:List z00) (s3:Int):Option (Sum (Sum Int Unit) Int) :=
 if decide (s3<(a0.length:Int)) then
  idx a0 s3 >>= fun x5 =>
  zgm x5 >>= fun r8 =>
  if r8 != 0 then
   some (.inl (.inl r8))
  else
   some (.inr (w64 (s3+1)))
 else
  some (.inl (.inr ()))
def z4a (x16:z00) (s19:(List (V3 × z05)) × Int):Option (Sum (Sum (Sum (Sum Int Unit) ((List (V3 × z05)) × Int)) ((List (V3 × z05)))) ((List (V3 × z05)) × Int)) :=
 if decide (s19.2<(x16.IDs.length:Int)) then
  idx x16.IDs s19.2 >>= fun x21 =>
  z4v (some ((z43 s19.1 x21).isSome) >>= fun y26 =>
  if y26 then
   idx x16.Ops s19.2 >>= fun x28 =>
   z8l ((z43 s19.1 x21).getD (⟨0,[],0,(⟨0,[],(⟨0,0,0,[]⟩:z04)⟩:z0f),(⟨0,0⟩:z0a)⟩:z05)) x28 >>= fun r30 =>
   if !r30 then
    some (.inl (.inl (.inl (.inl (.inl 14)))))
   else
    some (.inr ())
  else
   some (.inr ())) fun s24 =>
  idx x16.Ops s19.2 >>= fun x33 =>
  some (.inr (zaw s19.1 x21 x33,w64 (s19.2+1)))
 else
  some (.inl (.inr s19.1))
def z6y (a0:List z00) (s13:(List (V3 × z05)) × Int):Option (Sum (Sum Int Unit) ((List (V3 × z05)) × Int)) :=
 if decide (s13.2<(a0.length:Int)) then
  z4v (idx a0 s13.2 >>= fun x16 =>
  iter (z4a x16) (s13.1,0)) fun s15 =>
  some (.inr (s15,w64 (s13.2+1)))
 else
  some (.inl (.inr ()))
def z36 (a0:List z00):Option (Int) :=
 if decide (5<(a0.length:Int)) then
  some 4
 else
  z4v (iter (z56 a0) 0) fun s2 =>
  z4v (iter (z6y a0) (([]:List (V3 × z05)),0)) fun s12 =>
  some 0
theorem z8u (a0:List z00):z1x Tryz.prog 20 [.rd (z02 z01) a0] [zG1] (z36 a0) (fun r nv=>⟨[.rd z09 r],[(1001,some (.bool true,.glob 1 (z3k 64 z0r) z96))]⟩):=by
 refine z2n 69 Tryz.func20 Z Z Z fun H w=>?_
 refine gSR<|Zb Z<|z0k<|gSR<|Zm Z<|Zq (z3c Z .rd Z tu22)<|Zq (I.gtr Z Z)<|Zj Z (fun h1=>?_) (fun h1=>?_)
 ·
  refine gSR<|Zb Z<|z0i<|z0t<|Ze [] [1001] Z
 ·
  refine Zt<|z6v (fun (s2:Unit) aa ww=>Sta (ctx 69 H [zG1] w) [(0,.rd (z02 z01) a0)] [zG1] aa ww) ?_ (fun s2=>?_)
  ·
   refine gSR<|Zm Z<|Zq (z3c Z .rd Z tu22)<|Zm Z<|Zn<|z1i (fun (s3:Int) aa ww=>Sta (ctx 69 H [zG1] w) [(0,.rd (z02 z01) a0),(16,.rd (z02 z01) a0),(17,.rd z09 (a0.length:Int)),(18,.rd z09 s3)] [zG1] aa ww) (fun aa ww h=>Zu h [1001]) (fun s3=>?_)
   refine gSR<|Zq (I.lss Z Z)<|Zn<|z0k<|gIf Z Z (fun h4=>?_) (fun h4=>?_)
   ·
    refine Zt<|z0k<|z4j<|gSR<|z0o fun x5 h6=>Zq (ixR Z Z h6 tu22 z4u Z)<|Zq (ldR Z zbn)<|Eb Z (z83 1100 z4u (ZrE.nilS (ZrE.nilS ZrE.nil))) fun v7=>zan aZ [.rd (z02 aZ) [],.val (.slice none 0 0)] 1100 [] [.val (.slice none 0 0)] Z Z Z<|zan z03 [.rd (z02 aZ) [],.rd (z02 z03) []] 1100 [.rd (z02 aZ) []] [] Z Z Z<|zco (R:=z01) (⟨[],[]⟩:z00) 1100 Z (Sp.via (Sp.prod (Sp.prod Sp.unit)))<|Es (sto 1100 Z Z fH Z z4u)<|Zn<|gSR<|Zq (ld 1100 Z Z fH zbn Z)<|Zc [1001] [] Tryz.func60 Z (zo6 _) fun r8 n9=>Zb Z<|gSR<|Zm Z<|Zq (I.neq Z Z)<|Zj Z (fun h10=>?_) (fun h10=>?_)
    ·
     refine gSR<|Zm Z<|Zb Z<|z0i<|z3y<|z0t<|z6i<|z5t<|Ze [] [1001] Z
    ·
     refine z2a<|z2t<|z0e<|z21<|Zq (I.add Z Z)<|Zm Z<|z1q<|z14 (fun aa ww h=>Zu h [1001])
   ·
    refine z1c<|z0m<|z0l<|z5w (fun aa ww h=>Zu h [1001])
  ·
   refine gSR<|Ef Z (mkm aZ z03 1101 (Or.inl Z) Tryz.underlying106) fun v11=>Zb Z<|z6v (fun (s12:Unit) aa ww=>Sta (ctx 69 H [zG1] w) [] [zG1] aa ww) ?_ (fun s12=>?_)
   ·
    refine gSR<|Zm Z<|Zq (z3c Z .rd Z tu22)<|Zm Z<|Zn<|z1i (fun (s13:(List (V3 × z05)) × Int) aa ww=>Sta (ctx 69 H [zG1] w) [(6,.val v11),(29,.rd (z02 z01) a0),(30,.rd z09 (a0.length:Int)),(31,.rd z09 s13.2)] [(1101,some (v11,.map aZ z03 s13.1)),zG1] aa ww) (fun aa ww h=>Zu h [1101,1001]) (fun s13=>?_)
    refine gSR<|Zq (I.lss Z Z)<|Zn<|z0k<|gIf Z Z (fun h14=>?_) (fun h14=>?_)
    ·
     refine Zt<|z6v (fun (s15:(List (V3 × z05))) aa ww=>Sta (ctx 69 H [zG1] w) [(6,.val v11),(29,.rd (z02 z01) a0),(30,.rd z09 (a0.length:Int)),(31,.rd z09 s13.2)] [(1101,some (v11,.map aZ z03 s15)),zG1] aa ww) ?_ (fun s15=>?_)
     ·
      refine z4j<|gSR<|z0o fun x16 h17=>Zq (ixR Z Z h17 tu22 z4u Z)<|Zq (ldR Z zbn)<|Eb Z (z83 1102 z4u (ZrE.nilS (ZrE.nilS ZrE.nil))) fun v18=>zan aZ [.rd (z02 aZ) [],.val (.slice none 0 0)] 1102 [] [.val (.slice none 0 0)] Z Z Z<|zan z03 [.rd (z02 aZ) [],.rd (z02 z03) []] 1102 [.rd (z02 aZ) []] [] Z Z Z<|zco (R:=z01) (⟨[],[]⟩:z00) 1102 Z (Sp.via (Sp.prod (Sp.prod Sp.unit)))<|Es (sto 1102 Z Z fH Z z4u)<|Zn<|gSR<|Zq (faB 1102 Z Z Tryz.underlying27 Z (by exact z61))<|Zq (ld 1102 Z Z (fP (z08 _)) z8s Z)<|Zq (z3c Z .rd Z tu24)<|Zm Z<|Zn<|z1i (fun (s19:(List (V3 × z05)) × Int) aa ww=>Sta (ctx 69 H [zG1] w) [(6,.val v11),(8,.val (z07 v18 0)),(29,.rd (z02 z01) a0),(30,.rd z09 (a0.length:Int)),(31,.rd z09 s13.2),(36,.rd (z02 aZ) x16.IDs),(37,.rd z09 (x16.IDs.length:Int)),(38,.rd z09 s19.2)] [(1101,some (v11,.map aZ z03 s19.1)),(1102,some (v18,.box 27 [.rd z01 x16])),zG1] aa ww) (fun aa ww h=>Zu h [1101,1102,1001]) (fun s19=>?_)
      refine gSR<|Zq (I.lss Z Z)<|Zn<|z0k<|gIf Z Z (fun h20=>?_) (fun h20=>?_)
      ·
       refine Zt<|z0k<|z4j<|gSR<|Zm Z<|z0o fun x21 h22=>Zq (ixR Z Z h22 tu24 z2l Z)<|Zq (ldR Z z6c)<|Eb Z (z83 1103 z2l (.zr (R:=aZ) (x:=(Vector.replicate 32 0)) zii)) fun v23=>Za Z<|Es (sto 1103 Z Z fH Z z2l)<|Zn<|z6v (fun (s24:Unit) aa ww=>Sta (ctx 69 H [zG1] w) [(6,.val v11),(8,.val (z07 v18 0)),(9,.rd z09 s19.2),(10,.val (z07 v23 0)),(29,.rd (z02 z01) a0),(30,.rd z09 (a0.length:Int)),(31,.rd z09 s13.2),(36,.rd (z02 aZ) x16.IDs),(37,.rd z09 (x16.IDs.length:Int)),(38,.rd z09 s19.2)] [(1101,some (v11,.map aZ z03 s19.1)),(1102,some (v18,.box 27 [.rd z01 x16])),(1103,some (v23,.box 78 [.rd aZ x21])),zG1] aa ww) ?_ (fun s24=>?_)
       ·
        refine gSR<|Zm Z<|Zq (ld 1103 Z Z fH z6c Z)<|Zq (mlk2 Z (.own 1101 Z Z) Z zqo Tryz.underlying106 zbm zr72 Z)<|Zm Z<|Zq (ext Z Z)<|Zq (ext Z Z)<|Eb Z (z83 1104 zbm (ZrE.rd (R:=z0r) (x:=0) (Zr.num Z) (ZrE.nilS (ZrE.rd (R:=z34) (x:=0) (Zr.num Z) (ZrE.rd (R:=z16) (x:=(⟨0,[],(⟨0,0,0,[]⟩:z04)⟩:z0f)) zzp (ZrE.rd (R:=z1f) (x:=(⟨0,0⟩:z0a)) zz3 ZrE.nil Z) Z) Z)) Z)) fun v25=>zan aZ [.rd z0r 0,.rd (z02 aZ) [],.rd z34 0,.rd z16 (⟨0,[],(⟨0,0,0,[]⟩:z04)⟩:z0f),.rd z1f (⟨0,0⟩:z0a)] 1104 [.rd z0r 0] [.rd z34 0,.rd z16 (⟨0,[],(⟨0,0,0,[]⟩:z04)⟩:z0f),.rd z1f (⟨0,0⟩:z0a)] Z Z Z<|zco (R:=z03) (⟨0,[],0,(⟨0,[],(⟨0,0,0,[]⟩:z04)⟩:z0f),(⟨0,0⟩:z0a)⟩:z05) 1104 Z (Sp.via (Sp.prod (Sp.prod (Sp.prod (Sp.prod (Sp.prod Sp.unit))))))<|Es (sto 1104 Z Z fH Z zbm)<|Za Z<|z1h 12 Z fun y26=>Zn<|z0k<|z5p [] mixed Z Z<|hTk 0 Z Z (mv Z)<|hTk 1 Z Z (mv Z)<|hIf 50 Z Z (fun h27=>?_) (fun h27=>?_)
        ·
         refine hKn 12 Z Z h27<|hKn 49 Z Z h27<|Zg 2 Z Z (ld 1104 Z Z fH ze3 Z)<|Zg 3 Z Z (faB 1102 Z Z Tryz.underlying27 Z (by exact zal))<|Zg 4 Z Z (ld 1102 Z Z (fP (z06 _)) zct Z)<|Zg 5 Z Z (mv Z)<|z2f fun x28 h29=>Zg 6 Z Z (ixR Z Z h29 tu25 zbm Z)<|Zg 7 Z Z (ldR Z ze3)<|z33 8 [] [] Z (by kernel_rfl) Z Zx Z Tryz.func61 Z Z (zio _ _) (Y2 Z Z) rN Z (fun _ _=>z7t) fun r30 n31=>Zg 9 Z Z (ze5 Z)<|hTk 10 Z Z (pkT Z Z)<|z3h (by kernel_rfl)<|z0e<|gIf Z Z (fun h32=>?_) (fun h32=>?_)
         ·
          refine gKn 58 Z h32<|gSR<|Zb Z<|z0i<|z5t<|z3y<|z0t<|z6i<|z3y<|z5t<|z6i<|z5t<|Ze [] [1001] Z
         ·
          refine gKn 58 Z h32<|z2a<|z5w (fun aa ww h=>Zu h [1101,1102,1103,1001])
        ·
         refine hKn 12 Z Z h27<|hKn 49 Z Z h27<|hSk 2 Z Z<|hSk 3 Z Z<|hSk 4 Z Z<|hSk 5 Z Z<|hSk 6 Z Z<|hSk 7 Z Z<|hSk 8 Z Z<|hSk 9 Z Z<|hTk 10 Z Z (pkF Z Z)<|z3h (by kernel_rfl)<|z0e<|zbc Z<|z2a<|z5w (fun aa ww h=>Zu h [1101,1102,1103,1001])
       ·
        refine z5p [1101] mixed Z Z<|hTk 0 Z Z (mv Z)<|hTk 1 Z Z (ld 1103 Z Z fH z6c Z)<|hTk 2 Z Z (faB 1102 Z Z Tryz.underlying27 Z (by exact zal))<|hTk 3 Z Z (ld 1102 Z Z (fP (z06 _)) zct Z)<|hTk 4 Z Z (mv Z)<|z2f fun x33 h34=>hTk 5 Z Z (ixR Z Z h34 tu25 zbm Z)<|hTk 6 Z Z (ldR Z ze3)<|Zp 7 Z Z Z Z Z (mup 1101 Z Z Z Z zqo Tryz.underlying106)<|z3h (by kernel_rfl)<|z2t<|z0e<|z21<|Zq (I.add Z Z)<|Zm Z<|z1q<|z14 (fun aa ww h=>Zu h [1101,1102,1001])
      ·
       refine z1c<|z0m<|z0l<|z2t<|z5w (fun aa ww h=>Zu h [1101,1001])
     ·
      refine z21<|Zq (I.add Z Z)<|Zm Z<|z1q<|z14 (fun aa ww h=>Zu h [1101,1001])
    ·
     refine z1c<|z0m<|z0l<|z5w (fun aa ww h=>Zu h [1001])
   ·
    refine gSR<|Zb Z<|z0i<|Ze [] [1001] Z
def z7u (a0:List z00) (s5:Int):Option (Sum (Sum (Bool × Int) Unit) Int) :=
 if decide (s5<(a0.length:Int)) then
  idx a0 s5 >>= fun x7 =>
  idx a0 0 >>= fun x10 =>
  z1n x7.IDs x10.IDs >>= fun r12 =>
  if !r12 then
   some (.inl (.inl (false,0)))
  else
   some (.inr (w64 (s5+1)))
 else
  some (.inl (.inr ()))
def z8k (a0:List z00):Option (Bool × Int) :=
 z36 a0 >>= fun r1 =>
 if r1 != 0 then
  some (false,r1)
 else
  z4v (iter (z7u a0) 0) fun s4 =>
  some (true,0)
theorem zin (a0:List z00):z1x Tryz.prog 11 [.rd (z02 z01) a0] [zG1] (z8k a0) (fun r nv=>⟨[.rd z0j r.1,.rd z09 r.2],[(1001,some (.bool true,.glob 1 (z3k 64 z0r) z96))]⟩):=by
 refine z2n 27 Tryz.func11 Z Z Z fun H w=>?_
 refine gSR<|Za Z<|Zb Z<|z0k<|gSR<|Zm Z<|Zc [1001] [] Tryz.func20 Z (z8u _) fun r1 n2=>Zb Z<|gSR<|Zm Z<|Zq (I.neq Z Z)<|Zj Z (fun h3=>?_) (fun h3=>?_)
 ·
  refine gSR<|Zm Z<|Za Z<|Zb Z<|z0i<|z0t<|Ze [] [1001] Z
 ·
  refine Zt<|z6v (fun (s4:Unit) aa ww=>Sta (ctx 27 H [zG1] w) [] [zG1] aa ww) ?_ (fun s4=>?_)
  ·
   refine gSR<|Zm Z<|Zq (z3c Z .rd Z tu22)<|Zm Z<|Zn<|z1i (fun (s5:Int) aa ww=>Sta (ctx 27 H [zG1] w) [(0,.rd (z02 z01) a0),(12,.rd (z02 z01) a0),(13,.rd z09 (a0.length:Int)),(14,.rd z09 s5)] [zG1] aa ww) (fun aa ww h=>Zu h [1001]) (fun s5=>?_)
   refine gSR<|Zq (I.lss Z Z)<|Zn<|z0k<|gIf Z Z (fun h6=>?_) (fun h6=>?_)
   ·
    refine Zt<|z0k<|z4j<|gSR<|z0o fun x7 h8=>Zq (ixR Z Z h8 tu22 z4u Z)<|Zq (ldR Z zbn)<|Eb Z (z83 1100 z4u (ZrE.nilS (ZrE.nilS ZrE.nil))) fun v9=>zan aZ [.rd (z02 aZ) [],.val (.slice none 0 0)] 1100 [] [.val (.slice none 0 0)] Z Z Z<|zan z03 [.rd (z02 aZ) [],.rd (z02 z03) []] 1100 [.rd (z02 aZ) []] [] Z Z Z<|zco (R:=z01) (⟨[],[]⟩:z00) 1100 Z (Sp.via (Sp.prod (Sp.prod Sp.unit)))<|Es (sto 1100 Z Z fH Z z4u)<|Zn<|z0k<|z5p [] mixed Z Z<|hTk 0 Z Z (faB 1100 Z Z Tryz.underlying27 Z (by exact z61))<|hTk 1 Z Z (ld 1100 Z Z (fP (z08 _)) z8s Z)<|hTk 2 Z Z (mv Z)<|z2f fun x10 h11=>hTk 3 Z Z (ixR Z Z h11 tu22 z4u Z)<|hTk 4 Z Z (faR Z (z08 _) Tryz.underlying27 Z Z (by exact z61))<|hTk 5 Z Z (ldR Z z8s)<|z33 6 [] [] Z (by kernel_rfl) Z (gd0 Z) Z Tryz.func47 Z Z (z7o _ _) (Y2 Z Z) rN Z (fun _ _=>z7t) fun r12 n13=>hTk 7 Z Z (ze5 Z)<|z3h (by kernel_rfl)<|z0e<|gIf Z Z (fun h14=>?_) (fun h14=>?_)
    ·
     refine gSR<|Za Z<|Zb Z<|z0i<|z3y<|z0t<|z6i<|z5t<|Ze [] [1001] Z
    ·
     refine z2a<|z2t<|z0e<|z21<|Zq (I.add Z Z)<|Zm Z<|z1q<|z14 (fun aa ww h=>Zu h [1001])
   ·
    refine z1c<|z0m<|z0l<|z5w (fun aa ww h=>Zu h [1001])
  ·
   refine gSR<|Za Z<|Zb Z<|z0i<|Ze [] [1001] Z
def z3f (a0:z00) (a1:z00) (s4:Int):Option (Sum (Sum Bool Unit) Int) :=
 if decide (s4<(a0.IDs.length:Int)) then
  idx a0.IDs s4 >>= fun x6 =>
  z2z a1.IDs x6 >>= fun r8 =>
  if decide (0≤r8) then
   idx a0.Ops s4 >>= fun x11 =>
   idx a1.Ops r8 >>= fun x13 =>
   z5d x11 x13 >>= fun r15 =>
   if !r15 then
    some (.inl (.inl true))
   else
    some (.inr (w64 (s4+1)))
  else
   some (.inr (w64 (s4+1)))
 else
  some (.inl (.inr ()))
def z9j (a0:z00) (a1:z00):Option (Bool) :=
 z4v (iter (z3f a0 a1) 0) fun s3 =>
 some false
theorem zg2 (a0:z00) (a1:z00):z1x Tryz.prog 62 [.rd z01 a0,.rd z01 a1] [] (z9j a0 a1) (fun r nv=>⟨[.rd z0j r],[]⟩):=by
 refine z2n 38 Tryz.func62 Z Z Z fun H w=>?_
 refine gSR<|Eb Z (bx 1 Z) fun v1=>Eb Z (bx 2 Z) fun v2=>Zb Z<|z6v (fun (s3:Unit) aa ww=>Sta (ctx 38 H [] w) [] [] aa ww) ?_ (fun s3=>?_)
 ·
  refine gSR<|Zb Z<|z1i (fun (s4:Int) aa ww=>Sta (ctx 38 H [] w) [(2,.val (z07 v1 0)),(3,.val (z07 v2 0)),(5,.rd z09 s4)] [(1,some (v1,.box 27 [.rd z01 a0])),(2,some (v2,.box 27 [.rd z01 a1]))] aa ww) (fun aa ww h=>Zu h [1,2]) (fun s4=>?_)
  refine z0k<|gSR<|Zm Z<|Zq (faB 1 Z Z Tryz.underlying27 Z (by exact z61))<|Zq (ld 1 Z Z (fP (z08 _)) z8s Z)<|Zq (z3c Z .rd Z tu24)<|Zq (I.lss Z Z)<|Zj Z (fun h5=>?_) (fun h5=>?_)
  ·
   refine Zt<|z0k<|z4j<|z0k<|z5p [] mixed Z Z<|hTk 0 Z Z (faB 2 Z Z Tryz.underlying27 Z (by exact z61))<|hTk 1 Z Z (ld 2 Z Z (fP (z08 _)) z8s Z)<|hTk 2 Z Z (faB 1 Z Z Tryz.underlying27 Z (by exact z61))<|hTk 3 Z Z (ld 1 Z Z (fP (z08 _)) z8s Z)<|hTk 4 Z Z (mv Z)<|z2f fun x6 h7=>hTk 5 Z Z (ixR Z Z h7 tu24 z2l Z)<|hTk 6 Z Z (ldR Z z6c)<|z33 7 [] [] Z (by kernel_rfl) Z (gd0 Z) Z Tryz.func39 Z Z (z5y _ _) (Y2 Z Z) rN Z (fun _ _=>z1m) fun r8 n9=>hTk 8 Z Z (asg Z)<|z3h (by kernel_rfl)<|z0e<|z0k<|z5p [] mixed Z Z<|hTk 0 Z Z (mv Z)<|hTk 1 Z Z (I.geq Z Z)<|hTk 2 Z Z (mv Z)<|hIf 24 Z Z (fun h10=>?_) (fun h10=>?_)
   ·
    refine hKn 23 Z Z h10<|Zg 3 Z Z (faB 1 Z Z Tryz.underlying27 Z (by exact zal))<|Zg 4 Z Z (ld 1 Z Z (fP (z06 _)) zct Z)<|Zg 5 Z Z (mv Z)<|z2f fun x11 h12=>Zg 6 Z Z (ixR Z Z h12 tu25 zbm Z)<|Zg 7 Z Z (ldR Z ze3)<|Zg 8 Z Z (faB 2 Z Z Tryz.underlying27 Z (by exact zal))<|Zg 9 Z Z (ld 2 Z Z (fP (z06 _)) zct Z)<|Zg 10 Z Z (mv Z)<|z2f fun x13 h14=>Zg 11 Z Z (ixR Z Z h14 tu25 zbm Z)<|Zg 12 Z Z (ldR Z ze3)<|z33 13 [] [] Z (by kernel_rfl) Z Zx Z Tryz.func59 Z Z (zci _ _) (Y2 Z Z) rN Z (fun _ _=>z7t) fun r15 n16=>Zg 14 Z Z (ze5 Z)<|hTk 15 Z Z (pkT Z Z)<|z3h (by kernel_rfl)<|z0e<|gIf Z Z (fun h17=>?_) (fun h17=>?_)
    ·
     refine gKn 36 Z h17<|gSR<|Zb Z<|z0i<|z3y<|z0t<|z6i<|z5t<|Ze [] [] Z
    ·
     refine gKn 36 Z h17<|z2a<|z2t<|z0e<|z21<|Zm Z<|Zq (I.add Z Z)<|Za Z<|z1q<|z14 (fun aa ww h=>Zu h [1,2])
   ·
    refine hKn 23 Z Z h10<|hSk 3 Z Z<|hSk 4 Z Z<|hSk 5 Z Z<|hSk 6 Z Z<|hSk 7 Z Z<|hSk 8 Z Z<|hSk 9 Z Z<|hSk 10 Z Z<|hSk 11 Z Z<|hSk 12 Z Z<|hSk 13 Z Z<|hSk 14 Z Z<|hTk 15 Z Z (pkF Z Z)<|z3h (by kernel_rfl)<|z0e<|zbc Z<|z2a<|z2t<|z0e<|z21<|Zm Z<|Zq (I.add Z Z)<|Za Z<|z1q<|z14 (fun aa ww h=>Zu h [1,2])
  ·
   refine z1c<|z0m<|z0l<|z5w (fun aa ww h=>Zu h [])
 ·
  refine gSR<|Zb Z<|z0i<|Ze [] [] Z
def z44 (a0:List z00) (s3:Int):Option (Sum (Sum Int Unit) Int) :=
 if decide (s3<(a0.length:Int)) then
  idx a0 s3 >>= fun x5 =>
  z9i x5 >>= fun r7 =>
  if r7 != 0 then
   some (.inl (.inl r7))
  else
   some (.inr (w64 (s3+1)))
 else
  some (.inl (.inr ()))
def z48 (a0:List z00) (s11:Int) (s14:Int):Option (Sum (Sum (Sum (Sum Int Unit) Int) Unit) Int) :=
 if decide (s14<s11) then
  idx a0 s11 >>= fun x16 =>
  idx a0 s14 >>= fun x18 =>
  z9j x16 x18 >>= fun r20 =>
  if r20 then
   some (.inl (.inl (.inl (.inl 14))))
  else
   some (w64 (s14+1)) >>= fun y23 =>
   some (.inr y23)
 else
  some (.inl (.inr ()))
def z5b (a0:List z00) (s11:Int):Option (Sum (Sum Int Unit) Int) :=
 if decide (s11<(a0.length:Int)) then
  z4v (iter (z48 a0 s11) 0) fun s13 =>
  some (w64 (s11+1)) >>= fun y24 =>
  some (.inr y24)
 else
  some (.inl (.inr ()))
def z2g (a0:List z00):Option (Int) :=
 if decide (5<(a0.length:Int)) then
  some 4
 else
  z4v (iter (z44 a0) 0) fun s2 =>
  z4v (iter (z5b a0) 0) fun s10 =>
  some 0
theorem z7h (a0:List z00):z1x Tryz.prog 21 [.rd (z02 z01) a0] [] (z2g a0) (fun r nv=>⟨[.rd z09 r],[]⟩):=by
 refine z2n 44 Tryz.func21 Z Z Z fun H w=>?_
 refine gSR<|Zb Z<|z0k<|gSR<|Zm Z<|Zq (z3c Z .rd Z tu22)<|Zq (I.gtr Z Z)<|Zj Z (fun h1=>?_) (fun h1=>?_)
 ·
  refine gSR<|Zb Z<|z0i<|z0t<|Ze [] [] Z
 ·
  refine Zt<|z6v (fun (s2:Unit) aa ww=>Sta (ctx 44 H [] w) [(0,.rd (z02 z01) a0)] [] aa ww) ?_ (fun s2=>?_)
  ·
   refine gSR<|Zb Z<|z1i (fun (s3:Int) aa ww=>Sta (ctx 44 H [] w) [(0,.rd (z02 z01) a0),(3,.rd z09 s3)] [] aa ww) (fun aa ww h=>Zu h []) (fun s3=>?_)
   refine z0k<|gSR<|Zm Z<|Zm Z<|Zq (z3c Z .rd Z tu22)<|Zq (I.lss Z Z)<|Zj Z (fun h4=>?_) (fun h4=>?_)
   ·
    refine Zt<|z0k<|z4j<|gSR<|Zm Z<|Zm Z<|z0o fun x5 h6=>Zq (ixR Z Z h6 tu22 z4u Z)<|Zq (ldR Z zbn)<|Zc [] [] Tryz.func31 Z (zg5 _) fun r7 n8=>Zb Z<|gSR<|Zm Z<|Zq (I.neq Z Z)<|Zj Z (fun h9=>?_) (fun h9=>?_)
    ·
     refine gSR<|Zm Z<|Zb Z<|z0i<|z3y<|z0t<|z6i<|z5t<|Ze [] [] Z
    ·
     refine z2a<|z2t<|z0e<|z21<|Zm Z<|Zq (I.add Z Z)<|Za Z<|z1q<|z14 (fun aa ww h=>Zu h [])
   ·
    refine z1c<|z0m<|z0l<|z5w (fun aa ww h=>Zu h [])
  ·
   refine z6v (fun (s10:Unit) aa ww=>Sta (ctx 44 H [] w) [] [] aa ww) ?_ (fun s10=>?_)
   ·
    refine gSR<|Zb Z<|z1i (fun (s11:Int) aa ww=>Sta (ctx 44 H [] w) [(0,.rd (z02 z01) a0),(5,.rd z09 s11)] [] aa ww) (fun aa ww h=>Zu h []) (fun s11=>?_)
    refine z0k<|gSR<|Zm Z<|Zm Z<|Zq (z3c Z .rd Z tu22)<|Zq (I.lss Z Z)<|Zj Z (fun h12=>?_) (fun h12=>?_)
    ·
     refine Zt<|z6v (fun (s13:Unit) aa ww=>Sta (ctx 44 H [] w) [(0,.rd (z02 z01) a0),(5,.rd z09 s11)] [] aa ww) ?_ (fun s13=>?_)
     ·
      refine z4j<|gSR<|Zb Z<|z1i (fun (s14:Int) aa ww=>Sta (ctx 44 H [] w) [(0,.rd (z02 z01) a0),(5,.rd z09 s11),(6,.rd z09 s14)] [] aa ww) (fun aa ww h=>Zu h []) (fun s14=>?_)
      refine z0k<|gSR<|Zm Z<|Zm Z<|Zq (I.lss Z Z)<|Zj Z (fun h15=>?_) (fun h15=>?_)
      ·
       refine Zt<|z0k<|z4j<|z0k<|z5p [] mixed Z Z<|hTk 0 Z Z (mv Z)<|hTk 1 Z Z (mv Z)<|z2f fun x16 h17=>hTk 2 Z Z (ixR Z Z h17 tu22 z4u Z)<|hTk 3 Z Z (ldR Z zbn)<|hTk 4 Z Z (mv Z)<|hTk 5 Z Z (mv Z)<|z2f fun x18 h19=>hTk 6 Z Z (ixR Z Z h19 tu22 z4u Z)<|hTk 7 Z Z (ldR Z zbn)<|z33 8 [] [] Z (by kernel_rfl) Z (gd0 Z) Z Tryz.func62 Z Z (zg2 _ _) (Y2 Z Z) rN Z (fun _ _=>z7t) fun r20 n21=>z3h (by kernel_rfl)<|z0e<|gIf Z Z (fun h22=>?_) (fun h22=>?_)
       ·
        refine gSR<|Zb Z<|z0i<|z3y<|z0t<|z6i<|z3y<|z5t<|z6i<|z5t<|Ze [] [] Z
       ·
        refine z2a<|z2t<|z0e<|z21<|Zm Z<|Zq (I.add Z Z)<|Za Z<|z1h 6 Z fun y23=>z1q<|z14 (fun aa ww h=>Zu h [])
      ·
       refine z1c<|z0m<|z0l<|z2t<|z5w (fun aa ww h=>Zu h [])
     ·
      refine z21<|Zm Z<|Zq (I.add Z Z)<|Za Z<|z1h 5 Z fun y24=>z1q<|z14 (fun aa ww h=>Zu h [])
    ·
     refine z1c<|z0m<|z0l<|z5w (fun aa ww h=>Zu h [])
   ·
    refine gSR<|Zb Z<|z0i<|Ze [] [] Z
def z64 (a0:List z00) (s5:Int):Option (Sum (Sum (Bool × Int) Unit) Int) :=
 if decide (s5<(a0.length:Int)) then
  idx a0 s5 >>= fun x7 =>
  idx a0 0 >>= fun x9 =>
  z2o x7.IDs x9.IDs >>= fun r11 =>
  if !r11 then
   some (.inl (.inl (false,0)))
  else
   some (.inr (w64 (s5+1)))
 else
  some (.inl (.inr ()))
def z71 (a0:List z00):Option (Bool × Int) :=
 z2g a0 >>= fun r1 =>
 if r1 != 0 then
  some (false,r1)
 else
  z4v (iter (z64 a0) 1) fun s4 =>
  some (true,0)
theorem zge (a0:List z00):z1x Tryz.prog 12 [.rd (z02 z01) a0] [] (z71 a0) (fun r nv=>⟨[.rd z0j r.1,.rd z09 r.2],[]⟩):=by
 refine z2n 28 Tryz.func12 Z Z Z fun H w=>?_
 refine gSR<|Za Z<|Zb Z<|z0k<|gSR<|Zm Z<|Zc [] [] Tryz.func21 Z (z7h _) fun r1 n2=>Zb Z<|gSR<|Zm Z<|Zq (I.neq Z Z)<|Zj Z (fun h3=>?_) (fun h3=>?_)
 ·
  refine gSR<|Zm Z<|Za Z<|Zb Z<|z0i<|z0t<|Ze [] [] Z
 ·
  refine Zt<|z6v (fun (s4:Unit) aa ww=>Sta (ctx 28 H [] w) [] [] aa ww) ?_ (fun s4=>?_)
  ·
   refine gSR<|Zb Z<|z1i (fun (s5:Int) aa ww=>Sta (ctx 28 H [] w) [(0,.rd (z02 z01) a0),(5,.rd z09 s5)] [] aa ww) (fun aa ww h=>Zu h []) (fun s5=>?_)
   refine z0k<|gSR<|Zm Z<|Zm Z<|Zq (z3c Z .rd Z tu22)<|Zq (I.lss Z Z)<|Zj Z (fun h6=>?_) (fun h6=>?_)
   ·
    refine Zt<|z0k<|z4j<|z0k<|z5p [] mixed Z Z<|hTk 0 Z Z (mv Z)<|hTk 1 Z Z (mv Z)<|z2f fun x7 h8=>hTk 2 Z Z (ixR Z Z h8 tu22 z4u Z)<|hTk 3 Z Z (faR Z (z08 _) Tryz.underlying27 Z Z (by exact z61))<|hTk 4 Z Z (ldR Z z8s)<|hTk 5 Z Z (mv Z)<|z2f fun x9 h10=>hTk 6 Z Z (ixR Z Z h10 tu22 z4u Z)<|hTk 7 Z Z (faR Z (z08 _) Tryz.underlying27 Z Z (by exact z61))<|hTk 8 Z Z (ldR Z z8s)<|z33 9 [] [] Z (by kernel_rfl) Z (gd0 Z) Z Tryz.func48 Z Z (z69 _ _) (Y2 Z Z) rN Z (fun _ _=>z7t) fun r11 n12=>hTk 10 Z Z (ze5 Z)<|z3h (by kernel_rfl)<|z0e<|gIf Z Z (fun h13=>?_) (fun h13=>?_)
    ·
     refine gSR<|Za Z<|Zb Z<|z0i<|z3y<|z0t<|z6i<|z5t<|Ze [] [] Z
    ·
     refine z2a<|z2t<|z0e<|z21<|Zm Z<|Zq (I.add Z Z)<|Za Z<|z1q<|z14 (fun aa ww h=>Zu h [])
   ·
    refine z1c<|z0m<|z0l<|z5w (fun aa ww h=>Zu h [])
  ·
   refine gSR<|Za Z<|Zb Z<|z0i<|Ze [] [] Z
def zb6 (a0:Int):Option (Bool) :=
 some true
theorem zfu (a0:Int):z1x Tryz.prog 50 [.rd z09 a0] [] (zb6 a0) (fun r nv=>⟨[.rd z0j r],[]⟩):=by
 refine z2n 3 Tryz.func50 Z Z Z fun H w=>?_
 refine gSR<|Zb Z<|gSR<|Zb Z<|z0i<|Ze [] [] Z
def z1k (x8:z00) (s11:(List (V3 × Int)) × (List (V3 × z05)) × Int):Option (Sum ((List (V3 × Int)) × (List (V3 × z05))) ((List (V3 × Int)) × (List (V3 × z05)) × Int)) :=
 if decide (s11.2.2<(x8.IDs.length:Int)) then
  idx x8.IDs s11.2.2 >>= fun x13 =>
  (some (zaw s11.1 x13 (w64 (((z43 s11.1 x13).getD 0)+1)))) >>= fun s16 =>
  idx x8.Ops s11.2.2 >>= fun x19 =>
  some (.inr (s16,zaw s11.2.1 x13 x19,w64 (s11.2.2+1)))
 else
  some (.inl (s11.1,s11.2.1))
def z15 (a0:List z00) (s5:(List (V3 × Int)) × (List (V3 × z05)) × Int):Option (Sum ((List (V3 × Int)) × (List (V3 × z05))) ((List (V3 × Int)) × (List (V3 × z05)) × Int)) :=
 if decide (s5.2.2<(a0.length:Int)) then
  (idx a0 s5.2.2 >>= fun x8 =>
  iter (z1k x8) (s5.1,s5.2.1,0)) >>= fun s7 =>
  some (.inr (s7.1,s7.2,w64 (s5.2.2+1)))
 else
  some (.inl (s5.1,s5.2.1))
def z3d (k27:V3) (x28:Int) (s25:(List V3)):Option ((List V3)) :=
 zb6 x28 >>= fun r37 =>
 if r37 then
  app 32 s25 [k27] >>= fun x41 =>
  some x41
 else
  some s25
def z1j (s4:(List (V3 × Int)) × (List (V3 × z05))) (r44:List V3) (s47:(List z05) × Int):Option (Sum ((List z05)) ((List z05) × Int)) :=
 if decide (s47.2<(r44.length:Int)) then
  idx r44 s47.2 >>= fun x50 =>
  z12 (((z43 s4.2 x50).getD (⟨0,[],0,(⟨0,[],(⟨0,0,0,[]⟩:z04)⟩:z0f),(⟨0,0⟩:z0a)⟩:z05)).Preds) >>= fun r54 =>
  app 112 s47.1 [(⟨((z43 s4.2 x50).getD (⟨0,[],0,(⟨0,[],(⟨0,0,0,[]⟩:z04)⟩:z0f),(⟨0,0⟩:z0a)⟩:z05)).Author,r54,((z43 s4.2 x50).getD (⟨0,[],0,(⟨0,[],(⟨0,0,0,[]⟩:z04)⟩:z0f),(⟨0,0⟩:z0a)⟩:z05)).Stamp,((z43 s4.2 x50).getD (⟨0,[],0,(⟨0,[],(⟨0,0,0,[]⟩:z04)⟩:z0f),(⟨0,0⟩:z0a)⟩:z05)).Act,((z43 s4.2 x50).getD (⟨0,[],0,(⟨0,[],(⟨0,0,0,[]⟩:z04)⟩:z0f),(⟨0,0⟩:z0a)⟩:z05)).Sig⟩:z05)] >>= fun x57 =>
  some (.inr (x57,w64 (s47.2+1)))
 else
  some (.inl s47.1)
def z2u (a0:List z00):Option (z00) :=
 (iter (z15 a0) (([]:List (V3 × Int)),([]:List (V3 × z05)),0)) >>= fun s4 =>
 (zfq (fun e s=>z3d e.1 e.2 s) s4.1 []) >>= fun r32 =>
 zmu r32 >>= fun r44 =>
 (iter (z1j s4 r44) ([],0)) >>= fun s46 =>
 some (⟨r44,s46⟩:z00)
theorem z9s (a0:List z00):z1x Tryz.prog 49 [.rd (z02 z01) a0,.val (.func (.func 50) #[] #[])] [] (z2u a0) (fun r nv=>⟨[.rd z01 r],[]⟩):=by
 refine z2n 89 Tryz.func49 Z Z Z fun H w=>?_
 refine gSR<|Eb Z (z83 1 z4u (ZrE.nilS (ZrE.nilS ZrE.nil))) fun v1=>Zn<|gSR<|Ef Z (mkm aZ z09 2 (Or.inl Z) Tryz.underlying123) fun v2=>Zb Z<|gSR<|Ef Z (mkm aZ z03 3 (Or.inl Z) Tryz.underlying106) fun v3=>Zb Z<|z7y (fun (s4:(List (V3 × Int)) × (List (V3 × z05))) aa ww=>Sta (ctx 89 H [] w) [(1,.val (.func (.func 50) #[] #[])),(4,.val (z07 v1 0)),(5,.val v2),(6,.val v3)] [(1,some (v1,.box 27 [.val (.slice none 0 0),.val (.slice none 0 0)])),(2,some (v2,.map aZ z09 s4.1)),(3,some (v3,.map aZ z03 s4.2))] aa ww) ?_ (fun s4=>?_)
 ·
  refine gSR<|Zm Z<|Zq (z3c Z .rd Z tu22)<|Zm Z<|Zn<|z1i (fun (s5:(List (V3 × Int)) × (List (V3 × z05)) × Int) aa ww=>Sta (ctx 89 H [] w) [(1,.val (.func (.func 50) #[] #[])),(4,.val (z07 v1 0)),(5,.val v2),(6,.val v3),(19,.rd (z02 z01) a0),(20,.rd z09 (a0.length:Int)),(21,.rd z09 s5.2.2)] [(1,some (v1,.box 27 [.val (.slice none 0 0),.val (.slice none 0 0)])),(2,some (v2,.map aZ z09 s5.1)),(3,some (v3,.map aZ z03 s5.2.1))] aa ww) (fun aa ww h=>Zu h [1,2,3]) (fun s5=>?_)
  refine gSR<|Zq (I.lss Z Z)<|Zn<|z0k<|gIf Z Z (fun h6=>?_) (fun h6=>?_)
  ·
   refine Zt<|z7y (fun (s7:(List (V3 × Int)) × (List (V3 × z05))) aa ww=>Sta (ctx 89 H [] w) [(1,.val (.func (.func 50) #[] #[])),(4,.val (z07 v1 0)),(5,.val v2),(6,.val v3),(19,.rd (z02 z01) a0),(20,.rd z09 (a0.length:Int)),(21,.rd z09 s5.2.2)] [(1,some (v1,.box 27 [.val (.slice none 0 0),.val (.slice none 0 0)])),(2,some (v2,.map aZ z09 s7.1)),(3,some (v3,.map aZ z03 s7.2))] aa ww) ?_ (fun s7=>?_)
   ·
    refine z4j<|gSR<|z0o fun x8 h9=>Zq (ixR Z Z h9 tu22 z4u Z)<|Zq (ldR Z zbn)<|Eb Z (z83 4 z4u (ZrE.nilS (ZrE.nilS ZrE.nil))) fun v10=>zan aZ [.rd (z02 aZ) [],.val (.slice none 0 0)] 4 [] [.val (.slice none 0 0)] Z Z Z<|zan z03 [.rd (z02 aZ) [],.rd (z02 z03) []] 4 [.rd (z02 aZ) []] [] Z Z Z<|zco (R:=z01) (⟨[],[]⟩:z00) 4 Z (Sp.via (Sp.prod (Sp.prod Sp.unit)))<|Es (sto 4 Z Z fH Z z4u)<|Zn<|gSR<|Zq (faB 4 Z Z Tryz.underlying27 Z (by exact z61))<|Zq (ld 4 Z Z (fP (z08 _)) z8s Z)<|Zq (z3c Z .rd Z tu24)<|Zm Z<|Zn<|z1i (fun (s11:(List (V3 × Int)) × (List (V3 × z05)) × Int) aa ww=>Sta (ctx 89 H [] w) [(1,.val (.func (.func 50) #[] #[])),(4,.val (z07 v1 0)),(5,.val v2),(6,.val v3),(8,.val (z07 v10 0)),(19,.rd (z02 z01) a0),(20,.rd z09 (a0.length:Int)),(21,.rd z09 s5.2.2),(26,.rd (z02 aZ) x8.IDs),(27,.rd z09 (x8.IDs.length:Int)),(28,.rd z09 s11.2.2)] [(1,some (v1,.box 27 [.val (.slice none 0 0),.val (.slice none 0 0)])),(2,some (v2,.map aZ z09 s11.1)),(3,some (v3,.map aZ z03 s11.2.1)),(4,some (v10,.box 27 [.rd z01 x8]))] aa ww) (fun aa ww h=>Zu h [1,2,3,4]) (fun s11=>?_)
    refine gSR<|Zq (I.lss Z Z)<|Zn<|z0k<|gIf Z Z (fun h12=>?_) (fun h12=>?_)
    ·
     refine Zt<|z0k<|z4j<|gSR<|Zm Z<|z0o fun x13 h14=>Zq (ixR Z Z h14 tu24 z2l Z)<|Zq (ldR Z z6c)<|Eb Z (z83 5 z2l (.zr (R:=aZ) (x:=(Vector.replicate 32 0)) zii)) fun v15=>Za Z<|Es (sto 5 Z Z fH Z z2l)<|Zn<|z7y (fun (s16:(List (V3 × Int))) aa ww=>Sta (ctx 89 H [] w) [(1,.val (.func (.func 50) #[] #[])),(4,.val (z07 v1 0)),(5,.val v2),(6,.val v3),(8,.val (z07 v10 0)),(9,.rd z09 s11.2.2),(10,.val (z07 v15 0)),(19,.rd (z02 z01) a0),(20,.rd z09 (a0.length:Int)),(21,.rd z09 s5.2.2),(26,.rd (z02 aZ) x8.IDs),(27,.rd z09 (x8.IDs.length:Int)),(28,.rd z09 s11.2.2)] [(1,some (v1,.box 27 [.val (.slice none 0 0),.val (.slice none 0 0)])),(2,some (v2,.map aZ z09 s16)),(3,some (v3,.map aZ z03 s11.2.1)),(4,some (v10,.box 27 [.rd z01 x8])),(5,some (v15,.box 78 [.rd aZ x13]))] aa ww) ?_ (fun s16=>?_)
     ·
      refine z5p [2] mixed Z Z<|hTk 0 Z Z (mv Z)<|hTk 1 Z Z (ld 5 Z Z fH z6c Z)<|hAlt [2,4] (by kernel_rfl) Z ⟨?_,?_,trivial⟩
      ·
       refine oRun 2 Z (gd0 Z) Z Z z1m (mlk Z (.own 2 Z Z) Z zqo Tryz.underlying123 ti3 (Zr.num Z) Z)<|hTk 3 Z Z (I.add Z Z)<|hDoE 4 Z (by kernel_rfl) (gd0 Z) Z Z Z Z (men 2 Z Z Z zqo Tryz.underlying123 ti3 (Zr.num Z) Z) fun n17=>Zf 5 Z Z z1m (ext Z Z)<|Zp 6 Z Z Z Z Z (ens 2 Z Z Z Z)<|z3h (by kernel_rfl)<|z41 (fun aa ww h=>Zu h [1,2,3,4,5])
      ·
       refine oDoE 4 Z (gd0 Z) Z Z Z Z (men 2 Z Z Z zqo Tryz.underlying123 ti3 (Zr.num Z) Z) fun n18=>Zf 5 Z Z z1m (ext Z Z)<|hRun 2 Z (by kernel_rfl) (gd0 Z) Z Z z1m (mlkP 2 Z Z Z zqo Tryz.underlying123)<|hTk 3 Z Z (I.add Z Z)<|Zp 6 Z Z Z Z Z (ens 2 Z Z Z Z)<|z3h (by kernel_rfl)<|z41 (fun aa ww h=>Zu h [1,2,3,4,5])
     ·
      refine z5p [3] mixed Z Z<|hTk 0 Z Z (mv Z)<|hTk 1 Z Z (ld 5 Z Z fH z6c Z)<|hTk 2 Z Z (faB 4 Z Z Tryz.underlying27 Z (by exact zal))<|hTk 3 Z Z (ld 4 Z Z (fP (z06 _)) zct Z)<|hTk 4 Z Z (mv Z)<|z2f fun x19 h20=>hTk 5 Z Z (ixR Z Z h20 tu25 zbm Z)<|hTk 6 Z Z (ldR Z ze3)<|Zp 7 Z Z Z Z Z (mup 3 Z Z Z Z zqo Tryz.underlying106)<|z3h (by kernel_rfl)<|z2t<|z0e<|z21<|Zq (I.add Z Z)<|Zm Z<|z1q<|z14 (fun aa ww h=>Zu h [1,2,3,4])
    ·
     refine z1c<|z0m<|z0l<|z2t<|z41 (fun aa ww h=>Zu h [1,2,3])
   ·
    refine z21<|Zq (I.add Z Z)<|Zm Z<|z1q<|z14 (fun aa ww h=>Zu h [1,2,3])
  ·
   refine z1c<|z0m<|z0l<|z41 (fun aa ww h=>Zu h [1,2,3])
 ·
  refine gSR<|Eb Z (z83 57 z4u (ZrE.nilS (ZrE.nilS ZrE.nil))) fun v21=>Zn<|z0k<|gSR<|Zm Z<|z12q 58 2 Z Z Z Tryz.underlying123 fun u22 es23 ck24=>Zn<|zms aZ 78 62<|z128 (zzd (L:=fun (n26:Nat→Value)=>[(1,.val (.func (.func 50) #[] #[])),(4,.val (z07 v1 0)),(6,.val v3),(11,.val (z07 v21 0)),(49,.val u22)]) (nv0:=nvl [(.slice none 0 0)]) 58 2 List.Perm (fun _ _ _ h k=>h.trans k) (fun _=>.refl _) (zyt.comm (by_:=32) ?_) (fun (s25:(List V3)) (n26:Nat→Value)=>[(1,some (v1,.box 27 [.val (.slice none 0 0),.val (.slice none 0 0)])),(3,some (v3,.map aZ z03 s4.2)),(61,some ((n26 0),.list aZ 78 s25)),(57,some (v21,.box 27 [.val (n26 0),.val (.slice none 0 0)]))]) (fun aa ww h=>Zu h [58,2,1,3,62,57]) (fun _=>rfl) Z Z (fun _ _ _=>(Zs Z Z Z Z<|sS Z<|sN)) (fun _ _=>rfl) Z (fun Ci30 Cm31 k27 x28 s25 n26 hI29=>?_)) (fun r32=>eExM fun xp33 n35 hp34=>?_)
  ·
   intro e; unfold z3d; repeat first | exact ⟨some [], fun _=>rfl⟩ | exact zuu _ | refine zqp fun _=>?_ | refine zua ?_ ?_
  ·
   refine z4j<|gSR<|Zq (entM 58 2 Z Z Z hI29)<|Zq (ext Z Z)<|Zq (ext Z Z)<|Eb Z (z83 63 z2l (.zr (R:=aZ) (x:=(Vector.replicate 32 0)) zii)) fun v36=>Es (sto 63 Z Z fH Z z2l)<|Zb Z<|gSR<|Zm Z<|Zm Z<|zmf [] [] (gd0 Z) Z Z Tryz.func50 Z Z (zfu _) (Y1 Z) (cN) rN fun r37 n38=>Zj Z (fun h39=>?_) (fun h39=>?_)
   ·
    refine z21<|Zq (faB 57 Z Z Tryz.underlying27 Z (by exact z61))<|Zq (ldV 57 Z Z (At.cast At.here Z) zzo Z)<|Zq (ld 63 Z Z fH z6c Z)<|Ef Z (lit (R:=aZ) ([k27]:List V3) 64 (pP Z Z<|pN) Z tu24 z2l Z Z) fun v40=>zhi 64 [61] Z (fS Z<|fN)<|z0o fun x41 h42=>Ef Z (apn 61 Z Z Z .rd h42 tu24 z2l Z Z Z) fun v43=>Zq (faB 57 Z Z Tryz.underlying27 Z (by exact z61))<|Es (zqd 57 Z Z (zah.cast (zah.here z0b) Z) Z z20 z0b z61)<|z1q<|z2t<|z41 (fun aa ww h=>⟨nvl [v43],Zu h [58,2,1,3,61,57]⟩)
   ·
    refine z2a<|z2t<|z41 (fun aa ww h=>⟨nvl [(n26 0)],Zu h [58,2,1,3,61,57]⟩)
  ·
   refine z0e<|gSR<|Zq (faB 57 Z Z Tryz.underlying27 Z (by exact z61))<|Zq (ldV 57 Z Z (At.cast At.here Z) zzo Z)<|call [61] [(1,61)] Z Tryz.func88 Z Z (z1x.congr (zld (hp34).symm) (zql _ _)) (Y2 Z Z) (y1 Z) fun r44 n45=>Zn<|z7y (fun (s46:(List z05)) aa ww=>∃ nv:Nat→Value,Sta (ctx 89 H [] w) [(4,.val (z07 v1 0)),(11,.val (z07 v21 0))] [(1,some (v1,.box 27 [.val (.slice none 0 0),.val (.slice none 0 0)])),(61,some ((n35 0),.list aZ 78 r44)),(69,some ((nv 0),.list z03 72 s46)),(57,some (v21,.box 27 [.val (n35 0),.val (nv 0)]))] aa ww) ?_ (fun s46=>?_)
   ·
    refine gSR<|Zq (faB 57 Z Z Tryz.underlying27 Z (by exact z61))<|Zq (ldV 57 Z Z (At.cast At.here Z) zzo Z)<|Zq (z3c Z (.own 61 Z) Z tu24)<|Zm Z<|Zn<|zms z03 72 75<|z1i (fun (s47:(List z05) × Int) aa ww=>∃ nv:Nat→Value,Sta (ctx 89 H [] w) [(4,.val (z07 v1 0)),(6,.val v3),(11,.val (z07 v21 0)),(68,.val (n35 0)),(69,.rd z09 (r44.length:Int)),(70,.rd z09 s47.2)] [(1,some (v1,.box 27 [.val (.slice none 0 0),.val (.slice none 0 0)])),(3,some (v3,.map aZ z03 s4.2)),(61,some ((n35 0),.list aZ 78 r44)),(74,some ((nv 0),.list z03 72 s47.1)),(57,some (v21,.box 27 [.val (n35 0),.val (nv 0)]))] aa ww) (fun aa ww h=>⟨nvl [(.slice none 0 0)],Zu h [1,3,61,75,57]⟩) (fun s47=>?_)
    refine gEx fun n48=>gSR<|Zq (I.lss Z Z)<|Zn<|z0k<|gIf Z Z (fun h49=>?_) (fun h49=>?_)
    ·
     refine Zt<|z0k<|z4j<|gSR<|z0o fun x50 h51=>Zq (ixO 61 Z Z Z h51 tu24 z2l)<|Zq (ld 61 Z Z (Foc.el h51) z6c Z)<|Eb Z (z83 76 z2l (.zr (R:=aZ) (x:=(Vector.replicate 32 0)) zii)) fun v52=>Es (sto 76 Z Z fH Z z2l)<|Zn<|gSR<|Zm Z<|Zq (ld 76 Z Z fH z6c Z)<|Zq (mlk Z (.own 3 Z Z) Z zqo Tryz.underlying106 zbm zr72 Z)<|Eb Z (z83 77 zbm (ZrE.rd (R:=z0r) (x:=0) (Zr.num Z) (ZrE.nilS (ZrE.rd (R:=z34) (x:=0) (Zr.num Z) (ZrE.rd (R:=z16) (x:=(⟨0,[],(⟨0,0,0,[]⟩:z04)⟩:z0f)) zzp (ZrE.rd (R:=z1f) (x:=(⟨0,0⟩:z0a)) zz3 ZrE.nil Z) Z) Z)) Z)) fun v53=>zan aZ [.rd z0r 0,.rd (z02 aZ) [],.rd z34 0,.rd z16 (⟨0,[],(⟨0,0,0,[]⟩:z04)⟩:z0f),.rd z1f (⟨0,0⟩:z0a)] 77 [.rd z0r 0] [.rd z34 0,.rd z16 (⟨0,[],(⟨0,0,0,[]⟩:z04)⟩:z0f),.rd z1f (⟨0,0⟩:z0a)] Z Z Z<|zco (R:=z03) (⟨0,[],0,(⟨0,[],(⟨0,0,0,[]⟩:z04)⟩:z0f),(⟨0,0⟩:z0a)⟩:z05) 77 Z (Sp.via (Sp.prod (Sp.prod (Sp.prod (Sp.prod (Sp.prod Sp.unit))))))<|Es (sto 77 Z Z fH Z zbm)<|Zn<|gSR<|Zq (faB 77 Z Z Tryz.underlying72 Z (by exact z61))<|Zq (ld 77 Z Z (fP (z0w _)) z8s Z)<|Zc [] [(100,78)] Tryz.func55 Z (z3a _) fun r54 n55=>Zq (faB 77 Z Z Tryz.underlying72 Z (by exact z61))<|lSpl (R:=z03) 77 Z (Sp.via (Sp.prod (Sp.prod (Sp.prod (Sp.prod (Sp.prod Sp.unit))))))<|Es (zqd 77 Z Z (zah.cast (zah.next z6r (zah.here z6r)) Z) Z z20 z0b z61)<|Zn<|z21<|Zq (faB 57 Z Z Tryz.underlying27 Z (by exact zal))<|Zq (ldV 57 Z Z (At.cast (At.next z0b At.here) Z) sc25 Z)<|zox [.rd z0r (((z43 s4.2 x50).getD (⟨0,[],0,(⟨0,[],(⟨0,0,0,[]⟩:z04)⟩:z0f),(⟨0,0⟩:z0a)⟩:z05)).Author),.rd (z02 aZ) r54,.rd z34 (((z43 s4.2 x50).getD (⟨0,[],0,(⟨0,[],(⟨0,0,0,[]⟩:z04)⟩:z0f),(⟨0,0⟩:z0a)⟩:z05)).Stamp),.rd z16 (((z43 s4.2 x50).getD (⟨0,[],0,(⟨0,[],(⟨0,0,0,[]⟩:z04)⟩:z0f),(⟨0,0⟩:z0a)⟩:z05)).Act),.rd z1f (((z43 s4.2 x50).getD (⟨0,[],0,(⟨0,[],(⟨0,0,0,[]⟩:z04)⟩:z0f),(⟨0,0⟩:z0a)⟩:z05)).Sig)] 77 78 [.rd z0r (((z43 s4.2 x50).getD (⟨0,[],0,(⟨0,[],(⟨0,0,0,[]⟩:z04)⟩:z0f),(⟨0,0⟩:z0a)⟩:z05)).Author)] [.rd z34 (((z43 s4.2 x50).getD (⟨0,[],0,(⟨0,[],(⟨0,0,0,[]⟩:z04)⟩:z0f),(⟨0,0⟩:z0a)⟩:z05)).Stamp),.rd z16 (((z43 s4.2 x50).getD (⟨0,[],0,(⟨0,[],(⟨0,0,0,[]⟩:z04)⟩:z0f),(⟨0,0⟩:z0a)⟩:z05)).Act),.rd z1f (((z43 s4.2 x50).getD (⟨0,[],0,(⟨0,[],(⟨0,0,0,[]⟩:z04)⟩:z0f),(⟨0,0⟩:z0a)⟩:z05)).Sig)] Z Z Z Z Z<|zco (R:=z03) (⟨((z43 s4.2 x50).getD (⟨0,[],0,(⟨0,[],(⟨0,0,0,[]⟩:z04)⟩:z0f),(⟨0,0⟩:z0a)⟩:z05)).Author,r54,((z43 s4.2 x50).getD (⟨0,[],0,(⟨0,[],(⟨0,0,0,[]⟩:z04)⟩:z0f),(⟨0,0⟩:z0a)⟩:z05)).Stamp,((z43 s4.2 x50).getD (⟨0,[],0,(⟨0,[],(⟨0,0,0,[]⟩:z04)⟩:z0f),(⟨0,0⟩:z0a)⟩:z05)).Act,((z43 s4.2 x50).getD (⟨0,[],0,(⟨0,[],(⟨0,0,0,[]⟩:z04)⟩:z0f),(⟨0,0⟩:z0a)⟩:z05)).Sig⟩:z05) 77 Z (Sp.via (Sp.prod (Sp.prod (Sp.prod (Sp.prod (Sp.prod Sp.unit))))))<|Zq (ld 77 Z Z fH ze3 Z)<|Ef Z (lit (R:=z03) ([(⟨((z43 s4.2 x50).getD (⟨0,[],0,(⟨0,[],(⟨0,0,0,[]⟩:z04)⟩:z0f),(⟨0,0⟩:z0a)⟩:z05)).Author,r54,((z43 s4.2 x50).getD (⟨0,[],0,(⟨0,[],(⟨0,0,0,[]⟩:z04)⟩:z0f),(⟨0,0⟩:z0a)⟩:z05)).Stamp,((z43 s4.2 x50).getD (⟨0,[],0,(⟨0,[],(⟨0,0,0,[]⟩:z04)⟩:z0f),(⟨0,0⟩:z0a)⟩:z05)).Act,((z43 s4.2 x50).getD (⟨0,[],0,(⟨0,[],(⟨0,0,0,[]⟩:z04)⟩:z0f),(⟨0,0⟩:z0a)⟩:z05)).Sig⟩:z05)]:List z05) 79 (pP Z Z<|pN) Z tu25 zbm Z Z) fun v56=>zhi 79 [84] Z (fS Z<|fN)<|z0o fun x57 h58=>Ef Z (apn 74 Z Z Z .rd h58 tu25 zbm Z Z Z) fun v59=>Zq (faB 57 Z Z Tryz.underlying27 Z (by exact zal))<|Es (zqd 57 Z Z (zah.cast (zah.next z0b (zah.here z0b)) Z) Z z20 z0b zal)<|z1q<|z2t<|z0e<|z21<|Zq (I.add Z Z)<|Zm Z<|z1q<|z14 (fun aa ww h=>⟨nvl [v59],Zu h [1,3,61,74,57]⟩)
    ·
     refine z1c<|z0m<|z0l<|z41 (fun aa ww h=>⟨nvl [(n48 0)],Zu h [1,61,74,57]⟩)
   ·
    refine gEx fun n60=>gSR<|zox [.rd (z02 aZ) r44,.val (n60 0)] 57 61 [] [.val (n60 0)] Z Z Z Z Z<|zox [.rd (z02 aZ) r44,.rd (z02 z03) s46] 57 69 [.rd (z02 aZ) r44] [] Z Z Z Z Z<|zco (R:=z01) (⟨r44,s46⟩:z00) 57 Z (Sp.via (Sp.prod (Sp.prod Sp.unit)))<|Zq (ld 57 Z Z fH zbn Z)<|zan aZ [.rd (z02 aZ) [],.val (.slice none 0 0)] 1 [] [.val (.slice none 0 0)] Z Z Z<|zan z03 [.rd (z02 aZ) [],.rd (z02 z03) []] 1 [.rd (z02 aZ) []] [] Z Z Z<|zco (R:=z01) (⟨[],[]⟩:z00) 1 Z (Sp.via (Sp.prod (Sp.prod Sp.unit)))<|Es (sto 1 Z Z fH Z z4u)<|Zn<|z0i<|zcl [] [] Z (eC 1 Z Z zbn<|eN) (rN)
def z4z (a0:List z00):Option (z00 × Int) :=
 z36 a0 >>= fun r2 =>
 if r2 != 0 then
  some ((⟨[],[]⟩:z00),r2)
 else
  z2u a0 >>= fun r5 =>
  if decide (60<(r5.Ops.length:Int)) then
   some ((⟨[],[]⟩:z00),4)
  else
   some (r5,0)
theorem zcu (a0:List z00):z1x Tryz.prog 13 [.rd (z02 z01) a0] [zG1] (z4z a0) (fun r nv=>⟨[.rd z01 r.1,.rd z09 r.2],[(1001,some (.bool true,.glob 1 (z3k 64 z0r) z96))]⟩):=by
 refine z2n 20 Tryz.func13 Z Z Z fun H w=>?_
 refine gSR<|Eb Z (z83 1 z4u (ZrE.nilS (ZrE.nilS ZrE.nil))) fun v1=>Zb Z<|z0k<|gSR<|Zm Z<|Zc [1001] [] Tryz.func20 Z (z8u _) fun r2 n3=>Zb Z<|gSR<|Zm Z<|Zq (I.neq Z Z)<|Zj Z (fun h4=>?_) (fun h4=>?_)
 ·
  refine gSR<|Zq (zwj [(0,1),(1,1)] Tryz.underlying27 z4u (ZrE.nilS (ZrE.nilS ZrE.nil)) Z (zkg.done Z))<|Zm Z<|Es (zwr 1 Z Z (z0s.cast (z0s.cons z0b (z0s.cons z0b z0s.nil)) Z) Z (z7x.cons z20 (z7x.cons z20 z7x.nil)) (z0s.cast (z0s.cons z0b (z0s.cons z0b z0s.nil)) Z) z4u)<|Zb Z<|z0i<|z0t<|zp1 aZ [.rd (z02 aZ) [],.val (.slice none 0 0)] 1 [] [.val (.slice none 0 0)] Z Z Z<|zp1 z03 [.rd (z02 aZ) [],.rd (z02 z03) []] 1 [.rd (z02 aZ) []] [] Z Z Z<|zz4 (R:=z01) (⟨[],[]⟩:z00) 1 Z (Sp.via (Sp.prod (Sp.prod Sp.unit)))<|zcl [] [1001] Z (eC 1 Z Z zbn<|eE Z<|eN) (y1 Z)
 ·
  refine Zt<|gSR<|Zm Z<|Zc [] [] Tryz.func49 Z (z9s _) fun r5 n6=>Eb Z (z83 2 z4u (ZrE.nilS (ZrE.nilS ZrE.nil))) fun v7=>zan aZ [.rd (z02 aZ) [],.val (.slice none 0 0)] 2 [] [.val (.slice none 0 0)] Z Z Z<|zan z03 [.rd (z02 aZ) [],.rd (z02 z03) []] 2 [.rd (z02 aZ) []] [] Z Z Z<|zco (R:=z01) (⟨[],[]⟩:z00) 2 Z (Sp.via (Sp.prod (Sp.prod Sp.unit)))<|Es (sto 2 Z Z fH Z z4u)<|Zn<|z0k<|gSR<|Zq (faB 2 Z Z Tryz.underlying27 Z (by exact zal))<|Zq (ld 2 Z Z (fP (z06 _)) zct Z)<|Zq (z3c Z .rd Z tu25)<|Zq (I.gtr Z Z)<|Zj Z (fun h8=>?_) (fun h8=>?_)
  ·
   refine gSR<|Zq (zwj [(0,1),(1,1)] Tryz.underlying27 z4u (ZrE.nilS (ZrE.nilS ZrE.nil)) Z (zkg.done Z))<|Es (zwr 1 Z Z (z0s.cast (z0s.cons z0b (z0s.cons z0b z0s.nil)) Z) Z (z7x.cons z20 (z7x.cons z20 z7x.nil)) (z0s.cast (z0s.cons z0b (z0s.cons z0b z0s.nil)) Z) z4u)<|Zb Z<|z0i<|z0t<|zp1 aZ [.rd (z02 aZ) [],.val (.slice none 0 0)] 1 [] [.val (.slice none 0 0)] Z Z Z<|zp1 z03 [.rd (z02 aZ) [],.rd (z02 z03) []] 1 [.rd (z02 aZ) []] [] Z Z Z<|zz4 (R:=z01) (⟨[],[]⟩:z00) 1 Z (Sp.via (Sp.prod (Sp.prod Sp.unit)))<|zcl [] [1001] Z (eC 1 Z Z zbn<|eE Z<|eN) (y1 Z)
  ·
   refine Zt<|gSR<|Zq (ld 2 Z Z fH zbn Z)<|zan aZ [.rd (z02 aZ) [],.val (.slice none 0 0)] 1 [] [.val (.slice none 0 0)] Z Z Z<|zan z03 [.rd (z02 aZ) [],.rd (z02 z03) []] 1 [.rd (z02 aZ) []] [] Z Z Z<|zco (R:=z01) (⟨[],[]⟩:z00) 1 Z (Sp.via (Sp.prod (Sp.prod Sp.unit)))<|Es (sto 1 Z Z fH Z z4u)<|Zb Z<|z0i<|zcl [] [1001] Z (eC 1 Z Z zbn<|eE Z<|eN) (y1 Z)
def z5e (a0:List z00) (s4:(List V3) × (List z05) × Int) (s7:(List V3) × (List z05) × Int):Option (Sum ((List V3) × (List z05)) ((List V3) × (List z05) × Int)) :=
 idx a0 s4.2.2 >>= fun x8 =>
 if decide (s7.2.2<(x8.IDs.length:Int)) then
  idx a0 s4.2.2 >>= fun x11 =>
  idx x11.IDs s7.2.2 >>= fun x13 =>
  z2z s7.1 x13 >>= fun r15 =>
  if decide (r15<0) then
   idx a0 s4.2.2 >>= fun x18 =>
   idx x18.IDs s7.2.2 >>= fun x20 =>
   idx a0 s4.2.2 >>= fun x22 =>
   idx x22.Ops s7.2.2 >>= fun x24 =>
   z95 (⟨s7.1,s7.2.1⟩:z00) x20 x24 >>= fun r26 =>
   some (w64 (s7.2.2+1)) >>= fun y28 =>
   some (.inr (r26.IDs,r26.Ops,y28))
  else
   some (w64 (s7.2.2+1)) >>= fun y29 =>
   some (.inr (s7.1,s7.2.1,y29))
 else
  some (.inl (s7.1,s7.2.1))
def z5c (a0:List z00) (s4:(List V3) × (List z05) × Int):Option (Sum ((List V3) × (List z05)) ((List V3) × (List z05) × Int)) :=
 if decide (s4.2.2<(a0.length:Int)) then
  (iter (z5e a0 s4) (s4.1,s4.2.1,0)) >>= fun s6 =>
  some (w64 (s4.2.2+1)) >>= fun y30 =>
  some (.inr (s6.1,s6.2,y30))
 else
  some (.inl (s4.1,s4.2.1))
def z9k (a0:List z00):Option (z00) :=
 (iter (z5c a0) ([],[],0)) >>= fun s3 =>
 some (⟨s3.1,s3.2⟩:z00)
end
section
open Go Go.RowKit
set_option maxRecDepth 100000
theorem zfs (a0:List z00):z1x Tryz.prog 51 [.rd (z02 z01) a0] [] (z9k a0) (fun r nv=>⟨[.rd z01 r],[]⟩):=by
 refine z2n 53 Tryz.func51 Z Z Z fun H w=>?_
 refine gSR<|Eb Z (z83 1 z4u (ZrE.nilS (ZrE.nilS ZrE.nil))) fun v1=>Zn<|gSR<|Eb Z (z83 2 z4u (ZrE.nilS (ZrE.nilS ZrE.nil))) fun v2=>Zn<|z7y (fun (s3:(List V3) × (List z05)) aa ww=>Sta (ctx 53 H [] w) [(2,.val (z07 v1 0)),(3,.val (z07 v2 0))] [(1,some (v1,.box 27 [.val (.slice none 0 0),.val (.slice none 0 0)])),(2,some (v2,.box 27 [.rd (z02 aZ) s3.1,.rd (z02 z03) s3.2]))] aa ww) ?_ (fun s3=>?_)
 ·
  refine gSR<|Zb Z<|gPnl aZ [.rd (z02 aZ) [],.val (.slice none 0 0)] 2 [] [.val (.slice none 0 0)] Z Z Z<|gPnl z03 [.rd (z02 aZ) [],.rd (z02 z03) []] 2 [.rd (z02 aZ) []] [] Z Z Z<|z1i (fun (s4:(List V3) × (List z05) × Int) aa ww=>Sta (ctx 53 H [] w) [(0,.rd (z02 z01) a0),(2,.val (z07 v1 0)),(3,.val (z07 v2 0)),(4,.rd z09 s4.2.2)] [(1,some (v1,.box 27 [.val (.slice none 0 0),.val (.slice none 0 0)])),(2,some (v2,.box 27 [.rd (z02 aZ) s4.1,.rd (z02 z03) s4.2.1]))] aa ww) (fun aa ww h=>Zu h [1,2]) (fun s4=>?_)
  refine z0k<|gSR<|Zm Z<|Zm Z<|Zq (z3c Z .rd Z tu22)<|Zq (I.lss Z Z)<|Zj Z (fun h5=>?_) (fun h5=>?_)
  ·
   refine Zt<|z7y (fun (s6:(List V3) × (List z05)) aa ww=>Sta (ctx 53 H [] w) [(0,.rd (z02 z01) a0),(2,.val (z07 v1 0)),(3,.val (z07 v2 0)),(4,.rd z09 s4.2.2)] [(1,some (v1,.box 27 [.val (.slice none 0 0),.val (.slice none 0 0)])),(2,some (v2,.box 27 [.rd (z02 aZ) s6.1,.rd (z02 z03) s6.2]))] aa ww) ?_ (fun s6=>?_)
   ·
    refine z4j<|gSR<|Zb Z<|z1i (fun (s7:(List V3) × (List z05) × Int) aa ww=>Sta (ctx 53 H [] w) [(0,.rd (z02 z01) a0),(2,.val (z07 v1 0)),(3,.val (z07 v2 0)),(4,.rd z09 s4.2.2),(5,.rd z09 s7.2.2)] [(1,some (v1,.box 27 [.val (.slice none 0 0),.val (.slice none 0 0)])),(2,some (v2,.box 27 [.rd (z02 aZ) s7.1,.rd (z02 z03) s7.2.1]))] aa ww) (fun aa ww h=>Zu h [1,2]) (fun s7=>?_)
    refine z0k<|gSR<|Zm Z<|Zm Z<|Zm Z<|z0o fun x8 h9=>Zq (ixR Z Z h9 tu22 z4u Z)<|Zq (faR Z (z08 _) Tryz.underlying27 Z Z (by exact z61))<|Zq (ldR Z z8s)<|Zq (z3c Z .rd Z tu24)<|Zq (I.lss Z Z)<|Zj Z (fun h10=>?_) (fun h10=>?_)
    ·
     refine Zt<|z0k<|z4j<|z0k<|z5p [] mixed Z Z<|hTk 0 Z Z (faB 2 Z Z Tryz.underlying27 Z (by exact z61))<|hTk 1 Z Z (ld 2 Z Z (Foc.cast fH Z) z8s Z)<|hTk 2 Z Z (mv Z)<|hTk 3 Z Z (mv Z)<|z2f fun x11 h12=>hTk 4 Z Z (ixR Z Z h12 tu22 z4u Z)<|hTk 5 Z Z (faR Z (z08 _) Tryz.underlying27 Z Z (by exact z61))<|hTk 6 Z Z (ldR Z z8s)<|hTk 7 Z Z (mv Z)<|z2f fun x13 h14=>hTk 8 Z Z (ixR Z Z h14 tu24 z2l Z)<|hTk 9 Z Z (ldR Z z6c)<|z33 10 [] [] Z (by kernel_rfl) Z (gd0 Z) Z Tryz.func39 Z Z (z5y _ _) (Y2 Z Z) rN Z (fun _ _=>z1m) fun r15 n16=>hTk 11 Z Z (I.lss Z Z)<|z3h (by kernel_rfl)<|z0e<|gIf Z Z (fun h17=>?_) (fun h17=>?_)
     ·
      refine gJoi (R:=z01) (⟨s7.1,s7.2.1⟩:z00) 2 Z (Sp.via (Sp.prod (Sp.prod Sp.unit)))<|z5p [2] mixed Z Z<|hTk 1 Z Z (mv Z)<|hTk 2 Z Z (mv Z)<|z2f fun x18 h19=>hTk 3 Z Z (ixR Z Z h19 tu22 z4u Z)<|hTk 4 Z Z (faR Z (z08 _) Tryz.underlying27 Z Z (by exact z61))<|hTk 5 Z Z (ldR Z z8s)<|hTk 6 Z Z (mv Z)<|z2f fun x20 h21=>hTk 7 Z Z (ixR Z Z h21 tu24 z2l Z)<|hTk 8 Z Z (ldR Z z6c)<|hTk 9 Z Z (mv Z)<|hTk 10 Z Z (mv Z)<|z2f fun x22 h23=>hTk 11 Z Z (ixR Z Z h23 tu22 z4u Z)<|hTk 12 Z Z (faR Z (z06 _) Tryz.underlying27 Z Z (by exact zal))<|hTk 13 Z Z (ldR Z zct)<|hTk 14 Z Z (mv Z)<|z2f fun x24 h25=>hTk 15 Z Z (ixR Z Z h25 tu25 zbm Z)<|hTk 16 Z Z (ldR Z ze3)<|hRun 0 Z (by kernel_rfl) (gd0 Z) Z Z anyJ (ld 2 Z Z fH zbn Z)<|zuw 17 [] [] Z (by kernel_rfl) Z (gd0 Z) Z Tryz.func90 Z Z (zhm _ _ _) (aQ Z<|aQ Z<|aQ Z<|aN) rN Z fun r26 n27=>Zp 18 Z Z Z Z Z (sto 2 Z Z fH Z z4u)<|z3h (by kernel_rfl)<|z2t<|z0e<|z21<|Zm Z<|Zq (I.add Z Z)<|Za Z<|z1h 5 Z fun y28=>z1q<|eSpl (R:=z01) 2 Z (Sp.via (Sp.prod (Sp.prod Sp.unit)))<|z14 (fun aa ww h=>Zu h [1,2])
     ·
      refine z2a<|z2t<|z0e<|z21<|Zm Z<|Zq (I.add Z Z)<|Za Z<|z1h 5 Z fun y29=>z1q<|z14 (fun aa ww h=>Zu h [1,2])
    ·
     refine z1c<|z0m<|z0l<|z2t<|z41 (fun aa ww h=>Zu h [1,2])
   ·
    refine z21<|Zm Z<|Zq (I.add Z Z)<|Za Z<|z1h 4 Z fun y30=>z1q<|z14 (fun aa ww h=>Zu h [1,2])
  ·
   refine z1c<|z0m<|z0l<|z41 (fun aa ww h=>Zu h [1,2])
 ·
  refine gSR<|zco (R:=z01) (⟨s3.1,s3.2⟩:z00) 2 Z (Sp.via (Sp.prod (Sp.prod Sp.unit)))<|Zq (ld 2 Z Z fH zbn Z)<|zan aZ [.rd (z02 aZ) [],.val (.slice none 0 0)] 1 [] [.val (.slice none 0 0)] Z Z Z<|zan z03 [.rd (z02 aZ) [],.rd (z02 z03) []] 1 [.rd (z02 aZ) []] [] Z Z Z<|zco (R:=z01) (⟨[],[]⟩:z00) 1 Z (Sp.via (Sp.prod (Sp.prod Sp.unit)))<|Es (sto 1 Z Z fH Z z4u)<|Zn<|z0i<|zcl [] [] Z (eC 1 Z Z zbn<|eN) (rN)
def z40 (a0:List z00):Option (z00 × Int) :=
 z2g a0 >>= fun r2 =>
 if r2 != 0 then
  some ((⟨[],[]⟩:z00),r2)
 else
  z9k a0 >>= fun r5 =>
  if decide (60<(r5.Ops.length:Int)) then
   some ((⟨[],[]⟩:z00),4)
  else
   some (r5,0)
theorem zc9 (a0:List z00):z1x Tryz.prog 14 [.rd (z02 z01) a0] [] (z40 a0) (fun r nv=>⟨[.rd z01 r.1,.rd z09 r.2],[]⟩):=by
 refine z2n 20 Tryz.func14 Z Z Z fun H w=>?_
 refine gSR<|Eb Z (z83 1 z4u (ZrE.nilS (ZrE.nilS ZrE.nil))) fun v1=>Zb Z<|z0k<|gSR<|Zm Z<|Zc [] [] Tryz.func21 Z (z7h _) fun r2 n3=>Zb Z<|gSR<|Zm Z<|Zq (I.neq Z Z)<|Zj Z (fun h4=>?_) (fun h4=>?_)
 ·
  refine gSR<|Zq (zwj [(0,1),(1,1)] Tryz.underlying27 z4u (ZrE.nilS (ZrE.nilS ZrE.nil)) Z (zkg.done Z))<|Zm Z<|Es (zwr 1 Z Z (z0s.cast (z0s.cons z0b (z0s.cons z0b z0s.nil)) Z) Z (z7x.cons z20 (z7x.cons z20 z7x.nil)) (z0s.cast (z0s.cons z0b (z0s.cons z0b z0s.nil)) Z) z4u)<|Zb Z<|z0i<|z0t<|zp1 aZ [.rd (z02 aZ) [],.val (.slice none 0 0)] 1 [] [.val (.slice none 0 0)] Z Z Z<|zp1 z03 [.rd (z02 aZ) [],.rd (z02 z03) []] 1 [.rd (z02 aZ) []] [] Z Z Z<|zz4 (R:=z01) (⟨[],[]⟩:z00) 1 Z (Sp.via (Sp.prod (Sp.prod Sp.unit)))<|zcl [] [] Z (eC 1 Z Z zbn<|eE Z<|eN) (rN)
 ·
  refine Zt<|gSR<|Zm Z<|Zc [] [] Tryz.func51 Z (zfs _) fun r5 n6=>Eb Z (z83 2 z4u (ZrE.nilS (ZrE.nilS ZrE.nil))) fun v7=>zan aZ [.rd (z02 aZ) [],.val (.slice none 0 0)] 2 [] [.val (.slice none 0 0)] Z Z Z<|zan z03 [.rd (z02 aZ) [],.rd (z02 z03) []] 2 [.rd (z02 aZ) []] [] Z Z Z<|zco (R:=z01) (⟨[],[]⟩:z00) 2 Z (Sp.via (Sp.prod (Sp.prod Sp.unit)))<|Es (sto 2 Z Z fH Z z4u)<|Zn<|z0k<|gSR<|Zq (faB 2 Z Z Tryz.underlying27 Z (by exact zal))<|Zq (ld 2 Z Z (fP (z06 _)) zct Z)<|Zq (z3c Z .rd Z tu25)<|Zq (I.gtr Z Z)<|Zj Z (fun h8=>?_) (fun h8=>?_)
  ·
   refine gSR<|Zq (zwj [(0,1),(1,1)] Tryz.underlying27 z4u (ZrE.nilS (ZrE.nilS ZrE.nil)) Z (zkg.done Z))<|Es (zwr 1 Z Z (z0s.cast (z0s.cons z0b (z0s.cons z0b z0s.nil)) Z) Z (z7x.cons z20 (z7x.cons z20 z7x.nil)) (z0s.cast (z0s.cons z0b (z0s.cons z0b z0s.nil)) Z) z4u)<|Zb Z<|z0i<|z0t<|zp1 aZ [.rd (z02 aZ) [],.val (.slice none 0 0)] 1 [] [.val (.slice none 0 0)] Z Z Z<|zp1 z03 [.rd (z02 aZ) [],.rd (z02 z03) []] 1 [.rd (z02 aZ) []] [] Z Z Z<|zz4 (R:=z01) (⟨[],[]⟩:z00) 1 Z (Sp.via (Sp.prod (Sp.prod Sp.unit)))<|zcl [] [] Z (eC 1 Z Z zbn<|eE Z<|eN) (rN)
  ·
   refine Zt<|gSR<|Zq (ld 2 Z Z fH zbn Z)<|zan aZ [.rd (z02 aZ) [],.val (.slice none 0 0)] 1 [] [.val (.slice none 0 0)] Z Z Z<|zan z03 [.rd (z02 aZ) [],.rd (z02 z03) []] 1 [.rd (z02 aZ) []] [] Z Z Z<|zco (R:=z01) (⟨[],[]⟩:z00) 1 Z (Sp.via (Sp.prod (Sp.prod Sp.unit)))<|Es (sto 1 Z Z fH Z z4u)<|Zb Z<|z0i<|zcl [] [] Z (eC 1 Z Z zbn<|eE Z<|eN) (rN)
def zat (a0:Int) (c1_0:List z00):Option (Bool) :=
 some (a0==(c1_0.length:Int)) >>= fun y1 =>
 some y1
theorem zf0 (a0:Int) (p1_0:Value) (c1_0:List z00):z1x Tryz.prog 52 [.rd z09 a0,.val (z07 p1_0 0)] [(1,some (p1_0,.box 22 [.rd (z02 z01) c1_0]))] (zat a0 c1_0) (fun r nv=>⟨[.rd z0j r],[(1,some (p1_0,.box 22 [.rd (z02 z01) c1_0]))]⟩):=by
 refine z2n 8 Tryz.func52 Z Z Z fun H w=>?_
 refine gSR<|Zb Z<|gSR<|Zm Z<|Zq (ld 1 Z Z fH ty22 Z)<|Zq (z3c Z .rd Z tu22)<|Zq (I.eql Z Z)<|Za Z<|z1h 3 Z fun y1=>Zn<|z0i<|Ze [] [1] Z
def z98 (x8:z00) (s11:(List (V3 × Int)) × (List (V3 × z05)) × Int):Option (Sum ((List (V3 × Int)) × (List (V3 × z05))) ((List (V3 × Int)) × (List (V3 × z05)) × Int)) :=
 if decide (s11.2.2<(x8.IDs.length:Int)) then
  idx x8.IDs s11.2.2 >>= fun x13 =>
  (some (zaw s11.1 x13 (w64 (((z43 s11.1 x13).getD 0)+1)))) >>= fun s16 =>
  idx x8.Ops s11.2.2 >>= fun x19 =>
  some (.inr (s16,zaw s11.2.1 x13 x19,w64 (s11.2.2+1)))
 else
  some (.inl (s11.1,s11.2.1))
def z51 (a0:List z00) (s5:(List (V3 × Int)) × (List (V3 × z05)) × Int):Option (Sum ((List (V3 × Int)) × (List (V3 × z05))) ((List (V3 × Int)) × (List (V3 × z05)) × Int)) :=
 if decide (s5.2.2<(a0.length:Int)) then
  (idx a0 s5.2.2 >>= fun x8 =>
  iter (z98 x8) (s5.1,s5.2.1,0)) >>= fun s7 =>
  some (.inr (s7.1,s7.2,w64 (s5.2.2+1)))
 else
  some (.inl (s5.1,s5.2.1))
def z37 (c1_0:List z00) (k27:V3) (x28:Int) (s25:(List V3)):Option ((List V3)) :=
 zat x28 c1_0 >>= fun r37 =>
 if r37 then
  app 32 s25 [k27] >>= fun x41 =>
  some x41
 else
  some s25
def z93 (s4:(List (V3 × Int)) × (List (V3 × z05))) (r44:List V3) (s47:(List z05) × Int):Option (Sum ((List z05)) ((List z05) × Int)) :=
 if decide (s47.2<(r44.length:Int)) then
  idx r44 s47.2 >>= fun x50 =>
  z12 (((z43 s4.2 x50).getD (⟨0,[],0,(⟨0,[],(⟨0,0,0,[]⟩:z04)⟩:z0f),(⟨0,0⟩:z0a)⟩:z05)).Preds) >>= fun r54 =>
  app 112 s47.1 [(⟨((z43 s4.2 x50).getD (⟨0,[],0,(⟨0,[],(⟨0,0,0,[]⟩:z04)⟩:z0f),(⟨0,0⟩:z0a)⟩:z05)).Author,r54,((z43 s4.2 x50).getD (⟨0,[],0,(⟨0,[],(⟨0,0,0,[]⟩:z04)⟩:z0f),(⟨0,0⟩:z0a)⟩:z05)).Stamp,((z43 s4.2 x50).getD (⟨0,[],0,(⟨0,[],(⟨0,0,0,[]⟩:z04)⟩:z0f),(⟨0,0⟩:z0a)⟩:z05)).Act,((z43 s4.2 x50).getD (⟨0,[],0,(⟨0,[],(⟨0,0,0,[]⟩:z04)⟩:z0f),(⟨0,0⟩:z0a)⟩:z05)).Sig⟩:z05)] >>= fun x57 =>
  some (.inr (x57,w64 (s47.2+1)))
 else
  some (.inl s47.1)
def z2p (a0:List z00) (c1_0:List z00):Option (z00) :=
 (iter (z51 a0) (([]:List (V3 × Int)),([]:List (V3 × z05)),0)) >>= fun s4 =>
 (zfq (fun e s=>z37 c1_0 e.1 e.2 s) s4.1 []) >>= fun r32 =>
 zmu r32 >>= fun r44 =>
 (iter (z93 s4 r44) ([],0)) >>= fun s46 =>
 some (⟨r44,s46⟩:z00)
theorem z94 (a0:List z00) (p1_0:Value) (c1_0:List z00):z1x Tryz.prog 49 [.rd (z02 z01) a0,.val (.func (.func 52) #[] #[z07 p1_0 0])] [(1,some (p1_0,.box 22 [.rd (z02 z01) c1_0]))] (z2p a0 c1_0) (fun r nv=>⟨[.rd z01 r],[(1,some (p1_0,.box 22 [.rd (z02 z01) c1_0]))]⟩):=by
 refine z2n 89 Tryz.func49 Z Z Z fun H w=>?_
 refine gSR<|Eb Z (z83 2 z4u (ZrE.nilS (ZrE.nilS ZrE.nil))) fun v1=>Zn<|gSR<|Ef Z (mkm aZ z09 3 (Or.inl Z) Tryz.underlying123) fun v2=>Zb Z<|gSR<|Ef Z (mkm aZ z03 4 (Or.inl Z) Tryz.underlying106) fun v3=>Zb Z<|z7y (fun (s4:(List (V3 × Int)) × (List (V3 × z05))) aa ww=>Sta (ctx 89 H [(1,some (p1_0,.box 22 [.rd (z02 z01) c1_0]))] w) [(1,.val (.func (.func 52) #[] #[z07 p1_0 0])),(4,.val (z07 v1 0)),(5,.val v2),(6,.val v3)] [(1,some (p1_0,.box 22 [.rd (z02 z01) c1_0])),(2,some (v1,.box 27 [.val (.slice none 0 0),.val (.slice none 0 0)])),(3,some (v2,.map aZ z09 s4.1)),(4,some (v3,.map aZ z03 s4.2))] aa ww) ?_ (fun s4=>?_)
 ·
  refine gSR<|Zm Z<|Zq (z3c Z .rd Z tu22)<|Zm Z<|Zn<|z1i (fun (s5:(List (V3 × Int)) × (List (V3 × z05)) × Int) aa ww=>Sta (ctx 89 H [(1,some (p1_0,.box 22 [.rd (z02 z01) c1_0]))] w) [(1,.val (.func (.func 52) #[] #[z07 p1_0 0])),(4,.val (z07 v1 0)),(5,.val v2),(6,.val v3),(19,.rd (z02 z01) a0),(20,.rd z09 (a0.length:Int)),(21,.rd z09 s5.2.2)] [(1,some (p1_0,.box 22 [.rd (z02 z01) c1_0])),(2,some (v1,.box 27 [.val (.slice none 0 0),.val (.slice none 0 0)])),(3,some (v2,.map aZ z09 s5.1)),(4,some (v3,.map aZ z03 s5.2.1))] aa ww) (fun aa ww h=>Zu h [1,2,3,4]) (fun s5=>?_)
  refine gSR<|Zq (I.lss Z Z)<|Zn<|z0k<|gIf Z Z (fun h6=>?_) (fun h6=>?_)
  ·
   refine Zt<|z7y (fun (s7:(List (V3 × Int)) × (List (V3 × z05))) aa ww=>Sta (ctx 89 H [(1,some (p1_0,.box 22 [.rd (z02 z01) c1_0]))] w) [(1,.val (.func (.func 52) #[] #[z07 p1_0 0])),(4,.val (z07 v1 0)),(5,.val v2),(6,.val v3),(19,.rd (z02 z01) a0),(20,.rd z09 (a0.length:Int)),(21,.rd z09 s5.2.2)] [(1,some (p1_0,.box 22 [.rd (z02 z01) c1_0])),(2,some (v1,.box 27 [.val (.slice none 0 0),.val (.slice none 0 0)])),(3,some (v2,.map aZ z09 s7.1)),(4,some (v3,.map aZ z03 s7.2))] aa ww) ?_ (fun s7=>?_)
   ·
    refine z4j<|gSR<|z0o fun x8 h9=>Zq (ixR Z Z h9 tu22 z4u Z)<|Zq (ldR Z zbn)<|Eb Z (z83 5 z4u (ZrE.nilS (ZrE.nilS ZrE.nil))) fun v10=>zan aZ [.rd (z02 aZ) [],.val (.slice none 0 0)] 5 [] [.val (.slice none 0 0)] Z Z Z<|zan z03 [.rd (z02 aZ) [],.rd (z02 z03) []] 5 [.rd (z02 aZ) []] [] Z Z Z<|zco (R:=z01) (⟨[],[]⟩:z00) 5 Z (Sp.via (Sp.prod (Sp.prod Sp.unit)))<|Es (sto 5 Z Z fH Z z4u)<|Zn<|gSR<|Zq (faB 5 Z Z Tryz.underlying27 Z (by exact z61))<|Zq (ld 5 Z Z (fP (z08 _)) z8s Z)<|Zq (z3c Z .rd Z tu24)<|Zm Z<|Zn<|z1i (fun (s11:(List (V3 × Int)) × (List (V3 × z05)) × Int) aa ww=>Sta (ctx 89 H [(1,some (p1_0,.box 22 [.rd (z02 z01) c1_0]))] w) [(1,.val (.func (.func 52) #[] #[z07 p1_0 0])),(4,.val (z07 v1 0)),(5,.val v2),(6,.val v3),(8,.val (z07 v10 0)),(19,.rd (z02 z01) a0),(20,.rd z09 (a0.length:Int)),(21,.rd z09 s5.2.2),(26,.rd (z02 aZ) x8.IDs),(27,.rd z09 (x8.IDs.length:Int)),(28,.rd z09 s11.2.2)] [(1,some (p1_0,.box 22 [.rd (z02 z01) c1_0])),(2,some (v1,.box 27 [.val (.slice none 0 0),.val (.slice none 0 0)])),(3,some (v2,.map aZ z09 s11.1)),(4,some (v3,.map aZ z03 s11.2.1)),(5,some (v10,.box 27 [.rd z01 x8]))] aa ww) (fun aa ww h=>Zu h [1,2,3,4,5]) (fun s11=>?_)
    refine gSR<|Zq (I.lss Z Z)<|Zn<|z0k<|gIf Z Z (fun h12=>?_) (fun h12=>?_)
    ·
     refine Zt<|z0k<|z4j<|gSR<|Zm Z<|z0o fun x13 h14=>Zq (ixR Z Z h14 tu24 z2l Z)<|Zq (ldR Z z6c)<|Eb Z (z83 6 z2l (.zr (R:=aZ) (x:=(Vector.replicate 32 0)) zii)) fun v15=>Za Z<|Es (sto 6 Z Z fH Z z2l)<|Zn<|z7y (fun (s16:(List (V3 × Int))) aa ww=>Sta (ctx 89 H [(1,some (p1_0,.box 22 [.rd (z02 z01) c1_0]))] w) [(1,.val (.func (.func 52) #[] #[z07 p1_0 0])),(4,.val (z07 v1 0)),(5,.val v2),(6,.val v3),(8,.val (z07 v10 0)),(9,.rd z09 s11.2.2),(10,.val (z07 v15 0)),(19,.rd (z02 z01) a0),(20,.rd z09 (a0.length:Int)),(21,.rd z09 s5.2.2),(26,.rd (z02 aZ) x8.IDs),(27,.rd z09 (x8.IDs.length:Int)),(28,.rd z09 s11.2.2)] [(1,some (p1_0,.box 22 [.rd (z02 z01) c1_0])),(2,some (v1,.box 27 [.val (.slice none 0 0),.val (.slice none 0 0)])),(3,some (v2,.map aZ z09 s16)),(4,some (v3,.map aZ z03 s11.2.1)),(5,some (v10,.box 27 [.rd z01 x8])),(6,some (v15,.box 78 [.rd aZ x13]))] aa ww) ?_ (fun s16=>?_)
     ·
      refine z5p [3] mixed Z Z<|hTk 0 Z Z (mv Z)<|hTk 1 Z Z (ld 6 Z Z fH z6c Z)<|hAlt [2,4] (by kernel_rfl) Z ⟨?_,?_,trivial⟩
      ·
       refine oRun 2 Z (gd0 Z) Z Z z1m (mlk Z (.own 3 Z Z) Z zqo Tryz.underlying123 ti3 (Zr.num Z) Z)<|hTk 3 Z Z (I.add Z Z)<|hDoE 4 Z (by kernel_rfl) (gd0 Z) Z Z Z Z (men 3 Z Z Z zqo Tryz.underlying123 ti3 (Zr.num Z) Z) fun n17=>Zf 5 Z Z z1m (ext Z Z)<|Zp 6 Z Z Z Z Z (ens 3 Z Z Z Z)<|z3h (by kernel_rfl)<|z41 (fun aa ww h=>Zu h [1,2,3,4,5,6])
      ·
       refine oDoE 4 Z (gd0 Z) Z Z Z Z (men 3 Z Z Z zqo Tryz.underlying123 ti3 (Zr.num Z) Z) fun n18=>Zf 5 Z Z z1m (ext Z Z)<|hRun 2 Z (by kernel_rfl) (gd0 Z) Z Z z1m (mlkP 3 Z Z Z zqo Tryz.underlying123)<|hTk 3 Z Z (I.add Z Z)<|Zp 6 Z Z Z Z Z (ens 3 Z Z Z Z)<|z3h (by kernel_rfl)<|z41 (fun aa ww h=>Zu h [1,2,3,4,5,6])
     ·
      refine z5p [4] mixed Z Z<|hTk 0 Z Z (mv Z)<|hTk 1 Z Z (ld 6 Z Z fH z6c Z)<|hTk 2 Z Z (faB 5 Z Z Tryz.underlying27 Z (by exact zal))<|hTk 3 Z Z (ld 5 Z Z (fP (z06 _)) zct Z)<|hTk 4 Z Z (mv Z)<|z2f fun x19 h20=>hTk 5 Z Z (ixR Z Z h20 tu25 zbm Z)<|hTk 6 Z Z (ldR Z ze3)<|Zp 7 Z Z Z Z Z (mup 4 Z Z Z Z zqo Tryz.underlying106)<|z3h (by kernel_rfl)<|z2t<|z0e<|z21<|Zq (I.add Z Z)<|Zm Z<|z1q<|z14 (fun aa ww h=>Zu h [1,2,3,4,5])
    ·
     refine z1c<|z0m<|z0l<|z2t<|z41 (fun aa ww h=>Zu h [1,2,3,4])
   ·
    refine z21<|Zq (I.add Z Z)<|Zm Z<|z1q<|z14 (fun aa ww h=>Zu h [1,2,3,4])
  ·
   refine z1c<|z0m<|z0l<|z41 (fun aa ww h=>Zu h [1,2,3,4])
 ·
  refine gSR<|Eb Z (z83 58 z4u (ZrE.nilS (ZrE.nilS ZrE.nil))) fun v21=>Zn<|z0k<|gSR<|Zm Z<|z12q 59 3 Z Z Z Tryz.underlying123 fun u22 es23 ck24=>Zn<|zms aZ 78 63<|z128 (zzd (L:=fun (n26:Nat→Value)=>[(1,.val (.func (.func 52) #[] #[z07 p1_0 0])),(4,.val (z07 v1 0)),(6,.val v3),(11,.val (z07 v21 0)),(49,.val u22)]) (nv0:=nvl [(.slice none 0 0)]) 59 3 List.Perm (fun _ _ _ h k=>h.trans k) (fun _=>.refl _) (zyt.comm (by_:=32) ?_) (fun (s25:(List V3)) (n26:Nat→Value)=>[(1,some (p1_0,.box 22 [.rd (z02 z01) c1_0])),(2,some (v1,.box 27 [.val (.slice none 0 0),.val (.slice none 0 0)])),(4,some (v3,.map aZ z03 s4.2)),(62,some ((n26 0),.list aZ 78 s25)),(58,some (v21,.box 27 [.val (n26 0),.val (.slice none 0 0)]))]) (fun aa ww h=>Zu h [59,3,1,2,4,63,58]) (fun _=>rfl) Z Z (fun _ _ _=>(Zs Z Z Z Z<|sS Z<|sN)) (fun _ _=>rfl) Z (fun Ci30 Cm31 k27 x28 s25 n26 hI29=>?_)) (fun r32=>eExM fun xp33 n35 hp34=>?_)
  ·
   intro e; unfold z37; repeat first | exact ⟨some [], fun _=>rfl⟩ | exact zuu _ | refine zqp fun _=>?_ | refine zua ?_ ?_
  ·
   refine z4j<|gSR<|Zq (entM 59 3 Z Z Z hI29)<|Zq (ext Z Z)<|Zq (ext Z Z)<|Eb Z (z83 64 z2l (.zr (R:=aZ) (x:=(Vector.replicate 32 0)) zii)) fun v36=>Es (sto 64 Z Z fH Z z2l)<|Zb Z<|gSR<|Zm Z<|Zm Z<|zmf [1] [(1,1)] (gd0 Z) Z Z Tryz.func52 Z Z (zf0 _ _ _) (Y1 Z) (cQ 1 Z<|cN) (y1 Z) fun r37 n38=>Zj Z (fun h39=>?_) (fun h39=>?_)
   ·
    refine z21<|Zq (faB 58 Z Z Tryz.underlying27 Z (by exact z61))<|Zq (ldV 58 Z Z (At.cast At.here Z) zzo Z)<|Zq (ld 64 Z Z fH z6c Z)<|Ef Z (lit (R:=aZ) ([k27]:List V3) 65 (pP Z Z<|pN) Z tu24 z2l Z Z) fun v40=>zhi 65 [61] Z (fS Z<|fN)<|z0o fun x41 h42=>Ef Z (apn 62 Z Z Z .rd h42 tu24 z2l Z Z Z) fun v43=>Zq (faB 58 Z Z Tryz.underlying27 Z (by exact z61))<|Es (zqd 58 Z Z (zah.cast (zah.here z0b) Z) Z z20 z0b z61)<|z1q<|z2t<|z41 (fun aa ww h=>⟨nvl [v43],Zu h [59,3,1,2,4,62,58]⟩)
   ·
    refine z2a<|z2t<|z41 (fun aa ww h=>⟨nvl [(n26 0)],Zu h [59,3,1,2,4,62,58]⟩)
  ·
   refine z0e<|gSR<|Zq (faB 58 Z Z Tryz.underlying27 Z (by exact z61))<|Zq (ldV 58 Z Z (At.cast At.here Z) zzo Z)<|call [62] [(1,62)] Z Tryz.func88 Z Z (z1x.congr (zld (hp34).symm) (zql _ _)) (Y2 Z Z) (y1 Z) fun r44 n45=>Zn<|z7y (fun (s46:(List z05)) aa ww=>∃ nv:Nat→Value,Sta (ctx 89 H [(1,some (p1_0,.box 22 [.rd (z02 z01) c1_0]))] w) [(4,.val (z07 v1 0)),(11,.val (z07 v21 0))] [(2,some (v1,.box 27 [.val (.slice none 0 0),.val (.slice none 0 0)])),(62,some ((n35 0),.list aZ 78 r44)),(70,some ((nv 0),.list z03 72 s46)),(58,some (v21,.box 27 [.val (n35 0),.val (nv 0)])),(1,some (p1_0,.box 22 [.rd (z02 z01) c1_0]))] aa ww) ?_ (fun s46=>?_)
   ·
    refine gSR<|Zq (faB 58 Z Z Tryz.underlying27 Z (by exact z61))<|Zq (ldV 58 Z Z (At.cast At.here Z) zzo Z)<|Zq (z3c Z (.own 62 Z) Z tu24)<|Zm Z<|Zn<|zms z03 72 76<|z1i (fun (s47:(List z05) × Int) aa ww=>∃ nv:Nat→Value,Sta (ctx 89 H [(1,some (p1_0,.box 22 [.rd (z02 z01) c1_0]))] w) [(4,.val (z07 v1 0)),(6,.val v3),(11,.val (z07 v21 0)),(68,.val (n35 0)),(69,.rd z09 (r44.length:Int)),(70,.rd z09 s47.2)] [(2,some (v1,.box 27 [.val (.slice none 0 0),.val (.slice none 0 0)])),(4,some (v3,.map aZ z03 s4.2)),(62,some ((n35 0),.list aZ 78 r44)),(75,some ((nv 0),.list z03 72 s47.1)),(58,some (v21,.box 27 [.val (n35 0),.val (nv 0)])),(1,some (p1_0,.box 22 [.rd (z02 z01) c1_0]))] aa ww) (fun aa ww h=>⟨nvl [(.slice none 0 0)],Zu h [2,4,62,76,58,1]⟩) (fun s47=>?_)
    refine gEx fun n48=>gSR<|Zq (I.lss Z Z)<|Zn<|z0k<|gIf Z Z (fun h49=>?_) (fun h49=>?_)
    ·
     refine Zt<|z0k<|z4j<|gSR<|z0o fun x50 h51=>Zq (ixO 62 Z Z Z h51 tu24 z2l)<|Zq (ld 62 Z Z (Foc.el h51) z6c Z)<|Eb Z (z83 77 z2l (.zr (R:=aZ) (x:=(Vector.replicate 32 0)) zii)) fun v52=>Es (sto 77 Z Z fH Z z2l)<|Zn<|gSR<|Zm Z<|Zq (ld 77 Z Z fH z6c Z)<|Zq (mlk Z (.own 4 Z Z) Z zqo Tryz.underlying106 zbm zr72 Z)<|Eb Z (z83 78 zbm (ZrE.rd (R:=z0r) (x:=0) (Zr.num Z) (ZrE.nilS (ZrE.rd (R:=z34) (x:=0) (Zr.num Z) (ZrE.rd (R:=z16) (x:=(⟨0,[],(⟨0,0,0,[]⟩:z04)⟩:z0f)) zzp (ZrE.rd (R:=z1f) (x:=(⟨0,0⟩:z0a)) zz3 ZrE.nil Z) Z) Z)) Z)) fun v53=>zan aZ [.rd z0r 0,.rd (z02 aZ) [],.rd z34 0,.rd z16 (⟨0,[],(⟨0,0,0,[]⟩:z04)⟩:z0f),.rd z1f (⟨0,0⟩:z0a)] 78 [.rd z0r 0] [.rd z34 0,.rd z16 (⟨0,[],(⟨0,0,0,[]⟩:z04)⟩:z0f),.rd z1f (⟨0,0⟩:z0a)] Z Z Z<|zco (R:=z03) (⟨0,[],0,(⟨0,[],(⟨0,0,0,[]⟩:z04)⟩:z0f),(⟨0,0⟩:z0a)⟩:z05) 78 Z (Sp.via (Sp.prod (Sp.prod (Sp.prod (Sp.prod (Sp.prod Sp.unit))))))<|Es (sto 78 Z Z fH Z zbm)<|Zn<|gSR<|Zq (faB 78 Z Z Tryz.underlying72 Z (by exact z61))<|Zq (ld 78 Z Z (fP (z0w _)) z8s Z)<|Zc [] [(100,79)] Tryz.func55 Z (z3a _) fun r54 n55=>Zq (faB 78 Z Z Tryz.underlying72 Z (by exact z61))<|lSpl (R:=z03) 78 Z (Sp.via (Sp.prod (Sp.prod (Sp.prod (Sp.prod (Sp.prod Sp.unit))))))<|Es (zqd 78 Z Z (zah.cast (zah.next z6r (zah.here z6r)) Z) Z z20 z0b z61)<|Zn<|z21<|Zq (faB 58 Z Z Tryz.underlying27 Z (by exact zal))<|Zq (ldV 58 Z Z (At.cast (At.next z0b At.here) Z) sc25 Z)<|zox [.rd z0r (((z43 s4.2 x50).getD (⟨0,[],0,(⟨0,[],(⟨0,0,0,[]⟩:z04)⟩:z0f),(⟨0,0⟩:z0a)⟩:z05)).Author),.rd (z02 aZ) r54,.rd z34 (((z43 s4.2 x50).getD (⟨0,[],0,(⟨0,[],(⟨0,0,0,[]⟩:z04)⟩:z0f),(⟨0,0⟩:z0a)⟩:z05)).Stamp),.rd z16 (((z43 s4.2 x50).getD (⟨0,[],0,(⟨0,[],(⟨0,0,0,[]⟩:z04)⟩:z0f),(⟨0,0⟩:z0a)⟩:z05)).Act),.rd z1f (((z43 s4.2 x50).getD (⟨0,[],0,(⟨0,[],(⟨0,0,0,[]⟩:z04)⟩:z0f),(⟨0,0⟩:z0a)⟩:z05)).Sig)] 78 79 [.rd z0r (((z43 s4.2 x50).getD (⟨0,[],0,(⟨0,[],(⟨0,0,0,[]⟩:z04)⟩:z0f),(⟨0,0⟩:z0a)⟩:z05)).Author)] [.rd z34 (((z43 s4.2 x50).getD (⟨0,[],0,(⟨0,[],(⟨0,0,0,[]⟩:z04)⟩:z0f),(⟨0,0⟩:z0a)⟩:z05)).Stamp),.rd z16 (((z43 s4.2 x50).getD (⟨0,[],0,(⟨0,[],(⟨0,0,0,[]⟩:z04)⟩:z0f),(⟨0,0⟩:z0a)⟩:z05)).Act),.rd z1f (((z43 s4.2 x50).getD (⟨0,[],0,(⟨0,[],(⟨0,0,0,[]⟩:z04)⟩:z0f),(⟨0,0⟩:z0a)⟩:z05)).Sig)] Z Z Z Z Z<|zco (R:=z03) (⟨((z43 s4.2 x50).getD (⟨0,[],0,(⟨0,[],(⟨0,0,0,[]⟩:z04)⟩:z0f),(⟨0,0⟩:z0a)⟩:z05)).Author,r54,((z43 s4.2 x50).getD (⟨0,[],0,(⟨0,[],(⟨0,0,0,[]⟩:z04)⟩:z0f),(⟨0,0⟩:z0a)⟩:z05)).Stamp,((z43 s4.2 x50).getD (⟨0,[],0,(⟨0,[],(⟨0,0,0,[]⟩:z04)⟩:z0f),(⟨0,0⟩:z0a)⟩:z05)).Act,((z43 s4.2 x50).getD (⟨0,[],0,(⟨0,[],(⟨0,0,0,[]⟩:z04)⟩:z0f),(⟨0,0⟩:z0a)⟩:z05)).Sig⟩:z05) 78 Z (Sp.via (Sp.prod (Sp.prod (Sp.prod (Sp.prod (Sp.prod Sp.unit))))))<|Zq (ld 78 Z Z fH ze3 Z)<|Ef Z (lit (R:=z03) ([(⟨((z43 s4.2 x50).getD (⟨0,[],0,(⟨0,[],(⟨0,0,0,[]⟩:z04)⟩:z0f),(⟨0,0⟩:z0a)⟩:z05)).Author,r54,((z43 s4.2 x50).getD (⟨0,[],0,(⟨0,[],(⟨0,0,0,[]⟩:z04)⟩:z0f),(⟨0,0⟩:z0a)⟩:z05)).Stamp,((z43 s4.2 x50).getD (⟨0,[],0,(⟨0,[],(⟨0,0,0,[]⟩:z04)⟩:z0f),(⟨0,0⟩:z0a)⟩:z05)).Act,((z43 s4.2 x50).getD (⟨0,[],0,(⟨0,[],(⟨0,0,0,[]⟩:z04)⟩:z0f),(⟨0,0⟩:z0a)⟩:z05)).Sig⟩:z05)]:List z05) 80 (pP Z Z<|pN) Z tu25 zbm Z Z) fun v56=>zhi 80 [84] Z (fS Z<|fN)<|z0o fun x57 h58=>Ef Z (apn 75 Z Z Z .rd h58 tu25 zbm Z Z Z) fun v59=>Zq (faB 58 Z Z Tryz.underlying27 Z (by exact zal))<|Es (zqd 58 Z Z (zah.cast (zah.next z0b (zah.here z0b)) Z) Z z20 z0b zal)<|z1q<|z2t<|z0e<|z21<|Zq (I.add Z Z)<|Zm Z<|z1q<|z14 (fun aa ww h=>⟨nvl [v59],Zu h [2,4,62,75,58,1]⟩)
    ·
     refine z1c<|z0m<|z0l<|z41 (fun aa ww h=>⟨nvl [(n48 0)],Zu h [2,62,75,58,1]⟩)
   ·
    refine gEx fun n60=>gSR<|zox [.rd (z02 aZ) r44,.val (n60 0)] 58 62 [] [.val (n60 0)] Z Z Z Z Z<|zox [.rd (z02 aZ) r44,.rd (z02 z03) s46] 58 70 [.rd (z02 aZ) r44] [] Z Z Z Z Z<|zco (R:=z01) (⟨r44,s46⟩:z00) 58 Z (Sp.via (Sp.prod (Sp.prod Sp.unit)))<|Zq (ld 58 Z Z fH zbn Z)<|zan aZ [.rd (z02 aZ) [],.val (.slice none 0 0)] 2 [] [.val (.slice none 0 0)] Z Z Z<|zan z03 [.rd (z02 aZ) [],.rd (z02 z03) []] 2 [.rd (z02 aZ) []] [] Z Z Z<|zco (R:=z01) (⟨[],[]⟩:z00) 2 Z (Sp.via (Sp.prod (Sp.prod Sp.unit)))<|Es (sto 2 Z Z fH Z z4u)<|Zn<|z0i<|zcl [] [1] Z (eC 2 Z Z zbn<|eN) (y1 Z)
def z75 (a0:List z00):Option (z00 × Int) :=
 z36 a0 >>= fun r3 =>
 if r3 != 0 then
  some ((⟨[],[]⟩:z00),r3)
 else
  z2p a0 a0 >>= fun r6 =>
  some (r6,0)
theorem zgp (a0:List z00):z1x Tryz.prog 15 [.rd (z02 z01) a0] [zG1] (z75 a0) (fun r nv=>⟨[.rd z01 r.1,.rd z09 r.2],[(1001,some (.bool true,.glob 1 (z3k 64 z0r) z96))]⟩):=by
 refine z2n 14 Tryz.func15 Z Z Z fun H w=>?_
 refine gSR<|Eb Z (bx 1 Z) fun v1=>Eb Z (z83 2 z4u (ZrE.nilS (ZrE.nilS ZrE.nil))) fun v2=>Zb Z<|z0k<|gSR<|Zq (ld 1 Z Z fH ty22 Z)<|Zc [1001] [] Tryz.func20 Z (z8u _) fun r3 n4=>Zb Z<|gSR<|Zm Z<|Zq (I.neq Z Z)<|Zj Z (fun h5=>?_) (fun h5=>?_)
 ·
  refine gSR<|Zq (zwj [(0,1),(1,1)] Tryz.underlying27 z4u (ZrE.nilS (ZrE.nilS ZrE.nil)) Z (zkg.done Z))<|Zm Z<|Es (zwr 2 Z Z (z0s.cast (z0s.cons z0b (z0s.cons z0b z0s.nil)) Z) Z (z7x.cons z20 (z7x.cons z20 z7x.nil)) (z0s.cast (z0s.cons z0b (z0s.cons z0b z0s.nil)) Z) z4u)<|Zb Z<|z0i<|z0t<|zp1 aZ [.rd (z02 aZ) [],.val (.slice none 0 0)] 2 [] [.val (.slice none 0 0)] Z Z Z<|zp1 z03 [.rd (z02 aZ) [],.rd (z02 z03) []] 2 [.rd (z02 aZ) []] [] Z Z Z<|zz4 (R:=z01) (⟨[],[]⟩:z00) 2 Z (Sp.via (Sp.prod (Sp.prod Sp.unit)))<|zcl [] [1001] Z (eC 2 Z Z zbn<|eE Z<|eN) (y1 Z)
 ·
  refine Zt<|gSR<|Zq (ld 1 Z Z fH ty22 Z)<|Zq (mkf mp0 (mp1 Z))<|Zc [1] [(1,1)] Tryz.func49 Z (z94 _ _ _) fun r6 n7=>zan aZ [.rd (z02 aZ) [],.val (.slice none 0 0)] 2 [] [.val (.slice none 0 0)] Z Z Z<|zan z03 [.rd (z02 aZ) [],.rd (z02 z03) []] 2 [.rd (z02 aZ) []] [] Z Z Z<|zco (R:=z01) (⟨[],[]⟩:z00) 2 Z (Sp.via (Sp.prod (Sp.prod Sp.unit)))<|Es (sto 2 Z Z fH Z z4u)<|Zb Z<|z0i<|zcl [] [1001] Z (eC 2 Z Z zbn<|eE Z<|eN) (y1 Z)
def z6o (a0:List z00) (s9:(List V3) × Int) (s12:(List V3) × Int):Option (Sum ((List V3)) ((List V3) × Int)) :=
 if decide (s12.2<(s9.1.length:Int)) then
  idx a0 s9.2 >>= fun x15 =>
  idx s9.1 s12.2 >>= fun x17 =>
  z2z x15.IDs x17 >>= fun r19 =>
  if decide (0≤r19) then
   idx s9.1 s12.2 >>= fun x22 =>
   app 32 s12.1 [x22] >>= fun x25 =>
   some (w64 (s12.2+1)) >>= fun y28 =>
   some (.inr (x25,y28))
  else
   some (w64 (s12.2+1)) >>= fun y29 =>
   some (.inr (s12.1,y29))
 else
  some (.inl s12.1)
def z3u (a0:List z00) (s9:(List V3) × Int):Option (Sum ((List V3)) ((List V3) × Int)) :=
 if decide (s9.2<(a0.length:Int)) then
  (iter (z6o a0 s9) ([],0)) >>= fun s11 =>
  some (w64 (s9.2+1)) >>= fun y31 =>
  some (.inr (s11,y31))
 else
  some (.inl s9.1)
def z54 (a0:List z00):Option (z00 × Int) :=
 z2g a0 >>= fun r2 =>
 if r2 != 0 then
  some ((⟨[],[]⟩:z00),r2)
 else
  if (a0.length:Int)==0 then
   some ((⟨[],[]⟩:z00),0)
  else
   idx a0 0 >>= fun x6 =>
   (iter (z3u a0) (x6.IDs,1)) >>= fun s8 =>
   idx a0 0 >>= fun x32 =>
   za2 x32 s8 >>= fun r34 =>
   some (r34,0)
theorem zfd (a0:List z00):z1x Tryz.prog 16 [.rd (z02 z01) a0] [] (z54 a0) (fun r nv=>⟨[.rd z01 r.1,.rd z09 r.2],[]⟩):=by
 refine z2n 59 Tryz.func16 Z Z Z fun H w=>?_
 refine gSR<|Eb Z (z83 1 z4u (ZrE.nilS (ZrE.nilS ZrE.nil))) fun v1=>Zb Z<|z0k<|gSR<|Zm Z<|Zc [] [] Tryz.func21 Z (z7h _) fun r2 n3=>Zb Z<|gSR<|Zm Z<|Zq (I.neq Z Z)<|Zj Z (fun h4=>?_) (fun h4=>?_)
 ·
  refine gSR<|Zq (zwj [(0,1),(1,1)] Tryz.underlying27 z4u (ZrE.nilS (ZrE.nilS ZrE.nil)) Z (zkg.done Z))<|Zm Z<|Es (zwr 1 Z Z (z0s.cast (z0s.cons z0b (z0s.cons z0b z0s.nil)) Z) Z (z7x.cons z20 (z7x.cons z20 z7x.nil)) (z0s.cast (z0s.cons z0b (z0s.cons z0b z0s.nil)) Z) z4u)<|Zb Z<|z0i<|z0t<|zp1 aZ [.rd (z02 aZ) [],.val (.slice none 0 0)] 1 [] [.val (.slice none 0 0)] Z Z Z<|zp1 z03 [.rd (z02 aZ) [],.rd (z02 z03) []] 1 [.rd (z02 aZ) []] [] Z Z Z<|zz4 (R:=z01) (⟨[],[]⟩:z00) 1 Z (Sp.via (Sp.prod (Sp.prod Sp.unit)))<|zcl [] [] Z (eC 1 Z Z zbn<|eE Z<|eN) (rN)
 ·
  refine Zt<|z0k<|gSR<|Zm Z<|Zq (z3c Z .rd Z tu22)<|Zq (I.eql Z Z)<|Zj Z (fun h5=>?_) (fun h5=>?_)
  ·
   refine gSR<|Zq (zwj [(0,1),(1,1)] Tryz.underlying27 z4u (ZrE.nilS (ZrE.nilS ZrE.nil)) Z (zkg.done Z))<|Es (zwr 1 Z Z (z0s.cast (z0s.cons z0b (z0s.cons z0b z0s.nil)) Z) Z (z7x.cons z20 (z7x.cons z20 z7x.nil)) (z0s.cast (z0s.cons z0b (z0s.cons z0b z0s.nil)) Z) z4u)<|Zb Z<|z0i<|z0t<|zp1 aZ [.rd (z02 aZ) [],.val (.slice none 0 0)] 1 [] [.val (.slice none 0 0)] Z Z Z<|zp1 z03 [.rd (z02 aZ) [],.rd (z02 z03) []] 1 [.rd (z02 aZ) []] [] Z Z Z<|zz4 (R:=z01) (⟨[],[]⟩:z00) 1 Z (Sp.via (Sp.prod (Sp.prod Sp.unit)))<|zcl [] [] Z (eC 1 Z Z zbn<|eE Z<|eN) (rN)
  ·
   refine Zt<|gSR<|Zm Z<|z0o fun x6 h7=>Zq (ixR Z Z h7 tu22 z4u Z)<|Zq (faR Z (z08 _) Tryz.underlying27 Z Z (by exact z61))<|Zq (ldR Z z8s)<|Zb Z<|z7y (fun (s8:(List V3)) aa ww=>Sta (ctx 59 H [] w) [(0,.rd (z02 z01) a0),(2,.val (z07 v1 0)),(5,.rd (z02 aZ) s8)] [(1,some (v1,.box 27 [.val (.slice none 0 0),.val (.slice none 0 0)]))] aa ww) ?_ (fun s8=>?_)
   ·
    refine gSR<|Zb Z<|z1i (fun (s9:(List V3) × Int) aa ww=>Sta (ctx 59 H [] w) [(0,.rd (z02 z01) a0),(2,.val (z07 v1 0)),(5,.rd (z02 aZ) s9.1),(6,.rd z09 s9.2)] [(1,some (v1,.box 27 [.val (.slice none 0 0),.val (.slice none 0 0)]))] aa ww) (fun aa ww h=>Zu h [1]) (fun s9=>?_)
    refine z0k<|gSR<|Zm Z<|Zm Z<|Zq (z3c Z .rd Z tu22)<|Zq (I.lss Z Z)<|Zj Z (fun h10=>?_) (fun h10=>?_)
    ·
     refine Zt<|z0k<|z4j<|gSR<|Zb Z<|z7y (fun (s11:(List V3)) aa ww=>∃ nv:Nat→Value,Sta (ctx 59 H [] w) [(0,.rd (z02 z01) a0),(2,.val (z07 v1 0)),(6,.rd z09 s9.2),(7,.val (nv 0))] [(1,some (v1,.box 27 [.val (.slice none 0 0),.val (.slice none 0 0)])),(39,some ((nv 0),.list aZ 78 s11))] aa ww) ?_ (fun s11=>?_)
     ·
      refine gSR<|Zb Z<|zms aZ 78 78<|z1i (fun (s12:(List V3) × Int) aa ww=>∃ nv:Nat→Value,Sta (ctx 59 H [] w) [(0,.rd (z02 z01) a0),(2,.val (z07 v1 0)),(5,.rd (z02 aZ) s9.1),(6,.rd z09 s9.2),(7,.val (nv 0)),(8,.rd z09 s12.2)] [(1,some (v1,.box 27 [.val (.slice none 0 0),.val (.slice none 0 0)])),(77,some ((nv 0),.list aZ 78 s12.1))] aa ww) (fun aa ww h=>⟨nvl [(.slice none 0 0)],Zu h [1,78]⟩) (fun s12=>?_)
      refine gEx fun n13=>z0k<|gSR<|Zm Z<|Zm Z<|Zq (z3c Z .rd Z tu24)<|Zq (I.lss Z Z)<|Zj Z (fun h14=>?_) (fun h14=>?_)
      ·
       refine Zt<|z0k<|z4j<|z0k<|z5p [] mixed Z Z<|hTk 0 Z Z (mv Z)<|hTk 1 Z Z (mv Z)<|z2f fun x15 h16=>hTk 2 Z Z (ixR Z Z h16 tu22 z4u Z)<|hTk 3 Z Z (faR Z (z08 _) Tryz.underlying27 Z Z (by exact z61))<|hTk 4 Z Z (ldR Z z8s)<|hTk 5 Z Z (mv Z)<|hTk 6 Z Z (mv Z)<|z2f fun x17 h18=>hTk 7 Z Z (ixR Z Z h18 tu24 z2l Z)<|hTk 8 Z Z (ldR Z z6c)<|z33 9 [] [] Z (by kernel_rfl) Z (gd0 Z) Z Tryz.func39 Z Z (z5y _ _) (Y2 Z Z) rN Z (fun _ _=>z1m) fun r19 n20=>hTk 10 Z Z (I.geq Z Z)<|z3h (by kernel_rfl)<|z0e<|gIf Z Z (fun h21=>?_) (fun h21=>?_)
       ·
        refine z21<|Zm Z<|Zm Z<|Zm Z<|z0o fun x22 h23=>Zq (ixR Z Z h23 tu24 z2l Z)<|Zq (ldR Z z6c)<|Ef Z (lit (R:=aZ) ([x22]:List V3) 115 (pP Z Z<|pN) Z tu24 z2l Z Z) fun v24=>zhi 115 [51] Z (fS Z<|fN)<|z0o fun x25 h26=>Ef Z (apn 77 Z Z Z .rd h26 tu24 z2l Z Z Z) fun v27=>Za Z<|z1q<|z2t<|z0e<|z21<|Zm Z<|Zq (I.add Z Z)<|Za Z<|z1h 8 Z fun y28=>z1q<|z14 (fun aa ww h=>⟨nvl [v27],Zu h [1,77]⟩)
       ·
        refine z2a<|z2t<|z0e<|z21<|Zm Z<|Zq (I.add Z Z)<|Za Z<|z1h 8 Z fun y29=>z1q<|z14 (fun aa ww h=>⟨nvl [(n13 0)],Zu h [1,77]⟩)
      ·
       refine z1c<|z0m<|z0l<|z41 (fun aa ww h=>⟨nvl [(n13 0)],Zu h [1,77]⟩)
     ·
      refine gEx fun n30=>z21<|Zm Z<|Za Z<|z1q<|z2t<|z0e<|z21<|Zm Z<|Zq (I.add Z Z)<|Za Z<|z1h 6 Z fun y31=>z1q<|eFrz 39 [7,53,5] Z (fS Z<|fS Z<|fS Z<|fN)<|z14 (fun aa ww h=>Zu h [1])
    ·
     refine z1c<|z0m<|z0l<|z41 (fun aa ww h=>Zu h [1])
   ·
    refine gSR<|Zm Z<|z0o fun x32 h33=>Zq (ixR Z Z h33 tu22 z4u Z)<|Zq (ldR Z zbn)<|Zm Z<|Zc [] [] Tryz.func53 Z (zhe _ _) fun r34 n35=>zan aZ [.rd (z02 aZ) [],.val (.slice none 0 0)] 1 [] [.val (.slice none 0 0)] Z Z Z<|zan z03 [.rd (z02 aZ) [],.rd (z02 z03) []] 1 [.rd (z02 aZ) []] [] Z Z Z<|zco (R:=z01) (⟨[],[]⟩:z00) 1 Z (Sp.via (Sp.prod (Sp.prod Sp.unit)))<|Es (sto 1 Z Z fH Z z4u)<|Zb Z<|z0i<|zcl [] [] Z (eC 1 Z Z zbn<|eE Z<|eN) (rN)
def z2e (a0:List V3) (a1:V3) (s3:Int):Option (Sum (Sum Int Unit) Int) :=
 if decide (s3<(a0.length:Int)) then
  idx a0 s3 >>= fun x5 =>
  if decide (a1=x5) then
   some (.inl (.inl s3))
  else
   some (.inr (w64 (s3+1)))
 else
  some (.inl (.inr ()))
def z5v (a0:List V3) (a1:V3):Option (Int) :=
 z4v (iter (z2e a0 a1) 0) fun s2 =>
 some (-1)
theorem zb7 (a0:List V3) (a1:V3):z1x Tryz.prog 92 [.rd (z02 aZ) a0,.rd aZ a1] [] (z5v a0 a1) (fun r nv=>⟨[.rd z09 r],[]⟩):=by
 refine z2n 19 Tryz.func92 Z Z Z fun H w=>?_
 refine gSR<|Eb Z (bx 1 Z) fun v1=>Zb Z<|z6v (fun (s2:Unit) aa ww=>Sta (ctx 19 H [] w) [] [] aa ww) ?_ (fun s2=>?_)
 ·
  refine gSR<|Zm Z<|Zq (z3c Z .rd Z tu24)<|Zm Z<|Zn<|z1i (fun (s3:Int) aa ww=>Sta (ctx 19 H [] w) [(0,.rd (z02 aZ) a0),(3,.val (z07 v1 0)),(7,.rd z09 (a0.length:Int)),(8,.rd z09 s3)] [(1,some (v1,.box 78 [.rd aZ a1]))] aa ww) (fun aa ww h=>Zu h [1]) (fun s3=>?_)
  refine gSR<|Zq (I.lss Z Z)<|Zn<|z0k<|gIf Z Z (fun h4=>?_) (fun h4=>?_)
  ·
   refine Zt<|z0k<|z4j<|gSR<|Zm Z<|Zb Z<|z0k<|zfk mixed (by kernel_rfl)<|Rq Z (ld 1 Z Z fH z6c Z)<|Rq Z (mv Z)<|Rq Z (mv Z)<|z7g fun x5 h6=>Rq Z (ixR Z Z h6 tu24 z2l Z)<|Rq Z (ldR Z z6c)<|Rq Z (eqA Z Z zwi Z Z zwm)<|zon<|z0e<|gIf Z Z (fun h7=>?_) (fun h7=>?_)
   ·
    refine gSR<|Zm Z<|Zb Z<|z0i<|z3y<|z0t<|z6i<|z5t<|Ze [] [] Z
   ·
    refine z2a<|z2t<|z0e<|z21<|Zq (I.add Z Z)<|Zm Z<|z1q<|z14 (fun aa ww h=>Zu h [1])
  ·
   refine z1c<|z0m<|z0l<|z5w (fun aa ww h=>Zu h [])
 ·
  refine gSR<|Zb Z<|z0i<|Ze [] [] Z
def z38 (a0:List V3) (a1:V3):Option (Bool) :=
 z5v a0 a1 >>= fun r2 =>
 some (decide (0≤r2)) >>= fun y4 =>
 some y4
theorem zao (a0:List V3) (a1:V3):z1x Tryz.prog 57 [.rd (z02 aZ) a0,.rd aZ a1] [] (z38 a0 a1) (fun r nv=>⟨[.rd z0j r],[]⟩):=by
 refine z2n 9 Tryz.func57 Z Z Z fun H w=>?_
 refine gSR<|Eb Z (bx 1 Z) fun v1=>Zb Z<|gSR<|Zm Z<|Zq (ld 1 Z Z fH z6c Z)<|Zc [] [] Tryz.func92 Z (zb7 _ _) fun r2 n3=>Zq (I.geq Z Z)<|Za Z<|z1h 4 Z fun y4=>Zn<|z0i<|Ze [] [] Z
def z7s (a0:V3) (c1_0:z00):Option (Bool) :=
 z38 c1_0.IDs a0 >>= fun r2 =>
 some r2
theorem zc5 (a0:V3) (p1_0:Value) (c1_0:z00):z1x Tryz.prog 56 [.rd aZ a0,.val (z07 p1_0 0)] [(1,some (p1_0,.box 27 [.rd z01 c1_0]))] (z7s a0 c1_0) (fun r nv=>⟨[.rd z0j r],[(1,some (p1_0,.box 27 [.rd z01 c1_0]))]⟩):=by
 refine z2n 8 Tryz.func56 Z Z Z fun H w=>?_
 refine gSR<|Eb Z (bx 2 Z) fun v1=>Zb Z<|gSR<|Zq (faB 1 Z Z Tryz.underlying27 Z (by exact z61))<|Zq (ld 1 Z Z (fP (z08 _)) z8s Z)<|Zq (ld 2 Z Z fH z6c Z)<|Zc [] [] Tryz.func57 Z (zao _ _) fun r2 n3=>Zb Z<|z0i<|Ze [] [1] Z
def z4w (a0:List V3) (c1_0:z00) (s2:Int):Option (Sum (Sum Int Unit) Int) :=
 if decide (s2<(a0.length:Int)) then
  idx a0 s2 >>= fun x4 =>
  z7s x4 c1_0 >>= fun r6 =>
  if r6 then
   some (.inl (.inl s2))
  else
   some (.inr (w64 (s2+1)))
 else
  some (.inl (.inr ()))
def z2y (a0:List V3) (c1_0:z00):Option (Int) :=
 z4v (iter (z4w a0 c1_0) 0) fun s1 =>
 some (-1)
theorem z4x (a0:List V3) (q0:Value) (l0:List V3) (p1_0:Value) (c1_0:z00):z1x Tryz.prog 91 [.vw aZ q0 l0 a0,.val (.func (.func 56) #[] #[z07 p1_0 0])] [(1,some (q0,.list aZ 78 l0)),(2,some (p1_0,.box 27 [.rd z01 c1_0]))] (z2y a0 c1_0) (fun r nv=>⟨[.rd z09 r],[(1,some (q0,.list aZ 78 l0)),(2,some (p1_0,.box 27 [.rd z01 c1_0]))]⟩):=by
 refine z2n 19 Tryz.func91 Z Z Z fun H w=>?_
 refine gSR<|Zb Z<|z6v (fun (s1:Unit) aa ww=>Sta (ctx 19 H [(1,some (q0,.list aZ 78 l0)),(2,some (p1_0,.box 27 [.rd z01 c1_0]))] w) [] [(1,some (q0,.list aZ 78 l0)),(2,some (p1_0,.box 27 [.rd z01 c1_0]))] aa ww) ?_ (fun s1=>?_)
 ·
  refine gSR<|Zm Z<|Zq (z3c Z (.vw 1 Z) Z tu24)<|Zm Z<|Zn<|z1i (fun (s2:Int) aa ww=>Sta (ctx 19 H [(1,some (q0,.list aZ 78 l0)),(2,some (p1_0,.box 27 [.rd z01 c1_0]))] w) [(0,.vw aZ q0 l0 a0),(1,.val (.func (.func 56) #[] #[z07 p1_0 0])),(7,.rd z09 (a0.length:Int)),(8,.rd z09 s2)] [(1,some (q0,.list aZ 78 l0)),(2,some (p1_0,.box 27 [.rd z01 c1_0]))] aa ww) (fun aa ww h=>Zu h [1,2]) (fun s2=>?_)
  refine gSR<|Zq (I.lss Z Z)<|Zn<|z0k<|gIf Z Z (fun h3=>?_) (fun h3=>?_)
  ·
   refine Zt<|z0k<|z4j<|gSR<|Zm Z<|Zb Z<|gSR<|Zm Z<|Zm Z<|Zm Z<|z0o fun x4 h5=>Zq (ixQ 1 Z Z Z h5 tu24 z2l)<|Zq (ldQ 1 Z Z z6c Z)<|zmf [2] [(1,2)] (gd0 Z) Z Z Tryz.func56 Z Z (zc5 _ _ _) (Y1 Z) (cQ 2 Z<|cN) (y1 Z) fun r6 n7=>Zj Z (fun h8=>?_) (fun h8=>?_)
   ·
    refine gSR<|Zm Z<|Zb Z<|z0i<|z3y<|z0t<|z6i<|z5t<|Ze [] [1,2] Z
   ·
    refine z2a<|z2t<|z0e<|z21<|Zq (I.add Z Z)<|Zm Z<|z1q<|z14 (fun aa ww h=>Zu h [1,2])
  ·
   refine z1c<|z0m<|z0l<|z5w (fun aa ww h=>Zu h [1,2])
 ·
  refine gSR<|Zb Z<|z0i<|Ze [] [1,2] Z
def z5f (c1_0:z00) (s5:(List V3) × Int × Int):Option (Sum ((List V3) × Int) ((List V3) × Int × Int)) :=
 if decide (s5.2.2<(s5.1.length:Int)) then
  idx s5.1 s5.2.2 >>= fun x7 =>
  z7s x7 c1_0 >>= fun r10 =>
  if !r10 then
   idx s5.1 s5.2.1 >>= fun x13 =>
   some (w64 (s5.2.1+1)) >>= fun y15 =>
   some (w64 (s5.2.2+1)) >>= fun y16 =>
   some (.inr (s5.1.set (s5.2.1:Int).toNat x7,y15,y16))
  else
   some (w64 (s5.2.2+1)) >>= fun y17 =>
   some (.inr (s5.1,s5.2.1,y17))
 else
  some (.inl (s5.1,s5.2.1))
def z1s (c0:List V3) (c1_0:z00):Option ((List V3)) :=
 z2y c0 c1_0 >>= fun r1 =>
 if r1==(-1) then
  some c0
 else
  (iter (z5f c1_0) (c0,r1,w64 (r1+1))) >>= fun s4 =>
  chk (0≤s4.2∧s4.2≤(s4.1.length:Int)∧(s4.1.length:Int)≤(s4.1.length:Int)) >>= fun u18 =>
  chk ((s4.2:Int).toNat+(((s4.1.length:Int):Int).toNat - (s4.2:Int).toNat)≤s4.1.length) >>= fun u20 =>
  cut (clr s4.1 ((s4.2:Int).toNat) (((s4.1.length:Int):Int).toNat - (s4.2:Int).toNat) (Vector.replicate 32 0)) 0 s4.2 >>= fun x22 =>
  some x22
theorem z58 (p0:Value) (c0:List V3) (p1_0:Value) (c1_0:z00):z1x Tryz.prog 54 [.val p0,.val (.func (.func 56) #[] #[z07 p1_0 0])] [(1,some (p0,.list aZ 78 c0)),(2,some (p1_0,.box 27 [.rd z01 c1_0]))] (z1s c0 c1_0) (fun r nv=>⟨[.val (nv 0)],[(2,some (p1_0,.box 27 [.rd z01 c1_0])),(100,some (nv 0,.list aZ 78 r))]⟩):=by
 refine z2n 42 Tryz.func54 Z Z Z fun H w=>?_
 refine gSR<|Zb Z<|gSR<|Zm Z<|Zm Z<|call [1,2] [(1,1),(2,2)] Z Tryz.func91 Z Z (z4x _ _ _ _ _) (aW Z<|aQ Z<|aN) (Zi Z<|Zi Z<|rN) fun r1 n2=>Zb Z<|z0k<|gSR<|Zm Z<|Zq (I.eql Z Z)<|Zj Z (fun h3=>?_) (fun h3=>?_)
 ·
  refine gSR<|Zm Z<|Zb Z<|z0i<|z0t<|Ze [p0] [2,1] Z
 ·
  refine Zt<|z7y (fun (s4:(List V3) × Int) aa ww=>Sta (ctx 42 H [(1,some (p0,.list aZ 78 c0)),(2,some (p1_0,.box 27 [.rd z01 c1_0]))] w) [(0,.val p0),(5,.rd z09 s4.2)] [(1,some (p0,.list aZ 78 s4.1)),(2,some (p1_0,.box 27 [.rd z01 c1_0]))] aa ww) ?_ (fun s4=>?_)
  ·
   refine gSR<|Zm Z<|Zq (I.add Z Z)<|Zb Z<|z1i (fun (s5:(List V3) × Int × Int) aa ww=>Sta (ctx 42 H [(1,some (p0,.list aZ 78 c0)),(2,some (p1_0,.box 27 [.rd z01 c1_0]))] w) [(0,.val p0),(1,.val (.func (.func 56) #[] #[z07 p1_0 0])),(5,.rd z09 s5.2.1),(6,.rd z09 s5.2.2)] [(1,some (p0,.list aZ 78 s5.1)),(2,some (p1_0,.box 27 [.rd z01 c1_0]))] aa ww) (fun aa ww h=>Zu h [1,2]) (fun s5=>?_)
   refine z0k<|gSR<|Zm Z<|Zm Z<|Zq (z3c Z (.own 1 Z) Z tu24)<|Zq (I.lss Z Z)<|Zj Z (fun h6=>?_) (fun h6=>?_)
   ·
    refine Zt<|z0k<|z4j<|gSR<|Zm Z<|Zm Z<|z0o fun x7 h8=>Zq (ixO 1 Z Z Z h8 tu24 z2l)<|Zq (ld 1 Z Z (Foc.el h8) z6c Z)<|Eb Z (z83 3 z2l (.zr (R:=aZ) (x:=(Vector.replicate 32 0)) zii)) fun v9=>Es (sto 3 Z Z fH Z z2l)<|Zn<|gSR<|Zm Z<|Zq (ld 3 Z Z fH z6c Z)<|zmf [2] [(1,2)] (gd0 Z) Z Z Tryz.func56 Z Z (zc5 _ _ _) (Y1 Z) (cQ 2 Z<|cN) (y1 Z) fun r10 n11=>Zq (ze5 Z)<|Zj Z (fun h12=>?_) (fun h12=>?_)
    ·
     refine gSR<|Zm Z<|Zm Z<|Zq (ld 3 Z Z fH z6c Z)<|z0o fun x13 h14=>Zq (ixO 1 Z Z Z h14 tu24 z2l)<|Es (sto 1 Z Z (Foc.el h14) Z z2l)<|Zn<|z21<|Zm Z<|Zq (I.add Z Z)<|Za Z<|z1h 5 Z fun y15=>z1q<|z2t<|z0e<|z21<|Zm Z<|Zq (I.add Z Z)<|Za Z<|z1h 6 Z fun y16=>z1q<|z14 (fun aa ww h=>Zu h [1,2])
    ·
     refine z2a<|z2t<|z0e<|z21<|Zm Z<|Zq (I.add Z Z)<|Za Z<|z1h 6 Z fun y17=>z1q<|z14 (fun aa ww h=>Zu h [1,2])
   ·
    refine z1c<|z0m<|z0l<|z41 (fun aa ww h=>Zu h [1,2])
  ·
   refine gSR<|Zm Z<|Zm Z<|z0o fun u18 h19=>Zq (z111 1 Z Z (.to Z) .no (z5l h19) tu24 z2l)<|z0o fun u20 h21=>EsV (clrS 1 Z Z (z5l h21) Z tu24 z2l zii Z)<|Zn<|gSR<|Zm Z<|Zm Z<|z0o fun x22 h23=>Ef Z (cutO 1 Z Z Z h23 tu24 z2l) fun v24=>Zb Z<|z0i<|Ze [v24] [2,1] Z
def z8r (a0:List z00) (r1:z00 × Int) (s6:(List (List V3)) × Int):Option (Sum ((List (List V3))) ((List (List V3)) × Int)) :=
 if decide (s6.2<(a0.length:Int)) then
  idx a0 s6.2 >>= fun x9 =>
  z12 r1.1.IDs >>= fun r12 =>
  z1s r12 x9 >>= fun r14 =>
  app 24 s6.1 [r14] >>= fun x17 =>
  some (.inr (x17,w64 (s6.2+1)))
 else
  some (.inl s6.1)
def z7w (a0:List z00):Option ((List (List V3)) × Int) :=
 z4z a0 >>= fun r1 =>
 if r1.2 != 0 then
  some ([],r1.2)
 else
  (iter (z8r a0 r1) ([],0)) >>= fun s5 =>
  some (s5,0)
theorem zi1 (a0:List z00):z1x Tryz.prog 17 [.rd (z02 z01) a0] [zG1] (z7w a0) (fun r nv=>⟨[.val (nv 0),.rd z09 r.2],[(1001,some (.bool true,.glob 1 (z3k 64 z0r) z96)),(100,some (nv 0,.list (z02 aZ) 24 r.1))]⟩):=by
 refine z2n 35 Tryz.func17 Z Z Z fun H w=>?_
 refine gSR<|Za Z<|Zb Z<|gSR<|Zm Z<|Zc [1001] [] Tryz.func13 Z (zcu _) fun r1 n2=>Zm Z<|Zq (ext Z Z)<|Zq (ext Z Z)<|Eb Z (z83 1 z4u (ZrE.nilS (ZrE.nilS ZrE.nil))) fun v3=>zan aZ [.rd (z02 aZ) [],.val (.slice none 0 0)] 1 [] [.val (.slice none 0 0)] Z Z Z<|zan z03 [.rd (z02 aZ) [],.rd (z02 z03) []] 1 [.rd (z02 aZ) []] [] Z Z Z<|zco (R:=z01) (⟨[],[]⟩:z00) 1 Z (Sp.via (Sp.prod (Sp.prod Sp.unit)))<|Es (sto 1 Z Z fH Z z4u)<|Zb Z<|z0k<|gSR<|Zm Z<|Zq (I.neq Z Z)<|Zj Z (fun h4=>?_) (fun h4=>?_)
 ·
  refine gSR<|Zm Z<|Za Z<|Zb Z<|z0i<|z0t<|zvz (z02 aZ) 24 2<|Ze [(.slice none 0 0)] [1001,2] Z
 ·
  refine Zt<|gSR<|Zb Z<|z7y (fun (s5:(List (List V3))) aa ww=>∃ nv:Nat→Value,Sta (ctx 35 H [zG1] w) [(6,.val (nv 0))] [(7,some ((nv 0),.list (z02 aZ) 24 s5)),zG1] aa ww) ?_ (fun s5=>?_)
  ·
   refine gSR<|Zm Z<|Zq (z3c Z .rd Z tu22)<|Zm Z<|Zn<|zms (z02 aZ) 24 1105<|z1i (fun (s6:(List (List V3)) × Int) aa ww=>∃ nv:Nat→Value,Sta (ctx 35 H [zG1] w) [(4,.val (z07 v3 0)),(6,.val (nv 0)),(18,.rd (z02 z01) a0),(19,.rd z09 (a0.length:Int)),(20,.rd z09 s6.2)] [(1,some (v3,.box 27 [.rd z01 r1.1])),(1104,some ((nv 0),.list (z02 aZ) 24 s6.1)),zG1] aa ww) (fun aa ww h=>⟨nvl [(.slice none 0 0)],Zu h [1,1105,1001]⟩) (fun s6=>?_)
   refine gEx fun n7=>gSR<|Zq (I.lss Z Z)<|Zn<|z0k<|gIf Z Z (fun h8=>?_) (fun h8=>?_)
   ·
    refine Zt<|z0k<|z4j<|gSR<|z0o fun x9 h10=>Zq (ixR Z Z h10 tu22 z4u Z)<|Zq (ldR Z zbn)<|Eb Z (z83 1106 z4u (ZrE.nilS (ZrE.nilS ZrE.nil))) fun v11=>zan aZ [.rd (z02 aZ) [],.val (.slice none 0 0)] 1106 [] [.val (.slice none 0 0)] Z Z Z<|zan z03 [.rd (z02 aZ) [],.rd (z02 z03) []] 1106 [.rd (z02 aZ) []] [] Z Z Z<|zco (R:=z01) (⟨[],[]⟩:z00) 1106 Z (Sp.via (Sp.prod (Sp.prod Sp.unit)))<|Es (sto 1106 Z Z fH Z z4u)<|Zn<|gSR<|Zq (faB 1 Z Z Tryz.underlying27 Z (by exact z61))<|Zq (ld 1 Z Z (fP (z08 _)) z8s Z)<|Zc [] [(100,1107)] Tryz.func55 Z (z3a _) fun r12 n13=>Zq (mkf mp0 (mp1 Z))<|Zc [1107,1106] [(100,1108),(2,1106)] Tryz.func54 Z (z58 _ _ _ _) fun r14 n15=>Zb Z<|z21<|Zm Z<|Zm Z<|zhi 1108 [28,9,30] Z (fS Z<|fS Z<|fS Z<|fN)<|Ef Z (lit (R:=(z02 aZ)) ([r14]:List (List V3)) 1109 (pP Z Z<|pN) Z tu38 z61 Z Z) fun v16=>zhi 1109 [31] Z (fS Z<|fN)<|z0o fun x17 h18=>Ef Z (apn 1104 Z Z Z .rd h18 tu38 z61 Z Z Z) fun v19=>Za Z<|z1q<|z2t<|z0e<|z21<|Zq (I.add Z Z)<|Zm Z<|z1q<|z14 (fun aa ww h=>⟨nvl [v19],Zu h [1,1104,1001]⟩)
   ·
    refine z1c<|z0m<|z0l<|z41 (fun aa ww h=>⟨nvl [(n7 0)],Zu h [1104,1001]⟩)
  ·
   refine gEx fun n20=>gSR<|Zm Z<|Za Z<|Zb Z<|z0i<|Ze [(n20 0)] [1001,7] Z
def z7l (a0:List z00) (r1:z00 × Int) (s6:(List (List V3)) × Int):Option (Sum ((List (List V3))) ((List (List V3)) × Int)) :=
 if decide (s6.2<(a0.length:Int)) then
  idx a0 s6.2 >>= fun x9 =>
  z6x x9.IDs r1.1.IDs >>= fun r11 =>
  app 24 s6.1 [r11] >>= fun x14 =>
  some (w64 (s6.2+1)) >>= fun y17 =>
  some (.inr (x14,y17))
 else
  some (.inl s6.1)
def z5x (a0:List z00):Option ((List (List V3)) × Int) :=
 z40 a0 >>= fun r1 =>
 if r1.2 != 0 then
  some ([],r1.2)
 else
  (iter (z7l a0 r1) ([],0)) >>= fun s5 =>
  some (s5,0)
theorem zfy (a0:List z00):z1x Tryz.prog 18 [.rd (z02 z01) a0] [] (z5x a0) (fun r nv=>⟨[.val (nv 0),.rd z09 r.2],[(100,some (nv 0,.list (z02 aZ) 24 r.1))]⟩):=by
 refine z2n 34 Tryz.func18 Z Z Z fun H w=>?_
 refine gSR<|Za Z<|Zb Z<|gSR<|Zm Z<|Zc [] [] Tryz.func14 Z (zc9 _) fun r1 n2=>Zm Z<|Zq (ext Z Z)<|Zq (ext Z Z)<|Eb Z (z83 1 z4u (ZrE.nilS (ZrE.nilS ZrE.nil))) fun v3=>zan aZ [.rd (z02 aZ) [],.val (.slice none 0 0)] 1 [] [.val (.slice none 0 0)] Z Z Z<|zan z03 [.rd (z02 aZ) [],.rd (z02 z03) []] 1 [.rd (z02 aZ) []] [] Z Z Z<|zco (R:=z01) (⟨[],[]⟩:z00) 1 Z (Sp.via (Sp.prod (Sp.prod Sp.unit)))<|Es (sto 1 Z Z fH Z z4u)<|Zb Z<|z0k<|gSR<|Zm Z<|Zq (I.neq Z Z)<|Zj Z (fun h4=>?_) (fun h4=>?_)
 ·
  refine gSR<|Zm Z<|Za Z<|Zb Z<|z0i<|z0t<|zvz (z02 aZ) 24 2<|Ze [(.slice none 0 0)] [2] Z
 ·
  refine Zt<|gSR<|Zb Z<|z7y (fun (s5:(List (List V3))) aa ww=>∃ nv:Nat→Value,Sta (ctx 34 H [] w) [(6,.val (nv 0))] [(33,some ((nv 0),.list (z02 aZ) 24 s5))] aa ww) ?_ (fun s5=>?_)
  ·
   refine gSR<|Zb Z<|zms (z02 aZ) 24 65<|z1i (fun (s6:(List (List V3)) × Int) aa ww=>∃ nv:Nat→Value,Sta (ctx 34 H [] w) [(0,.rd (z02 z01) a0),(4,.val (z07 v3 0)),(6,.val (nv 0)),(7,.rd z09 s6.2)] [(1,some (v3,.box 27 [.rd z01 r1.1])),(64,some ((nv 0),.list (z02 aZ) 24 s6.1))] aa ww) (fun aa ww h=>⟨nvl [(.slice none 0 0)],Zu h [1,65]⟩) (fun s6=>?_)
   refine gEx fun n7=>z0k<|gSR<|Zm Z<|Zm Z<|Zq (z3c Z .rd Z tu22)<|Zq (I.lss Z Z)<|Zj Z (fun h8=>?_) (fun h8=>?_)
   ·
    refine Zt<|z0k<|z4j<|z5p [64,90,93] mixed Z Z<|hTk 0 Z Z (mv Z)<|hTk 1 Z Z (mv Z)<|hTk 2 Z Z (mv Z)<|z2f fun x9 h10=>hTk 3 Z Z (ixR Z Z h10 tu22 z4u Z)<|hTk 4 Z Z (faR Z (z08 _) Tryz.underlying27 Z Z (by exact z61))<|hTk 5 Z Z (ldR Z z8s)<|hTk 6 Z Z (faB 1 Z Z Tryz.underlying27 Z (by exact z61))<|hTk 7 Z Z (ld 1 Z Z (fP (z08 _)) z8s Z)<|z33 8 [] [(100,90)] Z (by kernel_rfl) Z (gd0 Z) Z Tryz.func58 Z Z (zfa _ _) (Y2 Z Z) rN Z (fun _ _=>z3b) fun r11 n12=>zw2 90 [30] Z (fS Z<|fN)<|Zo 9 Z Z Z (lit (R:=(z02 aZ)) ([r11]:List (List V3)) 93 (pP Z Z<|pN) Z tu38 z61 Z Z) fun v13=>zw2 93 [31] Z (fS Z<|fN)<|z2f fun x14 h15=>Zo 10 Z Z Z (apn 64 Z Z Z .rd h15 tu38 z61 Z Z Z) fun v16=>Zf 11 Z Z z3b (asg Z)<|z3h (by kernel_rfl)<|z2t<|z0e<|z21<|Zm Z<|Zq (I.add Z Z)<|Za Z<|z1h 7 Z fun y17=>z1q<|z14 (fun aa ww h=>⟨nvl [v16],Zu h [1,64]⟩)
   ·
    refine z1c<|z0m<|z0l<|z41 (fun aa ww h=>⟨nvl [(n7 0)],Zu h [64]⟩)
  ·
   refine gEx fun n18=>gSR<|Zm Z<|Za Z<|Zb Z<|z0i<|Ze [(n18 0)] [33] Z
def z3t (a0:List (List V3)) (a1:List (List V3)) (s3:Int):Option (Sum (Sum Bool Unit) Int) :=
 if decide (s3<(a0.length:Int)) then
  idx a0 s3 >>= fun x5 =>
  idx a1 s3 >>= fun x7 =>
  z2o x5 x7 >>= fun r9 =>
  if !r9 then
   some (.inl (.inl false))
  else
   some (.inr (w64 (s3+1)))
 else
  some (.inl (.inr ()))
def z6t (a0:List (List V3)) (a1:List (List V3)):Option (Bool) :=
 if (a0.length:Int) != (a1.length:Int) then
  some false
 else
  z4v (iter (z3t a0 a1) 0) fun s2 =>
  some true
theorem zd6 (a0:List (List V3)) (a1:List (List V3)):z1x Tryz.prog 22 [.rd (z02 (z02 aZ)) a0,.rd (z02 (z02 aZ)) a1] [] (z6t a0 a1) (fun r nv=>⟨[.rd z0j r],[]⟩):=by
 refine z2n 27 Tryz.func22 Z Z Z fun H w=>?_
 refine gSR<|Zb Z<|z0k<|gSR<|Zm Z<|Zq (z3c Z .rd Z tu38)<|Zm Z<|Zq (z3c Z .rd Z tu38)<|Zq (I.neq Z Z)<|Zj Z (fun h1=>?_) (fun h1=>?_)
 ·
  refine gSR<|Zb Z<|z0i<|z0t<|Ze [] [] Z
 ·
  refine Zt<|z6v (fun (s2:Unit) aa ww=>Sta (ctx 27 H [] w) [] [] aa ww) ?_ (fun s2=>?_)
  ·
   refine gSR<|Zb Z<|z1i (fun (s3:Int) aa ww=>Sta (ctx 27 H [] w) [(0,.rd (z02 (z02 aZ)) a0),(1,.rd (z02 (z02 aZ)) a1),(5,.rd z09 s3)] [] aa ww) (fun aa ww h=>Zu h []) (fun s3=>?_)
   refine z0k<|gSR<|Zm Z<|Zm Z<|Zq (z3c Z .rd Z tu38)<|Zq (I.lss Z Z)<|Zj Z (fun h4=>?_) (fun h4=>?_)
   ·
    refine Zt<|z0k<|z4j<|z0k<|z5p [] mixed Z Z<|hTk 0 Z Z (mv Z)<|hTk 1 Z Z (mv Z)<|z2f fun x5 h6=>hTk 2 Z Z (ixR Z Z h6 tu38 z61 Z)<|hTk 3 Z Z (ldR Z z8s)<|hTk 4 Z Z (mv Z)<|hTk 5 Z Z (mv Z)<|z2f fun x7 h8=>hTk 6 Z Z (ixR Z Z h8 tu38 z61 Z)<|hTk 7 Z Z (ldR Z z8s)<|z33 8 [] [] Z (by kernel_rfl) Z (gd0 Z) Z Tryz.func48 Z Z (z69 _ _) (Y2 Z Z) rN Z (fun _ _=>z7t) fun r9 n10=>hTk 9 Z Z (ze5 Z)<|z3h (by kernel_rfl)<|z0e<|gIf Z Z (fun h11=>?_) (fun h11=>?_)
    ·
     refine gSR<|Zb Z<|z0i<|z3y<|z0t<|z6i<|z5t<|Ze [] [] Z
    ·
     refine z2a<|z2t<|z0e<|z21<|Zm Z<|Zq (I.add Z Z)<|Za Z<|z1q<|z14 (fun aa ww h=>Zu h [])
   ·
    refine z1c<|z0m<|z0l<|z5w (fun aa ww h=>Zu h [])
  ·
   refine gSR<|Zb Z<|z0i<|Ze [] [] Z
def z3l (a0:List z00) (s5:(List z00) × Int):Option (Sum ((List z00)) ((List z00) × Int)) :=
 if decide (s5.2<(a0.length:Int)) then
  idx a0 s5.2 >>= fun x8 =>
  z3o x8 >>= fun r10 =>
  app 48 s5.1 [r10] >>= fun x13 =>
  some (w64 (s5.2+1)) >>= fun y16 =>
  some (.inr (x13,y16))
 else
  some (.inl s5.1)
def z2q (a0:List z00) (s4:(List z00)) (s39:Int):Option (Sum (Sum Bool Unit) Int) :=
 if decide (s39<(a0.length:Int)) then
  idx a0 s39 >>= fun x41 =>
  idx s4 s39 >>= fun x43 =>
  z78 x41 x43 >>= fun r45 =>
  if !r45 then
   some (.inl (.inl false))
  else
   some (w64 (s39+1)) >>= fun y48 =>
   some (.inr y48)
 else
  some (.inl (.inr ()))
def z6h (a0:List z00):Option (Bool) :=
 z9h a0 >>= fun r1 =>
 if r1 then
  some true
 else
  (iter (z3l a0) ([],0)) >>= fun s4 =>
  z8k a0 >>= fun r18 =>
  z71 a0 >>= fun r20 =>
  z4z a0 >>= fun r22 =>
  z40 a0 >>= fun r25 =>
  z75 a0 >>= fun r28 =>
  z54 a0 >>= fun r31 =>
  z7w a0 >>= fun r34 =>
  z5x a0 >>= fun r36 =>
  z4v (iter (z2q a0 s4) 0) fun s38 =>
  z36 a0 >>= fun r49 =>
  z2g a0 >>= fun r51 =>
  if r49==r51 then
   if r18.1==r20.1 then
    if r18.2==r20.2 then
     z78 r22.1 r25.1 >>= fun r56 =>
     if r56 then
      if r22.2==r25.2 then
       z78 r28.1 r31.1 >>= fun r60 =>
       if r60 then
        if r28.2==r31.2 then
         z6t r34.1 r36.1 >>= fun r64 =>
         if r64 then
          some (r34.2==r36.2) >>= fun y67 =>
          some y67
         else
          some false
        else
         some false
       else
        some false
      else
       some false
     else
      some false
    else
     some false
   else
    some false
  else
   some false
end
section
open Go Go.RowKit
set_option maxRecDepth 100000
theorem zbl (a0:List z00):z1x Tryz.prog 3 [.rd (z02 z01) a0] [zG1] (z6h a0) (fun r nv=>⟨[.rd z0j r],[(1001,some (.bool true,.glob 1 (z3k 64 z0r) z96))]⟩):=by
 refine z2n 139 Tryz.func3 Z Z Z fun H w=>?_
 refine gSR<|Zb Z<|z0k<|gSR<|Zm Z<|Zc [] [] Tryz.func9 Z (zfl _) fun r1 n2=>Zj Z (fun h3=>?_) (fun h3=>?_)
 ·
  refine gSR<|Zb Z<|z0i<|z0t<|Ze [] [1001] Z
 ·
  refine Zt<|gSR<|Zb Z<|z7y (fun (s4:(List z00)) aa ww=>∃ nv:Nat→Value,Sta (ctx 139 H [zG1] w) [(0,.rd (z02 z01) a0),(3,.val (nv 0))] [(2,some ((nv 0),.list z01 27 s4)),zG1] aa ww) ?_ (fun s4=>?_)
  ·
   refine gSR<|Zb Z<|zms z01 27 1102<|z1i (fun (s5:(List z00) × Int) aa ww=>∃ nv:Nat→Value,Sta (ctx 139 H [zG1] w) [(0,.rd (z02 z01) a0),(3,.val (nv 0)),(4,.rd z09 s5.2)] [(1101,some ((nv 0),.list z01 27 s5.1)),zG1] aa ww) (fun aa ww h=>⟨nvl [(.slice none 0 0)],Zu h [1102,1001]⟩) (fun s5=>?_)
   refine gEx fun n6=>z0k<|gSR<|Zm Z<|Zm Z<|Zq (z3c Z .rd Z tu22)<|Zq (I.lss Z Z)<|Zj Z (fun h7=>?_) (fun h7=>?_)
   ·
    refine Zt<|z0k<|z4j<|z21<|Zm Z<|Zm Z<|Zm Z<|z0o fun x8 h9=>Zq (ixR Z Z h9 tu22 z4u Z)<|Zq (ldR Z zbn)<|Zc [] [] Tryz.func10 Z (zad _) fun r10 n11=>Ef Z (lit (R:=z01) ([r10]:List z00) 1103 (pP Z Z<|pN) Z tu22 z4u Z Z) fun v12=>zhi 1103 [36] Z (fS Z<|fN)<|z0o fun x13 h14=>Ef Z (apn 1101 Z Z Z .rd h14 tu22 z4u Z Z Z) fun v15=>Za Z<|z1q<|z2t<|z0e<|z21<|Zm Z<|Zq (I.add Z Z)<|Za Z<|z1h 4 Z fun y16=>z1q<|z14 (fun aa ww h=>⟨nvl [v15],Zu h [1101,1001]⟩)
   ·
    refine z1c<|z0m<|z0l<|z41 (fun aa ww h=>⟨nvl [(n6 0)],Zu h [1101,1001]⟩)
  ·
   refine gEx fun n17=>gSR<|Zm Z<|Zc [1001] [] Tryz.func11 Z (zin _) fun r18 n19=>Zm Z<|Zq (ext Z Z)<|Zq (ext Z Z)<|Za Z<|Zb Z<|gSR<|Zm Z<|Zc [] [] Tryz.func12 Z (zge _) fun r20 n21=>Zm Z<|Zq (ext Z Z)<|Zq (ext Z Z)<|Za Z<|Zb Z<|gSR<|Zm Z<|Zc [1001] [] Tryz.func13 Z (zcu _) fun r22 n23=>Zm Z<|Zq (ext Z Z)<|Zq (ext Z Z)<|Eb Z (z83 1104 z4u (ZrE.nilS (ZrE.nilS ZrE.nil))) fun v24=>zan aZ [.rd (z02 aZ) [],.val (.slice none 0 0)] 1104 [] [.val (.slice none 0 0)] Z Z Z<|zan z03 [.rd (z02 aZ) [],.rd (z02 z03) []] 1104 [.rd (z02 aZ) []] [] Z Z Z<|zco (R:=z01) (⟨[],[]⟩:z00) 1104 Z (Sp.via (Sp.prod (Sp.prod Sp.unit)))<|Es (sto 1104 Z Z fH Z z4u)<|Zb Z<|gSR<|Zm Z<|Zc [] [] Tryz.func14 Z (zc9 _) fun r25 n26=>Zm Z<|Zq (ext Z Z)<|Zq (ext Z Z)<|Eb Z (z83 1105 z4u (ZrE.nilS (ZrE.nilS ZrE.nil))) fun v27=>zan aZ [.rd (z02 aZ) [],.val (.slice none 0 0)] 1105 [] [.val (.slice none 0 0)] Z Z Z<|zan z03 [.rd (z02 aZ) [],.rd (z02 z03) []] 1105 [.rd (z02 aZ) []] [] Z Z Z<|zco (R:=z01) (⟨[],[]⟩:z00) 1105 Z (Sp.via (Sp.prod (Sp.prod Sp.unit)))<|Es (sto 1105 Z Z fH Z z4u)<|Zb Z<|gSR<|Zm Z<|Zc [1001] [] Tryz.func15 Z (zgp _) fun r28 n29=>Zm Z<|Zq (ext Z Z)<|Zq (ext Z Z)<|Eb Z (z83 1106 z4u (ZrE.nilS (ZrE.nilS ZrE.nil))) fun v30=>zan aZ [.rd (z02 aZ) [],.val (.slice none 0 0)] 1106 [] [.val (.slice none 0 0)] Z Z Z<|zan z03 [.rd (z02 aZ) [],.rd (z02 z03) []] 1106 [.rd (z02 aZ) []] [] Z Z Z<|zco (R:=z01) (⟨[],[]⟩:z00) 1106 Z (Sp.via (Sp.prod (Sp.prod Sp.unit)))<|Es (sto 1106 Z Z fH Z z4u)<|Zb Z<|gSR<|Zm Z<|Zc [] [] Tryz.func16 Z (zfd _) fun r31 n32=>Zm Z<|Zq (ext Z Z)<|Zq (ext Z Z)<|Eb Z (z83 1107 z4u (ZrE.nilS (ZrE.nilS ZrE.nil))) fun v33=>zan aZ [.rd (z02 aZ) [],.val (.slice none 0 0)] 1107 [] [.val (.slice none 0 0)] Z Z Z<|zan z03 [.rd (z02 aZ) [],.rd (z02 z03) []] 1107 [.rd (z02 aZ) []] [] Z Z Z<|zco (R:=z01) (⟨[],[]⟩:z00) 1107 Z (Sp.via (Sp.prod (Sp.prod Sp.unit)))<|Es (sto 1107 Z Z fH Z z4u)<|Zb Z<|gSR<|Zm Z<|Zc [1001] [(100,1108)] Tryz.func17 Z (zi1 _) fun r34 n35=>Zm Z<|Zq (ext Z Z)<|Zq (ext Z Z)<|Za Z<|Zb Z<|gSR<|Zm Z<|Zc [] [(100,1109)] Tryz.func18 Z (zfy _) fun r36 n37=>Zm Z<|Zq (ext Z Z)<|Zq (ext Z Z)<|Za Z<|Zb Z<|z6v (fun (s38:Unit) aa ww=>Sta (ctx 139 H [zG1] w) [(0,.rd (z02 z01) a0),(5,.rd z0j r18.1),(6,.rd z09 r18.2),(7,.rd z0j r20.1),(8,.rd z09 r20.2),(9,.val (z07 v24 0)),(10,.rd z09 r22.2),(11,.val (z07 v27 0)),(12,.rd z09 r25.2),(13,.val (z07 v30 0)),(14,.rd z09 r28.2),(15,.val (z07 v33 0)),(16,.rd z09 r31.2),(17,.val (n35 0)),(18,.rd z09 r34.2),(19,.val (n37 0)),(20,.rd z09 r36.2)] [(1104,some (v24,.box 27 [.rd z01 r22.1])),(1105,some (v27,.box 27 [.rd z01 r25.1])),(1106,some (v30,.box 27 [.rd z01 r28.1])),(1107,some (v33,.box 27 [.rd z01 r31.1])),(1108,some ((n35 0),.list (z02 aZ) 24 r34.1)),(1109,some ((n37 0),.list (z02 aZ) 24 r36.1)),zG1] aa ww) ?_ (fun s38=>?_)
   ·
    refine gSR<|Zb Z<|z1i (fun (s39:Int) aa ww=>Sta (ctx 139 H [zG1] w) [(0,.rd (z02 z01) a0),(3,.val (n17 0)),(5,.rd z0j r18.1),(6,.rd z09 r18.2),(7,.rd z0j r20.1),(8,.rd z09 r20.2),(9,.val (z07 v24 0)),(10,.rd z09 r22.2),(11,.val (z07 v27 0)),(12,.rd z09 r25.2),(13,.val (z07 v30 0)),(14,.rd z09 r28.2),(15,.val (z07 v33 0)),(16,.rd z09 r31.2),(17,.val (n35 0)),(18,.rd z09 r34.2),(19,.val (n37 0)),(20,.rd z09 r36.2),(21,.rd z09 s39)] [(2,some ((n17 0),.list z01 27 s4)),(1104,some (v24,.box 27 [.rd z01 r22.1])),(1105,some (v27,.box 27 [.rd z01 r25.1])),(1106,some (v30,.box 27 [.rd z01 r28.1])),(1107,some (v33,.box 27 [.rd z01 r31.1])),(1108,some ((n35 0),.list (z02 aZ) 24 r34.1)),(1109,some ((n37 0),.list (z02 aZ) 24 r36.1)),zG1] aa ww) (fun aa ww h=>Zu h [2,1104,1105,1106,1107,1108,1109,1001]) (fun s39=>?_)
    refine z0k<|gSR<|Zm Z<|Zm Z<|Zq (z3c Z .rd Z tu22)<|Zq (I.lss Z Z)<|Zj Z (fun h40=>?_) (fun h40=>?_)
    ·
     refine Zt<|z0k<|z4j<|z0k<|z5p [] mixed Z Z<|hTk 0 Z Z (mv Z)<|hTk 1 Z Z (mv Z)<|z2f fun x41 h42=>hTk 2 Z Z (ixR Z Z h42 tu22 z4u Z)<|hTk 3 Z Z (ldR Z zbn)<|hTk 4 Z Z (mv Z)<|hTk 5 Z Z (mv Z)<|z2f fun x43 h44=>hTk 6 Z Z (ixO 2 Z Z Z h44 tu22 z4u)<|hTk 7 Z Z (ld 2 Z Z (Foc.el h44) zbn Z)<|z33 8 [] [] Z (by kernel_rfl) Z (gd0 Z) Z Tryz.func19 Z Z (zag _ _) (Y2 Z Z) rN Z (fun _ _=>z7t) fun r45 n46=>hTk 9 Z Z (ze5 Z)<|z3h (by kernel_rfl)<|z0e<|gIf Z Z (fun h47=>?_) (fun h47=>?_)
     ·
      refine gSR<|Zb Z<|z0i<|z3y<|z0t<|z6i<|z5t<|Ze [] [1001] Z
     ·
      refine z2a<|z2t<|z0e<|z21<|Zm Z<|Zq (I.add Z Z)<|Za Z<|z1h 21 Z fun y48=>z1q<|z14 (fun aa ww h=>Zu h [2,1104,1105,1106,1107,1108,1109,1001])
    ·
     refine z1c<|z0m<|z0l<|z5w (fun aa ww h=>Zu h [1104,1105,1106,1107,1108,1109,1001])
   ·
    refine gSR<|Zm Z<|Zc [1001] [] Tryz.func20 Z (z8u _) fun r49 n50=>Zm Z<|Zc [] [] Tryz.func21 Z (z7h _) fun r51 n52=>Zq (I.eql Z Z)<|Zm Z<|z1u 99 Z (fun h53=>?_) (fun h53=>?_)
    ·
     refine lKn 98 Z h53<|z1d Zx Z Z (mv Z)<|z1d Zx Z Z (mv Z)<|z1d Zx Z Z (eqB Tryz.underlying4 Z Z)<|Zq (pkT Z Z)<|Zm Z<|z1u 104 Z (fun h54=>?_) (fun h54=>?_)
     ·
      refine lKn 102 Z h54<|lKn 103 Z h54<|z1d Zx Z Z (mv Z)<|z1d Zx Z Z (mv Z)<|z1d Zx Z Z (I.eql Z Z)<|Zq (pkT Z Z)<|Zm Z<|z1u 109 Z (fun h55=>?_) (fun h55=>?_)
      ·
       refine lKn 107 Z h55<|lKn 108 Z h55<|z1d Zx Z Z (ld 1104 Z Z fH zbn Z)<|z1d Zx Z Z (ld 1105 Z Z fH zbn Z)<|zeg [] [] Zx Z Tryz.func19 Z Z (zag _ _) (Y2 Z Z) rN fun r56 n57=>Zq (pkT Z Z)<|Zm Z<|z1u 114 Z (fun h58=>?_) (fun h58=>?_)
       ·
        refine lKn 112 Z h58<|lKn 113 Z h58<|z1d Zx Z Z (mv Z)<|z1d Zx Z Z (mv Z)<|z1d Zx Z Z (I.eql Z Z)<|Zq (pkT Z Z)<|Zm Z<|z1u 119 Z (fun h59=>?_) (fun h59=>?_)
        ·
         refine lKn 117 Z h59<|lKn 118 Z h59<|z1d Zx Z Z (ld 1106 Z Z fH zbn Z)<|z1d Zx Z Z (ld 1107 Z Z fH zbn Z)<|zeg [] [] Zx Z Tryz.func19 Z Z (zag _ _) (Y2 Z Z) rN fun r60 n61=>Zq (pkT Z Z)<|Zm Z<|z1u 124 Z (fun h62=>?_) (fun h62=>?_)
         ·
          refine lKn 122 Z h62<|lKn 123 Z h62<|z1d Zx Z Z (mv Z)<|z1d Zx Z Z (mv Z)<|z1d Zx Z Z (I.eql Z Z)<|Zq (pkT Z Z)<|Zm Z<|z1u 129 Z (fun h63=>?_) (fun h63=>?_)
          ·
           refine lKn 127 Z h63<|lKn 128 Z h63<|z1d Zx Z Z (mv Z)<|z1d Zx Z Z (mv Z)<|zhi 1108 [17,130] Z (fS Z<|fS Z<|fN)<|zhi 1109 [19,131] Z (fS Z<|fS Z<|fN)<|zeg [] [] Zx Z Tryz.func22 Z Z (zd6 _ _) (Y2 Z Z) rN fun r64 n65=>Zq (pkT Z Z)<|Zm Z<|z1u 134 Z (fun h66=>?_) (fun h66=>?_)
           ·
            refine lKn 132 Z h66<|lKn 133 Z h66<|z1d Zx Z Z (mv Z)<|z1d Zx Z Z (mv Z)<|z1d Zx Z Z (I.eql Z Z)<|Zq (pkT Z Z)<|Za Z<|z1h 2 Z fun y67=>Zn<|z0i<|Ze [] [1001] Z
           ·
            refine lKn 132 Z h66<|lKn 133 Z h66<|Zk Z<|Zk Z<|Zk Z<|Zq (pkF Z Z)<|Zb Z<|z0i<|Ze [] [1001] Z
          ·
           refine lKn 127 Z h63<|lKn 128 Z h63<|Zk Z<|Zk Z<|Zk Z<|Zq (pkF Z Z)<|Zm Z<|Zk Z<|Zk Z<|Zk Z<|Zq (pkF Z Z)<|Zb Z<|z0i<|Ze [] [1001] Z
         ·
          refine lKn 122 Z h62<|lKn 123 Z h62<|Zk Z<|Zk Z<|Zk Z<|Zq (pkF Z Z)<|Zm Z<|Zk Z<|Zk Z<|Zk Z<|Zq (pkF Z Z)<|Zm Z<|Zk Z<|Zk Z<|Zk Z<|Zq (pkF Z Z)<|Zb Z<|z0i<|Ze [] [1001] Z
        ·
         refine lKn 117 Z h59<|lKn 118 Z h59<|Zk Z<|Zk Z<|Zk Z<|Zq (pkF Z Z)<|Zm Z<|Zk Z<|Zk Z<|Zk Z<|Zq (pkF Z Z)<|Zm Z<|Zk Z<|Zk Z<|Zk Z<|Zq (pkF Z Z)<|Zm Z<|Zk Z<|Zk Z<|Zk Z<|Zq (pkF Z Z)<|Zb Z<|z0i<|Ze [] [1001] Z
       ·
        refine lKn 112 Z h58<|lKn 113 Z h58<|Zk Z<|Zk Z<|Zk Z<|Zq (pkF Z Z)<|Zm Z<|Zk Z<|Zk Z<|Zk Z<|Zq (pkF Z Z)<|Zm Z<|Zk Z<|Zk Z<|Zk Z<|Zq (pkF Z Z)<|Zm Z<|Zk Z<|Zk Z<|Zk Z<|Zq (pkF Z Z)<|Zm Z<|Zk Z<|Zk Z<|Zk Z<|Zq (pkF Z Z)<|Zb Z<|z0i<|Ze [] [1001] Z
      ·
       refine lKn 107 Z h55<|lKn 108 Z h55<|Zk Z<|Zk Z<|Zk Z<|Zq (pkF Z Z)<|Zm Z<|Zk Z<|Zk Z<|Zk Z<|Zq (pkF Z Z)<|Zm Z<|Zk Z<|Zk Z<|Zk Z<|Zq (pkF Z Z)<|Zm Z<|Zk Z<|Zk Z<|Zk Z<|Zq (pkF Z Z)<|Zm Z<|Zk Z<|Zk Z<|Zk Z<|Zq (pkF Z Z)<|Zm Z<|Zk Z<|Zk Z<|Zk Z<|Zq (pkF Z Z)<|Zb Z<|z0i<|Ze [] [1001] Z
     ·
      refine lKn 102 Z h54<|lKn 103 Z h54<|Zk Z<|Zk Z<|Zk Z<|Zq (pkF Z Z)<|Zm Z<|Zk Z<|Zk Z<|Zk Z<|Zq (pkF Z Z)<|Zm Z<|Zk Z<|Zk Z<|Zk Z<|Zq (pkF Z Z)<|Zm Z<|Zk Z<|Zk Z<|Zk Z<|Zq (pkF Z Z)<|Zm Z<|Zk Z<|Zk Z<|Zk Z<|Zq (pkF Z Z)<|Zm Z<|Zk Z<|Zk Z<|Zk Z<|Zq (pkF Z Z)<|Zm Z<|Zk Z<|Zk Z<|Zk Z<|Zq (pkF Z Z)<|Zb Z<|z0i<|Ze [] [1001] Z
    ·
     refine lKn 98 Z h53<|Zk Z<|Zk Z<|Zk Z<|Zq (pkF Z Z)<|Zm Z<|Zk Z<|Zk Z<|Zk Z<|Zq (pkF Z Z)<|Zm Z<|Zk Z<|Zk Z<|Zk Z<|Zq (pkF Z Z)<|Zm Z<|Zk Z<|Zk Z<|Zk Z<|Zq (pkF Z Z)<|Zm Z<|Zk Z<|Zk Z<|Zk Z<|Zq (pkF Z Z)<|Zm Z<|Zk Z<|Zk Z<|Zk Z<|Zq (pkF Z Z)<|Zm Z<|Zk Z<|Zk Z<|Zk Z<|Zq (pkF Z Z)<|Zm Z<|Zk Z<|Zk Z<|Zk Z<|Zq (pkF Z Z)<|Zb Z<|z0i<|Ze [] [1001] Z
end
section
open Go
section
variable {α:Type}
theorem ze8 {l:List α} {i:Nat} (d:α) (h:i<l.length):idx l (i:Int)=some (l.getD i d):=by rw [z0c h]; simp [h]
theorem zu3 {n:Nat} {v:Vector α n} {i:Int}:z79 v i=idx v.toList i:=rfl
theorem zzc {n:Nat} {v:Vector α n} {i:Nat} {x:α}:(zgb v (i:Int) x).toList=v.toList.set i x:=by
 unfold zgb; simp
theorem zxe {l:List α} {i j:Nat} {x d:α} (h:i<l.length):(l.set i x).getD j d=if i=j then x else l.getD j d:=by
 simp only [List.getD_eq_getElem?_getD,List.getElem?_set]
 by_cases e:i=j
 ·
  subst e; simp [h]
 ·
  simp [e]
theorem zn1 {l:List α} {n i:Nat} {d:α} (h:i<n):(l.take n).getD i d=l.getD i d:=by
 simp [List.getD_eq_getElem?_getD,List.getElem?_take,h]
theorem zm3 {l:List α} {n:Nat} {x:α} (h:n<l.length):(l.set n x).take (n+1)=l.take n++[x]:=by
 rw [List.take_add_one,List.getElem?_set_self h,List.take_set_of_le (Nat.le_refl _)]; rfl
end
theorem zos (a:UInt32) (n:Nat):(zlw a n).toNat=a.toNat * 2 ^ (min n 32) % 4294967296:=by unfold zlw; simp
theorem zdt (a:UInt32) (n:Nat):(z4g a n).toNat=a.toNat / 2 ^ (min n 32):=by
 unfold z4g
 have h1:=UInt32.toNat_lt a
 have h2:a.toNat / 2 ^ (min n 32)≤a.toNat:=Nat.div_le_self _ _
 simp; omega
def tr (x:UInt32) (n:Nat):UInt32:=z4g x n ||| zlw x (32 - n)
theorem zcs (x:UInt32) (n:Nat) (h:n≤32):z24 x (n:Int)=some (tr x n):=by
 unfold z24
 rw [z42 (by omega),z0y (by omega) (by omega),z42 (by omega)]
 simp only [bS]
 unfold tr
 rw [show ((32:Int) - (n:Int)).toNat=32 - n by omega,Int.toNat_natCast]
theorem zk6 (x:UInt32) (n:Nat) (h:1≤n) (h2:n≤31):z1b x (-(n:Int))=some (tr x n):=by
 have key:∀ n:Fin 32,1≤n.val→(UInt64.ofInt (-(n.val:Int)) &&& 31)=UInt64.ofNat (32 - n.val):=by decide +kernel
 have k2:∀ n:Fin 32,1≤n.val→(UInt64.ofNat (32 - n.val)).toNat=32 - n.val∧(32 - UInt64.ofNat (32 - n.val)).toNat=n.val:=by decide +kernel
 unfold z1b
 rw [key ⟨n, by omega⟩ h]
 simp only [bS]
 rw [(k2 ⟨n, by omega⟩ h).1,(k2 ⟨n, by omega⟩ h).2]
 unfold tr
 rw [UInt32.or_comm]
theorem zyy (x:UInt32) (a b c:Nat) (ha:1≤a∧a≤31) (hb:1≤b∧b≤31) (hc:1≤c∧c≤31):zd2 x (a:Int) (b:Int) (c:Int)=some ((tr x a ^^^ tr x b) ^^^ tr x c):=by
 unfold zd2
 rw [z0y (by omega) (by omega),z0y (by omega) (by omega),z0y (by omega) (by omega)]
 rw [show (0:Int) - (a:Int) = -(a:Int) by omega, show (0:Int) - (b:Int) = -(b:Int) by omega, show (0:Int) - (c:Int) = -(c:Int) by omega]
 rw [zk6 x a ha.1 ha.2,zk6 x b hb.1 hb.2,zk6 x c hc.1 hc.2]
 rfl
def sg0 (x:UInt32):UInt32:=(tr x 7 ^^^ tr x 18) ^^^ z4g x 3
def sg1 (x:UInt32):UInt32:=(tr x 17 ^^^ tr x 19) ^^^ z4g x 10
def word (b:List UInt8) (k:Nat):UInt32:=(((b.getD (4 * k) 0).toUInt32 * 256+(b.getD (4 * k+1) 0).toUInt32) * 256+(b.getD (4 * k+2) 0).toUInt32) * 256+(b.getD (4 * k+3) 0).toUInt32
def zvy (l:List UInt32):List UInt32:=l++[((l.getD (l.length - 16) 0+l.getD (l.length - 7) 0)+sg0 (l.getD (l.length - 15) 0))+sg1 (l.getD (l.length - 2) 0)]
def zar (b:List UInt8):Nat→List UInt32
 | 0=>(List.range 16).map (word b)
 | n+1=>zvy (zar b n)
theorem zgu (b:List UInt8):∀ n,(zar b n).length=16+n
 | 0=>by simp [zar]
 | n+1=>by simp [zar,zvy,zgu b n]; omega
theorem zq6 (l:List UInt32) (t:Nat) (h:l.length=t):zvy l=l++[((l.getD (t - 16) 0+l.getD (t - 7) 0)+sg0 (l.getD (t - 15) 0))+sg1 (l.getD (t - 2) 0)]:=by subst h; rfl
theorem zxf (b:List UInt8) (hb:64≤b.length):iter (z4q b) ([],0)=some (zar b 0):=by
 refine z28 (F:=z4q b) (b:=zar b 0) 16 (fun i=>((List.range i).map (word b),(i:Int))) (fun i hi=>?_) ?_
 ·
  unfold z4q
  rw [if_pos (by simp; omega)]
  simp only []
  rw [z0y (x:=4 * (i:Int)) (by omega) (by omega),z0y (x:=4 * (i:Int)+1) (by omega) (by omega),z0y (x:=4 * (i:Int)+2) (by omega) (by omega),z0y (x:=4 * (i:Int)+3) (by omega) (by omega)]
  rw [show (4 * (i:Int))=((4 * i:Nat):Int) by omega, show (((4 * i:Nat):Int)+1)=((4 * i+1:Nat):Int) by omega, show (((4 * i:Nat):Int)+2)=((4 * i+2:Nat):Int) by omega, show (((4 * i:Nat):Int)+3)=((4 * i+3:Nat):Int) by omega]
  rw [ze8 0 (by omega),ze8 0 (by omega),ze8 0 (by omega),ze8 0 (by omega)]
  simp only [bS]
  rw [z18 (by simp; omega)]
  simp only [bS,z0g (show i<9223372036854775807 by omega)]
  rw [List.range_succ,List.map_append]
  rfl
 ·
  unfold z4q
  rw [if_neg (by simp)]
  rfl
theorem zx9 (b:List UInt8):iter (z4s) (zar b 0,16)=some (zar b 48):=by
 refine z28 (F:=z4s) (b:=zar b 48) 48 (fun i=>(zar b i,((16+i:Nat):Int))) (fun i hi=>?_) ?_
 ·
  have hl:=zgu b i
  unfold z4s
  rw [if_pos (by simp; omega)]
  simp only []
  rw [z0y (x:=((16+i:Nat):Int) - 15) (by omega) (by omega),z0y (x:=((16+i:Nat):Int) - 2) (by omega) (by omega),z0y (x:=((16+i:Nat):Int) - 16) (by omega) (by omega),z0y (x:=((16+i:Nat):Int) - 7) (by omega) (by omega)]
  rw [show ((16+i:Nat):Int) - 15=((16+i - 15:Nat):Int) by omega, show ((16+i:Nat):Int) - 2=((16+i - 2:Nat):Int) by omega, show ((16+i:Nat):Int) - 16=((16+i - 16:Nat):Int) by omega, show ((16+i:Nat):Int) - 7=((16+i - 7:Nat):Int) by omega]
  rw [ze8 0 (by omega),ze8 0 (by omega),ze8 0 (by omega),ze8 0 (by omega)]
  simp only [bS]
  rw [show (7:Int)=((7:Nat):Int) from rfl, show (18:Int)=((18:Nat):Int) from rfl, show (17:Int)=((17:Nat):Int) from rfl, show (19:Int)=((19:Nat):Int) from rfl]
  rw [zcs _ 7 (by omega),zcs _ 18 (by omega),zcs _ 17 (by omega),zcs _ 19 (by omega)]
  simp only [bS]
  rw [z18 (by simp; omega)]
  simp only [bS,z0g (show 16+i<9223372036854775807 by omega)]
  rw [show zar b (i+1)=zvy (zar b i) from rfl,zq6 _ (16+i) hl]
  rfl
 ·
  unfold z4s
  rw [if_neg (by simp)]
theorem z11q (x:UInt32) (y:UInt8) (h:x.toNat<16777216):(zlw x 8) ||| y.toUInt32=x * 256+y.toUInt32:=by
 apply UInt32.toNat_inj.1
 have hy:=UInt8.toNat_lt y
 rw [UInt32.toNat_or,zos,UInt32.toNat_add,UInt32.toNat_mul]
 have e1:(y.toUInt32).toNat=y.toNat:=by simp
 have e2:(256:UInt32).toNat=256:=rfl
 rw [e1,e2, show (2:Nat) ^ (min 8 32)=256 from rfl,Nat.mod_eq_of_lt (a:=x.toNat * 256) (by omega),Nat.mod_eq_of_lt (a:=x.toNat * 256+y.toNat) (by omega)]
 have:=Nat.shiftLeft_add_eq_or_of_lt (i:=8) (b:=y.toNat) (by simpa using hy) x.toNat
 rw [Nat.shiftLeft_eq, show (2:Nat) ^ 8=256 from rfl] at this
 exact this.symm
def zil (b:List UInt8) (k:Nat):Nat→UInt32
 | 0=>0
 | m+1=>zil b k m * 256+(b.getD (4 * k+m) 0).toUInt32
theorem zqm (b:List UInt8) (k:Nat):∀ m,m≤4→(zil b k m).toNat<256 ^ m
 | 0,_=>by simp [zil]
 | m+1,h=>by
  have ih:=zqm b k m (by omega)
  have hy:=UInt8.toNat_lt (b.getD (4 * k+m) 0)
  have hp:256 ^ m≤256 ^ 3:=Nat.pow_le_pow_right (by omega) (by omega)
  have e3:(256:Nat) ^ 3=16777216:=rfl
  have ep:256 ^ (m+1)=256 ^ m * 256:=Nat.pow_succ ..
  rw [zil,UInt32.toNat_add,UInt32.toNat_mul,ep]
  have e1:((b.getD (4 * k+m) 0).toUInt32).toNat=(b.getD (4 * k+m) 0).toNat:=by simp
  have e2:(256:UInt32).toNat=256:=rfl
  rw [e1,e2,Nat.mod_eq_of_lt (a:=(zil b k m).toNat * 256) (by omega),Nat.mod_eq_of_lt (by omega)]
  omega
theorem zsk (b:List UInt8) (k:Nat):zil b k 4=word b k:=by
 simp only [zil,word,Nat.add_zero]
 simp
theorem zvx (b:List UInt8) (hb:b.length=64):∃ w,iter (z63 b) (Vector.replicate 64 0,0)=some w∧w.toList.take 16=zar b 0:=by
 refine zaf (F:=z63 b) 64 (fun i s=>s.2=(i:Int)∧∀ k,k<16→s.1.toList.getD k 0=zil b k (min 4 (i - 4 * k))) (fun w=>w.toList.take 16=zar b 0) (fun i s hi hs=>?_) (fun s hs=>?_) (Vector.replicate 64 0,0) 0 (by omega) ⟨rfl, fun k hk=>?_⟩
 ·
  obtain ⟨w,j⟩:=s
  obtain ⟨h1,h2⟩:=hs
  simp only at h1 h2
  subst h1
  have hlw:w.toList.length=64:=by simp
  have hdiv:w64 (Int.tdiv (i:Int) 4)=((i / 4:Nat):Int):=by
   have:Int.tdiv (i:Int) 4=((i / 4:Nat):Int):=by
    rw [Int.tdiv_eq_ediv_of_nonneg (by omega)]; omega
   rw [this,z0y (by omega) (by omega)]
  refine ⟨(zgb w ((i / 4:Nat):Int) (zil b (i / 4) (i % 4+1)),((i+1:Nat):Int)),?_,rfl, fun k hk=>?_⟩
  ·
   unfold z63
   rw [if_pos (by simp; omega)]
   simp only [hdiv,zu3]
   rw [ze8 0 (by omega)]
   simp only [bS]
   rw [ze8 0 (by omega)]
   simp only [bS,z0g (show i<9223372036854775807 by omega)]
   rw [h2 (i / 4) (by omega), show min 4 (i - 4 * (i / 4))=i % 4 by omega]
   have hlt:=zqm b (i / 4) (i % 4) (by omega)
   have hp:256 ^ (i % 4)≤256 ^ 3:=Nat.pow_le_pow_right (by omega) (by omega)
   have e3:(256:Nat) ^ 3=16777216:=rfl
   rw [z11q _ _ (by omega)]
   have e4:zil b (i / 4) (i % 4+1)=zil b (i / 4) (i % 4) * 256+(b.getD i 0).toUInt32:=by
    show zil b (i / 4) (i % 4) * 256+(b.getD (4 * (i / 4)+i % 4) 0).toUInt32=_
    rw [show 4 * (i / 4)+i % 4=i by omega]
   rw [e4]
  ·
   simp only []
   rw [zzc,zxe (by omega)]
   by_cases hk2:i / 4=k
   ·
    subst hk2
    rw [if_pos rfl, show min 4 (i+1 - 4 * (i / 4))=i % 4+1 by omega]
   ·
    rw [if_neg hk2,h2 k hk]
    congr 1; omega
 ·
  obtain ⟨w,j⟩:=s
  obtain ⟨h1,h2⟩:=hs
  simp only at h1 h2
  subst h1
  have hlw:w.toList.length=64:=by simp
  refine ⟨w,?_,?_⟩
  ·
   unfold z63
   rw [if_neg (by simp [hb])]
  ·
   apply List.ext_getElem
   ·
    simp [zar]
   ·
    intro k k1 k2
    have hk:k<16:=by simp [zar] at k2; exact k2
    have:=h2 k hk
    rw [show min 4 (64 - 4 * k)=4 by omega,zsk] at this
    have e:w.toList.getD k 0=w.toList[k]'(by omega):=by rw [List.getD_eq_getElem?_getD,List.getElem?_eq_getElem (by omega)]; rfl
    rw [e] at this
    simp only [List.getElem_take,this,zar,List.getElem_map,List.getElem_range]
 ·
  show (Vector.replicate 64 (0:UInt32)).toList.getD k 0=_
  rw [show min 4 (0 - 4 * k)=0 by omega,Vector.toList_replicate,List.getD_eq_getElem?_getD,List.getElem?_replicate,if_pos (by omega)]
  rfl
theorem zrt (v:Vector UInt32 64) (t:Nat) (h1:16≤t) (h2:t<64) (p q r s u:UInt32) (e1:z79 v ((t - 15:Nat):Int)=some p) (e2:z79 v ((t - 2:Nat):Int)=some q) (e3:z79 v ((t - 16:Nat):Int)=some r) (e4:z79 v ((t - 7:Nat):Int)=some s) (e5:z79 v (t:Int)=some u) :
  z4k (v,(t:Int))=some (.inr (zgb v (t:Int) (((r+s)+sg0 p)+sg1 q),((t+1:Nat):Int))):=by
 have r1:=zk6 p 7 (by omega) (by omega)
 have r2:=zk6 p 18 (by omega) (by omega)
 have r3:=zk6 q 17 (by omega) (by omega)
 have r4:=zk6 q 19 (by omega) (by omega)
 have hw:=z0g (show t<9223372036854775807 by omega)
 have hd:decide ((t:Int)<64)=true:=by simp; omega
 have w1:w64 ((t:Int) - 15)=((t - 15:Nat):Int):=by rw [z0y (by omega) (by omega)]; omega
 have w2:w64 ((t:Int) - 2)=((t - 2:Nat):Int):=by rw [z0y (by omega) (by omega)]; omega
 have w3:w64 ((t:Int) - 16)=((t - 16:Nat):Int):=by rw [z0y (by omega) (by omega)]; omega
 have w4:w64 ((t:Int) - 7)=((t - 7:Nat):Int):=by rw [z0y (by omega) (by omega)]; omega
 unfold z4k
 rw [if_pos hd]
 simp only []
 rw [w1,w2,w3,w4,hw,e1,e2,e3,e4,e5]
 simp only [bS]
 rw [show (-7:Int) = -((7:Nat):Int) from rfl, show (-18:Int) = -((18:Nat):Int) from rfl, show (-17:Int) = -((17:Nat):Int) from rfl, show (-19:Int) = -((19:Nat):Int) from rfl,r1,r2,r3,r4]
 simp only [bS]
 rfl
theorem zvw (b:List UInt8) (w:Vector UInt32 64) (hw:w.toList.take 16=zar b 0):∃ v,iter (z4k) (w,16)=some v∧v.toList=zar b 48:=by
 refine zaf (F:=z4k) 48 (fun i s=>s.2=((16+i:Nat):Int)∧s.1.toList.take (16+i)=zar b i) (fun v=>v.toList=zar b 48) (fun i s hi hs=>?_) (fun s hs=>?_) (w,16) 0 (by omega) ⟨rfl,hw⟩
 ·
  obtain ⟨w,j⟩:=s
  obtain ⟨h1,h2⟩:=hs
  simp only at h1 h2
  subst h1
  have hlw:w.toList.length=64:=by simp
  have hl:=zgu b i
  have hg:∀ k,k<16+i→w.toList.getD k 0=(zar b i).getD k 0:=fun k hk=>by rw [← h2,zn1 hk]
  have hv:∀ k,k<16+i→z79 w (k:Int)=some ((zar b i).getD k 0):=fun k hk=>by rw [zu3,ze8 0 (by omega),hg k hk]
  refine ⟨_,zrt w (16+i) (by omega) (by omega) _ _ _ _ _ (hv _ (by omega)) (hv _ (by omega)) (hv _ (by omega)) (hv _ (by omega)) (z9q (by omega)),rfl,?_⟩
  simp only []
  rw [zzc, show 16+(i+1)=16+i+1 by omega,zm3 (by omega),h2, show zar b (i+1)=zvy (zar b i) from rfl,zq6 _ (16+i) hl]
 ·
  obtain ⟨w,j⟩:=s
  obtain ⟨h1,h2⟩:=hs
  simp only at h1 h2
  subst h1
  refine ⟨w,?_,?_⟩
  ·
   unfold z4k
   rw [if_neg (by simp)]
  ·
   rw [← h2,List.take_of_length_le (by simp)]
abbrev O8:=UInt32 × UInt32 × UInt32 × UInt32 × UInt32 × UInt32 × UInt32 × UInt32
def toV (s:O8):Vector UInt32 8:=#v[s.1,s.2.1,s.2.2.1,s.2.2.2.1,s.2.2.2.2.1,s.2.2.2.2.2.1,s.2.2.2.2.2.2.1,s.2.2.2.2.2.2.2]
def ofV (h:Vector UInt32 8):O8:=(h[0],h[1],h[2],h[3],h[4],h[5],h[6],h[7])
theorem z11b (h:Vector UInt32 8):toV (ofV h)=h:=by
 apply Vector.ext
 intro i hi
 unfold toV ofV
 match i,hi with
 | 0,_=>rfl
 | 1,_=>rfl
 | 2,_=>rfl
 | 3,_=>rfl
 | 4,_=>rfl
 | 5,_=>rfl
 | 6,_=>rfl
 | 7,_=>rfl
def rnd1 (k w:UInt32) (s:O8):UInt32:=(((s.2.2.2.2.2.2.2+((tr s.2.2.2.2.1 6 ^^^ tr s.2.2.2.2.1 11) ^^^ tr s.2.2.2.2.1 25))+((s.2.2.2.2.1 &&& s.2.2.2.2.2.1) ^^^ ((~~~s.2.2.2.2.1) &&& s.2.2.2.2.2.2.1)))+k)+w
def rnd2 (s:O8):UInt32:=((tr s.1 2 ^^^ tr s.1 13) ^^^ tr s.1 22)+(((s.1 &&& s.2.1) ^^^ (s.1 &&& s.2.2.1)) ^^^ (s.2.1 &&& s.2.2.1))
def rnd (k w:UInt32) (s:O8):O8:=(rnd1 k w s+rnd2 s,s.1,s.2.1,s.2.2.1,s.2.2.2.1+rnd1 k w s,s.2.2.2.2.1,s.2.2.2.2.2.1,s.2.2.2.2.2.2.1)
def zwg (K W:List UInt32) (s:O8):Nat→O8
 | 0=>s
 | n+1=>rnd (K.getD n 0) (W.getD n 0) (zwg K W s n)
theorem ztp:z8z=some z96.toList:=rfl
theorem zqy:z96.toList.length=64:=by simp
theorem zvv (w:Vector UInt32 64) (a b c d e f g z:UInt32) (i:Nat) (hi:i<64) (k u:UInt32) (hk:z79 z96 (i:Int)=some k) (hu:z79 w (i:Int)=some u) :
  z5g w (a,b,c,d,e,f,g,z,(i:Int))=some (.inr (rnd1 k u (a,b,c,d,e,f,g,z)+rnd2 (a,b,c,d,e,f,g,z),a,b,c,d+rnd1 k u (a,b,c,d,e,f,g,z),e,f,g,((i+1:Nat):Int))):=by
 have m1:=zyy e 6 11 25 (by omega) (by omega) (by omega)
 have m2:=zyy a 2 13 22 (by omega) (by omega) (by omega)
 have hw:=z0g (show i<9223372036854775807 by omega)
 have hd:decide ((i:Int)<64)=true:=by simp; omega
 unfold z5g
 rw [if_pos hd]
 simp only []
 rw [hk,hu,hw]
 simp only [bS]
 rw [show (6:Int)=((6:Nat):Int) from rfl, show (11:Int)=((11:Nat):Int) from rfl, show (25:Int)=((25:Nat):Int) from rfl, show (2:Int)=((2:Nat):Int) from rfl, show (13:Int)=((13:Nat):Int) from rfl, show (22:Int)=((22:Nat):Int) from rfl,m1,m2]
 simp only [bS]
 rfl
theorem zxv (K W:List UInt32) (a b c d e f g z:UInt32) (i:Nat) (hi:i<64) (k u:UInt32) (hk:idx K (i:Int)=some k) (hu:idx W (i:Int)=some u) :
  z31 W K (#v[a,b,c,d,e,f,g,z],(i:Int))=some (.inr (#v[rnd1 k u (a,b,c,d,e,f,g,z)+rnd2 (a,b,c,d,e,f,g,z),a,b,c,d+rnd1 k u (a,b,c,d,e,f,g,z),e,f,g],((i+1:Nat):Int))):=by
 have t1:=zcs e 6 (by omega)
 have t2:=zcs e 11 (by omega)
 have t3:=zcs e 25 (by omega)
 have t4:=zcs a 2 (by omega)
 have t5:=zcs a 13 (by omega)
 have t6:=zcs a 22 (by omega)
 have hw:=z0g (show i<9223372036854775807 by omega)
 have hd:decide ((i:Int)<64)=true:=by simp; omega
 have v0:z79 #v[a,b,c,d,e,f,g,z] 0=some a:=rfl
 have v1:z79 #v[a,b,c,d,e,f,g,z] 1=some b:=rfl
 have v2:z79 #v[a,b,c,d,e,f,g,z] 2=some c:=rfl
 have v3:z79 #v[a,b,c,d,e,f,g,z] 3=some d:=rfl
 have v4:z79 #v[a,b,c,d,e,f,g,z] 4=some e:=rfl
 have v5:z79 #v[a,b,c,d,e,f,g,z] 5=some f:=rfl
 have v6:z79 #v[a,b,c,d,e,f,g,z] 6=some g:=rfl
 have v7:z79 #v[a,b,c,d,e,f,g,z] 7=some z:=rfl
 unfold z31
 rw [if_pos hd]
 simp only []
 rw [v0,v1,v2,v3,v4,v5,v6,v7,hk,hu,hw]
 simp only [bS]
 rw [show (6:Int)=((6:Nat):Int) from rfl, show (11:Int)=((11:Nat):Int) from rfl, show (25:Int)=((25:Nat):Int) from rfl, show (2:Int)=((2:Nat):Int) from rfl, show (13:Int)=((13:Nat):Int) from rfl, show (22:Int)=((22:Nat):Int) from rfl,t1,t2,t3,t4,t5,t6]
 simp only [bS]
 rfl
def zs8 (s:O8) (i:Int):UInt32 × UInt32 × UInt32 × UInt32 × UInt32 × UInt32 × UInt32 × UInt32 × Int:=match s with
 | (a,b,c,d,e,f,g,z)=>(a,b,c,d,e,f,g,z,i)
theorem zrp (w:Vector UInt32 64) (s:O8) (i:Nat) (hi:i<64):z5g w (zs8 s (i:Int))=some (.inr (zs8 (rnd (z96.toList.getD i 0) (w.toList.getD i 0) s) ((i+1:Nat):Int))):=by
 obtain ⟨a,b,c,d,e,f,g,z⟩:=s
 exact zvv w a b c d e f g z i hi _ _ (ze8 0 (by rw [zqy]; exact hi)) (ze8 0 (by simp; exact hi))
theorem zsg (w:Vector UInt32 64) (s:O8):iter (z5g w) (zs8 s 0)=some (zwg z96.toList w.toList s 64):=by
 refine z28 (F:=z5g w) (b:=zwg z96.toList w.toList s 64) 64 (fun i=>zs8 (zwg z96.toList w.toList s i) (i:Int)) (fun i hi=>zrp w _ i hi) ?_
 generalize zwg z96.toList w.toList s 64=q
 obtain ⟨a,b,c,d,e,f,g,z⟩:=q
 unfold zs8 z5g
 rw [if_neg (by simp)]
theorem zuh (K W:List UInt32) (hk:K.length=64) (hW:W.length=64) (s:O8) (i:Nat) (hi:i<64):z31 W K (toV s,(i:Int))=some (.inr (toV (rnd (K.getD i 0) (W.getD i 0) s),((i+1:Nat):Int))):=by
 obtain ⟨a,b,c,d,e,f,g,z⟩:=s
 exact zxv K W a b c d e f g z i hi _ _ (ze8 0 (by omega)) (ze8 0 (by omega))
theorem zt1 (K W:List UInt32) (hk:K.length=64) (hW:W.length=64) (s:O8):iter (z31 W K) (toV s,0)=some (toV (zwg K W s 64)):=by
 refine z28 (F:=z31 W K) (b:=toV (zwg K W s 64)) 64 (fun i=>(toV (zwg K W s i),(i:Int))) (fun i hi=>zuh K W hk hW _ i hi) ?_
 generalize toV (zwg K W s 64)=q
 unfold z31
 rw [if_neg (by simp)]
theorem z10v (s:O8):zc0 s=z2k (toV s):=by
 funext x
 obtain ⟨h,i⟩:=x
 unfold zc0 z2k
 simp only [bS]
 show (if decide (i<8)=true then z79 (toV s) i >>= _ else _)=_
 split
 ·
  cases h1:z79 (toV s) i <;> cases h2:z79 h i <;> rfl
 ·
  rfl
def addV (h v:Vector UInt32 8):Vector UInt32 8:=(iter (z2k v) (h,0)).getD h
theorem zui (h v:Vector UInt32 8):iter (z2k v) (h,0)=some (addV h v):=by
 obtain ⟨r,h1,-⟩:=zaf (F:=z2k v) 8 (fun i s=>s.2=(i:Int)) (fun _=>True) (fun i s hi hs=>by
  obtain ⟨u,j⟩:=s
  simp only at hs
  subst hs
  unfold z2k
  rw [if_pos (by simp; omega)]
  rw [z9q (show i<8 by omega),z9q (show i<8 by omega)]
  simp only [bS,z0g (show i<9223372036854775807 by omega)]
  exact ⟨_,rfl,rfl⟩) (fun s hs=>by
  obtain ⟨u,j⟩:=s
  simp only at hs
  subst hs
  unfold z2k
  rw [if_neg (by simp)]
  exact ⟨_,rfl,trivial⟩) (h,0) 0 (by omega) rfl
 unfold addV
 rw [h1]; rfl
def gr (h:Vector UInt32 8) (b:List UInt8):Vector UInt32 8:=addV h (toV (zwg z96.toList (zar b 48) (ofV h) 64))
theorem z12y (h:Vector UInt32 8) (b:List UInt8) (hb:b.length=64):z8n h b=some (gr h b):=by
 unfold z8n
 rw [zxf b (by omega)]
 simp only [bS]
 rw [zx9 b]
 simp only [bS,ztp]
 have:=zt1 z96.toList (zar b 48) zqy (by rw [zgu]) (ofV h)
 rw [z11b] at this
 rw [this]
 simp only [bS]
 rw [zui]
 rfl
theorem zzu (h:Vector UInt32 8) (b:List UInt8) (hb:64≤b.length):zcj h b=some (gr h (b.take 64)):=by
 unfold zcj zc4
 rw [show (64:Int)=((64:Nat):Int) from rfl, show (0:Int)=((0:Nat):Int) from rfl,zd0 (by omega) hb]
 simp only [bS,List.drop_zero,Nat.sub_zero]
 obtain ⟨w,h1,h2⟩:=zvx (b.take 64) (by simp; omega)
 rw [show ((0:Nat):Int)=0 from rfl,h1]
 simp only [bS]
 obtain ⟨v,h3,h4⟩:=zvw (b.take 64) w h2
 rw [h3]
 simp only [bS]
 have hv:∀ i:Nat,(hi:i<8)→z79 h (i:Int)=some h[i]:=fun i hi=>z9q hi
 rw [show z79 h 0=some h[0] from hv 0 (by omega), show z79 h 1=some h[1] from hv 1 (by omega), show z79 h 2=some h[2] from hv 2 (by omega), show z79 h 3=some h[3] from hv 3 (by omega), show z79 h 4=some h[4] from hv 4 (by omega), show z79 h 5=some h[5] from hv 5 (by omega), show z79 h 6=some h[6] from hv 6 (by omega), show z79 h 7=some h[7] from hv 7 (by omega)]
 simp only [bS]
 have:=zsg v (ofV h)
 rw [show (h[0],h[1],h[2],h[3],h[4],h[5],h[6],h[7],(0:Int))=zs8 (ofV h) 0 from rfl,this]
 simp only [bS]
 rw [z10v,h4,zui]
 rfl
end
section
open Go
def blk (h:Vector UInt32 8) (b:List UInt8):Vector UInt32 8:=if h64:64≤b.length then blk (gr h (b.take 64)) (b.drop 64) else h
termination_by b.length
decreasing_by simp; omega
theorem zr8 {h:Vector UInt32 8} {b:List UInt8} (hb:b.length<64):blk h b=h:=by rw [blk,dif_neg (by omega)]
theorem zqr {h:Vector UInt32 8} {b:List UInt8} (hb:64≤b.length):blk h b=blk (gr h (b.take 64)) (b.drop 64):=by rw [blk,dif_pos hb]
def lft (b:List UInt8):List UInt8:=b.drop (b.length / 64 * 64)
theorem ztz {b:List UInt8} (hb:b.length<64):lft b=b:=by unfold lft; rw [Nat.div_eq_of_lt hb]; simp
theorem zug {b:List UInt8} (hb:64≤b.length):lft b=lft (b.drop 64):=by
 unfold lft
 rw [List.drop_drop,List.length_drop]
 congr 1
 omega
theorem zub (b:List UInt8):(lft b).length<64:=by unfold lft; simp; omega
theorem z10f (h:Vector UInt32 8):∀ (n:Nat) (a c:List UInt8),a.length=n→blk h (a++c)=blk (blk h a) (lft a++c)∧lft (a++c)=lft (lft a++c):=by
 intro n
 induction n using Nat.strongRecOn generalizing h with
 | _ n ih =>
  intro a c ha
  by_cases h64:64≤a.length
  ·
   have e1:(a++c).take 64=a.take 64:=by rw [List.take_append_of_le_length h64]
   have e2:(a++c).drop 64=a.drop 64++c:=by rw [List.drop_append_of_le_length h64]
   have hl:64≤(a++c).length:=by simp; omega
   obtain ⟨i1,i2⟩:=ih (a.drop 64).length (by simp; omega) (gr h (a.take 64)) (a.drop 64) c rfl
   rw [zqr hl,e1,e2,zqr h64,zug h64,zug hl,e2]
   exact ⟨i1,i2⟩
  ·
   rw [zr8 (b:=a) (by omega),ztz (b:=a) (by omega)]
   exact ⟨rfl,rfl⟩
theorem ztw:∀ (n:Nat) (m:z1z) (r:List UInt8),r.length=n→iter z9a (m,r)=some ({ m with Words:=blk m.Words r },lft r):=by
 intro n
 induction n using Nat.strongRecOn with
 | _ n ih =>
  intro m r hr
  by_cases h64:64≤r.length
  ·
   have hs:z9a (m,r)=some (.inr ({ m with Words:=gr m.Words (r.take 64) },r.drop 64)):=by
    unfold z9a
    rw [if_pos (by simp; omega)]
    simp only []
    rw [zzu _ _ h64, show (64:Int)=((64:Nat):Int) from rfl,zd0 h64 (Nat.le_refl _)]
    simp only [bS]
    rw [List.take_of_length_le (l:=r.drop 64) (by simp)]
   rw [z1g hs,ih (r.drop 64).length (by simp; omega) _ _ rfl,zqr h64,zug h64]
  ·
   refine (z11 (b:=(m,r)) ?_).trans ?_
   ·
    unfold z9a
    rw [if_neg (by simp; omega)]
   ·
    rw [zr8 (by omega),ztz (by omega)]
theorem z10j (a b:List UInt8) (h:a.length+b.length≤1000000):z1r [a,b]=some (a++b):=by
 have l1:iter (z0q [a,b]) (0,0)=some ((a.length+b.length:Nat):Int):=by
  have s1:z0q [a,b] (0,0)=some (.inr ((a.length:Int),1)):=by
   unfold z0q
   rw [if_pos (by simp)]
   simp only []
   rw [show idx [a,b] 0=some a from rfl]
   simp only [bS]
   rw [z0y (x:=(0:Int)+(a.length:Int)) (by omega) (by omega),z0y (x:=(0:Int)+1) (by omega) (by omega)]
   rw [if_neg (by simp)]
   simp
  have s2:z0q [a,b] ((a.length:Int),1)=some (.inr (((a.length+b.length:Nat):Int),2)):=by
   unfold z0q
   rw [if_pos (by simp)]
   simp only []
   rw [show idx [a,b] 1=some b from rfl]
   simp only [bS]
   rw [z0y (x:=(a.length:Int)+(b.length:Int)) (by omega) (by omega),z0y (x:=(1:Int)+1) (by omega) (by omega)]
   rw [if_neg (by simp; omega)]
   simp
  have s3:z0q [a,b] (((a.length+b.length:Nat):Int),2)=some (.inl ((a.length+b.length:Nat):Int)):=by
   unfold z0q
   rw [if_neg (by simp)]
  rw [z1g s1,z1g s2,z11 s3]
 have gw:z3j ((a.length+b.length:Nat):Int)=some []:=by
  unfold z3j
  rw [if_neg (by simp; omega)]
  rw [show ((([]:List UInt8).length:Nat):Int)=0 from rfl, show w64 ((0:Int) - 0)=0 by decide,Int.sub_zero,z0y (by omega) (by omega)]
  simp only [bS]
  split
  ·
   rw [zlo (by omega) (by omega)]
   simp only [bS]
   rw [show (0:Int)=((0:Nat):Int) from rfl,zd0 (Nat.le_refl _) (Nat.zero_le _)]
   simp
  ·
   rfl
 have l2:iter (z0p [a,b]) ([],0)=some (a++b):=by
  have s1:z0p [a,b] ([],0)=some (.inr (a,1)):=by
   unfold z0p
   rw [if_pos (by simp)]
   simp only []
   rw [show idx [a,b] 0=some a from rfl,z0y (x:=(0:Int)+1) (by omega) (by omega)]
   simp only [bS]
   rw [z18 (by simp; omega)]
   simp
  have s2:z0p [a,b] (a,1)=some (.inr (a++b,2)):=by
   unfold z0p
   rw [if_pos (by simp)]
   simp only []
   rw [show idx [a,b] 1=some b from rfl,z0y (x:=(1:Int)+1) (by omega) (by omega)]
   simp only [bS]
   rw [z18 (by simp; omega)]
   simp
  have s3:z0p [a,b] (a++b,2)=some (.inl (a++b)):=by
   unfold z0p
   rw [if_neg (by simp)]
  rw [z1g s1,z1g s2,z11 s3]
 unfold z1r
 rw [l1]
 simp only [bS]
 rw [gw]
 simp only [bS]
 rw [l2]
 simp only [bS]
theorem z10c (m:z1z) (b:List UInt8) (h:m.Rest.length+b.length≤1000000):zas m b=some ⟨blk m.Words (m.Rest++b),lft (m.Rest++b),w64 (m.N+(b.length:Int))⟩:=by
 unfold zas
 rw [z10j _ _ h]
 simp only [bS]
 rw [ztw _ _ _ rfl]
 simp only [bS]
 unfold z7z
 have:=zub (m.Rest++b)
 rw [z18 (by simp; omega)]
 simp only [bS,List.nil_append]
def H0:Vector UInt32 8:=#v[1779033703,3144134277,1013904242,2773480762,1359893119,2600822924,528734635,1541459225]
def zsr (a:List UInt8):z1z:=⟨blk H0 a,lft a,(a.length:Int)⟩
theorem zxy:zcg=some (zsr []):=by
 unfold zcg zsr
 rw [zr8 (by simp),ztz (by simp)]
 rfl
theorem zoc (a b:List UInt8) (h:a.length+b.length≤500000):zas (zsr a) b=some (zsr (a++b)):=by
 have hl:=zub a
 rw [z10c (zsr a) b (by show (lft a).length+b.length≤1000000; omega)]
 obtain ⟨h1,h2⟩:=z10f H0 _ a b rfl
 unfold zsr
 rw [h1,h2,z0y (by simp; omega) (by simp; omega)]
 simp
theorem zsb (b:List UInt8) (hb:b.length≤1000000):∀ (n:Nat) (h:Vector UInt32 8) (i:Nat),(b.drop i).length=n→i≤b.length→iter (z4o b) (h,(i:Int))=some (blk h (b.drop i)):=by
 intro n
 induction n using Nat.strongRecOn with
 | _ n ih =>
  intro h i hn hi
  have hw:w64 ((i:Int)+64)=((i+64:Nat):Int):=by rw [z0y (by omega) (by omega)]; omega
  simp only [List.length_drop] at hn
  by_cases h64:i+64≤b.length
  ·
   have hs:z4o b (h,(i:Int))=some (.inr (gr h ((b.drop i).take 64),((i+64:Nat):Int))):=by
    unfold z4o
    simp only [hw]
    rw [if_pos (by simp; omega),zd0 (by omega) h64]
    simp only [bS]
    rw [show i+64 - i=64 by omega,z12y _ _ (by simp; omega)]
    simp only [bS]
   rw [z1g hs,ih (b.drop (i+64)).length (by simp; omega) _ _ rfl h64,zqr (b:=b.drop i) (by simp; omega),List.drop_drop]
  ·
   refine (z11 (b:=h) ?_).trans ?_
   ·
    unfold z4o
    simp only [hw]
    rw [if_neg (by simp; omega)]
   ·
    rw [zr8 (by simp; omega)]
theorem zuc (h:Vector UInt32 8) (b:List UInt8) (hb:b.length≤1000000):z8v h b=some (blk h b):=by
 unfold z8v
 have:=zsb b hb _ h 0 rfl (by omega)
 rw [show (0:Int)=((0:Nat):Int) from rfl,this]
 simp only [bS,List.drop_zero]
def zrs (n:Nat):Nat:=(119 - n % 64) % 64
def z8w (n:Nat):List UInt8:=(List.range 8).map fun i=>(z7b (UInt64.ofNat n * 8) (56 - 8 * i)).toUInt8
def tl (n:Nat):List UInt8:=([128]++List.replicate (zrs n) 0)++z8w n
theorem zo2 (n:Nat):UInt64.ofInt (n:Int)=UInt64.ofNat n:=by
 apply UInt64.toNat_inj.1
 unfold UInt64.ofInt
 simp only [UInt64.toNat_ofNat']
 omega
theorem zw0 (n:Nat) (x:List UInt8) (hx:x.length≤100):iter (za3 (UInt64.ofNat n * 8)) (x,56)=some (x++z8w n):=by
 rw [show (x,(56:Int))=(x++(z8w n).take 0,56 - 8 * ((0:Nat):Int)) by simp]
 refine z28 (F:=za3 (UInt64.ofNat n * 8)) (b:=x++z8w n) 8 (fun i=>(x++(z8w n).take i,56 - 8 * (i:Int))) (fun i hi=>?_) ?_
 ·
  have hl:(z8w n).length=8:=by simp [z8w]
  unfold za3
  rw [if_pos (by simp; omega)]
  simp only []
  rw [z42 (by omega),z0y (by omega) (by omega)]
  simp only [bS]
  rw [z18 (by simp; omega)]
  simp only [bS]
  rw [List.take_add_one,List.getElem?_eq_getElem (by omega)]
  simp only [Option.toList_some,List.append_assoc]
  rw [show (56 - 8 * (i:Int)).toNat=56 - 8 * i by omega, show (56 - 8 * (i:Int) - 8)=56 - 8 * ((i+1:Nat):Int) by omega]
  simp [z8w]
 ·
  have hl:(z8w n).length=8:=by simp [z8w]
  unfold za3
  rw [if_neg (by simp),List.take_of_length_le (by omega)]
theorem zvq (n:Nat) (x:List UInt8) (hx:x.length≤100):iter (z6a (n:Int)) (x,7)=some (x++z8w n):=by
 rw [show (x,(7:Int))=(x++(z8w n).take 0,7 - ((0:Nat):Int)) by simp]
 refine z28 (F:=z6a (n:Int)) (b:=x++z8w n) 8 (fun i=>(x++(z8w n).take i,7 - (i:Int))) (fun i hi=>?_) ?_
 ·
  have hl:(z8w n).length=8:=by simp [z8w]
  unfold z6a
  rw [if_pos (by simp; omega)]
  simp only []
  rw [z0y (x:=8 * (7 - (i:Int))) (by omega) (by omega),z42 (by omega),z0y (by omega) (by omega)]
  simp only [bS]
  rw [z18 (by simp; omega)]
  simp only [bS]
  rw [List.take_add_one,List.getElem?_eq_getElem (by omega)]
  simp only [Option.toList_some,List.append_assoc]
  rw [show (8 * (7 - (i:Int))).toNat=56 - 8 * i by omega, show (7 - (i:Int) - 1)=7 - ((i+1:Nat):Int) by omega]
  rw [zo2]
  simp [z8w,UInt64.mul_comm]
 ·
  have hl:(z8w n).length=8:=by simp [z8w]
  unfold z6a
  rw [if_neg (by simp),List.take_of_length_le (by omega)]
theorem zwe (n:Nat) (hn:n≤1000000):iter (z67 (n:Int)) [128]=some ([128]++List.replicate (zrs n) 0):=by
 refine z28 (F:=z67 (n:Int)) (b:=[128]++List.replicate (zrs n) 0) (zrs n) (fun i=>[128]++List.replicate i 0) (fun i hi=>?_) ?_
 ·
  have hz:zrs n<64:=Nat.mod_lt _ (by omega)
  have hl:(([128]++List.replicate i 0:List UInt8).length:Int)=((1+i:Nat):Int):=by simp; omega
  unfold z67
  rw [hl,z0y (x:=(n:Int)+((1+i:Nat):Int)) (by omega) (by omega),z0y (by omega) (by omega)]
  have ht:Int.tmod ((n:Int)+((1+i:Nat):Int)+8) 64=(((n+9+i) % 64:Nat):Int):=by
   rw [Int.tmod_eq_emod_of_nonneg (by omega)]; omega
  rw [ht,if_pos]
  ·
   rw [z18 (by simp; omega)]
   simp only [bS]
   rw [List.replicate_succ',List.append_assoc]
  ·
   simp only [bne_iff_ne,ne_eq]
   unfold zrs at hi
   omega
 ·
  have hl:(([128]++List.replicate (zrs n) 0:List UInt8).length:Int)=((1+zrs n:Nat):Int):=by simp; omega
  have hz:zrs n<64:=Nat.mod_lt _ (by omega)
  unfold z67
  rw [hl,z0y (x:=(n:Int)+((1+zrs n:Nat):Int)) (by omega) (by omega),z0y (by omega) (by omega)]
  have ht:Int.tmod ((n:Int)+((1+zrs n:Nat):Int)+8) 64=0:=by
   rw [Int.tmod_eq_emod_of_nonneg (by omega)]
   unfold zrs
   omega
  rw [ht,if_neg (by simp)]
theorem zxt (n:Nat) (hn:n≤1000000):za5 (n:Int)=some (tl n):=by
 have hz:zrs n<64:=Nat.mod_lt _ (by omega)
 unfold za5
 rw [zwe n hn]
 simp only [bS]
 rw [zvq n _ (by simp; omega)]
 simp only [bS]
 rfl
def wr (h:Vector UInt32 8):V3:=Vector.ofFn fun i=>(z4g (h[i.val / 4]'(by omega)) (24 - 8 * (i.val % 4))).toUInt8
theorem zs5 (h:Vector UInt32 8):z81 h=some (wr h):=by
 have:∃ r,iter (z4c h) (Vector.replicate 32 0,0)=some r∧r=wr h:=by
  refine zaf (F:=z4c h) 32 (fun i s=>s.2=(i:Int)∧∀ k (hk:k<32),k<i→s.1[k]=(wr h)[k]) (fun r=>r=wr h) (fun i s hi hs=>?_) (fun s hs=>?_) (Vector.replicate 32 0,0) 0 (by omega) ⟨rfl, fun k hk h0=>by omega⟩
  ·
   obtain ⟨v,j⟩:=s
   obtain ⟨h1,h2⟩:=hs
   simp only at h1 h2
   subst h1
   have hd:w64 (Int.tdiv (i:Int) 4)=((i / 4:Nat):Int):=by
    have:Int.tdiv (i:Int) 4=((i / 4:Nat):Int):=by rw [Int.tdiv_eq_ediv_of_nonneg (by omega)]; omega
    rw [this,z0y (by omega) (by omega)]
   have hm:w64 (8 * (Int.tmod (i:Int) 4))=((8 * (i % 4):Nat):Int):=by
    have:Int.tmod (i:Int) 4=((i % 4:Nat):Int):=by rw [Int.tmod_eq_emod_of_nonneg (by omega)]; omega
    rw [this,z0y (by omega) (by omega)]; omega
   have hs:w64 (24 - ((8 * (i % 4):Nat):Int))=((24 - 8 * (i % 4):Nat):Int):=by rw [z0y (by omega) (by omega)]; omega
   refine ⟨(zgb v (i:Int) ((z4g (h[i / 4]'(by omega)) (24 - 8 * (i % 4))).toUInt8),((i+1:Nat):Int)),?_,rfl, fun k hk hk2=>?_⟩
   ·
    unfold z4c
    rw [if_pos (by simp; omega)]
    simp only []
    rw [hd,hm,hs,z9q (show i / 4<8 by omega),z42 (by omega),z9q hi,z0g (show i<9223372036854775807 by omega)]
    simp only [bS,Int.toNat_natCast]
   ·
    simp only []
    rw [zha hk,Int.toNat_natCast]
    by_cases e:i=k
    ·
     subst e
     rw [if_pos rfl]
     simp [wr]
    ·
     rw [if_neg e]; exact h2 k hk (by omega)
  ·
   obtain ⟨v,j⟩:=s
   obtain ⟨h1,h2⟩:=hs
   simp only at h1 h2
   subst h1
   refine ⟨v,?_,?_⟩
   ·
    unfold z4c
    rw [if_neg (by simp)]
   ·
    exact Vector.ext fun k hk=>h2 k hk hk
 obtain ⟨r,h1,rfl⟩:=this
 unfold z81
 rw [h1]
 simp only [bS]
theorem znb (m:z1z):iter (z8c m) (Vector.replicate 32 0,0)=some (wr m.Words):=by
 have:∃ r,iter (z8c m) (Vector.replicate 32 0,0)=some r∧r=wr m.Words:=by
  refine zaf (F:=z8c m) 8 (fun i s=>s.2=(i:Int)∧∀ k (hk:k<32),k<4 * i→s.1[k]=(wr m.Words)[k]) (fun r=>r=wr m.Words) (fun i s hi hs=>?_) (fun s hs=>?_) (Vector.replicate 32 0,0) 0 (by omega) ⟨rfl, fun k hk h0=>by omega⟩
  ·
   obtain ⟨v,j⟩:=s
   obtain ⟨h1,h2⟩:=hs
   simp only at h1 h2
   subst h1
   have e0:w64 (4 * (i:Int))=((4 * i:Nat):Int):=by rw [z0y (by omega) (by omega)]; omega
   have e1:w64 (((4 * i:Nat):Int)+1)=((4 * i+1:Nat):Int):=by rw [z0y (by omega) (by omega)]; omega
   have e2:w64 (((4 * i:Nat):Int)+2)=((4 * i+2:Nat):Int):=by rw [z0y (by omega) (by omega)]; omega
   have e3:w64 (((4 * i:Nat):Int)+3)=((4 * i+3:Nat):Int):=by rw [z0y (by omega) (by omega)]; omega
   refine ⟨(zgb (zgb (zgb (zgb v ((4 * i:Nat):Int) (z4g m.Words[i] 24).toUInt8) ((4 * i+1:Nat):Int) (z4g m.Words[i] 16).toUInt8) ((4 * i+2:Nat):Int) (z4g m.Words[i] 8).toUInt8) ((4 * i+3:Nat):Int) m.Words[i].toUInt8,((i+1:Nat):Int)),?_,rfl, fun k hk hk2=>?_⟩
   ·
    unfold z8c
    rw [if_pos (by simp; omega)]
    simp only []
    rw [e0,e1,e2,e3,z9q hi,z9q (show 4 * i<32 by omega),z0g (show i<9223372036854775807 by omega)]
    simp only [bS]
    rw [z9q (show 4 * i+1<32 by omega),z9q (show 4 * i+2<32 by omega),z9q (show 4 * i+3<32 by omega)]
    simp only [bS]
   ·
    simp only []
    rw [zha hk,zha hk,zha hk,zha hk]
    simp only [Int.toNat_natCast]
    have hw:(wr m.Words)[k]=(z4g (m.Words[k / 4]'(by omega)) (24 - 8 * (k % 4))).toUInt8:=by simp [wr]
    have s0:∀ x:UInt32,z4g x 0=x:=fun x=>by
     apply UInt32.toNat_inj.1; rw [zdt]; simp
    by_cases c3:4 * i+3=k
    ·
     subst c3
     rw [if_pos rfl,hw]
     have a1:(4 * i+3) / 4=i:=by omega
     have a2:24 - 8 * ((4 * i+3) % 4)=0:=by omega
     simp only [a1,a2,s0]
    ·
     rw [if_neg c3]
     by_cases c2:4 * i+2=k
     ·
      subst c2
      rw [if_pos rfl,hw]
      have a1:(4 * i+2) / 4=i:=by omega
      have a2:24 - 8 * ((4 * i+2) % 4)=8:=by omega
      simp only [a1,a2]
     ·
      rw [if_neg c2]
      by_cases c1:4 * i+1=k
      ·
       subst c1
       rw [if_pos rfl,hw]
       have a1:(4 * i+1) / 4=i:=by omega
       have a2:24 - 8 * ((4 * i+1) % 4)=16:=by omega
       simp only [a1,a2]
      ·
       rw [if_neg c1]
       by_cases c0:4 * i=k
       ·
        subst c0
        rw [if_pos rfl,hw]
        have a1:(4 * i) / 4=i:=by omega
        have a2:24 - 8 * ((4 * i) % 4)=24:=by omega
        simp only [a1,a2]
       ·
        rw [if_neg c0]
        exact h2 k hk (by omega)
  ·
   obtain ⟨v,j⟩:=s
   obtain ⟨h1,h2⟩:=hs
   simp only at h1 h2
   subst h1
   refine ⟨v,?_,?_⟩
   ·
    unfold z8c
    rw [if_neg (by simp)]
   ·
    exact Vector.ext fun k hk=>h2 k hk (by omega)
 obtain ⟨r,h1,rfl⟩:=this
 exact h1
def sha (b:List UInt8):V3:=wr (blk H0 (b++tl b.length))
theorem z12e (a:List UInt8) (h:a.length≤300000):zey (zsr a)=some (sha a):=by
 have hz:zrs a.length<64:=Nat.mod_lt _ (by omega)
 unfold zey
 rw [show (zsr a).N=((a.length:Nat):Int) from rfl,zo2]
 simp only [bS]
 have ht:Int.tmod (w64 (119 - Int.tmod ((a.length:Nat):Int) 64)) 64=((zrs a.length:Nat):Int):=by
  have e1:Int.tmod ((a.length:Nat):Int) 64=((a.length % 64:Nat):Int):=by rw [Int.tmod_eq_emod_of_nonneg (by omega)]; omega
  rw [e1,z0y (by omega) (by omega),Int.tmod_eq_emod_of_nonneg (by omega)]
  unfold zrs
  omega
 rw [ht]
 have hap:appz 1 ([128]:List UInt8) 0 ((zrs a.length:Nat):Int)=some ([128]++List.replicate (zrs a.length) 0):=by
  unfold appz
  rw [if_pos ⟨by omega, by simp; omega⟩,Int.toNat_natCast]
 rw [hap]
 simp only [bS]
 rw [zw0 _ _ (by simp; omega)]
 simp only [bS]
 have htl:(tl a.length).length≤200:=by simp [tl,z8w]; omega
 rw [show ([128]++List.replicate (zrs a.length) 0)++z8w a.length=tl a.length from rfl,zoc a _ (by omega)]
 simp only [bS]
 rw [znb]
 simp only [bS]
 rfl
theorem z12v (b:List UInt8) (h:b.length≤300000):za7 b=some (sha b):=by
 have hz:zrs b.length<64:=Nat.mod_lt _ (by omega)
 have htl:(tl b.length).length≤200:=by simp [tl,z8w]; omega
 unfold za7 zb8
 simp only [bS]
 rw [z18 (by simp; omega)]
 simp only [bS,List.nil_append]
 rw [zxt _ (by omega)]
 simp only [bS]
 rw [z18 (by simp; omega)]
 simp only [bS]
 rw [zuc _ _ (by simp; omega)]
 simp only [bS]
 rw [zs5]
 simp only [bS]
 rfl
end
section
open Go Go.RowKit
def pmod:Nat→Nat→Nat→Nat→Nat
 | 0,_,_,m=>1 % m
 | f+1,a,n,m=>if n=0 then 1 % m else (if n % 2=1 then a * pmod f (a * a % m) (n / 2) m % m else pmod f (a * a % m) (n / 2) m)
theorem zv1:∀ (f a n m:Nat),n<2 ^ f→pmod f a n m=a ^ n % m
 | 0,a,n,m,h=>by
  have:n=0:=by simpa using h
  subst this; rfl
 | f+1,a,n,m,h=>by
  have h2:n / 2<2 ^ f:=by rw [Nat.pow_succ] at h; omega
  have key:(a * a % m) ^ (n / 2) % m=a ^ (2 * (n / 2)) % m:=by
   rw [← Nat.pow_mod,← Nat.pow_two,← Nat.pow_mul]
  simp only [pmod,zv1 f _ _ _ h2,key]
  split
  ·
   rename_i h0; subst h0; rfl
  ·
   split
   ·
    rename_i h1
    rw [Nat.mul_mod,Nat.mod_mod,← Nat.mul_mod, show a * a ^ (2 * (n / 2))=a ^ (2 * (n / 2)+1) by rw [Nat.pow_succ,Nat.mul_comm], show 2 * (n / 2)+1=n by omega]
   ·
    rename_i h1
    rw [show 2 * (n / 2)=n by omega]
abbrev gp:Nat:=1000000007
abbrev gq:Nat:=500000003
theorem z12a:4 ^ gq % gp=1:=by
 rw [← zv1 64 4 gq gp (by decide)]
 decide +kernel
def inG (a:Nat):Prop:=0<a∧a<gp∧a ^ gq % gp=1
instance:DecidablePred inG:=fun a=>by unfold inG; exact inferInstance
theorem zjj (a m n p:Nat):(a ^ m % p) ^ n % p=a ^ (m * n) % p:=by rw [← Nat.pow_mod,← Nat.pow_mul]
theorem znm {a:Nat} (h:a ^ gq % gp=1) (k:Nat):a ^ (gq * k) % gp=1:=by
 rw [Nat.pow_mul,Nat.pow_mod,h,Nat.one_pow]
 rfl
theorem zt5 {a:Nat} (h:a ^ gq % gp=1) (k r:Nat):a ^ (gq * k+r) % gp=a ^ r % gp:=by
 rw [Nat.pow_add,Nat.mul_mod,znm h,Nat.one_mul,Nat.mod_mod]
theorem zp0 {a:Nat} (h:a ^ gq % gp=1) (n:Nat):inG (a ^ n % gp):=by
 have h2:(a ^ n % gp) ^ gq % gp=1:=by rw [zjj,Nat.mul_comm,znm h]
 refine ⟨Nat.pos_of_ne_zero fun h0=>?_,Nat.mod_lt _ (by decide),h2⟩
 rw [h0,Nat.zero_pow (by decide)] at h2
 exact absurd h2 (by decide)
theorem z119 {y E:Nat} (h:y ^ gq % gp=1) (hE:E<gq):(y ^ E % gp) ^ (gq - 1) % gp=y ^ (gq - E) % gp:=by
 rw [zjj]
 by_cases h0:E=0
 ·
  subst h0
  rw [Nat.zero_mul,Nat.sub_zero,h,Nat.pow_zero]
  decide
 ·
  have e:E * (gq - 1)=gq * (E - 1)+(gq - E):=by
   obtain ⟨k,rfl⟩:∃ k,E=k+1:=⟨E - 1, by omega⟩
   have hE':k+1<500000003:=hE
   show (k+1) * 500000002=500000003 * (k+1 - 1)+(500000003 - (k+1))
   omega
  rw [e,zt5 h]
theorem zvt {a n i p:Nat}:((a ^ (n >>> (i+1)) % p) * (a ^ (n >>> (i+1)) % p) % p) * a ^ ((n >>> i) % 2) % p=a ^ (n >>> i) % p:=by
 have e:n >>> i=2 * (n >>> (i+1))+(n >>> i) % 2:=by
  rw [Nat.shiftRight_succ]; omega
 have key:∀ x y:Nat,((x % p) * (x % p) % p) * y % p=x * x * y % p:=fun x y=>by
  rw [Nat.mul_mod ((x % p) * (x % p) % p) y,Nat.mod_mod,← Nat.mul_mod x x,← Nat.mul_mod]
 rw [key,← Nat.pow_add,← Nat.pow_add]
 congr 2
 omega
end
section
open Go
def u32 (n:Nat):UInt32:=UInt32.ofNat n
theorem z7p {n:Nat} (h:n<gp):(u32 n).toNat=n:=by
 have h:n<1000000007:=h
 unfold u32; simp; omega
theorem m64 (x y:UInt64) (h:x.toNat * y.toNat<18446744073709551616):(x * y % 1000000007).toNat=x.toNat * y.toNat % gp:=by
 rw [UInt64.toNat_mod,UInt64.toNat_mul,Nat.mod_eq_of_lt h]
 rfl
theorem to32 (x:UInt64) (h:x.toNat<gp):x.toUInt32=u32 x.toNat:=by
 apply UInt32.toNat_inj.1
 have h:x.toNat<1000000007:=h
 rw [z7p h]; simp; omega
theorem mul2 (x y:UInt32):zcy 1000000007 [x,y]=some (u32 (x.toNat * y.toNat % gp)):=by
 have hx:=UInt32.toNat_lt x
 have hy:=UInt32.toNat_lt y
 have e1:(1 * x.toUInt64 % 1000000007:UInt64).toNat=x.toNat % gp:=by
  rw [m64 _ _ (by simp; omega)]; simp
 have hlt:x.toNat % gp<1000000007:=Nat.mod_lt _ (by decide)
 have hpr:(x.toNat % gp) * y.toNat≤1000000007 * 4294967296:=Nat.mul_le_mul (by omega) (by omega)
 have e2:(1 * x.toUInt64 % 1000000007 * y.toUInt64 % 1000000007:UInt64).toNat=x.toNat * y.toNat % gp:=by
  rw [m64 _ _ (by rw [e1]; simp; omega),e1]
  simp only [UInt32.toNat_toUInt64]
  rw [Nat.mod_mul_mod]
 have s1:z85 1000000007 [x,y] (1,0)=some (.inr (1 * x.toUInt64 % 1000000007,1)):=by
  unfold z85
  rw [if_pos (by simp)]
  simp only []
  rw [show idx [x,y] 0=some x from rfl,z42 (by decide),z0y (x:=(0:Int)+1) (by omega) (by omega)]
  simp only [bS]
  rfl
 have s2:z85 1000000007 [x,y] (1 * x.toUInt64 % 1000000007,1)=some (.inr (1 * x.toUInt64 % 1000000007 * y.toUInt64 % 1000000007,2)):=by
  unfold z85
  rw [if_pos (by simp)]
  simp only []
  rw [show idx [x,y] 1=some y from rfl,z42 (by decide),z0y (x:=(1:Int)+1) (by omega) (by omega)]
  simp only [bS]
  rfl
 have s3:z85 1000000007 [x,y] (1 * x.toUInt64 % 1000000007 * y.toUInt64 % 1000000007,2)=some (.inl (1 * x.toUInt64 % 1000000007 * y.toUInt64 % 1000000007)):=by
  unfold z85
  rw [if_neg (by simp)]
 unfold zcy
 rw [z1g s1,z1g s2,z11 s3]
 simp only [bS]
 rw [to32 _ (by rw [e2]; exact Nat.mod_lt _ (by decide)),e2]
theorem zy2 (a:UInt32) (n:UInt64) (i:Nat) (hi:i<64):zaz a n (u32 (a.toNat ^ (n.toNat >>> (64 - i)) % gp),(i:Int))=some (.inr (u32 (a.toNat ^ (n.toNat >>> (64 - (i+1))) % gp),((i+1:Nat):Int))):=by
 have hlt:a.toNat ^ (n.toNat >>> (64 - i)) % gp<gp:=Nat.mod_lt _ (by decide)
 have hlt2:(a.toNat ^ (n.toNat >>> (64 - i)) % gp) * (a.toNat ^ (n.toNat >>> (64 - i)) % gp) % gp<gp:=Nat.mod_lt _ (by decide)
 have hw:w64 (63 - (i:Int))=((63 - i:Nat):Int):=by rw [z0y (by omega) (by omega)]; omega
 have key:=zvt (a:=a.toNat) (n:=n.toNat) (i:=63 - i) (p:=gp)
 rw [show 63 - i+1=64 - i by omega] at key
 have hb:=z13h n (63 - i) (by omega)
 unfold zaz zfr
 rw [if_pos (by simp; omega)]
 simp only []
 rw [mul2,z7p hlt]
 simp only [bS]
 rw [hw,z42 (by omega),z0g (show i<9223372036854775807 by omega)]
 simp only [bS]
 rw [show 64 - (i+1)=63 - i by omega]
 have hs:n.toNat >>> (63 - i) % 2=(if n.toNat.testBit (63 - i) then 1 else 0):=by
  rw [Nat.testBit_eq_decide_div_mod_eq,← Nat.shiftRight_eq_div_pow]
  by_cases h:n.toNat >>> (63 - i) % 2=1
  ·
   simp [h]
  ·
   simp [h]; omega
 cases ht:n.toNat.testBit (63 - i) with
 | true =>
  rw [ht] at hs
  rw [hs,if_pos rfl,Nat.pow_one] at key
  rw [if_pos (by rw [Int.toNat_natCast,hb]; exact ht),mul2,z7p hlt2,key]
  simp only [bS]
 | false =>
  rw [ht] at hs
  rw [hs,if_neg (by simp),Nat.pow_zero,Nat.mul_one,Nat.mod_mod] at key
  rw [if_neg (by rw [Int.toNat_natCast,hb,ht]; simp),key]
theorem zvs (a:UInt32) (n:UInt64):zd3 a n=some (u32 (a.toNat ^ n.toNat % gp)):=by
 have h0:n.toNat >>> 64=0:=by
  rw [Nat.shiftRight_eq_div_pow]; exact Nat.div_eq_of_lt (UInt64.toNat_lt n)
 have:=z28 (F:=zaz a n) (b:=u32 (a.toNat ^ n.toNat % gp)) 64 (fun i=>(u32 (a.toNat ^ (n.toNat >>> (64 - i)) % gp),(i:Int))) (fun i hi=>zy2 a n i hi) (by
  unfold zaz
  rw [if_neg (by simp)]
  simp)
 simp only [Nat.sub_zero,h0,Nat.pow_zero] at this
 unfold zd3
 rw [show ((1:UInt32),(0:Int))=(u32 (1 % gp),((0:Nat):Int)) from rfl,this]
 simp only [bS]
theorem zrv:∀ (k:Nat) (a n o:UInt64),n.toNat=k→a.toNat<4294967296→o.toNat<gp→∃ r:UInt64,iter (z59 1000000007) (a,n,o)=some r∧r.toNat=o.toNat * a.toNat ^ n.toNat % gp:=by
 intro k
 induction k using Nat.strongRecOn with
 | _ k ih =>
  intro a n o hk ha ho
  have ho':o.toNat<1000000007:=ho
  by_cases hn:n.toNat=0
  ·
   refine ⟨o,z11 ?_,?_⟩
   ·
    unfold z59
    rw [if_neg]
    simp only [decide_eq_true_eq,UInt64.lt_iff_toNat_lt]
    simp; omega
   ·
    rw [hn,Nat.pow_zero,Nat.mul_one,Nat.mod_eq_of_lt ho]
  ·
   have haa:(a * a % 1000000007).toNat=a.toNat * a.toNat % gp:=m64 a a (by
    have:a.toNat * a.toNat≤4294967295 * 4294967295:=Nat.mul_le_mul (by omega) (by omega)
    omega)
   have hoa:(o * a % 1000000007).toNat=o.toNat * a.toNat % gp:=m64 o a (by
    have:o.toNat * a.toNat≤1000000007 * 4294967295:=Nat.mul_le_mul (by omega) (by omega)
    omega)
   have hn2:(n / 2).toNat=n.toNat / 2:=by simp
   have hm2:((n % 2)==1)=decide (n.toNat % 2=1):=by
    rw [Bool.eq_iff_iff,beq_iff_eq,← UInt64.toNat_inj]
    simp
   have hlt:a.toNat * a.toNat % gp<1000000007:=Nat.mod_lt _ (by decide)
   have hol:o.toNat * a.toNat % gp<gp:=Nat.mod_lt _ (by decide)
   have hpow:∀ m:Nat,(a.toNat * a.toNat % gp) ^ m % gp=a.toNat ^ (2 * m) % gp:=fun m=>by
    rw [← Nat.pow_mod,← Nat.pow_two,← Nat.pow_mul]
   have hstep:z59 1000000007 (a,n,o)=some (.inr (a * a % 1000000007,n / 2, if n.toNat % 2=1 then o * a % 1000000007 else o)):=by
    unfold z59
    rw [if_pos (by simp only [decide_eq_true_eq,UInt64.lt_iff_toNat_lt]; simp; omega)]
    simp only []
    rw [hm2,z42 (by decide)]
    by_cases h:n.toNat % 2=1
    ·
     rw [if_pos (by simpa using h),if_pos h]
     simp only [bS]
    ·
     rw [if_neg (by simpa using h),if_neg h]
     simp only [bS]
   rw [z1g hstep]
   by_cases h:n.toNat % 2=1
   ·
    rw [if_pos h]
    obtain ⟨r,h1,h2⟩:=ih (n / 2).toNat (by rw [hn2]; omega) (a * a % 1000000007) (n / 2) (o * a % 1000000007) rfl (by rw [haa]; omega) (by rw [hoa]; exact hol)
    refine ⟨r,h1,?_⟩
    rw [h2,haa,hoa,hn2,Nat.mul_mod,hpow,Nat.mod_mod,← Nat.mul_mod,Nat.mul_assoc, show a.toNat * a.toNat ^ (2 * (n.toNat / 2))=a.toNat ^ (2 * (n.toNat / 2)+1) by rw [Nat.pow_succ,Nat.mul_comm], show 2 * (n.toNat / 2)+1=n.toNat by omega]
   ·
    rw [if_neg h]
    obtain ⟨r,h1,h2⟩:=ih (n / 2).toNat (by rw [hn2]; omega) (a * a % 1000000007) (n / 2) o rfl (by rw [haa]; omega) ho
    refine ⟨r,h1,?_⟩
    rw [h2,haa,hn2,Nat.mul_mod,hpow,← Nat.mul_mod, show 2 * (n.toNat / 2)=n.toNat by omega]
theorem zqn (a n:UInt64) (ha:a.toNat<4294967296):∃ r:UInt64,z7v a n 1000000007=some r∧r.toNat=a.toNat ^ n.toNat % gp:=by
 obtain ⟨r,h1,h2⟩:=zrv _ a n 1 rfl ha (by decide)
 refine ⟨r,?_, by rw [h2]; simp⟩
 unfold z7v
 rw [h1]
 simp only [bS]
theorem zjr (a:UInt32) (n:UInt64):z57 a n=some (u32 (a.toNat ^ n.toNat % gp)):=by
 obtain ⟨r,h1,h2⟩:=zqn a.toUInt64 n (by simp; exact UInt32.toNat_lt a)
 unfold z57
 rw [h1]
 simp only [bS]
 simp only [UInt32.toNat_toUInt64] at h2
 rw [to32 _ (by rw [h2]; exact Nat.mod_lt _ (by decide)),h2]
theorem z12j (a:UInt32):(u32 (a.toNat ^ (500000003:UInt64).toNat % gp)==1)=decide (a.toNat ^ gq % gp=1):=by
 have hlt:a.toNat ^ gq % gp<gp:=Nat.mod_lt _ (by decide)
 rw [show (500000003:UInt64).toNat=gq from rfl,Bool.eq_iff_iff,beq_iff_eq,decide_eq_true_iff,← UInt32.toNat_inj,z7p hlt]
 rfl
theorem zsx (a:UInt32):zev a=some (decide (inG a.toNat)):=by
 unfold zev
 have h1:decide (0<a)=decide (0<a.toNat):=by simp [UInt32.lt_iff_toNat_lt]
 have h2:decide (a<1000000007)=decide (a.toNat<gp):=by simp [UInt32.lt_iff_toNat_lt]
 rw [h1,h2,zvs]
 simp only [bS]
 rw [z12j]
 unfold inG
 by_cases c1:0<a.toNat
 ·
  by_cases c2:a.toNat<gp
  ·
   simp [c1,c2]
  ·
   simp [c1,c2]
 ·
  simp [c1]
theorem zrd (a:UInt32):zab a=some (decide (inG a.toNat)):=by
 obtain ⟨r,hr1,hr2⟩:=zqn a.toUInt64 500000003 (by simp; exact UInt32.toNat_lt a)
 unfold zab
 have h1:decide (1≤a)=decide (0<a.toNat):=by
  rw [decide_eq_decide,UInt32.le_iff_toNat_le]; simp; omega
 have h2:decide (a<1000000007)=decide (a.toNat<gp):=by simp [UInt32.lt_iff_toNat_lt]
 rw [h1,h2,hr1]
 simp only [bS]
 have h3:(r==1)=decide (a.toNat ^ gq % gp=1):=by
  simp only [UInt32.toNat_toUInt64] at hr2
  rw [Bool.eq_iff_iff,beq_iff_eq,decide_eq_true_iff,← UInt64.toNat_inj,hr2]
  rfl
 rw [h3]
 unfold inG
 by_cases c1:0<a.toNat
 ·
  by_cases c2:a.toNat<gp
  ·
   simp [c1,c2]
  ·
   simp [c1,c2]
 ·
  simp [c1]
end
section
open Go
theorem zt6 (l:List (List UInt8)) (h0:l.length≤20) (h:∀ b∈l,b.length≤10000):z19 l=some false:=by
 have:iter (z0x l) 0=some (.inr ()):=by
  refine z28 (F:=z0x l) (b:=.inr ()) l.length (fun i=>(i:Int)) (fun i hi=>?_) ?_
  ·
   have hb:=h l[i] (List.getElem_mem _)
   unfold z0x zc1
   rw [if_pos (by simp; omega),z0c hi]
   simp only [bS]
   rw [if_neg (by simp; omega),z0g (show i<9223372036854775807 by omega)]
  ·
   unfold z0x
   rw [if_neg (by simp)]
 unfold z19 z2d
 rw [this]
 simp only [zr3,bS]
 rfl
theorem zj0:∀ (l:List (List UInt8)),(∀ b∈l,b.length≤10000)→l.flatten.length≤l.length * 10000
 | [],_=>by simp
 | b::l,h=>by
  have h1:=h b (by simp)
  have h2:=zj0 l (fun c hc=>h c (by simp [hc]))
  simp only [List.flatten_cons,List.length_append,List.length_cons]; omega
theorem zn0 (l:List (List UInt8)) (h0:l.length≤20) (h:∀ b∈l,b.length≤10000):zac l=some (sha l.flatten,0):=by
 have hl:iter (z7n l) (zsr [],0)=some (zsr l.flatten):=by
  have:=z28 (F:=z7n l) (b:=zsr l.flatten) l.length (fun i=>(zsr (l.take i).flatten,(i:Int))) (fun i hi=>?_) ?_
  ·
   simpa using this
  ·
   have hb:=h l[i] (List.getElem_mem _)
   have hf:=zj0 (l.take i) (fun b hb'=>h b (List.mem_of_mem_take hb'))
   simp only [List.length_take] at hf
   unfold z7n
   rw [if_pos (by simp; omega)]
   simp only []
   rw [z0c hi]
   simp only [bS]
   rw [zoc _ _ (by omega),z0g (show i<9223372036854775807 by omega)]
   simp only [bS]
   rw [List.take_add_one,List.getElem?_eq_getElem hi,List.flatten_append]
   rw [show ((some l[i]:Option (List UInt8)).toList).flatten=l[i] by simp]
  ·
   unfold z7n
   rw [if_neg (by simp)]
   simp
 have hf:=zj0 l h
 unfold zac
 rw [if_neg (by simp; omega),zt6 l h0 h]
 simp only [bS]
 rw [if_neg (by simp),zxy]
 simp only [bS]
 rw [hl]
 simp only [bS]
 rw [z12e _ (by omega)]
 simp only [bS]
theorem z11z (b:List UInt8) (h:b.length≤10000):zex b=some (sha b,0):=by
 unfold zex
 rw [zn0 [b] (by simp) (by simpa using h)]
 simp
def four (x:UInt32):List UInt8:=[(z4g x 24).toUInt8,(z4g x 16).toUInt8,(z4g x 8).toUInt8,x.toUInt8]
theorem zv9 (x:UInt32):z86 x=some (four x):=by
 unfold z86 four
 have hx:=UInt32.toNat_lt x
 have e1:(x / 16777216).toUInt8=(z4g x 24).toUInt8:=by
  apply UInt8.toNat_inj.1
  simp only [UInt32.toNat_toUInt8,zdt,UInt32.toNat_div]; rfl
 have e2:((x / 65536) % 256).toUInt8=(z4g x 16).toUInt8:=by
  apply UInt8.toNat_inj.1
  simp only [UInt32.toNat_toUInt8,zdt,UInt32.toNat_div,UInt32.toNat_mod]
  exact Nat.mod_mod _ _
 have e3:((x / 256) % 256).toUInt8=(z4g x 8).toUInt8:=by
  apply UInt8.toNat_inj.1
  simp only [UInt32.toNat_toUInt8,zdt,UInt32.toNat_div,UInt32.toNat_mod]
  exact Nat.mod_mod _ _
 have e4:(x % 256).toUInt8=x.toUInt8:=by
  apply UInt8.toNat_inj.1
  simp only [UInt32.toNat_toUInt8,UInt32.toNat_mod]
  exact Nat.mod_mod _ _
 rw [e1,e2,e3,e4]
def zqs (d:V3):Nat→UInt64
 | 0=>0
 | i+1=>256 * zqs d i+(d.toList.getD i 0).toUInt64
theorem ztm (d:V3):∀ i,i≤8→(zqs d i).toNat<256 ^ i
 | 0,_=>by simp [zqs]
 | i+1,h=>by
  have ih:=ztm d i (by omega)
  have hy:=UInt8.toNat_lt (d.toList.getD i 0)
  have ep:256 ^ (i+1)=256 ^ i * 256:=Nat.pow_succ ..
  have hp:256 ^ i≤256 ^ 7:=Nat.pow_le_pow_right (by omega) (by omega)
  have e7:(256:Nat) ^ 7=72057594037927936:=rfl
  rw [zqs,UInt64.toNat_add,UInt64.toNat_mul,ep]
  have e1:((d.toList.getD i 0).toUInt64).toNat=(d.toList.getD i 0).toNat:=by simp
  have e2:(256:UInt64).toNat=256:=rfl
  rw [e1,e2,Nat.mod_eq_of_lt (a:=256 * (zqs d i).toNat) (by omega),Nat.mod_eq_of_lt (by omega)]
  omega
theorem zxc (x:UInt64) (y:UInt8) (h:x.toNat<72057594037927936):(zmm x 8) ||| y.toUInt64=256 * x+y.toUInt64:=by
 apply UInt64.toNat_inj.1
 have hy:=UInt8.toNat_lt y
 rw [UInt64.toNat_or,zk9,UInt64.toNat_add,UInt64.toNat_mul]
 have e1:(y.toUInt64).toNat=y.toNat:=by simp
 have e2:(256:UInt64).toNat=256:=rfl
 rw [e1,e2, show (2:Nat) ^ (min 8 64)=256 from rfl,Nat.mod_eq_of_lt (a:=x.toNat * 256) (by omega),Nat.mod_eq_of_lt (a:=256 * x.toNat) (by omega),Nat.mod_eq_of_lt (by omega)]
 have:=Nat.shiftLeft_add_eq_or_of_lt (i:=8) (b:=y.toNat) (by simpa using hy) x.toNat
 rw [Nat.shiftLeft_eq, show (2:Nat) ^ 8=256 from rfl] at this
 rw [← this]; omega
theorem zy8 (d:V3) (e:Int):iter (zb0 (d,e)) (0,0)=some (zqs d 8):=by
 refine z28 (F:=zb0 (d,e)) (b:=zqs d 8) 8 (fun i=>(zqs d i,(i:Int))) (fun i hi=>?_) ?_
 ·
  have hl:((d.toList.drop 0).take 8).length=8:=by simp
  have hlt:=ztm d i (by omega)
  have hp:256 ^ i≤256 ^ 7:=Nat.pow_le_pow_right (by omega) (by omega)
  have e7:(256:Nat) ^ 7=72057594037927936:=rfl
  unfold zb0
  simp only [hl]
  rw [if_pos (by simp; omega),ze8 0 (by rw [hl]; exact hi)]
  simp only [bS]
  rw [List.drop_zero,zn1 hi,zxc _ _ (by omega),z0g (show i<9223372036854775807 by omega)]
  rfl
 ·
  have hl:((d.toList.drop 0).take 8).length=8:=by simp
  unfold zb0
  simp only [hl]
  rw [if_neg (by simp)]
theorem z10d (b:List UInt8) (h:b.length≤300000):z8h b=some (zqs (sha b) 8):=by
 have:iter (z4n (sha b)) (0,0)=some (zqs (sha b) 8):=by
  refine z28 (F:=z4n (sha b)) (b:=zqs (sha b) 8) 8 (fun i=>(zqs (sha b) i,(i:Int))) (fun i hi=>?_) ?_
  ·
   unfold z4n
   rw [if_pos (by simp; omega)]
   simp only [zu3]
   rw [ze8 0 (by simp; omega),z0g (show i<9223372036854775807 by omega)]
   simp only [bS]
   rfl
  ·
   unfold z4n
   rw [if_neg (by simp)]
 unfold z8h
 rw [z12v b h]
 simp only [bS]
 rw [this]
 simp only [bS]
def chal (r y:UInt32) (m:List UInt8):UInt32:=(zqs (sha ((([99]++four r)++four y)++m)) 8 % 500000003).toUInt32
theorem z11j (m:List UInt8) (r y:UInt32) (h:m.length≤9991):zh9 99 m [r,y]=some (zqs (sha ((([99]++four r)++four y)++m)) 8,0):=by
 have l1:iter (z7d [r,y]) ([99],0)=some (([99]++four r)++four y):=by
  have s1:z7d [r,y] ([99],0)=some (.inr ([99]++four r,1)):=by
   unfold z7d
   rw [if_pos (by simp)]
   simp only []
   rw [show idx [r,y] 0=some r from rfl,z0y (x:=(0:Int)+1) (by omega) (by omega)]
   simp only [bS]
   rw [z18 (by simp)]
   rfl
  have s2:z7d [r,y] ([99]++four r,1)=some (.inr (([99]++four r)++four y,2)):=by
   unfold z7d
   rw [if_pos (by simp)]
   simp only []
   rw [show idx [r,y] 1=some y from rfl,z0y (x:=(1:Int)+1) (by omega) (by omega)]
   simp only [bS]
   rw [z18 (by simp [four])]
   rfl
  have s3:z7d [r,y] (([99]++four r)++four y,2)=some (.inl (([99]++four r)++four y)):=by
   unfold z7d
   rw [if_neg (by simp)]
  rw [z1g s1,z1g s2,z11 s3]
 unfold zh9
 rw [if_neg (by simp; omega),l1]
 simp only [bS]
 rw [zn0 _ (by simp) (by
  intro b hb
  simp only [List.mem_cons,List.not_mem_nil,or_false] at hb
  rcases hb with rfl | rfl
  ·
   simp [four]
  ·
   omega)]
 simp only [bS]
 rw [zy8, show [([99]++four r)++four y,m].flatten=(([99]++four r)++four y)++m by simp only [List.flatten_cons,List.flatten_nil,List.append_nil]]
 rfl
theorem zmz (r y:UInt32) (m:List UInt8) (h:m.length≤9991):zay r y m=some (chal r y m,0):=by
 unfold zay
 rw [z11j m r y h]
 simp only [bS]
 rw [if_neg (by simp)]
 rfl
theorem zkc (r y:UInt32) (m:List UInt8) (h:m.length≤9991):z6s r y m=some (chal r y m):=by
 unfold z6s
 rw [zv9]
 simp only [bS]
 rw [z18 (by simp [four]),zv9]
 simp only [bS]
 rw [z18 (by simp [four])]
 simp only [bS]
 rw [z18 (by simp [four]; omega)]
 simp only [bS]
 rw [z10d _ (by simp [four]; omega)]
 simp only [bS]
 rfl
def zbu (x:UInt32):Bool:=decide (x.toNat<gq)
theorem zdg (x:UInt32):z3e x=some (zbu x):=by
 have e:decide (x.toUInt64<500000003)=zbu x:=by unfold zbu; simp [UInt64.lt_iff_toNat_lt]
 unfold z3e
 rw [e]
 rfl
def sigR (y:UInt32) (s:z0a):UInt32:=u32 ((4 ^ s.S.toNat % gp) * (y.toNat ^ (gq - s.E.toNat) % gp) % gp)
def zn9 (y:UInt32) (m:List UInt8) (s:z0a):Bool:=zbu s.E&&(zbu s.S&&(chal (sigR y s) y m==s.E))
theorem zxh (y:UInt32) (m:List UInt8) (s:z0a) (hy:inG y.toNat) (h:m.length≤9991):z9r y m s=some (zn9 y m s):=by
 unfold z9r zn9
 rw [zdg]
 simp only [bS]
 cases hE:zbu s.E with
 | false=>rw [if_pos (by simp)]; rfl
 | true =>
  rw [if_neg (by simp),zdg]
  simp only [bS]
  cases hS:zbu s.S with
  | false=>rw [if_pos (by simp)]; rfl
  | true =>
   have hE':s.E.toNat<gq:=by simpa [zbu] using hE
   have hin:=zp0 hy.2.2 s.E.toNat
   have hlt:y.toNat ^ s.E.toNat % gp<gp:=Nat.mod_lt _ (by decide)
   rw [if_neg (by simp),zjr]
   simp only [bS]
   unfold zcr zcq zby
   rw [zrd,z7p (by simpa using hlt)]
   simp only [bS]
   have hE64:s.E.toUInt64.toNat=s.E.toNat:=by simp
   rw [hE64,decide_eq_true hin,if_neg (by simp),zjr,z7p hlt,zjr]
   simp only [bS]
   rw [show (500000002:UInt64).toNat=gq - 1 from rfl,z119 hy.2.2 hE']
   unfold za9
   simp only [bS]
   have hS64:s.S.toUInt64.toNat=s.S.toNat:=by simp
   have hl1:4 ^ s.S.toNat % gp<gp:=Nat.mod_lt _ (by decide)
   have hl2:y.toNat ^ (gq - s.E.toNat) % gp<gp:=Nat.mod_lt _ (by decide)
   have hprod:((u32 ((4:UInt32).toNat ^ s.S.toUInt64.toNat % gp)).toUInt64 * (u32 (y.toNat ^ (gq - s.E.toNat) % gp)).toUInt64 % 1000000007).toUInt32=sigR y s:=by
    have hb:(4 ^ s.S.toNat % gp) * (y.toNat ^ (gq - s.E.toNat) % gp)≤1000000007 * 1000000007:=Nat.mul_le_mul (Nat.le_of_lt hl1) (Nat.le_of_lt hl2)
    have e1:=m64 (u32 ((4:UInt32).toNat ^ s.S.toUInt64.toNat % gp)).toUInt64 (u32 (y.toNat ^ (gq - s.E.toNat) % gp)).toUInt64
    simp only [UInt32.toNat_toUInt64] at e1
    rw [show (4:UInt32).toNat=4 from rfl,z7p hl1,z7p hl2] at e1
    have e1:=e1 (by omega)
    rw [show (4:UInt32).toNat=4 from rfl,hS64,to32 _ (by rw [e1]; exact Nat.mod_lt _ (by decide)),e1]
    rfl
   rw [hprod,zkc _ _ _ h]
   simp only [bS]
   rfl
theorem all1 (a:UInt32) (h:inG a.toNat):zc6 [a]=some true:=by
 unfold zc6
 have s1:z4f [a] 0=some (.inr 1):=by
  unfold z4f
  rw [if_pos (by simp), show idx [a] 0=some a from rfl]
  simp only [bS]
  rw [zsx,decide_eq_true h,z0y (x:=(0:Int)+1) (by omega) (by omega)]
  rfl
 have s2:z4f [a] 1=some (.inl (.inr ())):=by
  unfold z4f
  rw [if_neg (by simp)]
 rw [z1g s1,z11 s2]
 rfl
theorem all2 (a b:UInt32) (h:inG a.toNat) (h2:inG b.toNat):zc6 [a,b]=some true:=by
 unfold zc6
 have s1:z4f [a,b] 0=some (.inr 1):=by
  unfold z4f
  rw [if_pos (by simp), show idx [a,b] 0=some a from rfl]
  simp only [bS]
  rw [zsx,decide_eq_true h,z0y (x:=(0:Int)+1) (by omega) (by omega)]
  rfl
 have s2:z4f [a,b] 1=some (.inr 2):=by
  unfold z4f
  rw [if_pos (by simp), show idx [a,b] 1=some b from rfl]
  simp only [bS]
  rw [zsx,decide_eq_true h2,z0y (x:=(1:Int)+1) (by omega) (by omega)]
  rfl
 have s3:z4f [a,b] 2=some (.inl (.inr ())):=by
  unfold z4f
  rw [if_neg (by simp)]
 rw [z1g s1,z1g s2,z11 s3]
 rfl
theorem zwf (y:UInt32) (m:List UInt8) (s:z0a) (hy:inG y.toNat) (h:m.length≤9991):zdf y m s=some (if zn9 y m s then 0 else 22):=by
 have hmax:decide (500000003≤max s.E s.S)=!(zbu s.E&&zbu s.S):=by
  have e1:(500000003≤max s.E s.S)↔(500000003≤s.E∨500000003≤s.S):=by
   rw [show max s.E s.S=if s.E≤s.S then s.S else s.E from rfl]
   split
   ·
    rename_i hh
    constructor
    ·
     exact fun h=>.inr h
    ·
     rintro (h | h)
     ·
      exact UInt32.le_trans h hh
     ·
      exact h
   ·
    rename_i hh
    constructor
    ·
     exact fun h=>.inl h
    ·
     rintro (h | h)
     ·
      exact h
     ·
      rw [UInt32.le_iff_toNat_le] at *; omega
  rw [Bool.eq_iff_iff,decide_eq_true_iff,e1]
  unfold zbu
  simp only [UInt32.le_iff_toNat_le,Bool.not_eq_true',Bool.and_eq_false_iff,decide_eq_false_iff_not,Nat.not_lt]
  rfl
 unfold zdf
 rw [zsx,decide_eq_true hy]
 simp only [bS]
 rw [if_neg (by simp),if_neg (by simp; omega),hmax]
 cases hE:zbu s.E with
 | false=>unfold zn9; rw [hE]; rfl
 | true =>
  cases hS:zbu s.S with
  | false=>unfold zn9; rw [hE,hS]; rfl
  | true =>
   have hE':s.E.toNat<gq:=by simpa [zbu] using hE
   have hE':s.E.toNat<500000003:=hE'
   rw [if_neg (by simp)]
   unfold zjn zi0 zjh
   rw [all1 y hy]
   simp only [bS]
   rw [if_neg (by simp),zvs]
   simp only [bS]
   rw [zvs]
   simp only [bS]
   have hS64:s.S.toUInt64.toNat=s.S.toNat:=by simp
   have hq:(500000003 - s.E.toUInt64).toNat=gq - s.E.toNat:=by
    rw [UInt64.toNat_sub_of_le _ _ (by rw [UInt64.le_iff_toNat_le]; simp; omega)]
    simp
   have hl1:4 ^ s.S.toNat % gp<gp:=Nat.mod_lt _ (by decide)
   have hl2:y.toNat ^ (gq - s.E.toNat) % gp<gp:=Nat.mod_lt _ (by decide)
   rw [hq,hS64, show (4:UInt32).toNat=4 from rfl]
   rw [all2 _ _ (by rw [z7p hl1]; exact zp0 z12a _) (by rw [z7p hl2]; exact zp0 hy.2.2 _)]
   simp only [bS]
   rw [if_neg (by simp),mul2,z7p hl1,z7p hl2]
   simp only [bS]
   rw [zmz _ _ _ h]
   simp only [bS]
   rw [if_neg (by simp)]
   unfold zn9
   rw [hE,hS]
   show (if (chal (sigR y s) y m != s.E)=true then some 22 else some 0)=_
   by_cases hc:chal (sigR y s) y m=s.E
   ·
    simp [hc]
   ·
    simp [hc]
end
section
open Go
def okc (c:UInt8):Bool:=decide (33≤c.toNat)&&decide (c.toNat≤126)
theorem z115 (x:Int):zj4 x=some (decide (x<33) || decide (126<x)):=by
 unfold zj4
 cases decide (x<33) <;> rfl
theorem zq9 (b:List UInt8):∀ (rest pre:List UInt8),b=pre++rest →
  (rest.all okc=true→iter (z1p b true) pre.length=some (.inr ()))∧(rest.all okc=false→∃ i:Nat,iter (z1p b true) pre.length=some (.inl (i:Int)))
 | [],pre,e=>by
  refine ⟨fun _=>z11 ?_, fun h=>by simp at h⟩
  subst e
  unfold z1p
  simp
 | c::rest,pre,e=>by
  have hlen:pre.length<b.length:=by rw [e]; simp
  have hget:b[pre.length]'hlen=c:=by subst e; simp
  have hF:z1p b true pre.length=if ((decide (((z8x b pre.length).1:Int)<33) || decide (126<((z8x b pre.length).1:Int)))==true) then some (.inl (.inl (pre.length:Int))) else some (.inr (pre.length+(z8x b pre.length).2)):=by
   unfold z1p
   rw [if_pos hlen]
   simp only [bs,z115]
  cases hc:okc c with
  | false =>
   refine ⟨fun h=>by simp [hc] at h, fun _=>⟨pre.length,z11 ?_⟩⟩
   rw [hF,if_pos]
   by_cases h8:c.toNat<128
   ·
    rw [zm6 hlen (by rw [hget]; exact h8),hget]
    simp only [okc,Bool.and_eq_false_iff,decide_eq_false_iff_not] at hc
    simp; omega
   ·
    have:=zu0 hlen (by rw [hget]; omega)
    simp; omega
  | true =>
   simp only [okc,Bool.and_eq_true,decide_eq_true_eq] at hc
   rw [zm6 hlen (by rw [hget]; omega),hget,if_neg (by simp; omega)] at hF
   have ih:=zq9 b rest (pre++[c]) (by simp [e])
   simp only [List.length_append,List.length_cons,List.length_nil,Nat.zero_add] at ih
   rw [z1g hF]
   have hc':okc c=true:=by simp [okc,hc]
   simpa [hc'] using ih
theorem zt9 (b:List UInt8) (hb:b.length≤9223372036854775807):∀ (rest pre:List UInt8),b=pre++rest→iter (z65 b) (pre.length:Int)=some (if rest.all okc then .inr () else .inl false)
 | [],pre,e=>by
  refine z11 ?_
  subst e
  unfold z65
  simp
 | c::rest,pre,e=>by
  have hlen:pre.length<b.length:=by rw [e]; simp
  have hget:b[pre.length]'hlen=c:=by subst e; simp
  have hF:z65 b (pre.length:Int)=if okc c then some (.inr ((pre.length+1:Nat):Int)) else some (.inl (.inl false)):=by
   unfold z65
   rw [if_pos (by simp <;> omega)]
   simp only [z0c hlen,hget,bs,z0g (show pre.length<9223372036854775807 by omega)]
   simp only [okc,UInt8.lt_iff_toNat_lt,UInt8.reduceToNat]
   by_cases h1:c.toNat<33
   ·
    have:¬ 33≤c.toNat:=by omega
    simp [h1,this]
   ·
    by_cases h2:126<c.toNat
    ·
     have:¬ c.toNat≤126:=by omega
     simp [h1,h2,this]
    ·
     have h3:33≤c.toNat:=by omega
     have h4:c.toNat≤126:=by omega
     simp [h1,h2,h3,h4]
  cases hc:okc c with
  | false=>rw [hc] at hF; rw [z11 hF]; simp [hc]
  | true =>
   rw [hc] at hF
   rw [z1g hF]
   have ih:=zt9 b hb rest (pre++[c]) (by simp [e])
   simp only [List.length_append,List.length_cons,List.length_nil,Nat.zero_add] at ih
   rw [ih]; simp [hc]
def zdu (k:List UInt8):Bool:=decide (1≤k.length)&&(decide (k.length≤20)&&k.all okc)
theorem z10x (k:List UInt8):z89 k=some (zdu k):=by
 unfold z89 zdu
 by_cases h1:1≤k.length
 ·
  by_cases h2:k.length≤20
  ·
   have h:=zt9 k (by omega) k [] rfl
   rw [if_neg (by simp; omega),if_neg (by simp; omega), show (0:Int)=(([]:List UInt8).length:Int) from rfl,h,decide_eq_true h1,decide_eq_true h2]
   cases k.all okc <;> rfl
  ·
   rw [if_neg (by simp; omega),if_pos (by simp; omega),decide_eq_false h2]; simp
 ·
  rw [if_pos (by simp; omega),decide_eq_false h1]; rfl
theorem z12s (k:List UInt8):zny k=some (zdu k):=by
 unfold zny zdu z5q z5u
 by_cases h1:1≤k.length
 ·
  by_cases h2:k.length≤20
  ·
   obtain ⟨e1,e2⟩:=zq9 k k [] rfl
   simp only [List.length_nil] at e1 e2
   rw [if_pos (by simp; omega),if_pos (by simp; omega),decide_eq_true h1,decide_eq_true h2]
   cases h:k.all okc
   ·
    obtain ⟨i,hi⟩:=e2 h
    rw [hi]
    simp only [zzw,bS]
    rw [decide_eq_false (by omega)]; rfl
   ·
    rw [e1 h]; rfl
  ·
   rw [if_pos (by simp; omega),if_neg (by simp; omega),decide_eq_false h2]; simp
 ·
  rw [if_neg (by simp; omega),decide_eq_false h1]; rfl
def v0:z04:=⟨0,0,0,[]⟩
def zjo (a:z0f):Bool :=
 if a.Kind=1 then decide (a.Key=[])&&decide (a.Value=v0)
 else if a.Kind=2∨a.Kind=3 then zdu a.Key&&decide (a.Value=v0)
 else if a.Kind=4 then zdu a.Key&&okV a.Value
 else false
theorem z134 (a:z0f) (h:a.Value.Text.length≤9223372036854775807):zda a=some (if zjo a then 0 else 8):=by
 obtain ⟨K,key,v⟩:=a
 unfold zda zjo
 simp only at h ⊢
 rw [z12s,zns v h]
 by_cases h1:K=1
 ·
  subst h1
  by_cases hk:key=[] <;> by_cases hv:v=⟨0,0,0,[]⟩ <;> simp [hk,hv,v0]
 by_cases h2:K=2∨K=3
 ·
  have e:(if K==2 then some true else some (K==3))=some true:=by
   rcases h2 with rfl | rfl <;> rfl
  rw [if_neg (by simpa using h1),e,if_neg h1,if_pos h2]
  simp only [bS]
  rw [if_pos trivial]
  cases zdu key with
  | false=>rfl
  | true =>
   by_cases hv:v=⟨0,0,0,[]⟩
   ·
    subst hv; rfl
   ·
    have hv':¬ v=v0:=hv
    simp only [bS,if_true,decide_eq_false hv,decide_eq_false hv']; rfl
 ·
  have e:(if K==2 then some true else some (K==3))=some false:=by
   have e2:(K==2)=false:=by simp; exact fun h=>h2 (.inl h)
   have e3:(K==3)=false:=by simp; exact fun h=>h2 (.inr h)
   rw [e2,e3]; rfl
  rw [if_neg (by simpa using h1),e,if_neg h1,if_neg h2]
  simp only [bS]
  rw [if_neg (by simp)]
  by_cases h4:K=4
  ·
   subst h4
   rw [if_pos (by decide),if_pos rfl]
   cases zdu key with
   | false=>rfl
   | true=>cases okV v <;> rfl
  ·
   rw [if_neg (by simpa using h4),if_neg h4]; rfl
theorem zv5 (a:z0f) (h:a.Value.Text.length≤9223372036854775807):z7j a=some (if zjo a then 0 else 8):=by
 obtain ⟨K,key,v⟩:=a
 unfold z7j zjo
 simp only at h ⊢
 rw [z10x,zuv v h]
 simp only [bS]
 by_cases h1:K=1
 ·
  subst h1
  by_cases hk:key=[] <;> by_cases hv:v=⟨0,0,0,[]⟩ <;> simp [hk,hv,v0]
 by_cases h2:K=2∨K=3
 ·
  have e:(if K==2 then some true else some (K==3))=some true:=by
   rcases h2 with rfl | rfl <;> rfl
  rw [if_neg (by simpa using h1),e,if_neg h1,if_pos h2]
  simp only [bS]
  rw [if_pos trivial]
  cases zdu key with
  | false=>rfl
  | true =>
   by_cases hv:v=⟨0,0,0,[]⟩
   ·
    subst hv; rfl
   ·
    have hv':¬ v=v0:=hv
    simp only [bS,if_true,decide_eq_false hv,decide_eq_false hv']; rfl
 ·
  have e:(if K==2 then some true else some (K==3))=some false:=by
   have e2:(K==2)=false:=by simp; exact fun h=>h2 (.inl h)
   have e3:(K==3)=false:=by simp; exact fun h=>h2 (.inr h)
   rw [e2,e3]; rfl
  rw [if_neg (by simpa using h1),e,if_neg h1,if_neg h2]
  simp only [bS]
  rw [if_neg (by simp)]
  by_cases h4:K=4
  ·
   subst h4
   rw [if_pos (by decide),if_pos rfl]
   cases zdu key with
   | false=>rfl
   | true=>cases okV v <;> rfl
  ·
   rw [if_neg (by simpa using h4),if_neg h4]; rfl
theorem zjd (l:List V3) (h:l.length≤100):z12 l=some l:=by
 unfold z12
 rw [z18 (by simp; omega)]; rfl
def ze4 (a:z05):Bool:=decide (inG a.Author.toNat)&&(!decide (1000000000000<a.Stamp)&&(zjo a.Act&&(zbu a.Sig.E&&zbu a.Sig.S)))
def z6m (a:z05):Int:=if 4<a.Preds.length then 4 else if z8d a.Preds=false then 32 else if ze4 a then 0 else 8
theorem zxo (x y:UInt32):decide (500000003≤max x y)=!(zbu x&&zbu y):=by
 have e1:(500000003≤max x y)↔(500000003≤x∨500000003≤y):=by
  rw [show max x y=if x≤y then y else x from rfl]
  split
  ·
   rename_i hh
   constructor
   ·
    exact fun h=>.inr h
   ·
    rintro (h | h)
    ·
     exact UInt32.le_trans h hh
    ·
     exact h
  ·
   rename_i hh
   constructor
   ·
    exact fun h=>.inl h
   ·
    rintro (h | h)
    ·
     exact h
    ·
     rw [UInt32.le_iff_toNat_le] at *; omega
 rw [Bool.eq_iff_iff,decide_eq_true_iff,e1]
 unfold zbu
 simp only [UInt32.le_iff_toNat_le,Bool.not_eq_true',Bool.and_eq_false_iff,decide_eq_false_iff_not,Nat.not_lt]
 rfl
theorem zpk (l:List V3) (h:l.length≤4):(z0z l >>= fun r5=>if !r5 then some true else z12 l >>= fun r8=>z2r r8 >>= fun r10=>some ((r10.length:Int) != (l.length:Int)) >>= fun y12=>some y12)=some (!z8d l):=by
 obtain ⟨b,e1,e2⟩:=zvi l (by omega)
 obtain ⟨c,e3,e4⟩:=zrz l (by omega)
 have e5:=zyh l
 rw [e1]
 simp only [bS]
 cases b with
 | false =>
  have:z8d l=false:=by
   rw [← Bool.not_eq_true,e5]; intro h; have:=e2.2 h.1; simp at this
  rw [this]; rfl
 | true =>
  rw [if_neg (by simp),zjd l (by omega)]
  simp only [bS]
  rw [e3]
  simp only [bS]
  by_cases hc:c.length=l.length
  ·
   rw [e5.2 ⟨e2.1 rfl,e4.1 hc⟩,hc]; simp
  ·
   have:z8d l=false:=by
    rw [← Bool.not_eq_true,e5]; intro h; exact hc (e4.2 h.2)
   rw [this]; simp; omega
theorem zes (a:z05) (h:a.Act.Value.Text.length≤9223372036854775807):zdb a=some (z6m a):=by
 unfold zdb z6m
 simp only [bS]
 by_cases h4:4<a.Preds.length
 ·
  rw [if_pos (by simp; omega),if_pos h4]
 ·
  rw [if_neg (by simp; omega),if_neg h4]
  have:=zpk a.Preds (by omega)
  simp only [bS] at this
  rw [this]
  simp only [bS]
  cases hi:z8d a.Preds with
  | false=>rfl
  | true =>
   rw [if_neg (by simp),zsx,z134 _ h,zxo]
   simp only [bS]
   unfold ze4
   cases decide (inG a.Author.toNat) with
   | false=>rfl
   | true =>
    cases decide (1000000000000<a.Stamp) with
    | true=>rfl
    | false=>cases zjo a.Act <;> cases zbu a.Sig.E <;> cases zbu a.Sig.S <;> rfl
theorem zpx (a:z05) (h:a.Act.Value.Text.length≤9223372036854775807):z7r a=some (z6m a):=by
 unfold z7r z6m
 by_cases h4:4<a.Preds.length
 ·
  rw [if_pos (by simp; omega),if_pos h4]
 ·
  rw [if_neg (by simp; omega),if_neg h4,zo3 _ (by omega)]
  simp only [bS]
  cases hi:z8d a.Preds with
  | false=>rfl
  | true =>
   rw [if_neg (by simp),zrd,zv5 _ h,zdg,zdg]
   simp only [bS]
   unfold ze4
   cases decide (inG a.Author.toNat) with
   | false=>rfl
   | true =>
    cases decide (1000000000000<a.Stamp) with
    | true=>rfl
    | false=>cases zjo a.Act <;> cases zbu a.Sig.E <;> cases zbu a.Sig.S <;> rfl
theorem z84 {a:z05} (h:z6m a=0):a.Preds.length≤4∧z8d a.Preds=true∧ze4 a=true:=by
 unfold z6m at h
 by_cases h4:4<a.Preds.length
 ·
  rw [if_pos h4] at h; omega
 ·
  rw [if_neg h4] at h
  cases hi:z8d a.Preds with
  | false=>rw [hi] at h; simp at h
  | true =>
   rw [hi] at h
   cases hr:ze4 a with
   | false=>rw [hr] at h; simp at h
   | true=>exact ⟨by omega,rfl,rfl⟩
theorem zl3 {k:List UInt8} (h:zdu k=true):k.length≤20:=by
 unfold zdu at h
 simp only [Bool.and_eq_true,decide_eq_true_eq] at h
 exact h.2.1
theorem zbo {a:z0f} (h:zjo a=true):(a.Kind=1∧a.Key=[])∨((a.Kind=2∨a.Kind=3)∧a.Key.length≤20)∨(a.Kind=4∧a.Key.length≤20∧okV a.Value=true):=by
 unfold zjo at h
 by_cases h1:a.Kind=1
 ·
  rw [if_pos h1] at h; simp only [Bool.and_eq_true,decide_eq_true_eq] at h; exact .inl ⟨h1,h.1⟩
 ·
  rw [if_neg h1] at h
  by_cases h2:a.Kind=2∨a.Kind=3
  ·
   rw [if_pos h2] at h; simp only [Bool.and_eq_true,decide_eq_true_eq] at h; exact .inr (.inl ⟨h2,zl3 h.1⟩)
  ·
   rw [if_neg h2] at h
   by_cases h4:a.Kind=4
   ·
    rw [if_pos h4] at h; simp only [Bool.and_eq_true] at h; exact .inr (.inr ⟨h4,zl3 h.1,h.2⟩)
   ·
    rw [if_neg h4] at h; simp at h
end
section
open Go
theorem zol {α:Type} (l:List (List α)) (i:Nat) (h:i<l.length):(l.take (i+1)).flatten=(l.take i).flatten++l[i]:=by
 rw [List.take_add_one,List.getElem?_eq_getElem h,List.flatten_append]
 simp
theorem znh (l:List (List UInt8)) (h0:l.length≤20) (h:∀ b∈l,b.length≤10000):z1r l=some l.flatten:=by
 have hb:∀ i,(l.take i).flatten.length≤200000:=fun i=>by
  have:=zj0 (l.take i) (fun b hb'=>h b (List.mem_of_mem_take hb'))
  simp only [List.length_take] at this; omega
 have e1:iter (z0q l) (0,0)=some (l.flatten.length:Int):=by
  have:=z28 (F:=z0q l) (b:=(l.flatten.length:Int)) l.length (fun i=>(((l.take i).flatten.length:Int),(i:Int))) (fun i hi=>?_) ?_
  ·
   simpa using this
  ·
   have h1:=hb (i+1)
   have e:=congrArg List.length (zol l i hi)
   rw [List.length_append] at e
   unfold z0q
   rw [if_pos (by simp; omega)]
   simp only []
   rw [z0c hi]
   simp only [bS]
   rw [z0y (x:=((l.take i).flatten.length:Int)+(l[i].length:Int)) (by omega) (by omega),if_neg (by simp; omega),z0g (show i<9223372036854775807 by omega),e]
   simp
  ·
   unfold z0q
   rw [if_neg (by simp)]
   simp
 have e2:z3j (l.flatten.length:Int)=some []:=by
  have h1:=hb l.length
  rw [List.take_length] at h1
  unfold z3j
  rw [if_neg (by simp)]
  simp only [bS]
  generalize l.flatten.length=n at h1 ⊢
  rw [show (0:Int) - (([]:List UInt8).length:Int)=0 from rfl,z0y (x:=0) (by omega) (by omega), show (n:Int) - 0=(n:Int) by omega,z0y (by omega) (by omega)]
  by_cases h2:0<n
  ·
   rw [if_pos (by simpa using h2),zlo (by omega) (by omega)]
   simp only [bS]
   rw [show (0:Int)=((0:Nat):Int) from rfl, show ((([]:List UInt8).length:Nat):Int)=((0:Nat):Int) from rfl,zd0 (by omega) (by simp)]
   simp
  ·
   rw [if_neg (by simpa using h2)]
 have e3:iter (z0p l) ([],0)=some l.flatten:=by
  have:=z28 (F:=z0p l) (b:=l.flatten) l.length (fun i=>((l.take i).flatten,(i:Int))) (fun i hi=>?_) ?_
  ·
   simpa using this
  ·
   have h1:=hb (i+1)
   have e:=zol l i hi
   rw [e,List.length_append] at h1
   unfold z0p
   rw [if_pos (by simp; omega)]
   simp only []
   rw [z0c hi]
   simp only [bS]
   rw [z18 (by omega),z0g (show i<9223372036854775807 by omega),e]
   simp only [bS]
  ·
   unfold z0p
   rw [if_neg (by simp)]
   simp
 unfold z1r
 rw [e1]
 simp only [bS]
 rw [e2]
 simp only [bS]
 rw [e3]
 simp only [bS]
def zso (a:z05):List UInt8:=[111]++(z2s a.Author.toNat++((z2s a.Preds.length++zmr a.Preds)++(z2s a.Stamp.toNat++[a.Act.Kind])))
def keyB (a:z0f):List UInt8:=z2s a.Key.length++a.Key
def msg (a:z05):List UInt8 :=
 if a.Act.Kind=1 then zso a else if a.Act.Kind=4 then (zso a++keyB a.Act)++zzv a.Act.Value else zso a++keyB a.Act
def zih (a:z05):List UInt8:=msg a++(z2s a.Sig.E.toNat++z2s a.Sig.S.toNat)
theorem zm8 {v:z04} (h:okV v=true) (hI:inI v.Num):(zzv v).length≤100:=by
 unfold zzv
 rcases zme h with k | k | k
 ·
  have:=z10 (zig v.Num) (zvm hI)
  rw [if_pos k]; simp; omega
 ·
  rw [k,if_neg (by decide),if_pos rfl]; simp [be8]
 ·
  have h3:=(okV3 h k).2.2.1
  have:=z10 v.Text.length (by omega)
  rw [k,if_neg (by decide),if_neg (by decide)]; simp; omega
theorem zlt {a:z05} (h:z6m a=0):(zso a).length≤160:=by
 obtain ⟨h1,h2,h3⟩:=z84 h
 have l1:=z10 a.Author.toNat (by have:=UInt32.toNat_lt a.Author; omega)
 have l2:=z10 a.Preds.length (by omega)
 have l3:=z10 a.Stamp.toNat (UInt64.toNat_lt _)
 have l4:=zgf a.Preds
 unfold zso
 simp only [List.length_append,List.length_cons,List.length_nil]; omega
theorem zly {a:z0f} (h:zjo a=true):(keyB a).length≤30:=by
 have hk:a.Key.length≤20:=by
  rcases zbo h with ⟨_,h⟩ | ⟨_,h⟩ | ⟨_,h,_⟩
  ·
   simp [h]
  ·
   exact h
  ·
   exact h
 have:=z10 a.Key.length (by omega)
 unfold keyB; simp only [List.length_append]; omega
theorem zht {a:z05} (h:ze4 a=true):zjo a.Act=true:=by
 unfold ze4 at h
 simp only [Bool.and_eq_true] at h
 exact h.2.2.1
theorem zmv {a:z05} (h:ze4 a=true):inG a.Author.toNat:=by
 unfold ze4 at h
 simp only [Bool.and_eq_true,decide_eq_true_eq] at h
 exact h.1
theorem zjg {a:z05} (h:z6m a=0) (hI:inI a.Act.Value.Num):(msg a).length≤300:=by
 have h1:=zlt h
 have ha:=zht (z84 h).2.2
 have h2:=zly ha
 unfold msg
 split
 ·
  omega
 ·
  split
  ·
   rename_i h4
   have:okV a.Act.Value=true:=by
    rcases zbo ha with ⟨k,_⟩ | ⟨k,_⟩ | ⟨_,_,k⟩
    ·
     rw [h4] at k; simp at k
    ·
     rw [h4] at k; simp at k
    ·
     exact k
   have h3:=zm8 this hI
   simp only [List.length_append]; omega
  ·
   simp only [List.length_append]; omega
theorem ztd {a:z05} (h:z6m a=0) (hI:inI a.Act.Value.Num):(zih a).length≤400:=by
 have h1:=zjg h hI
 have l1:=z10 a.Sig.E.toNat (by have:=UInt32.toNat_lt a.Sig.E; omega)
 have l2:=z10 a.Sig.S.toNat (by have:=UInt32.toNat_lt a.Sig.S; omega)
 unfold zih
 simp only [List.length_append]; omega
def bare (a:z05):z05:={ a with Sig:=(⟨0,0⟩:z0a) }
theorem zus {a:z05} (h:z6m a=0):z6m (bare a)=0:=by
 obtain ⟨h1,h2,h3⟩:=z84 h
 unfold ze4 at h3
 simp only [Bool.and_eq_true] at h3
 obtain ⟨g1,g2,g3,g4,g5⟩:=h3
 unfold z6m bare
 rw [if_neg (by simp; omega),h2,if_neg (by simp),if_pos]
 unfold ze4
 rw [g1,g2,g3]; rfl
theorem zll (a:z05) (h:z6m a=0) (hI:inI a.Act.Value.Num) (ht:a.Act.Value.Text.length≤9223372036854775807):zcx a=some (msg a,0):=by
 obtain ⟨h1,h2,h3⟩:=z84 h
 have ha:=zht h3
 have l1:=z10 a.Author.toNat (by have:=UInt32.toNat_lt a.Author; omega)
 have l2:=z10 a.Preds.length (by omega)
 have l3:=z10 a.Stamp.toNat (UInt64.toNat_lt _)
 have l4:=zgf a.Preds
 have hl:=zlt h
 have e1:zdb { a with Sig:=(⟨0,0⟩:z0a) }=some 0:=by
  have:=zes (bare a) ht
  rw [zus h] at this
  exact this
 unfold zcx
 rw [e1]
 simp only [bS]
 rw [if_neg (by simp),z10u _ (by omega) h2]
 simp only [bS]
 rw [z7i,z7i]
 simp only [bS]
 rw [znh _ (by simp) (by
  intro b hb
  simp only [List.mem_cons,List.not_mem_nil,or_false] at hb
  rcases hb with rfl | rfl | rfl | rfl | rfl
  ·
   simp
  ·
   simp; omega
  ·
   simp only [List.length_append]; omega
  ·
   omega
  ·
   simp)]
 simp only [bS]
 have e2:[[111],z2s a.Author.toUInt64.toNat,z2s a.Preds.length++zmr a.Preds,z2s a.Stamp.toNat,[a.Act.Kind]].flatten=zso a:=by
  unfold zso
  simp only [List.flatten_cons,List.flatten_nil,List.append_nil,UInt32.toNat_toUInt64]
 rw [e2]
 unfold msg
 by_cases k1:a.Act.Kind=1
 ·
  rw [if_pos (by simpa using k1),if_pos k1]
 ·
  rw [if_neg (by simpa using k1),if_neg k1]
  have hk:a.Act.Key.length≤20:=by
   rcases zbo ha with ⟨_,h⟩ | ⟨_,h⟩ | ⟨_,h,_⟩
   ·
    simp [h]
   ·
    exact h
   ·
    exact h
  have l5:=zly ha
  have e3:zbr a.Act.Key=some (keyB a.Act,0):=zoi _ (by omega)
  rw [z42 (by omega)]
  simp only [bS]
  rw [e3]
  simp only [bS]
  rw [z18 (by omega)]
  simp only [bS]
  by_cases k4:a.Act.Kind=4
  ·
   have hv:okV a.Act.Value=true:=by
    rcases zbo ha with ⟨k,_⟩ | ⟨k,_⟩ | ⟨_,_,k⟩
    ·
     rw [k4] at k; simp at k
    ·
     rw [k4] at k; simp at k
    ·
     exact k
   have l6:=zm8 hv hI
   rw [if_pos (by simpa using k4),if_pos k4,z124 _ hI ht,hv]
   simp only [bS,if_true]
   rw [z18 (by simp only [List.length_append]; omega)]
   simp only [bS]
  ·
   rw [if_neg (by simpa using k4),if_neg k4]
theorem zw7 (a:z05) (h:z6m a=0) (hI:inI a.Act.Value.Num):z88 a=some (msg a):=by
 obtain ⟨h1,h2,h3⟩:=z84 h
 have ha:=zht h3
 have l1:=z10 a.Author.toNat (by have:=UInt32.toNat_lt a.Author; omega)
 have l2:=z10 a.Preds.length (by omega)
 have l3:=z10 a.Stamp.toNat (UInt64.toNat_lt _)
 have l4:=zgf a.Preds
 have hl:=zlt h
 unfold z88
 rw [z7e]
 simp only [bS]
 rw [z18 (by simp; omega),zx8 _ (by omega)]
 simp only [bS]
 rw [z18 (by simp; omega),z7e]
 simp only [bS]
 rw [z18 (by simp; omega)]
 simp only [bS]
 rw [z18 (by simp; omega)]
 simp only [bS]
 have e2:[111]++z2s a.Author.toUInt64.toNat++(z2s a.Preds.length++zmr a.Preds)++z2s a.Stamp.toNat++[a.Act.Kind]=zso a:=by
  unfold zso
  simp only [List.append_assoc,UInt32.toNat_toUInt64]
 rw [e2]
 unfold msg
 by_cases k1:a.Act.Kind=1
 ·
  rw [if_neg (by simp [k1]),if_pos k1]
  simp only [bS]
  rw [k1]; rfl
 ·
  rw [if_pos (by simpa using k1),if_neg k1]
  have hk:a.Act.Key.length≤20:=by
   rcases zbo ha with ⟨_,h⟩ | ⟨_,h⟩ | ⟨_,h,_⟩
   ·
    simp [h]
   ·
    exact h
   ·
    exact h
  have l5:=zly ha
  have e3:z6u a.Act.Key=some (keyB a.Act):=zlc _ (by omega)
  rw [z42 (by omega)]
  simp only [bS]
  rw [e3]
  simp only [bS]
  rw [z18 (by omega)]
  simp only [bS]
  by_cases k4:a.Act.Kind=4
  ·
   have hv:okV a.Act.Value=true:=by
    rcases zbo ha with ⟨k,_⟩ | ⟨k,_⟩ | ⟨_,_,k⟩
    ·
     rw [k4] at k; simp at k
    ·
     rw [k4] at k; simp at k
    ·
     exact k
   have l6:=zm8 hv hI
   rw [if_pos (by simpa using k4),if_pos k4,zu6 _ hI hv]
   simp only [bS]
   rw [z18 (by simp only [List.length_append]; omega)]
   simp only [bS]
  ·
   rw [if_neg (by simpa using k4),if_neg k4]
theorem ztt (a:z05) (h:z6m a=0) (hI:inI a.Act.Value.Num) (ht:a.Act.Value.Text.length≤9223372036854775807):zcv a=some (zih a,0):=by
 have hm:=zjg h hI
 have l1:=z10 a.Sig.E.toNat (by have:=UInt32.toNat_lt a.Sig.E; omega)
 have l2:=z10 a.Sig.S.toNat (by have:=UInt32.toNat_lt a.Sig.S; omega)
 unfold zcv
 rw [zes _ ht,h]
 simp only [bS]
 rw [if_neg (by simp),zll _ h hI ht,z7i,z7i]
 simp only [bS,UInt32.toNat_toUInt64]
 rw [znh _ (by simp) (by
  intro b hb
  simp only [List.mem_cons,List.not_mem_nil,or_false] at hb
  rcases hb with rfl | rfl | rfl <;> omega)]
 simp only [bS,List.flatten_cons,List.flatten_nil,List.append_nil]
 rfl
theorem zpt (a:z05) (h:z6m a=0) (hI:inI a.Act.Value.Num):z9n a=some (zih a):=by
 have hm:=zjg h hI
 have l1:=z10 a.Sig.E.toNat (by have:=UInt32.toNat_lt a.Sig.E; omega)
 have l2:=z10 a.Sig.S.toNat (by have:=UInt32.toNat_lt a.Sig.S; omega)
 unfold z9n zih
 rw [zw7 _ h hI,z7e,z7e]
 simp only [bS,UInt32.toNat_toUInt64]
 rw [z18 (by omega)]
 simp only [bS]
 rw [z18 (by simp only [List.length_append]; omega)]
 simp only [bS,List.append_assoc]
def z32:V3:=Vector.replicate 32 0
theorem z11f (a:z05) (hI:inI a.Act.Value.Num) (ht:a.Act.Value.Text.length≤9223372036854775807):zy9 a=some (if z6m a=0 then (sha (zih a),0) else (z32,z6m a)):=by
 unfold zy9
 by_cases h:z6m a=0
 ·
  have:=ztd h hI
  rw [ztt a h hI ht]
  simp only [bS]
  rw [if_neg (by simp),z11z _ (by omega),if_pos h]
  simp only [bS]
 ·
  have e:zcv a=some ([],z6m a):=by
   unfold zcv
   rw [zes _ ht]
   simp only [bS]
   rw [if_pos (by simpa using h)]
  rw [e]
  simp only [bS]
  rw [if_pos (by simpa using h),if_neg h]; rfl
theorem zwv (a:z05) (h:z6m a=0) (hI:inI a.Act.Value.Num):zbg a=some (sha (zih a)):=by
 have:=ztd h hI
 unfold zbg
 rw [zpt a h hI]
 simp only [bS]
 rw [z12v _ (by omega)]
 simp only [bS]
def zij (a:z05):Int:=if z6m a=0 then (if zn9 a.Author (msg a) a.Sig then 0 else 22) else z6m a
theorem zoq (a:z05) (hI:inI a.Act.Value.Num) (ht:a.Act.Value.Text.length≤9223372036854775807):zgt a=some (zij a):=by
 unfold zgt zij
 rw [zes _ ht]
 simp only [bS]
 by_cases h:z6m a=0
 ·
  have:=zjg h hI
  rw [if_neg (by simp [h]),if_pos h,zll a h hI ht]
  simp only [bS]
  rw [zwf _ _ _ (zmv (z84 h).2.2) (by omega)]
  simp only [bS]
 ·
  rw [if_pos (by simpa using h),if_neg h]
theorem zo0 (a:z05) (hI:inI a.Act.Value.Num) (ht:a.Act.Value.Text.length≤9223372036854775807):z8m a=some (zij a):=by
 unfold z8m zij zau
 rw [zpx _ ht]
 simp only [bS]
 by_cases h:z6m a=0
 ·
  have:=zjg h hI
  rw [if_neg (by simp [h]),if_pos h,zw7 a h hI]
  simp only [bS]
  rw [zxh _ _ _ (zmv (z84 h).2.2) (by omega)]
  simp only [bS]
  cases zn9 a.Author (msg a) a.Sig <;> rfl
 ·
  rw [if_pos (by simpa using h),if_neg h]
end
section
open Go
theorem zd9 {α:Type} [DecidableEq α]:∀ (p q:List α),p.Nodup→(∀ x∈p,x∈q)→p.length≤q.length
 | [],_,_,_=>by simp
 | a::p,q,h,hs=>by
  have ha:=hs a (by simp)
  have hn:=List.nodup_cons.1 h
  have:=zd9 p (q.erase a) hn.2 (fun x hx=>by
   have hne:x≠a:=fun e=>hn.1 (e ▸ hx)
   exact (List.mem_erase_of_ne hne).2 (hs x (by simp [hx])))
  rw [List.length_erase_of_mem ha] at this
  have hp:=List.length_pos_of_mem ha
  simp only [List.length_cons]; omega
theorem zur {α:Type} [DecidableEq α] {p q:List α} (h1:p.Nodup) (h2:q.Nodup) (h:∀ x,x∈p↔x∈q):p.length=q.length :=
 Nat.le_antisymm (zd9 p q h1 fun x hx=>(h x).1 hx) (zd9 q p h2 fun x hx=>(h x).2 hx)
abbrev ID:=V3
theorem zeo {l:List ID} (h:z8d l=true) {i j:Nat} (hi:i<l.length) (hj:j<l.length) (hij:i<j):kd l[i]<kd l[j] :=
 List.pairwise_iff_getElem.1 ((za8 l).1 h) i j hi hj hij
theorem zqx {l:List ID} (h:z8d l=true) {i j:Nat} (hi:i<l.length) (hj:j<l.length) (e:l[i]=l[j]):i=j:=by
 rcases Nat.lt_trichotomy i j with c | c | c
 ·
  have:=zeo h hi hj c; rw [e] at this; omega
 ·
  exact c
 ·
  have:=zeo h hj hi c; rw [e] at this; omega
theorem zhq {l:List ID} (h:z8d l=true):l.Nodup:=by
 have:=(za8 l).1 h
 exact this.imp fun {a b} hab e=>by rw [e] at hab; omega
theorem zdh {l:List ID} (h:z8d l=true) {k:Nat} (hk:k<l.length):l.idxOf l[k]=k:=by
 have h1:l.idxOf l[k]<l.length:=List.idxOf_lt_length_of_mem (List.getElem_mem hk)
 exact zqx h h1 hk (by simp)
theorem z103 (s e:Nat) (h:s+e<9223372036854775807):w64 ((z7b (UInt64.ofInt (w64 ((s:Int)+(e:Int)))) 1).toNat:Int)=(((s+e) / 2:Nat):Int):=by
 rw [z0y (x:=(s:Int)+(e:Int)) (by omega) (by omega), show ((s:Int)+(e:Int))=((s+e:Nat):Int) by omega,zbt,zjt (by omega)]
 rw [show min 1 64=1 from rfl,Nat.pow_one,z0y (by omega) (by omega)]
theorem z10s (l:List ID) (hl:l.length≤4611686018427387903) (hi:z8d l=true) (x:ID):∃ b:Int,iter (z0d l x) (0,(l.length:Int))=some b∧∃ k:Nat,b=(k:Int)∧k≤l.length∧(∀ i (h:i<l.length),i<k→kd l[i]<kd x)∧(∀ i (h:i<l.length),k≤i→kd x≤kd l[i]):=by
 refine zbk (F:=z0d l x)
  (fun st=>∃ s e:Nat,st=((s:Int),(e:Int))∧s≤e∧e≤l.length∧(∀ i (h:i<l.length),i<s→kd l[i]<kd x)∧(∀ i (h:i<l.length),e≤i→kd x≤kd l[i]))
  (fun st=>st.2.toNat - st.1.toNat) _ ?_ _ ⟨0,l.length,rfl, by omega, by omega, fun i _ h=>by omega, fun i h h2=>by omega⟩
 rintro st ⟨s,e,rfl,h1,h2,h3,h4⟩
 by_cases hse:s<e
 ·
  right
  have hm:(s+e) / 2<l.length:=by omega
  have hF:z0d l x ((s:Int),(e:Int))=if decide (kd l[(s+e) / 2]<kd x) then some (.inr ((((s+e) / 2+1:Nat):Int),(e:Int))) else some (.inr ((s:Int),(((s+e) / 2:Nat):Int))):=by
   unfold z0d
   simp only []
   rw [if_pos (by simpa using hse),z103 _ _ (by omega)]
   simp only [bS]
   rw [z0c hm]
   simp only [bS]
   rw [zt8]
   simp only [bS]
   rw [zlm,z0g (show (s+e) / 2<9223372036854775807 by omega)]
  by_cases hc:kd l[(s+e) / 2]<kd x
  ·
   rw [decide_eq_true hc,if_pos rfl] at hF
   refine ⟨_,hF,⟨(s+e) / 2+1,e,rfl, by omega,h2, fun i h hi2=>?_,h4⟩, by simp; omega⟩
   by_cases he:i=(s+e) / 2
   ·
    subst he; exact hc
   ·
    have:=zeo hi h hm (by omega); omega
  ·
   rw [decide_eq_false hc,if_neg (by simp)] at hF
   refine ⟨_,hF,⟨s,(s+e) / 2,rfl, by omega, by omega,h3, fun i h hi2=>?_⟩, by simp; omega⟩
   by_cases he:i=(s+e) / 2
   ·
    subst he; omega
   ·
    have:=zeo hi hm h (by omega); omega
 ·
  left
  refine ⟨(s:Int),?_,s,rfl, by omega,h3, fun i h hi2=>h4 i h (by omega)⟩
  unfold z0d
  simp only []
  rw [if_neg (by simpa using hse)]
theorem z11d (l:List ID) (hl:l.length≤4611686018427387903) (hi:z8d l=true) (x:ID):∃ k:Nat,z0u l x=some ((k:Int),decide (x∈l))∧(x∈l→k=l.idxOf x∧k<l.length)∧k≤l.length:=by
 obtain ⟨b,h1,k,rfl,h2,h3,h4⟩:=z10s l hl hi x
 unfold z0u
 simp only [bS]
 rw [h1]
 simp only [bS]
 have hmem:x∈l→∃ h:k<l.length,l[k]=x:=fun hx=>by
  obtain ⟨i,hi1,rfl⟩:=List.getElem_of_mem hx
  have a1:¬ i<k:=fun c=>by have:=h3 i hi1 c; omega
  by_cases a2:k=i
  ·
   subst a2; exact ⟨hi1,rfl⟩
  ·
   have hk:k<l.length:=by omega
   have:=h4 k hk (Nat.le_refl _)
   have:=zeo hi hk hi1 (by omega)
   omega
 by_cases hk:k<l.length
 ·
  rw [if_pos (by simpa using hk),z0c hk]
  simp only [bS]
  rw [zt8]
  simp only [bS]
  rw [z13g]
  refine ⟨k,?_, fun hx=>?_, by omega⟩
  ·
   have:decide (l[k]=x)=decide (x∈l):=by
    rw [decide_eq_decide]
    exact ⟨fun e=>e ▸ List.getElem_mem hk, fun hx=>(hmem hx).2⟩
   rw [this]
  ·
   obtain ⟨h,e⟩:=hmem hx
   subst e
   exact ⟨(zdh hi h).symm,h⟩
 ·
  rw [if_neg (by simpa using hk)]
  refine ⟨k,?_, fun hx=>absurd (hmem hx).1 hk, by omega⟩
  rw [decide_eq_false fun hx=>hk (hmem hx).1]
theorem zph (g:z00) (hl:g.IDs.length≤4611686018427387903) (hi:z8d g.IDs=true) (x:ID):∃ k:Nat,ziz g x=some ((k:Int),decide (x∈g.IDs))∧(x∈g.IDs→k=g.IDs.idxOf x∧k<g.IDs.length)∧k≤g.IDs.length:=by
 obtain ⟨k,h1,h2,h3⟩:=z11d g.IDs hl hi x
 refine ⟨k,?_,h2,h3⟩
 unfold ziz
 rw [h1]
 simp only [bS]
theorem zw5 (l:List ID) (x:ID) (hl:l.length≤9223372036854775806):∀ (rest pre:List ID),l=pre++rest→∃ r:Sum Int Unit,iter (z7q l x) (pre.length:Int)=some r∧((r=.inr ()∧x∉rest)∨∃ i:Nat,r=.inl (i:Int)∧∃ h:i<l.length,l[i]=x)
 | [],pre,e=>by
  refine ⟨_,z11 ?_,.inl ⟨rfl, by simp⟩⟩
  subst e
  unfold z7q
  rw [if_neg (by simp)]
 | c::rest,pre,e=>by
  have hlen:pre.length<l.length:=by rw [e]; simp
  have hget:l[pre.length]'hlen=c:=by subst e; simp
  have hF:z7q l x (pre.length:Int)=if decide (c=x) then some (.inl (.inl (pre.length:Int))) else some (.inr ((pre.length+1:Nat):Int)):=by
   unfold z7q
   rw [if_pos (by simpa using hlen),z0c hlen,hget,z0g (by omega)]
   simp only [bS]
  by_cases hc:c=x
  ·
   rw [decide_eq_true hc,if_pos rfl] at hF
   exact ⟨_,z11 hF,.inr ⟨pre.length,rfl,hlen, by rw [hget,hc]⟩⟩
  ·
   rw [decide_eq_false hc,if_neg (by simp)] at hF
   obtain ⟨r,h1,h2⟩:=zw5 l x hl rest (pre++[c]) (by simp [e])
   simp only [List.length_append,List.length_cons,List.length_nil,Nat.zero_add] at h1
   refine ⟨r, by rw [z1g hF]; exact h1,?_⟩
   rcases h2 with ⟨h2,h3⟩ | h2
   ·
    exact .inl ⟨h2, by simp; exact ⟨fun e=>hc e.symm,h3⟩⟩
   ·
    exact .inr h2
theorem z10e (l:List ID) (x:ID) (hl:l.length≤9223372036854775806):∃ k:Int,z2z l x=some k∧((k = -1∧x∉l)∨∃ i:Nat,k=(i:Int)∧∃ h:i<l.length,l[i]=x):=by
 obtain ⟨r,h1,h2⟩:=zw5 l x hl l [] rfl
 unfold z2z
 rw [show (0:Int)=(([]:List ID).length:Int) from rfl,h1]
 rcases h2 with ⟨rfl,h3⟩ | ⟨i,rfl,h3⟩
 ·
  exact ⟨-1,rfl,.inl ⟨rfl,h3⟩⟩
 ·
  exact ⟨(i:Int),rfl,.inr ⟨i,rfl,h3⟩⟩
theorem zvo (l:List ID) (x:ID) (hl:l.length≤9223372036854775806):∃ k:Int,z2z l x=some k∧decide (k<0)=!decide (x∈l):=by
 obtain ⟨k,h1,h2⟩:=z10e l x hl
 refine ⟨k,h1,?_⟩
 rcases h2 with ⟨rfl,h2⟩ | ⟨i,rfl,h,rfl⟩
 ·
  rw [decide_eq_false h2]; rfl
 ·
  rw [decide_eq_true (List.getElem_mem h),decide_eq_false (by omega)]; rfl
theorem zr1 (l:List ID) (p:List ID) (hl:l.length≤9223372036854775806) (hp:p.length≤9223372036854775806):∀ (rest pre:List ID),p=pre++rest→iter (z6z l p) (pre.length:Int)=some (if rest.all (fun x=>decide (x∈l)) then .inr () else .inl false)
 | [],pre,e=>by
  refine z11 ?_
  subst e
  unfold z6z
  simp
 | c::rest,pre,e=>by
  have hlen:pre.length<p.length:=by rw [e]; simp
  have hget:p[pre.length]'hlen=c:=by subst e; simp
  obtain ⟨k,k1,k2⟩:=zvo l c hl
  have hF:z6z l p (pre.length:Int)=if decide (c∈l) then some (.inr ((pre.length+1:Nat):Int)) else some (.inl (.inl false)):=by
   unfold z6z
   rw [if_pos (by simpa using hlen),z0c hlen,hget,z0g (by omega)]
   simp only [bS]
   rw [k1]
   simp only [bS]
   rw [k2]
   cases decide (c∈l) <;> rfl
  cases hc:decide (c∈l) with
  | false=>rw [hc] at hF; rw [z11 hF,List.all_cons,hc]; rfl
  | true =>
   rw [hc] at hF
   rw [z1g hF]
   have ih:=zr1 l p hl hp rest (pre++[c]) (by simp [e])
   simp only [List.length_append,List.length_cons,List.length_nil,Nat.zero_add] at ih
   rw [ih,List.all_cons,hc,Bool.true_and]
theorem zzb (l p:List ID) (hl:l.length≤9223372036854775806) (hp:p.length≤9223372036854775806):z3n l p=some (p.all fun x=>decide (x∈l)):=by
 have h:=zr1 l p hl hp p [] rfl
 unfold z3n
 rw [show (0:Int)=(([]:List ID).length:Int) from rfl,h]
 cases p.all fun x=>decide (x∈l) <;> rfl
theorem zx0 (g:z00) (hl:g.IDs.length≤9223372036854775807):z4v (ρ:=Int) (iter (z8b g) 1)=fun k=>if z8d g.IDs then k () else some 32:=by
 have key:∀ (n i:Nat),g.IDs.length - i=n→1≤i→i≤g.IDs.length→iter (z8b g) (i:Int)=some (if z8d (g.IDs.drop (i - 1)) then .inr () else .inl 32):=by
  intro n
  induction n with
  | zero =>
   intro i hn h1 hi
   have h:=zke g.IDs hl 0 i hn h1 hi
   have e:g.IDs.drop (i - 1)=[g.IDs[i - 1]'(by omega)]:=by
    rw [List.drop_eq_getElem_cons (by omega),List.drop_eq_nil_of_le (by omega)]
   rw [e]
   refine z11 ?_
   unfold z8b
   rw [if_neg (by simp; omega)]
   simp [z8d]
  | succ n ih =>
   intro i hn h1 hi
   have hlt:i<g.IDs.length:=by omega
   have e:g.IDs.drop (i - 1)=g.IDs[i - 1]::g.IDs[i]::g.IDs.drop (i+1):=by
    rw [List.drop_eq_getElem_cons (by omega), show i - 1+1=i by omega,List.drop_eq_getElem_cons hlt]
   have e':g.IDs.drop (i+1 - 1)=g.IDs[i]::g.IDs.drop (i+1):=by rw [Nat.add_sub_cancel,List.drop_eq_getElem_cons hlt]
   have hF:z8b g (i:Int)=if decide (0≤Lib.compareBytes (g.IDs[i - 1]).toList (g.IDs[i]).toList) then some (.inl (.inl 32)) else some (.inr ((i+1:Nat):Int)):=by
    unfold z8b
    rw [if_pos (by simp; omega),z0y (by omega) (by omega), show ((i:Int) - 1)=((i - 1:Nat):Int) by omega]
    simp only [z0c hlt,z0c (show i - 1<g.IDs.length by omega),bs,zou,z0g (show i<9223372036854775807 by omega)]
   rw [e,z8d]
   cases hc:decide (0≤Lib.compareBytes (g.IDs[i - 1]).toList (g.IDs[i]).toList) with
   | true=>rw [hc] at hF; rw [z11 hF]; rfl
   | false =>
    rw [hc] at hF
    rw [z1g hF,ih (i+1) (by omega) (by omega) (by omega),e']; simp
 funext k
 by_cases h0:g.IDs.length=0
 ·
  have hnil:g.IDs=[]:=List.length_eq_zero_iff.1 h0
  rw [z11 (b:=.inr ())]
  ·
   rw [hnil]; rfl
  ·
   unfold z8b
   rw [if_neg (by simp; omega)]
 ·
  rw [show (1:Int)=((1:Nat):Int) from rfl,key (g.IDs.length - 1) 1 rfl (by omega) (by omega),Nat.sub_self,List.drop_zero]
  cases z8d g.IDs <;> rfl
end
end Go.Proofs.YthgpinfkodaefaaGreatDoor
