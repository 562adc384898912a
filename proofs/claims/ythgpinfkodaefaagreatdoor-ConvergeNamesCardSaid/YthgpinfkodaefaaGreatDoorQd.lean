import Derived.Test.YthgpinfkodaefaaGreatDoorQc
set_option linter.unusedSimpArgs false
set_option linter.unusedVariables false
namespace Go.Proofs.YthgpinfkodaefaaGreatDoor
section
open Go Go.RowKit
set_option maxRecDepth 100000
def z1v (a0:List V3) (a1:List V3) (s3:Int):Option (Sum (Sum Bool Unit) Int) :=
 if decide (s3<(a0.length:Int)) then
  idx a0 s3 >>= fun x5 =>
  idx a1 s3 >>= fun x7 =>
  if !decide (x5=x7) then
   some (.inl (.inl false))
  else
   some (.inr (w64 (s3+1)))
 else
  some (.inl (.inr ()))
def z1u (a0:List V3) (a1:List V3):Option (Bool) :=
 if (a0.length:Int) != (a1.length:Int) then
  some false
 else
  z4x (iter (z1v a0 a1) 0) fun s2 =>
  some true
theorem z83 (a0:List V3) (a1:List V3):z36 Tryz.prog 47 [.rd (z02 aZ) a0,.rd (z02 aZ) a1] [] (z1u a0 a1) (fun r nv=>⟨[.rd z0f r],[]⟩):=by
 refine z4g 26 Tryz.func47 Z Z Z fun H w=>?_
 refine gSR<|Zb Z<|z11<|gSR<|Zm Z<|Zq (z5r Z .rd Z tu24)<|Zm Z<|Zq (z5r Z .rd Z tu24)<|Zq (I.neq Z Z)<|Zj Z (fun h1=>?_) (fun h1=>?_)
 ·
  refine gSR<|Zb Z<|z0w<|z1e<|Ze [] [] Z
 ·
  refine Zt<|zb3 (fun (s2:Unit) aa ww=>Sta (ctx 26 H [] w) [] [] aa ww) ?_ (fun s2=>?_)
  ·
   refine gSR<|Zm Z<|Zq (z5r Z .rd Z tu24)<|Zm Z<|Zn<|z3l (fun (s3:Int) aa ww=>Sta (ctx 26 H [] w) [(0,.rd (z02 aZ) a0),(1,.rd (z02 aZ) a1),(12,.rd z0c (a0.length:Int)),(13,.rd z0c s3)] [] aa ww) (fun aa ww h=>Zu h []) (fun s3=>?_)
   refine gSR<|Zq (I.lss Z Z)<|Zn<|z11<|gIf Z Z (fun h4=>?_) (fun h4=>?_)
   ·
    refine Zt<|z11<|z85<|gSR<|Zm Z<|Zb Z<|z11<|zlk mixed (by kernel_rfl)<|Rq Z (mv Z)<|Rq Z (mv Z)<|za6 fun x5 h6=>Rq Z (ixR Z Z h6 tu24 z3h Z)<|Rq Z (ldR Z z6s)<|Rq Z (mv Z)<|Rq Z (mv Z)<|za6 fun x7 h8=>Rq Z (ixR Z Z h8 tu24 z3h Z)<|Rq Z (ldR Z z6s)<|Rq Z (neA Z Z eq78 Z Z gq78)<|zyk<|z0t<|gIf Z Z (fun h9=>?_) (fun h9=>?_)
    ·
     refine gSR<|Zb Z<|z0w<|z88<|z1e<|zb5<|zag<|Ze [] [] Z
    ·
     refine z5o<|z4r<|z0t<|z3d<|Zq (I.add Z Z)<|Zm Z<|z2c<|z2k (fun aa ww h=>Zu h [])
   ·
    refine z3f<|z1h<|z1k<|za9 (fun aa ww h=>Zu h [])
  ·
   refine gSR<|Zb Z<|z0w<|Ze [] [] Z
def z92 (a0:z05) (a1:z05):Option (Bool) :=
 if a0.Author==a1.Author then
  if a0.Stamp==a1.Stamp then
   if decide (a0.Act=a1.Act) then
    if decide (a0.Sig=a1.Sig) then
     z1u a0.Preds a1.Preds >>= fun r7 =>
     some r7
    else
     some false
   else
    some false
  else
   some false
 else
  some false
theorem zkl (a0:z05) (a1:z05):z36 Tryz.prog 61 [.rd z04 a0,.rd z04 a1] [] (z92 a0 a1) (fun r nv=>⟨[.rd z0f r],[]⟩):=by
 refine z4g 38 Tryz.func61 Z Z Z fun H w=>?_
 refine gSR<|Eb Z (bx 1 Z) fun v1=>Eb Z (bx 2 Z) fun v2=>Zb Z<|gSR<|Zq (faB 1 Z Z Tryz.underlying72 Z (by exact zb8))<|Zq (ld 1 Z Z (fP (z6i _)) zeu Z)<|Zq (faB 2 Z Z Tryz.underlying72 Z (by exact zb8))<|Zq (ld 2 Z Z (fP (z6i _)) zeu Z)<|Zq (W.eql Z Z)<|Zm Z<|z2i 10 Z (fun h3=>?_) (fun h3=>?_)
 ·
  refine lKn 9 Z h3<|z2x Zx Z Z (faB 1 Z Z Tryz.underlying72 Z (by exact ti52))<|z2x Zx Z Z (ld 1 Z Z (fP (z44 _)) zyj Z)<|z2x Zx Z Z (faB 2 Z Z Tryz.underlying72 Z (by exact ti52))<|z2x Zx Z Z (ld 2 Z Z (fP (z44 _)) zyj Z)<|z2x Zx Z Z (U.eql Z Z)<|Zq (pkT Z Z)<|Zm Z<|z2i 17 Z (fun h4=>?_) (fun h4=>?_)
  ·
   refine lKn 15 Z h4<|lKn 16 Z h4<|z2x Zx Z Z (faB 1 Z Z Tryz.underlying72 Z (by exact zjk))<|z2x Zx Z Z (ld 1 Z Z (fP (z20 _)) ty64 Z)<|z2x Zx Z Z (faB 2 Z Z Tryz.underlying72 Z (by exact zjk))<|z2x Zx Z Z (ld 2 Z Z (fP (z20 _)) ty64 Z)<|z2x Zx Z Z (eqA Z Z eq64 Z Z gq64)<|Zq (pkT Z Z)<|Zm Z<|z2i 24 Z (fun h5=>?_) (fun h5=>?_)
   ·
    refine lKn 22 Z h5<|lKn 23 Z h5<|z2x Zx Z Z (faB 1 Z Z Tryz.underlying72 Z (by exact zpm))<|z2x Zx Z Z (ld 1 Z Z (fP (z5m _)) ty70 Z)<|z2x Zx Z Z (faB 2 Z Z Tryz.underlying72 Z (by exact zpm))<|z2x Zx Z Z (ld 2 Z Z (fP (z5m _)) ty70 Z)<|z2x Zx Z Z (eqA Z Z eq70 Z Z gq70)<|Zq (pkT Z Z)<|Zm Z<|z2i 31 Z (fun h6=>?_) (fun h6=>?_)
    ·
     refine lKn 29 Z h6<|lKn 30 Z h6<|z2x Zx Z Z (faB 1 Z Z Tryz.underlying72 Z (by exact zae))<|z2x Zx Z Z (ld 1 Z Z (fP (z1c _)) ze3 Z)<|z2x Zx Z Z (faB 2 Z Z Tryz.underlying72 Z (by exact zae))<|z2x Zx Z Z (ld 2 Z Z (fP (z1c _)) ze3 Z)<|zoe [] [] Zx Z Tryz.func47 Z Z (z83 _ _) (Y2 Z Z) rN fun r7 n8=>Zq (pkT Z Z)<|Zb Z<|z0w<|Ze [] [] Z
    ·
     refine lKn 29 Z h6<|lKn 30 Z h6<|Zk Z<|Zk Z<|Zk Z<|Zk Z<|Zk Z<|Zq (pkF Z Z)<|Zb Z<|z0w<|Ze [] [] Z
   ·
    refine lKn 22 Z h5<|lKn 23 Z h5<|Zk Z<|Zk Z<|Zk Z<|Zk Z<|Zk Z<|Zq (pkF Z Z)<|Zm Z<|Zk Z<|Zk Z<|Zk Z<|Zk Z<|Zk Z<|Zq (pkF Z Z)<|Zb Z<|z0w<|Ze [] [] Z
  ·
   refine lKn 15 Z h4<|lKn 16 Z h4<|Zk Z<|Zk Z<|Zk Z<|Zk Z<|Zk Z<|Zq (pkF Z Z)<|Zm Z<|Zk Z<|Zk Z<|Zk Z<|Zk Z<|Zk Z<|Zq (pkF Z Z)<|Zm Z<|Zk Z<|Zk Z<|Zk Z<|Zk Z<|Zk Z<|Zq (pkF Z Z)<|Zb Z<|z0w<|Ze [] [] Z
 ·
  refine lKn 9 Z h3<|Zk Z<|Zk Z<|Zk Z<|Zk Z<|Zk Z<|Zq (pkF Z Z)<|Zm Z<|Zk Z<|Zk Z<|Zk Z<|Zk Z<|Zk Z<|Zq (pkF Z Z)<|Zm Z<|Zk Z<|Zk Z<|Zk Z<|Zk Z<|Zk Z<|Zq (pkF Z Z)<|Zm Z<|Zk Z<|Zk Z<|Zk Z<|Zk Z<|Zk Z<|Zq (pkF Z Z)<|Zb Z<|z0w<|Ze [] [] Z
def z1x (a0:List z00) (s3:Int):Option (Sum (Sum Int Unit) Int) :=
 if decide (s3<(a0.length:Int)) then
  idx a0 s3 >>= fun x5 =>
  z4a x5 >>= fun r8 =>
  if r8 != 0 then
   some (.inl (.inl r8))
  else
   some (.inr (w64 (s3+1)))
 else
  some (.inl (.inr ()))
def z4l (x16:z00) (s19:(List (V3 × z05)) × Int):Option (Sum (Sum (Sum (Sum Int Unit) ((List (V3 × z05)) × Int)) ((List (V3 × z05)))) ((List (V3 × z05)) × Int)) :=
 if decide (s19.2<(x16.IDs.length:Int)) then
  idx x16.IDs s19.2 >>= fun x21 =>
  z4x (some ((z3k s19.1 x21).isSome) >>= fun y26 =>
  if y26 then
   idx x16.Ops s19.2 >>= fun x28 =>
   z92 ((z3k s19.1 x21).getD (⟨0,[],0,(⟨0,[],(⟨0,0,0,[]⟩:z03)⟩:z06),(⟨0,0⟩:z08)⟩:z05)) x28 >>= fun r30 =>
   if !r30 then
    some (.inl (.inl (.inl (.inl (.inl 14)))))
   else
    some (.inr ())
  else
   some (.inr ())) fun s24 =>
  idx x16.Ops s19.2 >>= fun x33 =>
  some (.inr (zau s19.1 x21 x33,w64 (s19.2+1)))
 else
  some (.inl (.inr s19.1))
def z7m (a0:List z00) (s13:(List (V3 × z05)) × Int):Option (Sum (Sum Int Unit) ((List (V3 × z05)) × Int)) :=
 if decide (s13.2<(a0.length:Int)) then
  z4x (idx a0 s13.2 >>= fun x16 =>
  iter (z4l x16) (s13.1,0)) fun s15 =>
  some (.inr (s15,w64 (s13.2+1)))
 else
  some (.inl (.inr ()))
def z1r (a0:List z00):Option (Int) :=
 if decide (5<(a0.length:Int)) then
  some 4
 else
  z4x (iter (z1x a0) 0) fun s2 =>
  z4x (iter (z7m a0) (([]:List (V3 × z05)),0)) fun s12 =>
  some 0
theorem z9e (a0:List z00):z36 Tryz.prog 20 [.rd (z02 z01) a0] [zG1] (z1r a0) (fun r nv=>⟨[.rd z0c r],[(1001,some (.bool true,.glob 1 (z4v 64 z0z) z58))]⟩):=by
 refine z4g 69 Tryz.func20 Z Z Z fun H w=>?_
 refine gSR<|Zb Z<|z11<|gSR<|Zm Z<|Zq (z5r Z .rd Z tu22)<|Zq (I.gtr Z Z)<|Zj Z (fun h1=>?_) (fun h1=>?_)
 ·
  refine gSR<|Zb Z<|z0w<|z1e<|Ze [] [1001] Z
 ·
  refine Zt<|zb3 (fun (s2:Unit) aa ww=>Sta (ctx 69 H [zG1] w) [(0,.rd (z02 z01) a0)] [zG1] aa ww) ?_ (fun s2=>?_)
  ·
   refine gSR<|Zm Z<|Zq (z5r Z .rd Z tu22)<|Zm Z<|Zn<|z3l (fun (s3:Int) aa ww=>Sta (ctx 69 H [zG1] w) [(0,.rd (z02 z01) a0),(16,.rd (z02 z01) a0),(17,.rd z0c (a0.length:Int)),(18,.rd z0c s3)] [zG1] aa ww) (fun aa ww h=>Zu h [1001]) (fun s3=>?_)
   refine gSR<|Zq (I.lss Z Z)<|Zn<|z11<|gIf Z Z (fun h4=>?_) (fun h4=>?_)
   ·
    refine Zt<|z11<|z85<|gSR<|z0v fun x5 h6=>Zq (ixR Z Z h6 tu22 z4f Z)<|Zq (ldR Z z7q)<|Eb Z (z4w 1100 z4f (ZrE.nilS (ZrE.nilS ZrE.nil))) fun v7=>z89 aZ [.rd (z02 aZ) [],.val (.slice none 0 0)] 1100 [] [.val (.slice none 0 0)] Z Z Z<|z89 z04 [.rd (z02 aZ) [],.rd (z02 z04) []] 1100 [.rd (z02 aZ) []] [] Z Z Z<|zb2 (R:=z01) (⟨[],[]⟩:z00) 1100 Z (Sp.via (Sp.prod (Sp.prod Sp.unit)))<|Es (sto 1100 Z Z fH Z z4f)<|Zn<|gSR<|Zq (ld 1100 Z Z fH z7q Z)<|Zc [1001] [] Tryz.func60 Z (zc7 _) fun r8 n9=>Zb Z<|gSR<|Zm Z<|Zq (I.neq Z Z)<|Zj Z (fun h10=>?_) (fun h10=>?_)
    ·
     refine gSR<|Zm Z<|Zb Z<|z0w<|z88<|z1e<|zb5<|zag<|Ze [] [1001] Z
    ·
     refine z5o<|z4r<|z0t<|z3d<|Zq (I.add Z Z)<|Zm Z<|z2c<|z2k (fun aa ww h=>Zu h [1001])
   ·
    refine z3f<|z1h<|z1k<|za9 (fun aa ww h=>Zu h [1001])
  ·
   refine gSR<|Ef Z (mkm aZ z04 1101 (Or.inl Z) Tryz.underlying106) fun v11=>Zb Z<|zb3 (fun (s12:Unit) aa ww=>Sta (ctx 69 H [zG1] w) [] [zG1] aa ww) ?_ (fun s12=>?_)
   ·
    refine gSR<|Zm Z<|Zq (z5r Z .rd Z tu22)<|Zm Z<|Zn<|z3l (fun (s13:(List (V3 × z05)) × Int) aa ww=>Sta (ctx 69 H [zG1] w) [(6,.val v11),(29,.rd (z02 z01) a0),(30,.rd z0c (a0.length:Int)),(31,.rd z0c s13.2)] [(1101,some (v11,.map aZ z04 s13.1)),zG1] aa ww) (fun aa ww h=>Zu h [1101,1001]) (fun s13=>?_)
    refine gSR<|Zq (I.lss Z Z)<|Zn<|z11<|gIf Z Z (fun h14=>?_) (fun h14=>?_)
    ·
     refine Zt<|zb3 (fun (s15:(List (V3 × z05))) aa ww=>Sta (ctx 69 H [zG1] w) [(6,.val v11),(29,.rd (z02 z01) a0),(30,.rd z0c (a0.length:Int)),(31,.rd z0c s13.2)] [(1101,some (v11,.map aZ z04 s15)),zG1] aa ww) ?_ (fun s15=>?_)
     ·
      refine z85<|gSR<|z0v fun x16 h17=>Zq (ixR Z Z h17 tu22 z4f Z)<|Zq (ldR Z z7q)<|Eb Z (z4w 1102 z4f (ZrE.nilS (ZrE.nilS ZrE.nil))) fun v18=>z89 aZ [.rd (z02 aZ) [],.val (.slice none 0 0)] 1102 [] [.val (.slice none 0 0)] Z Z Z<|z89 z04 [.rd (z02 aZ) [],.rd (z02 z04) []] 1102 [.rd (z02 aZ) []] [] Z Z Z<|zb2 (R:=z01) (⟨[],[]⟩:z00) 1102 Z (Sp.via (Sp.prod (Sp.prod Sp.unit)))<|Es (sto 1102 Z Z fH Z z4f)<|Zn<|gSR<|Zq (faB 1102 Z Z Tryz.underlying27 Z (by exact zae))<|Zq (ld 1102 Z Z (fP (z0o _)) ze3 Z)<|Zq (z5r Z .rd Z tu24)<|Zm Z<|Zn<|z3l (fun (s19:(List (V3 × z05)) × Int) aa ww=>Sta (ctx 69 H [zG1] w) [(6,.val v11),(8,.val (z07 v18 0)),(29,.rd (z02 z01) a0),(30,.rd z0c (a0.length:Int)),(31,.rd z0c s13.2),(36,.rd (z02 aZ) x16.IDs),(37,.rd z0c (x16.IDs.length:Int)),(38,.rd z0c s19.2)] [(1101,some (v11,.map aZ z04 s19.1)),(1102,some (v18,.box 27 [.rd z01 x16])),zG1] aa ww) (fun aa ww h=>Zu h [1101,1102,1001]) (fun s19=>?_)
      refine gSR<|Zq (I.lss Z Z)<|Zn<|z11<|gIf Z Z (fun h20=>?_) (fun h20=>?_)
      ·
       refine Zt<|z11<|z85<|gSR<|Zm Z<|z0v fun x21 h22=>Zq (ixR Z Z h22 tu24 z3h Z)<|Zq (ldR Z z6s)<|Eb Z (z4w 1103 z3h (.zr (R:=aZ) (x:=(Vector.replicate 32 0)) zf6)) fun v23=>Za Z<|Es (sto 1103 Z Z fH Z z3h)<|Zn<|zb3 (fun (s24:Unit) aa ww=>Sta (ctx 69 H [zG1] w) [(6,.val v11),(8,.val (z07 v18 0)),(9,.rd z0c s19.2),(10,.val (z07 v23 0)),(29,.rd (z02 z01) a0),(30,.rd z0c (a0.length:Int)),(31,.rd z0c s13.2),(36,.rd (z02 aZ) x16.IDs),(37,.rd z0c (x16.IDs.length:Int)),(38,.rd z0c s19.2)] [(1101,some (v11,.map aZ z04 s19.1)),(1102,some (v18,.box 27 [.rd z01 x16])),(1103,some (v23,.box 78 [.rd aZ x21])),zG1] aa ww) ?_ (fun s24=>?_)
       ·
        refine gSR<|Zm Z<|Zq (ld 1103 Z Z fH z6s Z)<|Zq (mlk2 Z (.own 1101 Z Z) Z zpr Tryz.underlying106 zbb zr72 Z)<|Zm Z<|Zq (ext Z Z)<|Zq (ext Z Z)<|Eb Z (z4w 1104 zbb (ZrE.rd (R:=z0z) (x:=0) (Zr.num Z) (ZrE.nilS (ZrE.rd (R:=z3u) (x:=0) (Zr.num Z) (ZrE.rd (R:=z0h) (x:=(⟨0,[],(⟨0,0,0,[]⟩:z03)⟩:z06)) zlw (ZrE.rd (R:=z0m) (x:=(⟨0,0⟩:z08)) zpq ZrE.nil Z) Z) Z)) Z)) fun v25=>z89 aZ [.rd z0z 0,.rd (z02 aZ) [],.rd z3u 0,.rd z0h (⟨0,[],(⟨0,0,0,[]⟩:z03)⟩:z06),.rd z0m (⟨0,0⟩:z08)] 1104 [.rd z0z 0] [.rd z3u 0,.rd z0h (⟨0,[],(⟨0,0,0,[]⟩:z03)⟩:z06),.rd z0m (⟨0,0⟩:z08)] Z Z Z<|zb2 (R:=z04) (⟨0,[],0,(⟨0,[],(⟨0,0,0,[]⟩:z03)⟩:z06),(⟨0,0⟩:z08)⟩:z05) 1104 Z (Sp.via (Sp.prod (Sp.prod (Sp.prod (Sp.prod (Sp.prod Sp.unit))))))<|Es (sto 1104 Z Z fH Z zbb)<|Za Z<|z3j 12 Z fun y26=>Zn<|z11<|zb6 [] mixed Z Z<|hTk 0 Z Z (mv Z)<|hTk 1 Z Z (mv Z)<|hIf 50 Z Z (fun h27=>?_) (fun h27=>?_)
        ·
         refine hKn 12 Z Z h27<|hKn 49 Z Z h27<|Zg 2 Z Z (ld 1104 Z Z fH zgr Z)<|Zg 3 Z Z (faB 1102 Z Z Tryz.underlying27 Z (by exact zf7))<|Zg 4 Z Z (ld 1102 Z Z (fP (z0n _)) zkh Z)<|Zg 5 Z Z (mv Z)<|zd3 fun x28 h29=>Zg 6 Z Z (ixR Z Z h29 tu25 zbb Z)<|Zg 7 Z Z (ldR Z zgr)<|z7s 8 [] [] Z (by kernel_rfl) Z Zx Z Tryz.func61 Z Z (zkl _ _) (Y2 Z Z) rN Z (fun _ _=>z8r) fun r30 n31=>Zg 9 Z Z (zlr Z)<|hTk 10 Z Z (pkT Z Z)<|z4h (by kernel_rfl)<|z0t<|gIf Z Z (fun h32=>?_) (fun h32=>?_)
         ·
          refine gKn 58 Z h32<|gSR<|Zb Z<|z0w<|zag<|z88<|z1e<|zb5<|z88<|zag<|zb5<|zag<|Ze [] [1001] Z
         ·
          refine gKn 58 Z h32<|z5o<|za9 (fun aa ww h=>Zu h [1101,1102,1103,1001])
        ·
         refine hKn 12 Z Z h27<|hKn 49 Z Z h27<|hSk 2 Z Z<|hSk 3 Z Z<|hSk 4 Z Z<|hSk 5 Z Z<|hSk 6 Z Z<|hSk 7 Z Z<|hSk 8 Z Z<|hSk 9 Z Z<|hTk 10 Z Z (pkF Z Z)<|z4h (by kernel_rfl)<|z0t<|zno Z<|z5o<|za9 (fun aa ww h=>Zu h [1101,1102,1103,1001])
       ·
        refine zb6 [1101] mixed Z Z<|hTk 0 Z Z (mv Z)<|hTk 1 Z Z (ld 1103 Z Z fH z6s Z)<|hTk 2 Z Z (faB 1102 Z Z Tryz.underlying27 Z (by exact zf7))<|hTk 3 Z Z (ld 1102 Z Z (fP (z0n _)) zkh Z)<|hTk 4 Z Z (mv Z)<|zd3 fun x33 h34=>hTk 5 Z Z (ixR Z Z h34 tu25 zbb Z)<|hTk 6 Z Z (ldR Z zgr)<|Zp 7 Z Z Z Z Z (mup 1101 Z Z Z Z zpr Tryz.underlying106)<|z4h (by kernel_rfl)<|z4r<|z0t<|z3d<|Zq (I.add Z Z)<|Zm Z<|z2c<|z2k (fun aa ww h=>Zu h [1101,1102,1001])
      ·
       refine z3f<|z1h<|z1k<|z4r<|za9 (fun aa ww h=>Zu h [1101,1001])
     ·
      refine z3d<|Zq (I.add Z Z)<|Zm Z<|z2c<|z2k (fun aa ww h=>Zu h [1101,1001])
    ·
     refine z3f<|z1h<|z1k<|za9 (fun aa ww h=>Zu h [1001])
   ·
    refine gSR<|Zb Z<|z0w<|Ze [] [1001] Z
def z8a (a0:List z00) (s5:Int):Option (Sum (Sum (Bool × Int) Unit) Int) :=
 if decide (s5<(a0.length:Int)) then
  idx a0 s5 >>= fun x7 =>
  idx a0 0 >>= fun x10 =>
  z1u x7.IDs x10.IDs >>= fun r12 =>
  if !r12 then
   some (.inl (.inl (false,0)))
  else
   some (.inr (w64 (s5+1)))
 else
  some (.inl (.inr ()))
def z5p (a0:List z00):Option (Bool × Int) :=
 z1r a0 >>= fun r1 =>
 if r1 != 0 then
  some (false,r1)
 else
  z4x (iter (z8a a0) 0) fun s4 =>
  some (true,0)
theorem zfv (a0:List z00):z36 Tryz.prog 11 [.rd (z02 z01) a0] [zG1] (z5p a0) (fun r nv=>⟨[.rd z0f r.1,.rd z0c r.2],[(1001,some (.bool true,.glob 1 (z4v 64 z0z) z58))]⟩):=by
 refine z4g 27 Tryz.func11 Z Z Z fun H w=>?_
 refine gSR<|Za Z<|Zb Z<|z11<|gSR<|Zm Z<|Zc [1001] [] Tryz.func20 Z (z9e _) fun r1 n2=>Zb Z<|gSR<|Zm Z<|Zq (I.neq Z Z)<|Zj Z (fun h3=>?_) (fun h3=>?_)
 ·
  refine gSR<|Zm Z<|Za Z<|Zb Z<|z0w<|z1e<|Ze [] [1001] Z
 ·
  refine Zt<|zb3 (fun (s4:Unit) aa ww=>Sta (ctx 27 H [zG1] w) [] [zG1] aa ww) ?_ (fun s4=>?_)
  ·
   refine gSR<|Zm Z<|Zq (z5r Z .rd Z tu22)<|Zm Z<|Zn<|z3l (fun (s5:Int) aa ww=>Sta (ctx 27 H [zG1] w) [(0,.rd (z02 z01) a0),(12,.rd (z02 z01) a0),(13,.rd z0c (a0.length:Int)),(14,.rd z0c s5)] [zG1] aa ww) (fun aa ww h=>Zu h [1001]) (fun s5=>?_)
   refine gSR<|Zq (I.lss Z Z)<|Zn<|z11<|gIf Z Z (fun h6=>?_) (fun h6=>?_)
   ·
    refine Zt<|z11<|z85<|gSR<|z0v fun x7 h8=>Zq (ixR Z Z h8 tu22 z4f Z)<|Zq (ldR Z z7q)<|Eb Z (z4w 1100 z4f (ZrE.nilS (ZrE.nilS ZrE.nil))) fun v9=>z89 aZ [.rd (z02 aZ) [],.val (.slice none 0 0)] 1100 [] [.val (.slice none 0 0)] Z Z Z<|z89 z04 [.rd (z02 aZ) [],.rd (z02 z04) []] 1100 [.rd (z02 aZ) []] [] Z Z Z<|zb2 (R:=z01) (⟨[],[]⟩:z00) 1100 Z (Sp.via (Sp.prod (Sp.prod Sp.unit)))<|Es (sto 1100 Z Z fH Z z4f)<|Zn<|z11<|zb6 [] mixed Z Z<|hTk 0 Z Z (faB 1100 Z Z Tryz.underlying27 Z (by exact zae))<|hTk 1 Z Z (ld 1100 Z Z (fP (z0o _)) ze3 Z)<|hTk 2 Z Z (mv Z)<|zd3 fun x10 h11=>hTk 3 Z Z (ixR Z Z h11 tu22 z4f Z)<|hTk 4 Z Z (faR Z (z0o _) Tryz.underlying27 Z Z (by exact zae))<|hTk 5 Z Z (ldR Z ze3)<|z7s 6 [] [] Z (by kernel_rfl) Z (gd0 Z) Z Tryz.func47 Z Z (z83 _ _) (Y2 Z Z) rN Z (fun _ _=>z8r) fun r12 n13=>hTk 7 Z Z (zlr Z)<|z4h (by kernel_rfl)<|z0t<|gIf Z Z (fun h14=>?_) (fun h14=>?_)
    ·
     refine gSR<|Za Z<|Zb Z<|z0w<|z88<|z1e<|zb5<|zag<|Ze [] [1001] Z
    ·
     refine z5o<|z4r<|z0t<|z3d<|Zq (I.add Z Z)<|Zm Z<|z2c<|z2k (fun aa ww h=>Zu h [1001])
   ·
    refine z3f<|z1h<|z1k<|za9 (fun aa ww h=>Zu h [1001])
  ·
   refine gSR<|Za Z<|Zb Z<|z0w<|Ze [] [1001] Z
def z3s (a0:z00) (a1:z00) (s4:Int):Option (Sum (Sum Bool Unit) Int) :=
 if decide (s4<(a0.IDs.length:Int)) then
  idx a0.IDs s4 >>= fun x6 =>
  z3g a1.IDs x6 >>= fun r8 =>
  if decide (0≤r8) then
   idx a0.Ops s4 >>= fun x11 =>
   idx a1.Ops r8 >>= fun x13 =>
   zdh x11 x13 >>= fun r15 =>
   if !r15 then
    some (.inl (.inl true))
   else
    some (.inr (w64 (s4+1)))
  else
   some (.inr (w64 (s4+1)))
 else
  some (.inl (.inr ()))
def zca (a0:z00) (a1:z00):Option (Bool) :=
 z4x (iter (z3s a0 a1) 0) fun s3 =>
 some false
def z4o (a0:List z00) (s3:Int):Option (Sum (Sum Int Unit) Int) :=
 if decide (s3<(a0.length:Int)) then
  idx a0 s3 >>= fun x5 =>
  za1 x5 >>= fun r7 =>
  if r7 != 0 then
   some (.inl (.inl r7))
  else
   some (.inr (w64 (s3+1)))
 else
  some (.inl (.inr ()))
def z4n (a0:List z00) (s11:Int) (s14:Int):Option (Sum (Sum (Sum (Sum Int Unit) Int) Unit) Int) :=
 if decide (s14<s11) then
  idx a0 s11 >>= fun x16 =>
  idx a0 s14 >>= fun x18 =>
  zca x16 x18 >>= fun r20 =>
  if r20 then
   some (.inl (.inl (.inl (.inl 14))))
  else
   some (w64 (s14+1)) >>= fun y23 =>
   some (.inr y23)
 else
  some (.inl (.inr ()))
def z67 (a0:List z00) (s11:Int):Option (Sum (Sum Int Unit) Int) :=
 if decide (s11<(a0.length:Int)) then
  z4x (iter (z4n a0 s11) 0) fun s13 =>
  some (w64 (s11+1)) >>= fun y24 =>
  some (.inr y24)
 else
  some (.inl (.inr ()))
def z59 (a0:List z00):Option (Int) :=
 if decide (5<(a0.length:Int)) then
  some 4
 else
  z4x (iter (z4o a0) 0) fun s2 =>
  z4x (iter (z67 a0) 0) fun s10 =>
  some 0
def z6m (a0:List z00) (s5:Int):Option (Sum (Sum (Bool × Int) Unit) Int) :=
 if decide (s5<(a0.length:Int)) then
  idx a0 s5 >>= fun x7 =>
  idx a0 0 >>= fun x9 =>
  z8l x7.IDs x9.IDs >>= fun r11 =>
  if !r11 then
   some (.inl (.inl (false,0)))
  else
   some (.inr (w64 (s5+1)))
 else
  some (.inl (.inr ()))
def zdz (a0:List z00):Option (Bool × Int) :=
 z59 a0 >>= fun r1 =>
 if r1 != 0 then
  some (false,r1)
 else
  z4x (iter (z6m a0) 1) fun s4 =>
  some (true,0)
def zck (a0:Int):Option (Bool) :=
 some true
theorem zhv (a0:Int):z36 Tryz.prog 50 [.rd z0c a0] [] (zck a0) (fun r nv=>⟨[.rd z0f r],[]⟩):=by
 refine z4g 3 Tryz.func50 Z Z Z fun H w=>?_
 refine gSR<|Zb Z<|gSR<|Zb Z<|z0w<|Ze [] [] Z
def z1o (x8:z00) (s11:(List (V3 × Int)) × (List (V3 × z05)) × Int):Option (Sum ((List (V3 × Int)) × (List (V3 × z05))) ((List (V3 × Int)) × (List (V3 × z05)) × Int)) :=
 if decide (s11.2.2<(x8.IDs.length:Int)) then
  idx x8.IDs s11.2.2 >>= fun x13 =>
  (some (zau s11.1 x13 (w64 (((z3k s11.1 x13).getD 0)+1)))) >>= fun s16 =>
  idx x8.Ops s11.2.2 >>= fun x19 =>
  some (.inr (s16,zau s11.2.1 x13 x19,w64 (s11.2.2+1)))
 else
  some (.inl (s11.1,s11.2.1))
def z19 (a0:List z00) (s5:(List (V3 × Int)) × (List (V3 × z05)) × Int):Option (Sum ((List (V3 × Int)) × (List (V3 × z05))) ((List (V3 × Int)) × (List (V3 × z05)) × Int)) :=
 if decide (s5.2.2<(a0.length:Int)) then
  (idx a0 s5.2.2 >>= fun x8 =>
  iter (z1o x8) (s5.1,s5.2.1,0)) >>= fun s7 =>
  some (.inr (s7.1,s7.2,w64 (s5.2.2+1)))
 else
  some (.inl (s5.1,s5.2.1))
def z3t (k27:V3) (x28:Int) (s25:(List V3)):Option ((List V3)) :=
 zck x28 >>= fun r37 =>
 if r37 then
  app 32 s25 [k27] >>= fun x41 =>
  some x41
 else
  some s25
def z1n (s4:(List (V3 × Int)) × (List (V3 × z05))) (r44:List V3) (s47:(List z05) × Int):Option (Sum ((List z05)) ((List z05) × Int)) :=
 if decide (s47.2<(r44.length:Int)) then
  idx r44 s47.2 >>= fun x50 =>
  z0l (((z3k s4.2 x50).getD (⟨0,[],0,(⟨0,[],(⟨0,0,0,[]⟩:z03)⟩:z06),(⟨0,0⟩:z08)⟩:z05)).Preds) >>= fun r54 =>
  app 112 s47.1 [(⟨((z3k s4.2 x50).getD (⟨0,[],0,(⟨0,[],(⟨0,0,0,[]⟩:z03)⟩:z06),(⟨0,0⟩:z08)⟩:z05)).Author,r54,((z3k s4.2 x50).getD (⟨0,[],0,(⟨0,[],(⟨0,0,0,[]⟩:z03)⟩:z06),(⟨0,0⟩:z08)⟩:z05)).Stamp,((z3k s4.2 x50).getD (⟨0,[],0,(⟨0,[],(⟨0,0,0,[]⟩:z03)⟩:z06),(⟨0,0⟩:z08)⟩:z05)).Act,((z3k s4.2 x50).getD (⟨0,[],0,(⟨0,[],(⟨0,0,0,[]⟩:z03)⟩:z06),(⟨0,0⟩:z08)⟩:z05)).Sig⟩:z05)] >>= fun x57 =>
  some (.inr (x57,w64 (s47.2+1)))
 else
  some (.inl s47.1)
def z3a (a0:List z00):Option (z00) :=
 (iter (z19 a0) (([]:List (V3 × Int)),([]:List (V3 × z05)),0)) >>= fun s4 =>
 (zg4 (fun e s=>z3t e.1 e.2 s) s4.1 []) >>= fun r32 =>
 zq5 r32 >>= fun r44 =>
 (iter (z1n s4 r44) ([],0)) >>= fun s46 =>
 some (⟨r44,s46⟩:z00)
theorem za7 (a0:List z00):z36 Tryz.prog 49 [.rd (z02 z01) a0,.val (.func (.func 50) #[] #[])] [] (z3a a0) (fun r nv=>⟨[.rd z01 r],[]⟩):=by
 refine z4g 89 Tryz.func49 Z Z Z fun H w=>?_
 refine gSR<|Eb Z (z4w 1 z4f (ZrE.nilS (ZrE.nilS ZrE.nil))) fun v1=>Zn<|gSR<|Ef Z (mkm aZ z0c 2 (Or.inl Z) Tryz.underlying123) fun v2=>Zb Z<|gSR<|Ef Z (mkm aZ z04 3 (Or.inl Z) Tryz.underlying106) fun v3=>Zb Z<|zb9 (fun (s4:(List (V3 × Int)) × (List (V3 × z05))) aa ww=>Sta (ctx 89 H [] w) [(1,.val (.func (.func 50) #[] #[])),(4,.val (z07 v1 0)),(5,.val v2),(6,.val v3)] [(1,some (v1,.box 27 [.val (.slice none 0 0),.val (.slice none 0 0)])),(2,some (v2,.map aZ z0c s4.1)),(3,some (v3,.map aZ z04 s4.2))] aa ww) ?_ (fun s4=>?_)
 ·
  refine gSR<|Zm Z<|Zq (z5r Z .rd Z tu22)<|Zm Z<|Zn<|z3l (fun (s5:(List (V3 × Int)) × (List (V3 × z05)) × Int) aa ww=>Sta (ctx 89 H [] w) [(1,.val (.func (.func 50) #[] #[])),(4,.val (z07 v1 0)),(5,.val v2),(6,.val v3),(19,.rd (z02 z01) a0),(20,.rd z0c (a0.length:Int)),(21,.rd z0c s5.2.2)] [(1,some (v1,.box 27 [.val (.slice none 0 0),.val (.slice none 0 0)])),(2,some (v2,.map aZ z0c s5.1)),(3,some (v3,.map aZ z04 s5.2.1))] aa ww) (fun aa ww h=>Zu h [1,2,3]) (fun s5=>?_)
  refine gSR<|Zq (I.lss Z Z)<|Zn<|z11<|gIf Z Z (fun h6=>?_) (fun h6=>?_)
  ·
   refine Zt<|zb9 (fun (s7:(List (V3 × Int)) × (List (V3 × z05))) aa ww=>Sta (ctx 89 H [] w) [(1,.val (.func (.func 50) #[] #[])),(4,.val (z07 v1 0)),(5,.val v2),(6,.val v3),(19,.rd (z02 z01) a0),(20,.rd z0c (a0.length:Int)),(21,.rd z0c s5.2.2)] [(1,some (v1,.box 27 [.val (.slice none 0 0),.val (.slice none 0 0)])),(2,some (v2,.map aZ z0c s7.1)),(3,some (v3,.map aZ z04 s7.2))] aa ww) ?_ (fun s7=>?_)
   ·
    refine z85<|gSR<|z0v fun x8 h9=>Zq (ixR Z Z h9 tu22 z4f Z)<|Zq (ldR Z z7q)<|Eb Z (z4w 4 z4f (ZrE.nilS (ZrE.nilS ZrE.nil))) fun v10=>z89 aZ [.rd (z02 aZ) [],.val (.slice none 0 0)] 4 [] [.val (.slice none 0 0)] Z Z Z<|z89 z04 [.rd (z02 aZ) [],.rd (z02 z04) []] 4 [.rd (z02 aZ) []] [] Z Z Z<|zb2 (R:=z01) (⟨[],[]⟩:z00) 4 Z (Sp.via (Sp.prod (Sp.prod Sp.unit)))<|Es (sto 4 Z Z fH Z z4f)<|Zn<|gSR<|Zq (faB 4 Z Z Tryz.underlying27 Z (by exact zae))<|Zq (ld 4 Z Z (fP (z0o _)) ze3 Z)<|Zq (z5r Z .rd Z tu24)<|Zm Z<|Zn<|z3l (fun (s11:(List (V3 × Int)) × (List (V3 × z05)) × Int) aa ww=>Sta (ctx 89 H [] w) [(1,.val (.func (.func 50) #[] #[])),(4,.val (z07 v1 0)),(5,.val v2),(6,.val v3),(8,.val (z07 v10 0)),(19,.rd (z02 z01) a0),(20,.rd z0c (a0.length:Int)),(21,.rd z0c s5.2.2),(26,.rd (z02 aZ) x8.IDs),(27,.rd z0c (x8.IDs.length:Int)),(28,.rd z0c s11.2.2)] [(1,some (v1,.box 27 [.val (.slice none 0 0),.val (.slice none 0 0)])),(2,some (v2,.map aZ z0c s11.1)),(3,some (v3,.map aZ z04 s11.2.1)),(4,some (v10,.box 27 [.rd z01 x8]))] aa ww) (fun aa ww h=>Zu h [1,2,3,4]) (fun s11=>?_)
    refine gSR<|Zq (I.lss Z Z)<|Zn<|z11<|gIf Z Z (fun h12=>?_) (fun h12=>?_)
    ·
     refine Zt<|z11<|z85<|gSR<|Zm Z<|z0v fun x13 h14=>Zq (ixR Z Z h14 tu24 z3h Z)<|Zq (ldR Z z6s)<|Eb Z (z4w 5 z3h (.zr (R:=aZ) (x:=(Vector.replicate 32 0)) zf6)) fun v15=>Za Z<|Es (sto 5 Z Z fH Z z3h)<|Zn<|zb9 (fun (s16:(List (V3 × Int))) aa ww=>Sta (ctx 89 H [] w) [(1,.val (.func (.func 50) #[] #[])),(4,.val (z07 v1 0)),(5,.val v2),(6,.val v3),(8,.val (z07 v10 0)),(9,.rd z0c s11.2.2),(10,.val (z07 v15 0)),(19,.rd (z02 z01) a0),(20,.rd z0c (a0.length:Int)),(21,.rd z0c s5.2.2),(26,.rd (z02 aZ) x8.IDs),(27,.rd z0c (x8.IDs.length:Int)),(28,.rd z0c s11.2.2)] [(1,some (v1,.box 27 [.val (.slice none 0 0),.val (.slice none 0 0)])),(2,some (v2,.map aZ z0c s16)),(3,some (v3,.map aZ z04 s11.2.1)),(4,some (v10,.box 27 [.rd z01 x8])),(5,some (v15,.box 78 [.rd aZ x13]))] aa ww) ?_ (fun s16=>?_)
     ·
      refine zb6 [2] mixed Z Z<|hTk 0 Z Z (mv Z)<|hTk 1 Z Z (ld 5 Z Z fH z6s Z)<|hAlt [2,4] (by kernel_rfl) Z ⟨?_,?_,trivial⟩
      ·
       refine oRun 2 Z (gd0 Z) Z Z z4j (mlk Z (.own 2 Z Z) Z zpr Tryz.underlying123 ti3 (Zr.num Z) Z)<|hTk 3 Z Z (I.add Z Z)<|hDoE 4 Z (by kernel_rfl) (gd0 Z) Z Z Z Z (men 2 Z Z Z zpr Tryz.underlying123 ti3 (Zr.num Z) Z) fun n17=>Zf 5 Z Z z4j (ext Z Z)<|Zp 6 Z Z Z Z Z (ens 2 Z Z Z Z)<|z4h (by kernel_rfl)<|z4k (fun aa ww h=>Zu h [1,2,3,4,5])
      ·
       refine oDoE 4 Z (gd0 Z) Z Z Z Z (men 2 Z Z Z zpr Tryz.underlying123 ti3 (Zr.num Z) Z) fun n18=>Zf 5 Z Z z4j (ext Z Z)<|hRun 2 Z (by kernel_rfl) (gd0 Z) Z Z z4j (mlkP 2 Z Z Z zpr Tryz.underlying123)<|hTk 3 Z Z (I.add Z Z)<|Zp 6 Z Z Z Z Z (ens 2 Z Z Z Z)<|z4h (by kernel_rfl)<|z4k (fun aa ww h=>Zu h [1,2,3,4,5])
     ·
      refine zb6 [3] mixed Z Z<|hTk 0 Z Z (mv Z)<|hTk 1 Z Z (ld 5 Z Z fH z6s Z)<|hTk 2 Z Z (faB 4 Z Z Tryz.underlying27 Z (by exact zf7))<|hTk 3 Z Z (ld 4 Z Z (fP (z0n _)) zkh Z)<|hTk 4 Z Z (mv Z)<|zd3 fun x19 h20=>hTk 5 Z Z (ixR Z Z h20 tu25 zbb Z)<|hTk 6 Z Z (ldR Z zgr)<|Zp 7 Z Z Z Z Z (mup 3 Z Z Z Z zpr Tryz.underlying106)<|z4h (by kernel_rfl)<|z4r<|z0t<|z3d<|Zq (I.add Z Z)<|Zm Z<|z2c<|z2k (fun aa ww h=>Zu h [1,2,3,4])
    ·
     refine z3f<|z1h<|z1k<|z4r<|z4k (fun aa ww h=>Zu h [1,2,3])
   ·
    refine z3d<|Zq (I.add Z Z)<|Zm Z<|z2c<|z2k (fun aa ww h=>Zu h [1,2,3])
  ·
   refine z3f<|z1h<|z1k<|z4k (fun aa ww h=>Zu h [1,2,3])
 ·
  refine gSR<|Eb Z (z4w 57 z4f (ZrE.nilS (ZrE.nilS ZrE.nil))) fun v21=>Zn<|z11<|gSR<|Zm Z<|z170 58 2 Z Z Z Tryz.underlying123 fun u22 es23 ck24=>Zn<|zzn aZ 78 62<|z156 (zxf (L:=fun (n26:Nat→Value)=>[(1,.val (.func (.func 50) #[] #[])),(4,.val (z07 v1 0)),(6,.val v3),(11,.val (z07 v21 0)),(49,.val u22)]) (nv0:=nvl [(.slice none 0 0)]) 58 2 List.Perm (fun _ _ _ h k=>h.trans k) (fun _=>.refl _) (AppF.comm (by_:=32) ?_) (fun (s25:(List V3)) (n26:Nat→Value)=>[(1,some (v1,.box 27 [.val (.slice none 0 0),.val (.slice none 0 0)])),(3,some (v3,.map aZ z04 s4.2)),(61,some ((n26 0),.list aZ 78 s25)),(57,some (v21,.box 27 [.val (n26 0),.val (.slice none 0 0)]))]) (fun aa ww h=>Zu h [58,2,1,3,62,57]) (fun _=>rfl) Z Z (fun _ _ _=>(Zs Z Z Z Z<|sS Z<|sN)) (fun _ _=>rfl) Z (fun Ci30 Cm31 k27 x28 s25 n26 hI29=>?_)) (fun r32=>eExM fun xp33 n35 hp34=>?_)
  ·
   intro e; unfold z3t; repeat first | exact ⟨some [], fun _=>rfl⟩ | exact zsq _ | refine zog fun _=>?_ | refine ztc ?_ ?_
  ·
   refine z85<|gSR<|Zq (entM 58 2 Z Z Z hI29)<|Zq (ext Z Z)<|Zq (ext Z Z)<|Eb Z (z4w 63 z3h (.zr (R:=aZ) (x:=(Vector.replicate 32 0)) zf6)) fun v36=>Es (sto 63 Z Z fH Z z3h)<|Zb Z<|gSR<|Zm Z<|Zm Z<|zko [] [] (gd0 Z) Z Z Tryz.func50 Z Z (zhv _) (Y1 Z) (cN) rN fun r37 n38=>Zj Z (fun h39=>?_) (fun h39=>?_)
   ·
    refine z3d<|Zq (faB 57 Z Z Tryz.underlying27 Z (by exact zae))<|Zq (ldV 57 Z Z (At.cast At.here Z) sc24 Z)<|Zq (ld 63 Z Z fH z6s Z)<|Ef Z (lit (R:=aZ) ([k27]:List V3) 64 (pP Z Z<|pN) Z tu24 z3h Z Z) fun v40=>zfz 64 [61] Z (fS Z<|fN)<|z0v fun x41 h42=>Ef Z (apn 61 Z Z Z .rd h42 tu24 z3h Z Z Z) fun v43=>Zq (faB 57 Z Z Tryz.underlying27 Z (by exact zae))<|Es (zs6 57 Z Z (zah.cast (zah.here z0a) Z) Z z1q z0a zae)<|z2c<|z4r<|z4k (fun aa ww h=>⟨nvl [v43],Zu h [58,2,1,3,61,57]⟩)
   ·
    refine z5o<|z4r<|z4k (fun aa ww h=>⟨nvl [(n26 0)],Zu h [58,2,1,3,61,57]⟩)
  ·
   refine z0t<|gSR<|Zq (faB 57 Z Z Tryz.underlying27 Z (by exact zae))<|Zq (ldV 57 Z Z (At.cast At.here Z) sc24 Z)<|call [61] [(1,61)] Z Tryz.func88 Z Z (z36.congr (znz (hp34).symm) (zua _ _)) (Y2 Z Z) (y1 Z) fun r44 n45=>Zn<|zb9 (fun (s46:(List z05)) aa ww=>∃ nv:Nat→Value,Sta (ctx 89 H [] w) [(4,.val (z07 v1 0)),(11,.val (z07 v21 0))] [(1,some (v1,.box 27 [.val (.slice none 0 0),.val (.slice none 0 0)])),(61,some ((n35 0),.list aZ 78 r44)),(69,some ((nv 0),.list z04 72 s46)),(57,some (v21,.box 27 [.val (n35 0),.val (nv 0)]))] aa ww) ?_ (fun s46=>?_)
   ·
    refine gSR<|Zq (faB 57 Z Z Tryz.underlying27 Z (by exact zae))<|Zq (ldV 57 Z Z (At.cast At.here Z) sc24 Z)<|Zq (z5r Z (.own 61 Z) Z tu24)<|Zm Z<|Zn<|zzn z04 72 75<|z3l (fun (s47:(List z05) × Int) aa ww=>∃ nv:Nat→Value,Sta (ctx 89 H [] w) [(4,.val (z07 v1 0)),(6,.val v3),(11,.val (z07 v21 0)),(68,.val (n35 0)),(69,.rd z0c (r44.length:Int)),(70,.rd z0c s47.2)] [(1,some (v1,.box 27 [.val (.slice none 0 0),.val (.slice none 0 0)])),(3,some (v3,.map aZ z04 s4.2)),(61,some ((n35 0),.list aZ 78 r44)),(74,some ((nv 0),.list z04 72 s47.1)),(57,some (v21,.box 27 [.val (n35 0),.val (nv 0)]))] aa ww) (fun aa ww h=>⟨nvl [(.slice none 0 0)],Zu h [1,3,61,75,57]⟩) (fun s47=>?_)
    refine gEx fun n48=>gSR<|Zq (I.lss Z Z)<|Zn<|z11<|gIf Z Z (fun h49=>?_) (fun h49=>?_)
    ·
     refine Zt<|z11<|z85<|gSR<|z0v fun x50 h51=>Zq (ixO 61 Z Z Z h51 tu24 z3h)<|Zq (ld 61 Z Z (Foc.el h51) z6s Z)<|Eb Z (z4w 76 z3h (.zr (R:=aZ) (x:=(Vector.replicate 32 0)) zf6)) fun v52=>Es (sto 76 Z Z fH Z z3h)<|Zn<|gSR<|Zm Z<|Zq (ld 76 Z Z fH z6s Z)<|Zq (mlk Z (.own 3 Z Z) Z zpr Tryz.underlying106 zbb zr72 Z)<|Eb Z (z4w 77 zbb (ZrE.rd (R:=z0z) (x:=0) (Zr.num Z) (ZrE.nilS (ZrE.rd (R:=z3u) (x:=0) (Zr.num Z) (ZrE.rd (R:=z0h) (x:=(⟨0,[],(⟨0,0,0,[]⟩:z03)⟩:z06)) zlw (ZrE.rd (R:=z0m) (x:=(⟨0,0⟩:z08)) zpq ZrE.nil Z) Z) Z)) Z)) fun v53=>z89 aZ [.rd z0z 0,.rd (z02 aZ) [],.rd z3u 0,.rd z0h (⟨0,[],(⟨0,0,0,[]⟩:z03)⟩:z06),.rd z0m (⟨0,0⟩:z08)] 77 [.rd z0z 0] [.rd z3u 0,.rd z0h (⟨0,[],(⟨0,0,0,[]⟩:z03)⟩:z06),.rd z0m (⟨0,0⟩:z08)] Z Z Z<|zb2 (R:=z04) (⟨0,[],0,(⟨0,[],(⟨0,0,0,[]⟩:z03)⟩:z06),(⟨0,0⟩:z08)⟩:z05) 77 Z (Sp.via (Sp.prod (Sp.prod (Sp.prod (Sp.prod (Sp.prod Sp.unit))))))<|Es (sto 77 Z Z fH Z zbb)<|Zn<|gSR<|Zq (faB 77 Z Z Tryz.underlying72 Z (by exact zae))<|Zq (ld 77 Z Z (fP (z1c _)) ze3 Z)<|Zc [] [(100,78)] Tryz.func55 Z (z1j _) fun r54 n55=>Zq (faB 77 Z Z Tryz.underlying72 Z (by exact zae))<|lSpl (R:=z04) 77 Z (Sp.via (Sp.prod (Sp.prod (Sp.prod (Sp.prod (Sp.prod Sp.unit))))))<|Es (zs6 77 Z Z (zah.cast (zah.next z24 (zah.here z24)) Z) Z z1q z0a zae)<|Zn<|z3d<|Zq (faB 57 Z Z Tryz.underlying27 Z (by exact zf7))<|Zq (ldV 57 Z Z (At.cast (At.next z0a At.here) Z) sc25 Z)<|zvv [.rd z0z (((z3k s4.2 x50).getD (⟨0,[],0,(⟨0,[],(⟨0,0,0,[]⟩:z03)⟩:z06),(⟨0,0⟩:z08)⟩:z05)).Author),.rd (z02 aZ) r54,.rd z3u (((z3k s4.2 x50).getD (⟨0,[],0,(⟨0,[],(⟨0,0,0,[]⟩:z03)⟩:z06),(⟨0,0⟩:z08)⟩:z05)).Stamp),.rd z0h (((z3k s4.2 x50).getD (⟨0,[],0,(⟨0,[],(⟨0,0,0,[]⟩:z03)⟩:z06),(⟨0,0⟩:z08)⟩:z05)).Act),.rd z0m (((z3k s4.2 x50).getD (⟨0,[],0,(⟨0,[],(⟨0,0,0,[]⟩:z03)⟩:z06),(⟨0,0⟩:z08)⟩:z05)).Sig)] 77 78 [.rd z0z (((z3k s4.2 x50).getD (⟨0,[],0,(⟨0,[],(⟨0,0,0,[]⟩:z03)⟩:z06),(⟨0,0⟩:z08)⟩:z05)).Author)] [.rd z3u (((z3k s4.2 x50).getD (⟨0,[],0,(⟨0,[],(⟨0,0,0,[]⟩:z03)⟩:z06),(⟨0,0⟩:z08)⟩:z05)).Stamp),.rd z0h (((z3k s4.2 x50).getD (⟨0,[],0,(⟨0,[],(⟨0,0,0,[]⟩:z03)⟩:z06),(⟨0,0⟩:z08)⟩:z05)).Act),.rd z0m (((z3k s4.2 x50).getD (⟨0,[],0,(⟨0,[],(⟨0,0,0,[]⟩:z03)⟩:z06),(⟨0,0⟩:z08)⟩:z05)).Sig)] Z Z Z Z Z<|zb2 (R:=z04) (⟨((z3k s4.2 x50).getD (⟨0,[],0,(⟨0,[],(⟨0,0,0,[]⟩:z03)⟩:z06),(⟨0,0⟩:z08)⟩:z05)).Author,r54,((z3k s4.2 x50).getD (⟨0,[],0,(⟨0,[],(⟨0,0,0,[]⟩:z03)⟩:z06),(⟨0,0⟩:z08)⟩:z05)).Stamp,((z3k s4.2 x50).getD (⟨0,[],0,(⟨0,[],(⟨0,0,0,[]⟩:z03)⟩:z06),(⟨0,0⟩:z08)⟩:z05)).Act,((z3k s4.2 x50).getD (⟨0,[],0,(⟨0,[],(⟨0,0,0,[]⟩:z03)⟩:z06),(⟨0,0⟩:z08)⟩:z05)).Sig⟩:z05) 77 Z (Sp.via (Sp.prod (Sp.prod (Sp.prod (Sp.prod (Sp.prod Sp.unit))))))<|Zq (ld 77 Z Z fH zgr Z)<|Ef Z (lit (R:=z04) ([(⟨((z3k s4.2 x50).getD (⟨0,[],0,(⟨0,[],(⟨0,0,0,[]⟩:z03)⟩:z06),(⟨0,0⟩:z08)⟩:z05)).Author,r54,((z3k s4.2 x50).getD (⟨0,[],0,(⟨0,[],(⟨0,0,0,[]⟩:z03)⟩:z06),(⟨0,0⟩:z08)⟩:z05)).Stamp,((z3k s4.2 x50).getD (⟨0,[],0,(⟨0,[],(⟨0,0,0,[]⟩:z03)⟩:z06),(⟨0,0⟩:z08)⟩:z05)).Act,((z3k s4.2 x50).getD (⟨0,[],0,(⟨0,[],(⟨0,0,0,[]⟩:z03)⟩:z06),(⟨0,0⟩:z08)⟩:z05)).Sig⟩:z05)]:List z05) 79 (pP Z Z<|pN) Z tu25 zbb Z Z) fun v56=>zfz 79 [84] Z (fS Z<|fN)<|z0v fun x57 h58=>Ef Z (apn 74 Z Z Z .rd h58 tu25 zbb Z Z Z) fun v59=>Zq (faB 57 Z Z Tryz.underlying27 Z (by exact zf7))<|Es (zs6 57 Z Z (zah.cast (zah.next z0a (zah.here z0a)) Z) Z z1q z0a zf7)<|z2c<|z4r<|z0t<|z3d<|Zq (I.add Z Z)<|Zm Z<|z2c<|z2k (fun aa ww h=>⟨nvl [v59],Zu h [1,3,61,74,57]⟩)
    ·
     refine z3f<|z1h<|z1k<|z4k (fun aa ww h=>⟨nvl [(n48 0)],Zu h [1,61,74,57]⟩)
   ·
    refine gEx fun n60=>gSR<|zvv [.rd (z02 aZ) r44,.val (n60 0)] 57 61 [] [.val (n60 0)] Z Z Z Z Z<|zvv [.rd (z02 aZ) r44,.rd (z02 z04) s46] 57 69 [.rd (z02 aZ) r44] [] Z Z Z Z Z<|zb2 (R:=z01) (⟨r44,s46⟩:z00) 57 Z (Sp.via (Sp.prod (Sp.prod Sp.unit)))<|Zq (ld 57 Z Z fH z7q Z)<|z89 aZ [.rd (z02 aZ) [],.val (.slice none 0 0)] 1 [] [.val (.slice none 0 0)] Z Z Z<|z89 z04 [.rd (z02 aZ) [],.rd (z02 z04) []] 1 [.rd (z02 aZ) []] [] Z Z Z<|zb2 (R:=z01) (⟨[],[]⟩:z00) 1 Z (Sp.via (Sp.prod (Sp.prod Sp.unit)))<|Es (sto 1 Z Z fH Z z4f)<|Zn<|z0w<|zdc [] [] Z (eC 1 Z Z z7q<|eN) (rN)
def z1s (a0:List z00):Option (z00 × Int) :=
 z1r a0 >>= fun r2 =>
 if r2 != 0 then
  some ((⟨[],[]⟩:z00),r2)
 else
  z3a a0 >>= fun r5 =>
  if decide (60<(r5.Ops.length:Int)) then
   some ((⟨[],[]⟩:z00),4)
  else
   some (r5,0)
theorem z5v (a0:List z00):z36 Tryz.prog 13 [.rd (z02 z01) a0] [zG1] (z1s a0) (fun r nv=>⟨[.rd z01 r.1,.rd z0c r.2],[(1001,some (.bool true,.glob 1 (z4v 64 z0z) z58))]⟩):=by
 refine z4g 20 Tryz.func13 Z Z Z fun H w=>?_
 refine gSR<|Eb Z (z4w 1 z4f (ZrE.nilS (ZrE.nilS ZrE.nil))) fun v1=>Zb Z<|z11<|gSR<|Zm Z<|Zc [1001] [] Tryz.func20 Z (z9e _) fun r2 n3=>Zb Z<|gSR<|Zm Z<|Zq (I.neq Z Z)<|Zj Z (fun h4=>?_) (fun h4=>?_)
 ·
  refine gSR<|Zq (zwv [(0,1),(1,1)] Tryz.underlying27 z4f (ZrE.nilS (ZrE.nilS ZrE.nil)) Z (zkj.done Z))<|Zm Z<|Es (zws 1 Z Z (z0j.cast (z0j.cons z0a (z0j.cons z0a z0j.nil)) Z) Z (z5l.cons z1q (z5l.cons z1q z5l.nil)) (z0j.cast (z0j.cons z0a (z0j.cons z0a z0j.nil)) Z) z4f)<|Zb Z<|z0w<|z1e<|zrv aZ [.rd (z02 aZ) [],.val (.slice none 0 0)] 1 [] [.val (.slice none 0 0)] Z Z Z<|zrv z04 [.rd (z02 aZ) [],.rd (z02 z04) []] 1 [.rd (z02 aZ) []] [] Z Z Z<|eJoi (R:=z01) (⟨[],[]⟩:z00) 1 Z (Sp.via (Sp.prod (Sp.prod Sp.unit)))<|zdc [] [1001] Z (eC 1 Z Z z7q<|eE Z<|eN) (y1 Z)
 ·
  refine Zt<|gSR<|Zm Z<|Zc [] [] Tryz.func49 Z (za7 _) fun r5 n6=>Eb Z (z4w 2 z4f (ZrE.nilS (ZrE.nilS ZrE.nil))) fun v7=>z89 aZ [.rd (z02 aZ) [],.val (.slice none 0 0)] 2 [] [.val (.slice none 0 0)] Z Z Z<|z89 z04 [.rd (z02 aZ) [],.rd (z02 z04) []] 2 [.rd (z02 aZ) []] [] Z Z Z<|zb2 (R:=z01) (⟨[],[]⟩:z00) 2 Z (Sp.via (Sp.prod (Sp.prod Sp.unit)))<|Es (sto 2 Z Z fH Z z4f)<|Zn<|z11<|gSR<|Zq (faB 2 Z Z Tryz.underlying27 Z (by exact zf7))<|Zq (ld 2 Z Z (fP (z0n _)) zkh Z)<|Zq (z5r Z .rd Z tu25)<|Zq (I.gtr Z Z)<|Zj Z (fun h8=>?_) (fun h8=>?_)
  ·
   refine gSR<|Zq (zwv [(0,1),(1,1)] Tryz.underlying27 z4f (ZrE.nilS (ZrE.nilS ZrE.nil)) Z (zkj.done Z))<|Es (zws 1 Z Z (z0j.cast (z0j.cons z0a (z0j.cons z0a z0j.nil)) Z) Z (z5l.cons z1q (z5l.cons z1q z5l.nil)) (z0j.cast (z0j.cons z0a (z0j.cons z0a z0j.nil)) Z) z4f)<|Zb Z<|z0w<|z1e<|zrv aZ [.rd (z02 aZ) [],.val (.slice none 0 0)] 1 [] [.val (.slice none 0 0)] Z Z Z<|zrv z04 [.rd (z02 aZ) [],.rd (z02 z04) []] 1 [.rd (z02 aZ) []] [] Z Z Z<|eJoi (R:=z01) (⟨[],[]⟩:z00) 1 Z (Sp.via (Sp.prod (Sp.prod Sp.unit)))<|zdc [] [1001] Z (eC 1 Z Z z7q<|eE Z<|eN) (y1 Z)
  ·
   refine Zt<|gSR<|Zq (ld 2 Z Z fH z7q Z)<|z89 aZ [.rd (z02 aZ) [],.val (.slice none 0 0)] 1 [] [.val (.slice none 0 0)] Z Z Z<|z89 z04 [.rd (z02 aZ) [],.rd (z02 z04) []] 1 [.rd (z02 aZ) []] [] Z Z Z<|zb2 (R:=z01) (⟨[],[]⟩:z00) 1 Z (Sp.via (Sp.prod (Sp.prod Sp.unit)))<|Es (sto 1 Z Z fH Z z4f)<|Zb Z<|z0w<|zdc [] [1001] Z (eC 1 Z Z z7q<|eE Z<|eN) (y1 Z)
def z61 (a0:List z00) (s4:(List V3) × (List z05) × Int) (s7:(List V3) × (List z05) × Int):Option (Sum ((List V3) × (List z05)) ((List V3) × (List z05) × Int)) :=
 idx a0 s4.2.2 >>= fun x8 =>
 if decide (s7.2.2<(x8.IDs.length:Int)) then
  idx a0 s4.2.2 >>= fun x11 =>
  idx x11.IDs s7.2.2 >>= fun x13 =>
  z3g s7.1 x13 >>= fun r15 =>
  if decide (r15<0) then
   idx a0 s4.2.2 >>= fun x18 =>
   idx x18.IDs s7.2.2 >>= fun x20 =>
   idx a0 s4.2.2 >>= fun x22 =>
   idx x22.Ops s7.2.2 >>= fun x24 =>
   zby (⟨s7.1,s7.2.1⟩:z00) x20 x24 >>= fun r26 =>
   some (w64 (s7.2.2+1)) >>= fun y28 =>
   some (.inr (r26.IDs,r26.Ops,y28))
  else
   some (w64 (s7.2.2+1)) >>= fun y29 =>
   some (.inr (s7.1,s7.2.1,y29))
 else
  some (.inl (s7.1,s7.2.1))
def z5y (a0:List z00) (s4:(List V3) × (List z05) × Int):Option (Sum ((List V3) × (List z05)) ((List V3) × (List z05) × Int)) :=
 if decide (s4.2.2<(a0.length:Int)) then
  (iter (z61 a0 s4) (s4.1,s4.2.1,0)) >>= fun s6 =>
  some (w64 (s4.2.2+1)) >>= fun y30 =>
  some (.inr (s6.1,s6.2,y30))
 else
  some (.inl (s4.1,s4.2.1))
def zcd (a0:List z00):Option (z00) :=
 (iter (z5y a0) ([],[],0)) >>= fun s3 =>
 some (⟨s3.1,s3.2⟩:z00)
def zct (a0:List z00):Option (z00 × Int) :=
 z59 a0 >>= fun r2 =>
 if r2 != 0 then
  some ((⟨[],[]⟩:z00),r2)
 else
  zcd a0 >>= fun r5 =>
  if decide (60<(r5.Ops.length:Int)) then
   some ((⟨[],[]⟩:z00),4)
  else
   some (r5,0)
def zbs (a0:Int) (c1_0:List z00):Option (Bool) :=
 some (a0==(c1_0.length:Int)) >>= fun y1 =>
 some y1
theorem zhb (a0:Int) (p1_0:Value) (c1_0:List z00):z36 Tryz.prog 52 [.rd z0c a0,.val (z07 p1_0 0)] [(1,some (p1_0,.box 22 [.rd (z02 z01) c1_0]))] (zbs a0 c1_0) (fun r nv=>⟨[.rd z0f r],[(1,some (p1_0,.box 22 [.rd (z02 z01) c1_0]))]⟩):=by
 refine z4g 8 Tryz.func52 Z Z Z fun H w=>?_
 refine gSR<|Zb Z<|gSR<|Zm Z<|Zq (ld 1 Z Z fH ty22 Z)<|Zq (z5r Z .rd Z tu22)<|Zq (I.eql Z Z)<|Za Z<|z3j 3 Z fun y1=>Zn<|z0w<|Ze [] [1] Z
def z9v (x8:z00) (s11:(List (V3 × Int)) × (List (V3 × z05)) × Int):Option (Sum ((List (V3 × Int)) × (List (V3 × z05))) ((List (V3 × Int)) × (List (V3 × z05)) × Int)) :=
 if decide (s11.2.2<(x8.IDs.length:Int)) then
  idx x8.IDs s11.2.2 >>= fun x13 =>
  (some (zau s11.1 x13 (w64 (((z3k s11.1 x13).getD 0)+1)))) >>= fun s16 =>
  idx x8.Ops s11.2.2 >>= fun x19 =>
  some (.inr (s16,zau s11.2.1 x13 x19,w64 (s11.2.2+1)))
 else
  some (.inl (s11.1,s11.2.1))
def z5t (a0:List z00) (s5:(List (V3 × Int)) × (List (V3 × z05)) × Int):Option (Sum ((List (V3 × Int)) × (List (V3 × z05))) ((List (V3 × Int)) × (List (V3 × z05)) × Int)) :=
 if decide (s5.2.2<(a0.length:Int)) then
  (idx a0 s5.2.2 >>= fun x8 =>
  iter (z9v x8) (s5.1,s5.2.1,0)) >>= fun s7 =>
  some (.inr (s7.1,s7.2,w64 (s5.2.2+1)))
 else
  some (.inl (s5.1,s5.2.1))
def z3o (c1_0:List z00) (k27:V3) (x28:Int) (s25:(List V3)):Option ((List V3)) :=
 zbs x28 c1_0 >>= fun r37 =>
 if r37 then
  app 32 s25 [k27] >>= fun x41 =>
  some x41
 else
  some s25
def z9m (s4:(List (V3 × Int)) × (List (V3 × z05))) (r44:List V3) (s47:(List z05) × Int):Option (Sum ((List z05)) ((List z05) × Int)) :=
 if decide (s47.2<(r44.length:Int)) then
  idx r44 s47.2 >>= fun x50 =>
  z0l (((z3k s4.2 x50).getD (⟨0,[],0,(⟨0,[],(⟨0,0,0,[]⟩:z03)⟩:z06),(⟨0,0⟩:z08)⟩:z05)).Preds) >>= fun r54 =>
  app 112 s47.1 [(⟨((z3k s4.2 x50).getD (⟨0,[],0,(⟨0,[],(⟨0,0,0,[]⟩:z03)⟩:z06),(⟨0,0⟩:z08)⟩:z05)).Author,r54,((z3k s4.2 x50).getD (⟨0,[],0,(⟨0,[],(⟨0,0,0,[]⟩:z03)⟩:z06),(⟨0,0⟩:z08)⟩:z05)).Stamp,((z3k s4.2 x50).getD (⟨0,[],0,(⟨0,[],(⟨0,0,0,[]⟩:z03)⟩:z06),(⟨0,0⟩:z08)⟩:z05)).Act,((z3k s4.2 x50).getD (⟨0,[],0,(⟨0,[],(⟨0,0,0,[]⟩:z03)⟩:z06),(⟨0,0⟩:z08)⟩:z05)).Sig⟩:z05)] >>= fun x57 =>
  some (.inr (x57,w64 (s47.2+1)))
 else
  some (.inl s47.1)
def z30 (a0:List z00) (c1_0:List z00):Option (z00) :=
 (iter (z5t a0) (([]:List (V3 × Int)),([]:List (V3 × z05)),0)) >>= fun s4 =>
 (zg4 (fun e s=>z3o c1_0 e.1 e.2 s) s4.1 []) >>= fun r32 =>
 zq5 r32 >>= fun r44 =>
 (iter (z9m s4 r44) ([],0)) >>= fun s46 =>
 some (⟨r44,s46⟩:z00)
end
section
open Go Go.RowKit
set_option maxRecDepth 100000
theorem z9k (a0:List z00) (p1_0:Value) (c1_0:List z00):z36 Tryz.prog 49 [.rd (z02 z01) a0,.val (.func (.func 52) #[] #[z07 p1_0 0])] [(1,some (p1_0,.box 22 [.rd (z02 z01) c1_0]))] (z30 a0 c1_0) (fun r nv=>⟨[.rd z01 r],[(1,some (p1_0,.box 22 [.rd (z02 z01) c1_0]))]⟩):=by
 refine z4g 89 Tryz.func49 Z Z Z fun H w=>?_
 refine gSR<|Eb Z (z4w 2 z4f (ZrE.nilS (ZrE.nilS ZrE.nil))) fun v1=>Zn<|gSR<|Ef Z (mkm aZ z0c 3 (Or.inl Z) Tryz.underlying123) fun v2=>Zb Z<|gSR<|Ef Z (mkm aZ z04 4 (Or.inl Z) Tryz.underlying106) fun v3=>Zb Z<|zb9 (fun (s4:(List (V3 × Int)) × (List (V3 × z05))) aa ww=>Sta (ctx 89 H [(1,some (p1_0,.box 22 [.rd (z02 z01) c1_0]))] w) [(1,.val (.func (.func 52) #[] #[z07 p1_0 0])),(4,.val (z07 v1 0)),(5,.val v2),(6,.val v3)] [(1,some (p1_0,.box 22 [.rd (z02 z01) c1_0])),(2,some (v1,.box 27 [.val (.slice none 0 0),.val (.slice none 0 0)])),(3,some (v2,.map aZ z0c s4.1)),(4,some (v3,.map aZ z04 s4.2))] aa ww) ?_ (fun s4=>?_)
 ·
  refine gSR<|Zm Z<|Zq (z5r Z .rd Z tu22)<|Zm Z<|Zn<|z3l (fun (s5:(List (V3 × Int)) × (List (V3 × z05)) × Int) aa ww=>Sta (ctx 89 H [(1,some (p1_0,.box 22 [.rd (z02 z01) c1_0]))] w) [(1,.val (.func (.func 52) #[] #[z07 p1_0 0])),(4,.val (z07 v1 0)),(5,.val v2),(6,.val v3),(19,.rd (z02 z01) a0),(20,.rd z0c (a0.length:Int)),(21,.rd z0c s5.2.2)] [(1,some (p1_0,.box 22 [.rd (z02 z01) c1_0])),(2,some (v1,.box 27 [.val (.slice none 0 0),.val (.slice none 0 0)])),(3,some (v2,.map aZ z0c s5.1)),(4,some (v3,.map aZ z04 s5.2.1))] aa ww) (fun aa ww h=>Zu h [1,2,3,4]) (fun s5=>?_)
  refine gSR<|Zq (I.lss Z Z)<|Zn<|z11<|gIf Z Z (fun h6=>?_) (fun h6=>?_)
  ·
   refine Zt<|zb9 (fun (s7:(List (V3 × Int)) × (List (V3 × z05))) aa ww=>Sta (ctx 89 H [(1,some (p1_0,.box 22 [.rd (z02 z01) c1_0]))] w) [(1,.val (.func (.func 52) #[] #[z07 p1_0 0])),(4,.val (z07 v1 0)),(5,.val v2),(6,.val v3),(19,.rd (z02 z01) a0),(20,.rd z0c (a0.length:Int)),(21,.rd z0c s5.2.2)] [(1,some (p1_0,.box 22 [.rd (z02 z01) c1_0])),(2,some (v1,.box 27 [.val (.slice none 0 0),.val (.slice none 0 0)])),(3,some (v2,.map aZ z0c s7.1)),(4,some (v3,.map aZ z04 s7.2))] aa ww) ?_ (fun s7=>?_)
   ·
    refine z85<|gSR<|z0v fun x8 h9=>Zq (ixR Z Z h9 tu22 z4f Z)<|Zq (ldR Z z7q)<|Eb Z (z4w 5 z4f (ZrE.nilS (ZrE.nilS ZrE.nil))) fun v10=>z89 aZ [.rd (z02 aZ) [],.val (.slice none 0 0)] 5 [] [.val (.slice none 0 0)] Z Z Z<|z89 z04 [.rd (z02 aZ) [],.rd (z02 z04) []] 5 [.rd (z02 aZ) []] [] Z Z Z<|zb2 (R:=z01) (⟨[],[]⟩:z00) 5 Z (Sp.via (Sp.prod (Sp.prod Sp.unit)))<|Es (sto 5 Z Z fH Z z4f)<|Zn<|gSR<|Zq (faB 5 Z Z Tryz.underlying27 Z (by exact zae))<|Zq (ld 5 Z Z (fP (z0o _)) ze3 Z)<|Zq (z5r Z .rd Z tu24)<|Zm Z<|Zn<|z3l (fun (s11:(List (V3 × Int)) × (List (V3 × z05)) × Int) aa ww=>Sta (ctx 89 H [(1,some (p1_0,.box 22 [.rd (z02 z01) c1_0]))] w) [(1,.val (.func (.func 52) #[] #[z07 p1_0 0])),(4,.val (z07 v1 0)),(5,.val v2),(6,.val v3),(8,.val (z07 v10 0)),(19,.rd (z02 z01) a0),(20,.rd z0c (a0.length:Int)),(21,.rd z0c s5.2.2),(26,.rd (z02 aZ) x8.IDs),(27,.rd z0c (x8.IDs.length:Int)),(28,.rd z0c s11.2.2)] [(1,some (p1_0,.box 22 [.rd (z02 z01) c1_0])),(2,some (v1,.box 27 [.val (.slice none 0 0),.val (.slice none 0 0)])),(3,some (v2,.map aZ z0c s11.1)),(4,some (v3,.map aZ z04 s11.2.1)),(5,some (v10,.box 27 [.rd z01 x8]))] aa ww) (fun aa ww h=>Zu h [1,2,3,4,5]) (fun s11=>?_)
    refine gSR<|Zq (I.lss Z Z)<|Zn<|z11<|gIf Z Z (fun h12=>?_) (fun h12=>?_)
    ·
     refine Zt<|z11<|z85<|gSR<|Zm Z<|z0v fun x13 h14=>Zq (ixR Z Z h14 tu24 z3h Z)<|Zq (ldR Z z6s)<|Eb Z (z4w 6 z3h (.zr (R:=aZ) (x:=(Vector.replicate 32 0)) zf6)) fun v15=>Za Z<|Es (sto 6 Z Z fH Z z3h)<|Zn<|zb9 (fun (s16:(List (V3 × Int))) aa ww=>Sta (ctx 89 H [(1,some (p1_0,.box 22 [.rd (z02 z01) c1_0]))] w) [(1,.val (.func (.func 52) #[] #[z07 p1_0 0])),(4,.val (z07 v1 0)),(5,.val v2),(6,.val v3),(8,.val (z07 v10 0)),(9,.rd z0c s11.2.2),(10,.val (z07 v15 0)),(19,.rd (z02 z01) a0),(20,.rd z0c (a0.length:Int)),(21,.rd z0c s5.2.2),(26,.rd (z02 aZ) x8.IDs),(27,.rd z0c (x8.IDs.length:Int)),(28,.rd z0c s11.2.2)] [(1,some (p1_0,.box 22 [.rd (z02 z01) c1_0])),(2,some (v1,.box 27 [.val (.slice none 0 0),.val (.slice none 0 0)])),(3,some (v2,.map aZ z0c s16)),(4,some (v3,.map aZ z04 s11.2.1)),(5,some (v10,.box 27 [.rd z01 x8])),(6,some (v15,.box 78 [.rd aZ x13]))] aa ww) ?_ (fun s16=>?_)
     ·
      refine zb6 [3] mixed Z Z<|hTk 0 Z Z (mv Z)<|hTk 1 Z Z (ld 6 Z Z fH z6s Z)<|hAlt [2,4] (by kernel_rfl) Z ⟨?_,?_,trivial⟩
      ·
       refine oRun 2 Z (gd0 Z) Z Z z4j (mlk Z (.own 3 Z Z) Z zpr Tryz.underlying123 ti3 (Zr.num Z) Z)<|hTk 3 Z Z (I.add Z Z)<|hDoE 4 Z (by kernel_rfl) (gd0 Z) Z Z Z Z (men 3 Z Z Z zpr Tryz.underlying123 ti3 (Zr.num Z) Z) fun n17=>Zf 5 Z Z z4j (ext Z Z)<|Zp 6 Z Z Z Z Z (ens 3 Z Z Z Z)<|z4h (by kernel_rfl)<|z4k (fun aa ww h=>Zu h [1,2,3,4,5,6])
      ·
       refine oDoE 4 Z (gd0 Z) Z Z Z Z (men 3 Z Z Z zpr Tryz.underlying123 ti3 (Zr.num Z) Z) fun n18=>Zf 5 Z Z z4j (ext Z Z)<|hRun 2 Z (by kernel_rfl) (gd0 Z) Z Z z4j (mlkP 3 Z Z Z zpr Tryz.underlying123)<|hTk 3 Z Z (I.add Z Z)<|Zp 6 Z Z Z Z Z (ens 3 Z Z Z Z)<|z4h (by kernel_rfl)<|z4k (fun aa ww h=>Zu h [1,2,3,4,5,6])
     ·
      refine zb6 [4] mixed Z Z<|hTk 0 Z Z (mv Z)<|hTk 1 Z Z (ld 6 Z Z fH z6s Z)<|hTk 2 Z Z (faB 5 Z Z Tryz.underlying27 Z (by exact zf7))<|hTk 3 Z Z (ld 5 Z Z (fP (z0n _)) zkh Z)<|hTk 4 Z Z (mv Z)<|zd3 fun x19 h20=>hTk 5 Z Z (ixR Z Z h20 tu25 zbb Z)<|hTk 6 Z Z (ldR Z zgr)<|Zp 7 Z Z Z Z Z (mup 4 Z Z Z Z zpr Tryz.underlying106)<|z4h (by kernel_rfl)<|z4r<|z0t<|z3d<|Zq (I.add Z Z)<|Zm Z<|z2c<|z2k (fun aa ww h=>Zu h [1,2,3,4,5])
    ·
     refine z3f<|z1h<|z1k<|z4r<|z4k (fun aa ww h=>Zu h [1,2,3,4])
   ·
    refine z3d<|Zq (I.add Z Z)<|Zm Z<|z2c<|z2k (fun aa ww h=>Zu h [1,2,3,4])
  ·
   refine z3f<|z1h<|z1k<|z4k (fun aa ww h=>Zu h [1,2,3,4])
 ·
  refine gSR<|Eb Z (z4w 58 z4f (ZrE.nilS (ZrE.nilS ZrE.nil))) fun v21=>Zn<|z11<|gSR<|Zm Z<|z170 59 3 Z Z Z Tryz.underlying123 fun u22 es23 ck24=>Zn<|zzn aZ 78 63<|z156 (zxf (L:=fun (n26:Nat→Value)=>[(1,.val (.func (.func 52) #[] #[z07 p1_0 0])),(4,.val (z07 v1 0)),(6,.val v3),(11,.val (z07 v21 0)),(49,.val u22)]) (nv0:=nvl [(.slice none 0 0)]) 59 3 List.Perm (fun _ _ _ h k=>h.trans k) (fun _=>.refl _) (AppF.comm (by_:=32) ?_) (fun (s25:(List V3)) (n26:Nat→Value)=>[(1,some (p1_0,.box 22 [.rd (z02 z01) c1_0])),(2,some (v1,.box 27 [.val (.slice none 0 0),.val (.slice none 0 0)])),(4,some (v3,.map aZ z04 s4.2)),(62,some ((n26 0),.list aZ 78 s25)),(58,some (v21,.box 27 [.val (n26 0),.val (.slice none 0 0)]))]) (fun aa ww h=>Zu h [59,3,1,2,4,63,58]) (fun _=>rfl) Z Z (fun _ _ _=>(Zs Z Z Z Z<|sS Z<|sN)) (fun _ _=>rfl) Z (fun Ci30 Cm31 k27 x28 s25 n26 hI29=>?_)) (fun r32=>eExM fun xp33 n35 hp34=>?_)
  ·
   intro e; unfold z3o; repeat first | exact ⟨some [], fun _=>rfl⟩ | exact zsq _ | refine zog fun _=>?_ | refine ztc ?_ ?_
  ·
   refine z85<|gSR<|Zq (entM 59 3 Z Z Z hI29)<|Zq (ext Z Z)<|Zq (ext Z Z)<|Eb Z (z4w 64 z3h (.zr (R:=aZ) (x:=(Vector.replicate 32 0)) zf6)) fun v36=>Es (sto 64 Z Z fH Z z3h)<|Zb Z<|gSR<|Zm Z<|Zm Z<|zko [1] [(1,1)] (gd0 Z) Z Z Tryz.func52 Z Z (zhb _ _ _) (Y1 Z) (cQ 1 Z<|cN) (y1 Z) fun r37 n38=>Zj Z (fun h39=>?_) (fun h39=>?_)
   ·
    refine z3d<|Zq (faB 58 Z Z Tryz.underlying27 Z (by exact zae))<|Zq (ldV 58 Z Z (At.cast At.here Z) sc24 Z)<|Zq (ld 64 Z Z fH z6s Z)<|Ef Z (lit (R:=aZ) ([k27]:List V3) 65 (pP Z Z<|pN) Z tu24 z3h Z Z) fun v40=>zfz 65 [61] Z (fS Z<|fN)<|z0v fun x41 h42=>Ef Z (apn 62 Z Z Z .rd h42 tu24 z3h Z Z Z) fun v43=>Zq (faB 58 Z Z Tryz.underlying27 Z (by exact zae))<|Es (zs6 58 Z Z (zah.cast (zah.here z0a) Z) Z z1q z0a zae)<|z2c<|z4r<|z4k (fun aa ww h=>⟨nvl [v43],Zu h [59,3,1,2,4,62,58]⟩)
   ·
    refine z5o<|z4r<|z4k (fun aa ww h=>⟨nvl [(n26 0)],Zu h [59,3,1,2,4,62,58]⟩)
  ·
   refine z0t<|gSR<|Zq (faB 58 Z Z Tryz.underlying27 Z (by exact zae))<|Zq (ldV 58 Z Z (At.cast At.here Z) sc24 Z)<|call [62] [(1,62)] Z Tryz.func88 Z Z (z36.congr (znz (hp34).symm) (zua _ _)) (Y2 Z Z) (y1 Z) fun r44 n45=>Zn<|zb9 (fun (s46:(List z05)) aa ww=>∃ nv:Nat→Value,Sta (ctx 89 H [(1,some (p1_0,.box 22 [.rd (z02 z01) c1_0]))] w) [(4,.val (z07 v1 0)),(11,.val (z07 v21 0))] [(2,some (v1,.box 27 [.val (.slice none 0 0),.val (.slice none 0 0)])),(62,some ((n35 0),.list aZ 78 r44)),(70,some ((nv 0),.list z04 72 s46)),(58,some (v21,.box 27 [.val (n35 0),.val (nv 0)])),(1,some (p1_0,.box 22 [.rd (z02 z01) c1_0]))] aa ww) ?_ (fun s46=>?_)
   ·
    refine gSR<|Zq (faB 58 Z Z Tryz.underlying27 Z (by exact zae))<|Zq (ldV 58 Z Z (At.cast At.here Z) sc24 Z)<|Zq (z5r Z (.own 62 Z) Z tu24)<|Zm Z<|Zn<|zzn z04 72 76<|z3l (fun (s47:(List z05) × Int) aa ww=>∃ nv:Nat→Value,Sta (ctx 89 H [(1,some (p1_0,.box 22 [.rd (z02 z01) c1_0]))] w) [(4,.val (z07 v1 0)),(6,.val v3),(11,.val (z07 v21 0)),(68,.val (n35 0)),(69,.rd z0c (r44.length:Int)),(70,.rd z0c s47.2)] [(2,some (v1,.box 27 [.val (.slice none 0 0),.val (.slice none 0 0)])),(4,some (v3,.map aZ z04 s4.2)),(62,some ((n35 0),.list aZ 78 r44)),(75,some ((nv 0),.list z04 72 s47.1)),(58,some (v21,.box 27 [.val (n35 0),.val (nv 0)])),(1,some (p1_0,.box 22 [.rd (z02 z01) c1_0]))] aa ww) (fun aa ww h=>⟨nvl [(.slice none 0 0)],Zu h [2,4,62,76,58,1]⟩) (fun s47=>?_)
    refine gEx fun n48=>gSR<|Zq (I.lss Z Z)<|Zn<|z11<|gIf Z Z (fun h49=>?_) (fun h49=>?_)
    ·
     refine Zt<|z11<|z85<|gSR<|z0v fun x50 h51=>Zq (ixO 62 Z Z Z h51 tu24 z3h)<|Zq (ld 62 Z Z (Foc.el h51) z6s Z)<|Eb Z (z4w 77 z3h (.zr (R:=aZ) (x:=(Vector.replicate 32 0)) zf6)) fun v52=>Es (sto 77 Z Z fH Z z3h)<|Zn<|gSR<|Zm Z<|Zq (ld 77 Z Z fH z6s Z)<|Zq (mlk Z (.own 4 Z Z) Z zpr Tryz.underlying106 zbb zr72 Z)<|Eb Z (z4w 78 zbb (ZrE.rd (R:=z0z) (x:=0) (Zr.num Z) (ZrE.nilS (ZrE.rd (R:=z3u) (x:=0) (Zr.num Z) (ZrE.rd (R:=z0h) (x:=(⟨0,[],(⟨0,0,0,[]⟩:z03)⟩:z06)) zlw (ZrE.rd (R:=z0m) (x:=(⟨0,0⟩:z08)) zpq ZrE.nil Z) Z) Z)) Z)) fun v53=>z89 aZ [.rd z0z 0,.rd (z02 aZ) [],.rd z3u 0,.rd z0h (⟨0,[],(⟨0,0,0,[]⟩:z03)⟩:z06),.rd z0m (⟨0,0⟩:z08)] 78 [.rd z0z 0] [.rd z3u 0,.rd z0h (⟨0,[],(⟨0,0,0,[]⟩:z03)⟩:z06),.rd z0m (⟨0,0⟩:z08)] Z Z Z<|zb2 (R:=z04) (⟨0,[],0,(⟨0,[],(⟨0,0,0,[]⟩:z03)⟩:z06),(⟨0,0⟩:z08)⟩:z05) 78 Z (Sp.via (Sp.prod (Sp.prod (Sp.prod (Sp.prod (Sp.prod Sp.unit))))))<|Es (sto 78 Z Z fH Z zbb)<|Zn<|gSR<|Zq (faB 78 Z Z Tryz.underlying72 Z (by exact zae))<|Zq (ld 78 Z Z (fP (z1c _)) ze3 Z)<|Zc [] [(100,79)] Tryz.func55 Z (z1j _) fun r54 n55=>Zq (faB 78 Z Z Tryz.underlying72 Z (by exact zae))<|lSpl (R:=z04) 78 Z (Sp.via (Sp.prod (Sp.prod (Sp.prod (Sp.prod (Sp.prod Sp.unit))))))<|Es (zs6 78 Z Z (zah.cast (zah.next z24 (zah.here z24)) Z) Z z1q z0a zae)<|Zn<|z3d<|Zq (faB 58 Z Z Tryz.underlying27 Z (by exact zf7))<|Zq (ldV 58 Z Z (At.cast (At.next z0a At.here) Z) sc25 Z)<|zvv [.rd z0z (((z3k s4.2 x50).getD (⟨0,[],0,(⟨0,[],(⟨0,0,0,[]⟩:z03)⟩:z06),(⟨0,0⟩:z08)⟩:z05)).Author),.rd (z02 aZ) r54,.rd z3u (((z3k s4.2 x50).getD (⟨0,[],0,(⟨0,[],(⟨0,0,0,[]⟩:z03)⟩:z06),(⟨0,0⟩:z08)⟩:z05)).Stamp),.rd z0h (((z3k s4.2 x50).getD (⟨0,[],0,(⟨0,[],(⟨0,0,0,[]⟩:z03)⟩:z06),(⟨0,0⟩:z08)⟩:z05)).Act),.rd z0m (((z3k s4.2 x50).getD (⟨0,[],0,(⟨0,[],(⟨0,0,0,[]⟩:z03)⟩:z06),(⟨0,0⟩:z08)⟩:z05)).Sig)] 78 79 [.rd z0z (((z3k s4.2 x50).getD (⟨0,[],0,(⟨0,[],(⟨0,0,0,[]⟩:z03)⟩:z06),(⟨0,0⟩:z08)⟩:z05)).Author)] [.rd z3u (((z3k s4.2 x50).getD (⟨0,[],0,(⟨0,[],(⟨0,0,0,[]⟩:z03)⟩:z06),(⟨0,0⟩:z08)⟩:z05)).Stamp),.rd z0h (((z3k s4.2 x50).getD (⟨0,[],0,(⟨0,[],(⟨0,0,0,[]⟩:z03)⟩:z06),(⟨0,0⟩:z08)⟩:z05)).Act),.rd z0m (((z3k s4.2 x50).getD (⟨0,[],0,(⟨0,[],(⟨0,0,0,[]⟩:z03)⟩:z06),(⟨0,0⟩:z08)⟩:z05)).Sig)] Z Z Z Z Z<|zb2 (R:=z04) (⟨((z3k s4.2 x50).getD (⟨0,[],0,(⟨0,[],(⟨0,0,0,[]⟩:z03)⟩:z06),(⟨0,0⟩:z08)⟩:z05)).Author,r54,((z3k s4.2 x50).getD (⟨0,[],0,(⟨0,[],(⟨0,0,0,[]⟩:z03)⟩:z06),(⟨0,0⟩:z08)⟩:z05)).Stamp,((z3k s4.2 x50).getD (⟨0,[],0,(⟨0,[],(⟨0,0,0,[]⟩:z03)⟩:z06),(⟨0,0⟩:z08)⟩:z05)).Act,((z3k s4.2 x50).getD (⟨0,[],0,(⟨0,[],(⟨0,0,0,[]⟩:z03)⟩:z06),(⟨0,0⟩:z08)⟩:z05)).Sig⟩:z05) 78 Z (Sp.via (Sp.prod (Sp.prod (Sp.prod (Sp.prod (Sp.prod Sp.unit))))))<|Zq (ld 78 Z Z fH zgr Z)<|Ef Z (lit (R:=z04) ([(⟨((z3k s4.2 x50).getD (⟨0,[],0,(⟨0,[],(⟨0,0,0,[]⟩:z03)⟩:z06),(⟨0,0⟩:z08)⟩:z05)).Author,r54,((z3k s4.2 x50).getD (⟨0,[],0,(⟨0,[],(⟨0,0,0,[]⟩:z03)⟩:z06),(⟨0,0⟩:z08)⟩:z05)).Stamp,((z3k s4.2 x50).getD (⟨0,[],0,(⟨0,[],(⟨0,0,0,[]⟩:z03)⟩:z06),(⟨0,0⟩:z08)⟩:z05)).Act,((z3k s4.2 x50).getD (⟨0,[],0,(⟨0,[],(⟨0,0,0,[]⟩:z03)⟩:z06),(⟨0,0⟩:z08)⟩:z05)).Sig⟩:z05)]:List z05) 80 (pP Z Z<|pN) Z tu25 zbb Z Z) fun v56=>zfz 80 [84] Z (fS Z<|fN)<|z0v fun x57 h58=>Ef Z (apn 75 Z Z Z .rd h58 tu25 zbb Z Z Z) fun v59=>Zq (faB 58 Z Z Tryz.underlying27 Z (by exact zf7))<|Es (zs6 58 Z Z (zah.cast (zah.next z0a (zah.here z0a)) Z) Z z1q z0a zf7)<|z2c<|z4r<|z0t<|z3d<|Zq (I.add Z Z)<|Zm Z<|z2c<|z2k (fun aa ww h=>⟨nvl [v59],Zu h [2,4,62,75,58,1]⟩)
    ·
     refine z3f<|z1h<|z1k<|z4k (fun aa ww h=>⟨nvl [(n48 0)],Zu h [2,62,75,58,1]⟩)
   ·
    refine gEx fun n60=>gSR<|zvv [.rd (z02 aZ) r44,.val (n60 0)] 58 62 [] [.val (n60 0)] Z Z Z Z Z<|zvv [.rd (z02 aZ) r44,.rd (z02 z04) s46] 58 70 [.rd (z02 aZ) r44] [] Z Z Z Z Z<|zb2 (R:=z01) (⟨r44,s46⟩:z00) 58 Z (Sp.via (Sp.prod (Sp.prod Sp.unit)))<|Zq (ld 58 Z Z fH z7q Z)<|z89 aZ [.rd (z02 aZ) [],.val (.slice none 0 0)] 2 [] [.val (.slice none 0 0)] Z Z Z<|z89 z04 [.rd (z02 aZ) [],.rd (z02 z04) []] 2 [.rd (z02 aZ) []] [] Z Z Z<|zb2 (R:=z01) (⟨[],[]⟩:z00) 2 Z (Sp.via (Sp.prod (Sp.prod Sp.unit)))<|Es (sto 2 Z Z fH Z z4f)<|Zn<|z0w<|zdc [] [1] Z (eC 2 Z Z z7q<|eN) (y1 Z)
def z8p (a0:List z00):Option (z00 × Int) :=
 z1r a0 >>= fun r3 =>
 if r3 != 0 then
  some ((⟨[],[]⟩:z00),r3)
 else
  z30 a0 a0 >>= fun r6 =>
  some (r6,0)
theorem zix (a0:List z00):z36 Tryz.prog 15 [.rd (z02 z01) a0] [zG1] (z8p a0) (fun r nv=>⟨[.rd z01 r.1,.rd z0c r.2],[(1001,some (.bool true,.glob 1 (z4v 64 z0z) z58))]⟩):=by
 refine z4g 14 Tryz.func15 Z Z Z fun H w=>?_
 refine gSR<|Eb Z (bx 1 Z) fun v1=>Eb Z (z4w 2 z4f (ZrE.nilS (ZrE.nilS ZrE.nil))) fun v2=>Zb Z<|z11<|gSR<|Zq (ld 1 Z Z fH ty22 Z)<|Zc [1001] [] Tryz.func20 Z (z9e _) fun r3 n4=>Zb Z<|gSR<|Zm Z<|Zq (I.neq Z Z)<|Zj Z (fun h5=>?_) (fun h5=>?_)
 ·
  refine gSR<|Zq (zwv [(0,1),(1,1)] Tryz.underlying27 z4f (ZrE.nilS (ZrE.nilS ZrE.nil)) Z (zkj.done Z))<|Zm Z<|Es (zws 2 Z Z (z0j.cast (z0j.cons z0a (z0j.cons z0a z0j.nil)) Z) Z (z5l.cons z1q (z5l.cons z1q z5l.nil)) (z0j.cast (z0j.cons z0a (z0j.cons z0a z0j.nil)) Z) z4f)<|Zb Z<|z0w<|z1e<|zrv aZ [.rd (z02 aZ) [],.val (.slice none 0 0)] 2 [] [.val (.slice none 0 0)] Z Z Z<|zrv z04 [.rd (z02 aZ) [],.rd (z02 z04) []] 2 [.rd (z02 aZ) []] [] Z Z Z<|eJoi (R:=z01) (⟨[],[]⟩:z00) 2 Z (Sp.via (Sp.prod (Sp.prod Sp.unit)))<|zdc [] [1001] Z (eC 2 Z Z z7q<|eE Z<|eN) (y1 Z)
 ·
  refine Zt<|gSR<|Zq (ld 1 Z Z fH ty22 Z)<|Zq (mkf mp0 (mp1 Z))<|Zc [1] [(1,1)] Tryz.func49 Z (z9k _ _ _) fun r6 n7=>z89 aZ [.rd (z02 aZ) [],.val (.slice none 0 0)] 2 [] [.val (.slice none 0 0)] Z Z Z<|z89 z04 [.rd (z02 aZ) [],.rd (z02 z04) []] 2 [.rd (z02 aZ) []] [] Z Z Z<|zb2 (R:=z01) (⟨[],[]⟩:z00) 2 Z (Sp.via (Sp.prod (Sp.prod Sp.unit)))<|Es (sto 2 Z Z fH Z z4f)<|Zb Z<|z0w<|zdc [] [1001] Z (eC 2 Z Z z7q<|eE Z<|eN) (y1 Z)
def z7c (a0:List z00) (s9:(List V3) × Int) (s12:(List V3) × Int):Option (Sum ((List V3)) ((List V3) × Int)) :=
 if decide (s12.2<(s9.1.length:Int)) then
  idx a0 s9.2 >>= fun x15 =>
  idx s9.1 s12.2 >>= fun x17 =>
  z3g x15.IDs x17 >>= fun r19 =>
  if decide (0≤r19) then
   idx s9.1 s12.2 >>= fun x22 =>
   app 32 s12.1 [x22] >>= fun x25 =>
   some (w64 (s12.2+1)) >>= fun y28 =>
   some (.inr (x25,y28))
  else
   some (w64 (s12.2+1)) >>= fun y29 =>
   some (.inr (s12.1,y29))
 else
  some (.inl s12.1)
def z4e (a0:List z00) (s9:(List V3) × Int):Option (Sum ((List V3)) ((List V3) × Int)) :=
 if decide (s9.2<(a0.length:Int)) then
  (iter (z7c a0 s9) ([],0)) >>= fun s11 =>
  some (w64 (s9.2+1)) >>= fun y31 =>
  some (.inr (s11,y31))
 else
  some (.inl s9.1)
def zes (a0:List z00):Option (z00 × Int) :=
 z59 a0 >>= fun r2 =>
 if r2 != 0 then
  some ((⟨[],[]⟩:z00),r2)
 else
  if (a0.length:Int)==0 then
   some ((⟨[],[]⟩:z00),0)
  else
   idx a0 0 >>= fun x6 =>
   (iter (z4e a0) (x6.IDs,1)) >>= fun s8 =>
   idx a0 0 >>= fun x32 =>
   zdo x32 s8 >>= fun r34 =>
   some (r34,0)
def z2s (a0:List V3) (a1:V3) (s3:Int):Option (Sum (Sum Int Unit) Int) :=
 if decide (s3<(a0.length:Int)) then
  idx a0 s3 >>= fun x5 =>
  if decide (a1=x5) then
   some (.inl (.inl s3))
  else
   some (.inr (w64 (s3+1)))
 else
  some (.inl (.inr ()))
def z6h (a0:List V3) (a1:V3):Option (Int) :=
 z4x (iter (z2s a0 a1) 0) fun s2 =>
 some (-1)
theorem zco (a0:List V3) (a1:V3):z36 Tryz.prog 92 [.rd (z02 aZ) a0,.rd aZ a1] [] (z6h a0 a1) (fun r nv=>⟨[.rd z0c r],[]⟩):=by
 refine z4g 19 Tryz.func92 Z Z Z fun H w=>?_
 refine gSR<|Eb Z (bx 1 Z) fun v1=>Zb Z<|zb3 (fun (s2:Unit) aa ww=>Sta (ctx 19 H [] w) [] [] aa ww) ?_ (fun s2=>?_)
 ·
  refine gSR<|Zm Z<|Zq (z5r Z .rd Z tu24)<|Zm Z<|Zn<|z3l (fun (s3:Int) aa ww=>Sta (ctx 19 H [] w) [(0,.rd (z02 aZ) a0),(3,.val (z07 v1 0)),(7,.rd z0c (a0.length:Int)),(8,.rd z0c s3)] [(1,some (v1,.box 78 [.rd aZ a1]))] aa ww) (fun aa ww h=>Zu h [1]) (fun s3=>?_)
  refine gSR<|Zq (I.lss Z Z)<|Zn<|z11<|gIf Z Z (fun h4=>?_) (fun h4=>?_)
  ·
   refine Zt<|z11<|z85<|gSR<|Zm Z<|Zb Z<|z11<|zlk mixed (by kernel_rfl)<|Rq Z (ld 1 Z Z fH z6s Z)<|Rq Z (mv Z)<|Rq Z (mv Z)<|za6 fun x5 h6=>Rq Z (ixR Z Z h6 tu24 z3h Z)<|Rq Z (ldR Z z6s)<|Rq Z (eqA Z Z eq78 Z Z gq78)<|zyk<|z0t<|gIf Z Z (fun h7=>?_) (fun h7=>?_)
   ·
    refine gSR<|Zm Z<|Zb Z<|z0w<|z88<|z1e<|zb5<|zag<|Ze [] [] Z
   ·
    refine z5o<|z4r<|z0t<|z3d<|Zq (I.add Z Z)<|Zm Z<|z2c<|z2k (fun aa ww h=>Zu h [1])
  ·
   refine z3f<|z1h<|z1k<|za9 (fun aa ww h=>Zu h [])
 ·
  refine gSR<|Zb Z<|z0w<|Ze [] [] Z
def z3q (a0:List V3) (a1:V3):Option (Bool) :=
 z6h a0 a1 >>= fun r2 =>
 some (decide (0≤r2)) >>= fun y4 =>
 some y4
theorem zb4 (a0:List V3) (a1:V3):z36 Tryz.prog 57 [.rd (z02 aZ) a0,.rd aZ a1] [] (z3q a0 a1) (fun r nv=>⟨[.rd z0f r],[]⟩):=by
 refine z4g 9 Tryz.func57 Z Z Z fun H w=>?_
 refine gSR<|Eb Z (bx 1 Z) fun v1=>Zb Z<|gSR<|Zm Z<|Zq (ld 1 Z Z fH z6s Z)<|Zc [] [] Tryz.func92 Z (zco _ _) fun r2 n3=>Zq (I.geq Z Z)<|Za Z<|z3j 4 Z fun y4=>Zn<|z0w<|Ze [] [] Z
def z82 (a0:V3) (c1_0:z00):Option (Bool) :=
 z3q c1_0.IDs a0 >>= fun r2 =>
 some r2
theorem zdp (a0:V3) (p1_0:Value) (c1_0:z00):z36 Tryz.prog 56 [.rd aZ a0,.val (z07 p1_0 0)] [(1,some (p1_0,.box 27 [.rd z01 c1_0]))] (z82 a0 c1_0) (fun r nv=>⟨[.rd z0f r],[(1,some (p1_0,.box 27 [.rd z01 c1_0]))]⟩):=by
 refine z4g 8 Tryz.func56 Z Z Z fun H w=>?_
 refine gSR<|Eb Z (bx 2 Z) fun v1=>Zb Z<|gSR<|Zq (faB 1 Z Z Tryz.underlying27 Z (by exact zae))<|Zq (ld 1 Z Z (fP (z0o _)) ze3 Z)<|Zq (ld 2 Z Z fH z6s Z)<|Zc [] [] Tryz.func57 Z (zb4 _ _) fun r2 n3=>Zb Z<|z0w<|Ze [] [1] Z
def z5q (a0:List V3) (c1_0:z00) (s2:Int):Option (Sum (Sum Int Unit) Int) :=
 if decide (s2<(a0.length:Int)) then
  idx a0 s2 >>= fun x4 =>
  z82 x4 c1_0 >>= fun r6 =>
  if r6 then
   some (.inl (.inl s2))
  else
   some (.inr (w64 (s2+1)))
 else
  some (.inl (.inr ()))
def z3e (a0:List V3) (c1_0:z00):Option (Int) :=
 z4x (iter (z5q a0 c1_0) 0) fun s1 =>
 some (-1)
theorem z5n (a0:List V3) (q0:Value) (l0:List V3) (p1_0:Value) (c1_0:z00):z36 Tryz.prog 91 [.vw aZ q0 l0 a0,.val (.func (.func 56) #[] #[z07 p1_0 0])] [(1,some (q0,.list aZ 78 l0)),(2,some (p1_0,.box 27 [.rd z01 c1_0]))] (z3e a0 c1_0) (fun r nv=>⟨[.rd z0c r],[(1,some (q0,.list aZ 78 l0)),(2,some (p1_0,.box 27 [.rd z01 c1_0]))]⟩):=by
 refine z4g 19 Tryz.func91 Z Z Z fun H w=>?_
 refine gSR<|Zb Z<|zb3 (fun (s1:Unit) aa ww=>Sta (ctx 19 H [(1,some (q0,.list aZ 78 l0)),(2,some (p1_0,.box 27 [.rd z01 c1_0]))] w) [] [(1,some (q0,.list aZ 78 l0)),(2,some (p1_0,.box 27 [.rd z01 c1_0]))] aa ww) ?_ (fun s1=>?_)
 ·
  refine gSR<|Zm Z<|Zq (z5r Z (.vw 1 Z) Z tu24)<|Zm Z<|Zn<|z3l (fun (s2:Int) aa ww=>Sta (ctx 19 H [(1,some (q0,.list aZ 78 l0)),(2,some (p1_0,.box 27 [.rd z01 c1_0]))] w) [(0,.vw aZ q0 l0 a0),(1,.val (.func (.func 56) #[] #[z07 p1_0 0])),(7,.rd z0c (a0.length:Int)),(8,.rd z0c s2)] [(1,some (q0,.list aZ 78 l0)),(2,some (p1_0,.box 27 [.rd z01 c1_0]))] aa ww) (fun aa ww h=>Zu h [1,2]) (fun s2=>?_)
  refine gSR<|Zq (I.lss Z Z)<|Zn<|z11<|gIf Z Z (fun h3=>?_) (fun h3=>?_)
  ·
   refine Zt<|z11<|z85<|gSR<|Zm Z<|Zb Z<|gSR<|Zm Z<|Zm Z<|Zm Z<|z0v fun x4 h5=>Zq (ixQ 1 Z Z Z h5 tu24 z3h)<|Zq (ldQ 1 Z Z z6s Z)<|zko [2] [(1,2)] (gd0 Z) Z Z Tryz.func56 Z Z (zdp _ _ _) (Y1 Z) (cQ 2 Z<|cN) (y1 Z) fun r6 n7=>Zj Z (fun h8=>?_) (fun h8=>?_)
   ·
    refine gSR<|Zm Z<|Zb Z<|z0w<|z88<|z1e<|zb5<|zag<|Ze [] [1,2] Z
   ·
    refine z5o<|z4r<|z0t<|z3d<|Zq (I.add Z Z)<|Zm Z<|z2c<|z2k (fun aa ww h=>Zu h [1,2])
  ·
   refine z3f<|z1h<|z1k<|za9 (fun aa ww h=>Zu h [1,2])
 ·
  refine gSR<|Zb Z<|z0w<|Ze [] [1,2] Z
def z65 (c1_0:z00) (s5:(List V3) × Int × Int):Option (Sum ((List V3) × Int) ((List V3) × Int × Int)) :=
 if decide (s5.2.2<(s5.1.length:Int)) then
  idx s5.1 s5.2.2 >>= fun x7 =>
  z82 x7 c1_0 >>= fun r10 =>
  if !r10 then
   idx s5.1 s5.2.1 >>= fun x13 =>
   some (w64 (s5.2.1+1)) >>= fun y15 =>
   some (w64 (s5.2.2+1)) >>= fun y16 =>
   some (.inr (s5.1.set (s5.2.1:Int).toNat x7,y15,y16))
  else
   some (w64 (s5.2.2+1)) >>= fun y17 =>
   some (.inr (s5.1,s5.2.1,y17))
 else
  some (.inl (s5.1,s5.2.1))
def z1y (c0:List V3) (c1_0:z00):Option ((List V3)) :=
 z3e c0 c1_0 >>= fun r1 =>
 if r1==(-1) then
  some c0
 else
  (iter (z65 c1_0) (c0,r1,w64 (r1+1))) >>= fun s4 =>
  chk (0≤s4.2∧s4.2≤(s4.1.length:Int)∧(s4.1.length:Int)≤(s4.1.length:Int)) >>= fun u18 =>
  chk ((s4.2:Int).toNat+(((s4.1.length:Int):Int).toNat - (s4.2:Int).toNat)≤s4.1.length) >>= fun u20 =>
  cut (clr s4.1 ((s4.2:Int).toNat) (((s4.1.length:Int):Int).toNat - (s4.2:Int).toNat) (Vector.replicate 32 0)) 0 s4.2 >>= fun x22 =>
  some x22
theorem z62 (p0:Value) (c0:List V3) (p1_0:Value) (c1_0:z00):z36 Tryz.prog 54 [.val p0,.val (.func (.func 56) #[] #[z07 p1_0 0])] [(1,some (p0,.list aZ 78 c0)),(2,some (p1_0,.box 27 [.rd z01 c1_0]))] (z1y c0 c1_0) (fun r nv=>⟨[.val (nv 0)],[(2,some (p1_0,.box 27 [.rd z01 c1_0])),(100,some (nv 0,.list aZ 78 r))]⟩):=by
 refine z4g 42 Tryz.func54 Z Z Z fun H w=>?_
 refine gSR<|Zb Z<|gSR<|Zm Z<|Zm Z<|call [1,2] [(1,1),(2,2)] Z Tryz.func91 Z Z (z5n _ _ _ _ _) (aW Z<|aQ Z<|aN) (Zi Z<|Zi Z<|rN) fun r1 n2=>Zb Z<|z11<|gSR<|Zm Z<|Zq (I.eql Z Z)<|Zj Z (fun h3=>?_) (fun h3=>?_)
 ·
  refine gSR<|Zm Z<|Zb Z<|z0w<|z1e<|Ze [p0] [2,1] Z
 ·
  refine Zt<|zb9 (fun (s4:(List V3) × Int) aa ww=>Sta (ctx 42 H [(1,some (p0,.list aZ 78 c0)),(2,some (p1_0,.box 27 [.rd z01 c1_0]))] w) [(0,.val p0),(5,.rd z0c s4.2)] [(1,some (p0,.list aZ 78 s4.1)),(2,some (p1_0,.box 27 [.rd z01 c1_0]))] aa ww) ?_ (fun s4=>?_)
  ·
   refine gSR<|Zm Z<|Zq (I.add Z Z)<|Zb Z<|z3l (fun (s5:(List V3) × Int × Int) aa ww=>Sta (ctx 42 H [(1,some (p0,.list aZ 78 c0)),(2,some (p1_0,.box 27 [.rd z01 c1_0]))] w) [(0,.val p0),(1,.val (.func (.func 56) #[] #[z07 p1_0 0])),(5,.rd z0c s5.2.1),(6,.rd z0c s5.2.2)] [(1,some (p0,.list aZ 78 s5.1)),(2,some (p1_0,.box 27 [.rd z01 c1_0]))] aa ww) (fun aa ww h=>Zu h [1,2]) (fun s5=>?_)
   refine z11<|gSR<|Zm Z<|Zm Z<|Zq (z5r Z (.own 1 Z) Z tu24)<|Zq (I.lss Z Z)<|Zj Z (fun h6=>?_) (fun h6=>?_)
   ·
    refine Zt<|z11<|z85<|gSR<|Zm Z<|Zm Z<|z0v fun x7 h8=>Zq (ixO 1 Z Z Z h8 tu24 z3h)<|Zq (ld 1 Z Z (Foc.el h8) z6s Z)<|Eb Z (z4w 3 z3h (.zr (R:=aZ) (x:=(Vector.replicate 32 0)) zf6)) fun v9=>Es (sto 3 Z Z fH Z z3h)<|Zn<|gSR<|Zm Z<|Zq (ld 3 Z Z fH z6s Z)<|zko [2] [(1,2)] (gd0 Z) Z Z Tryz.func56 Z Z (zdp _ _ _) (Y1 Z) (cQ 2 Z<|cN) (y1 Z) fun r10 n11=>Zq (zlr Z)<|Zj Z (fun h12=>?_) (fun h12=>?_)
    ·
     refine gSR<|Zm Z<|Zm Z<|Zq (ld 3 Z Z fH z6s Z)<|z0v fun x13 h14=>Zq (ixO 1 Z Z Z h14 tu24 z3h)<|Es (sto 1 Z Z (Foc.el h14) Z z3h)<|Zn<|z3d<|Zm Z<|Zq (I.add Z Z)<|Za Z<|z3j 5 Z fun y15=>z2c<|z4r<|z0t<|z3d<|Zm Z<|Zq (I.add Z Z)<|Za Z<|z3j 6 Z fun y16=>z2c<|z2k (fun aa ww h=>Zu h [1,2])
    ·
     refine z5o<|z4r<|z0t<|z3d<|Zm Z<|Zq (I.add Z Z)<|Za Z<|z3j 6 Z fun y17=>z2c<|z2k (fun aa ww h=>Zu h [1,2])
   ·
    refine z3f<|z1h<|z1k<|z4k (fun aa ww h=>Zu h [1,2])
  ·
   refine gSR<|Zm Z<|Zm Z<|z0v fun u18 h19=>Zq (z10z 1 Z Z (.to Z) .no (z8i h19) tu24 z3h)<|z0v fun u20 h21=>EsV (clrS 1 Z Z (z8i h21) Z tu24 z3h zf6 Z)<|Zn<|gSR<|Zm Z<|Zm Z<|z0v fun x22 h23=>Ef Z (cutO 1 Z Z Z h23 tu24 z3h) fun v24=>Zb Z<|z0w<|Ze [v24] [2,1] Z
def z96 (a0:List z00) (r1:z00 × Int) (s6:(List (List V3)) × Int):Option (Sum ((List (List V3))) ((List (List V3)) × Int)) :=
 if decide (s6.2<(a0.length:Int)) then
  idx a0 s6.2 >>= fun x9 =>
  z0l r1.1.IDs >>= fun r12 =>
  z1y r12 x9 >>= fun r14 =>
  app 24 s6.1 [r14] >>= fun x17 =>
  some (.inr (x17,w64 (s6.2+1)))
 else
  some (.inl s6.1)
def z4t (a0:List z00):Option ((List (List V3)) × Int) :=
 z1s a0 >>= fun r1 =>
 if r1.2 != 0 then
  some ([],r1.2)
 else
  (iter (z96 a0 r1) ([],0)) >>= fun s5 =>
  some (s5,0)
theorem zbi (a0:List z00):z36 Tryz.prog 17 [.rd (z02 z01) a0] [zG1] (z4t a0) (fun r nv=>⟨[.val (nv 0),.rd z0c r.2],[(1001,some (.bool true,.glob 1 (z4v 64 z0z) z58)),(100,some (nv 0,.list (z02 aZ) 24 r.1))]⟩):=by
 refine z4g 35 Tryz.func17 Z Z Z fun H w=>?_
 refine gSR<|Za Z<|Zb Z<|gSR<|Zm Z<|Zc [1001] [] Tryz.func13 Z (z5v _) fun r1 n2=>Zm Z<|Zq (ext Z Z)<|Zq (ext Z Z)<|Eb Z (z4w 1 z4f (ZrE.nilS (ZrE.nilS ZrE.nil))) fun v3=>z89 aZ [.rd (z02 aZ) [],.val (.slice none 0 0)] 1 [] [.val (.slice none 0 0)] Z Z Z<|z89 z04 [.rd (z02 aZ) [],.rd (z02 z04) []] 1 [.rd (z02 aZ) []] [] Z Z Z<|zb2 (R:=z01) (⟨[],[]⟩:z00) 1 Z (Sp.via (Sp.prod (Sp.prod Sp.unit)))<|Es (sto 1 Z Z fH Z z4f)<|Zb Z<|z11<|gSR<|Zm Z<|Zq (I.neq Z Z)<|Zj Z (fun h4=>?_) (fun h4=>?_)
 ·
  refine gSR<|Zm Z<|Za Z<|Zb Z<|z0w<|z1e<|zra (z02 aZ) 24 2<|Ze [(.slice none 0 0)] [1001,2] Z
 ·
  refine Zt<|gSR<|Zb Z<|zb9 (fun (s5:(List (List V3))) aa ww=>∃ nv:Nat→Value,Sta (ctx 35 H [zG1] w) [(6,.val (nv 0))] [(7,some ((nv 0),.list (z02 aZ) 24 s5)),zG1] aa ww) ?_ (fun s5=>?_)
  ·
   refine gSR<|Zm Z<|Zq (z5r Z .rd Z tu22)<|Zm Z<|Zn<|zzn (z02 aZ) 24 1105<|z3l (fun (s6:(List (List V3)) × Int) aa ww=>∃ nv:Nat→Value,Sta (ctx 35 H [zG1] w) [(4,.val (z07 v3 0)),(6,.val (nv 0)),(18,.rd (z02 z01) a0),(19,.rd z0c (a0.length:Int)),(20,.rd z0c s6.2)] [(1,some (v3,.box 27 [.rd z01 r1.1])),(1104,some ((nv 0),.list (z02 aZ) 24 s6.1)),zG1] aa ww) (fun aa ww h=>⟨nvl [(.slice none 0 0)],Zu h [1,1105,1001]⟩) (fun s6=>?_)
   refine gEx fun n7=>gSR<|Zq (I.lss Z Z)<|Zn<|z11<|gIf Z Z (fun h8=>?_) (fun h8=>?_)
   ·
    refine Zt<|z11<|z85<|gSR<|z0v fun x9 h10=>Zq (ixR Z Z h10 tu22 z4f Z)<|Zq (ldR Z z7q)<|Eb Z (z4w 1106 z4f (ZrE.nilS (ZrE.nilS ZrE.nil))) fun v11=>z89 aZ [.rd (z02 aZ) [],.val (.slice none 0 0)] 1106 [] [.val (.slice none 0 0)] Z Z Z<|z89 z04 [.rd (z02 aZ) [],.rd (z02 z04) []] 1106 [.rd (z02 aZ) []] [] Z Z Z<|zb2 (R:=z01) (⟨[],[]⟩:z00) 1106 Z (Sp.via (Sp.prod (Sp.prod Sp.unit)))<|Es (sto 1106 Z Z fH Z z4f)<|Zn<|gSR<|Zq (faB 1 Z Z Tryz.underlying27 Z (by exact zae))<|Zq (ld 1 Z Z (fP (z0o _)) ze3 Z)<|Zc [] [(100,1107)] Tryz.func55 Z (z1j _) fun r12 n13=>Zq (mkf mp0 (mp1 Z))<|Zc [1107,1106] [(100,1108),(2,1106)] Tryz.func54 Z (z62 _ _ _ _) fun r14 n15=>Zb Z<|z3d<|Zm Z<|Zm Z<|zfz 1108 [28,9,30] Z (fS Z<|fS Z<|fS Z<|fN)<|Ef Z (lit (R:=(z02 aZ)) ([r14]:List (List V3)) 1109 (pP Z Z<|pN) Z tu38 zae Z Z) fun v16=>zfz 1109 [31] Z (fS Z<|fN)<|z0v fun x17 h18=>Ef Z (apn 1104 Z Z Z .rd h18 tu38 zae Z Z Z) fun v19=>Za Z<|z2c<|z4r<|z0t<|z3d<|Zq (I.add Z Z)<|Zm Z<|z2c<|z2k (fun aa ww h=>⟨nvl [v19],Zu h [1,1104,1001]⟩)
   ·
    refine z3f<|z1h<|z1k<|z4k (fun aa ww h=>⟨nvl [(n7 0)],Zu h [1104,1001]⟩)
  ·
   refine gEx fun n20=>gSR<|Zm Z<|Za Z<|Zb Z<|z0w<|Ze [(n20 0)] [1001,7] Z
def z7u (a0:List z00) (r1:z00 × Int) (s6:(List (List V3)) × Int):Option (Sum ((List (List V3))) ((List (List V3)) × Int)) :=
 if decide (s6.2<(a0.length:Int)) then
  idx a0 s6.2 >>= fun x9 =>
  z99 x9.IDs r1.1.IDs >>= fun r11 =>
  app 24 s6.1 [r11] >>= fun x14 =>
  some (w64 (s6.2+1)) >>= fun y17 =>
  some (.inr (x14,y17))
 else
  some (.inl s6.1)
def zg0 (a0:List z00):Option ((List (List V3)) × Int) :=
 zct a0 >>= fun r1 =>
 if r1.2 != 0 then
  some ([],r1.2)
 else
  (iter (z7u a0 r1) ([],0)) >>= fun s5 =>
  some (s5,0)
def z84 (a0:z00) (s7:(List ((List UInt8) × Bool)) × Int):Option (Sum ((List ((List UInt8) × Bool))) ((List ((List UInt8) × Bool)) × Int)) :=
 if decide (s7.2<(a0.Ops.length:Int)) then
  idx a0.Ops s7.2 >>= fun x9 =>
  if x9.Act.Kind != 1 then
   some (.inr (zau s7.1 x9.Act.Key true,w64 (s7.2+1)))
  else
   some (.inr (s7.1,w64 (s7.2+1)))
 else
  some (.inl s7.1)
def z87 (k18:List UInt8) (x19:Bool) (s16:(List (List UInt8))):Option ((List (List UInt8))) :=
 app 16 s16 [k18] >>= fun x28 =>
 some x28
def z2q (a0:z00):Option ((List (List UInt8)) × Int) :=
 z4a a0 >>= fun r2 =>
 if r2 != 0 then
  some ([],r2)
 else
  (iter (z84 a0) (([]:List ((List UInt8) × Bool)),0)) >>= fun s6 =>
  (zg4 (fun e s=>z87 e.1 e.2 s) s6 []) >>= fun r23 =>
  zn9 r23 >>= fun r31 =>
  some (r31,0)
theorem z6j (a0:z00):z36 Tryz.prog 23 [.rd z01 a0] [zG1] (z2q a0) (fun r nv=>⟨[.val (nv 0),.rd z0c r.2],[(1001,some (.bool true,.glob 1 (z4v 64 z0z) z58)),(100,some (nv 0,.list z6a 9 r.1))]⟩):=by
 refine z4g 45 Tryz.func23 Z Z Z fun H w=>?_
 refine gSR<|Eb Z (bx 1 Z) fun v1=>Za Z<|Zb Z<|z11<|gSR<|Zq (ld 1 Z Z fH z7q Z)<|Zc [1001] [] Tryz.func60 Z (zc7 _) fun r2 n3=>Zb Z<|gSR<|Zm Z<|Zq (I.neq Z Z)<|Zj Z (fun h4=>?_) (fun h4=>?_)
 ·
  refine gSR<|Zm Z<|Za Z<|Zb Z<|z0w<|z1e<|zra z6a 9 2<|Ze [(.slice none 0 0)] [1001,2] Z
 ·
  refine Zt<|gSR<|Ef Z (mkm z6a z0f 3 (Or.inl Z) Tryz.underlying108) fun v5=>Zb Z<|zb9 (fun (s6:(List ((List UInt8) × Bool))) aa ww=>Sta (ctx 45 H [zG1] w) [(5,.val v5)] [(3,some (v5,.map z6a z0f s6)),zG1] aa ww) ?_ (fun s6=>?_)
  ·
   refine gSR<|Zq (faB 1 Z Z Tryz.underlying27 Z (by exact zf7))<|Zq (ld 1 Z Z (fP (z0n _)) zkh Z)<|Zq (z5r Z .rd Z tu25)<|Zm Z<|Zn<|z3l (fun (s7:(List ((List UInt8) × Bool)) × Int) aa ww=>Sta (ctx 45 H [zG1] w) [(5,.val v5),(17,.rd (z02 z04) a0.Ops),(18,.rd z0c (a0.Ops.length:Int)),(19,.rd z0c s7.2)] [(3,some (v5,.map z6a z0f s7.1)),zG1] aa ww) (fun aa ww h=>Zu h [3,1001]) (fun s7=>?_)
   refine gSR<|Zq (I.lss Z Z)<|Zn<|z11<|gIf Z Z (fun h8=>?_) (fun h8=>?_)
   ·
    refine Zt<|z11<|z85<|gSR<|z0v fun x9 h10=>Zq (ixR Z Z h10 tu25 zbb Z)<|Zq (ldR Z zgr)<|Eb Z (z4w 1100 zbb (ZrE.rd (R:=z0z) (x:=0) (Zr.num Z) (ZrE.nilS (ZrE.rd (R:=z3u) (x:=0) (Zr.num Z) (ZrE.rd (R:=z0h) (x:=(⟨0,[],(⟨0,0,0,[]⟩:z03)⟩:z06)) zlw (ZrE.rd (R:=z0m) (x:=(⟨0,0⟩:z08)) zpq ZrE.nil Z) Z) Z)) Z)) fun v11=>z89 aZ [.rd z0z 0,.rd (z02 aZ) [],.rd z3u 0,.rd z0h (⟨0,[],(⟨0,0,0,[]⟩:z03)⟩:z06),.rd z0m (⟨0,0⟩:z08)] 1100 [.rd z0z 0] [.rd z3u 0,.rd z0h (⟨0,[],(⟨0,0,0,[]⟩:z03)⟩:z06),.rd z0m (⟨0,0⟩:z08)] Z Z Z<|zb2 (R:=z04) (⟨0,[],0,(⟨0,[],(⟨0,0,0,[]⟩:z03)⟩:z06),(⟨0,0⟩:z08)⟩:z05) 1100 Z (Sp.via (Sp.prod (Sp.prod (Sp.prod (Sp.prod (Sp.prod Sp.unit))))))<|Es (sto 1100 Z Z fH Z zbb)<|Zn<|gSR<|Zq (faB 1100 Z Z Tryz.underlying72 Z (by exact zjk))<|Zq (faB 1100 Z Z Tryz.underlying64 Z (by exact ti5))<|Zq (ld 1100 Z Z ((fP (z20 _)).part (z1p _)) ty5 Z)<|Zq (B.neq Z Z)<|Zj Z (fun h12=>?_) (fun h12=>?_)
    ·
     refine z3d<|Zm Z<|Zq (faB 1100 Z Z Tryz.underlying72 Z (by exact zjk))<|Zq (faB 1100 Z Z Tryz.underlying64 Z (by exact ti9))<|Zq (ld 1100 Z Z ((fP (z20 _)).part (z3n _)) ty9 Z)<|Es (mup 3 Z Z Z Z (zl7.str tu9) Tryz.underlying108)<|z2c<|z4r<|z0t<|z3d<|Zq (I.add Z Z)<|Zm Z<|z2c<|z2k (fun aa ww h=>Zu h [3,1001])
    ·
     refine z5o<|z4r<|z0t<|z3d<|Zq (I.add Z Z)<|Zm Z<|z2c<|z2k (fun aa ww h=>Zu h [3,1001])
   ·
    refine z3f<|z1h<|z1k<|z4k (fun aa ww h=>Zu h [3,1001])
  ·
   refine gSR<|Zb Z<|z11<|gSR<|Zm Z<|z170 1101 3 Z Z Z Tryz.underlying108 fun u13 es14 ck15=>Zn<|zzn z6a 9 1104<|z156 (zxf (L:=fun (n17:Nat→Value)=>[(8,.val (n17 0)),(33,.val u13)]) (nv0:=nvl [(.slice none 0 0)]) 1101 3 List.Perm (fun _ _ _ h k=>h.trans k) (fun _=>.refl _) (AppF.comm (by_:=16) ?_) (fun (s16:(List (List UInt8))) (n17:Nat→Value)=>[(1103,some ((n17 0),.list z6a 9 s16)),zG1]) (fun aa ww h=>Zu h [1101,3,1104,1001]) (fun _=>rfl) Z Z (fun _ _ _=>(sS Z<|sS Z<|sN)) (fun _ _=>rfl) Z (fun Ci21 Cm22 k18 x19 s16 n17 hI20=>?_)) (fun r23=>eExM fun xp24 n26 hp25=>?_)
   ·
    intro e; unfold z87; repeat first | exact ⟨some [], fun _=>rfl⟩ | exact zsq _ | refine zog fun _=>?_ | refine ztc ?_ ?_
   ·
    refine z85<|gSR<|Zq (entM 1101 3 Z Z Z hI20)<|Zq (ext Z Z)<|Zb Z<|z3d<|Zm Z<|Zm Z<|Ef Z (lit (R:=z6a) ([k18]:List (List UInt8)) 1105 (pP Z Z<|pN) Z tu47 ti9 Z Z) fun v27=>z0v fun x28 h29=>Ef Z (apn 1103 Z Z Z (.own 1105 Z) h29 tu47 ti9 Z Z Z) fun v30=>Za Z<|z2c<|z4r<|z4k (fun aa ww h=>⟨nvl [v30],Zu h [1101,3,1103,1001]⟩)
   ·
    refine z0t<|gSR<|Zm Z<|call [1103] [(1,1103)] Z Tryz.func63 Z Z (z36.congr (zwk (hp25).symm) (zuv _ _)) (Y1 Z) (y1 Z) fun r31 n32=>Zn<|gSR<|Zm Z<|Za Z<|Zb Z<|z0w<|Ze [(n26 0)] [1001,1103] Z
def z7i (a0:List (List UInt8)) (a1:List UInt8) (s2:Int):Option (Sum Int Int) :=
 if decide (s2<(a0.length:Int)) then
  idx a0 s2 >>= fun x4 =>
  if z17k x4 a1 then
   some (.inr (w64 (s2+1)))
  else
   some (.inl s2)
 else
  some (.inl s2)
def zei (a0:List (List UInt8)) (a1:List UInt8):Option ((List (List UInt8))) :=
 (iter (z7i a0 a1) 0) >>= fun s1 =>
 z4x (if decide (s1<(a0.length:Int)) then
  idx a0 s1 >>= fun x9 =>
  if x9==a1 then
   some (.inl a0)
  else
   some (.inr ())
 else
  some (.inr ())) fun s7 =>
 cut a0 0 s1 >>= fun x12 =>
 app 16 ([]:List (List UInt8)) x12 >>= fun x14 =>
 app 16 x14 [a1] >>= fun x16 =>
 cut a0 s1 (a0.length:Int) >>= fun x18 =>
 app 16 x16 x18 >>= fun x20 =>
 some x20
def z6u (a0:z00) (s3:(List (List UInt8)) × Int):Option (Sum ((List (List UInt8))) ((List (List UInt8)) × Int)) :=
 if decide (s3.2<(a0.Ops.length:Int)) then
  idx a0.Ops s3.2 >>= fun x5 =>
  if x5.Act.Kind != 1 then
   idx a0.Ops s3.2 >>= fun x8 =>
   zei s3.1 x8.Act.Key >>= fun r10 =>
   some (w64 (s3.2+1)) >>= fun y12 =>
   some (.inr (r10,y12))
  else
   some (w64 (s3.2+1)) >>= fun y13 =>
   some (.inr (s3.1,y13))
 else
  some (.inl s3.1)
def zdf (a0:z00):Option ((List (List UInt8))) :=
 (iter (z6u a0) ([],0)) >>= fun s2 =>
 some s2
def z7k (r16:(List V3) × Int) (s19:(List (V3 × Bool)) × Int):Option (Sum (Sum (Sum (Sum (z0b × Int) ((List (V3 × Bool)))) ((List (V3 × Bool)) × Int)) ((List (V3 × Bool)))) ((List (V3 × Bool)) × Int)) :=
 if decide (s19.2<(r16.1.length:Int)) then
  idx r16.1 s19.2 >>= fun x21 =>
  some (.inr (zau s19.1 x21 true,w64 (s19.2+1)))
 else
  some (.inl (.inr s19.1))
def z7n (a0:z00) (a1:List UInt8) (s6:(List (V3 × Bool)) × Int):Option (Sum (Sum (z0b × Int) ((List (V3 × Bool)))) ((List (V3 × Bool)) × Int)) :=
 if decide (s6.2<(a0.Ops.length:Int)) then
  z4x (idx a0.Ops s6.2 >>= fun x9 =>
  if x9.Act.Key != a1 then
   some (.inr s6.1)
  else
   if x9.Act.Kind != 3 then
    some (.inr s6.1)
   else
    idx a0.IDs s6.2 >>= fun x14 =>
    z8k a0 x14 >>= fun r16 =>
    if r16.2 != 0 then
     some (.inl (.inl (.inl ((⟨false,(⟨0,0,0,[]⟩:z03)⟩:z0b),r16.2))))
    else
     iter (z7k r16) (s6.1,0)) fun s8 =>
  some (.inr (s8,w64 (s6.2+1)))
 else
  some (.inl (.inr s6.1))
def z9g (a0:z00) (a1:List UInt8) (s5:(List (V3 × Bool))) (s25:z0b × Int × Int):Option (Sum z0b (z0b × Int × Int)) :=
 if decide (s25.2.2<(a0.Ops.length:Int)) then
  idx a0.Ops s25.2.2 >>= fun x27 =>
  some (x27.Act.Key != a1) >>= fun y30 =>
  if y30 then
   some (.inr (s25.1,s25.2.1,w64 (s25.2.2+1)))
  else
   (if x27.Act.Kind==2 then
    idx a0.IDs s25.2.2 >>= fun x34 =>
    some (!((z3k s5 x34).getD false)) >>= fun y36 =>
    some y36
   else
    some false) >>= fun s32 =>
   if s32 then
    some (.inr ({ s25.1 with in_:=true },s25.2.1,w64 (s25.2.2+1)))
   else
    (if x27.Act.Kind==4 then
     if decide (s25.2.1<0) then
      some true
     else
      idx a0.Ops s25.2.1 >>= fun x41 =>
      if decide (x41.Stamp<x27.Stamp) then
       some true
      else
       idx a0.Ops s25.2.1 >>= fun x44 =>
       if x27.Stamp==x44.Stamp then
        idx a0.IDs s25.2.2 >>= fun x47 =>
        idx a0.IDs s25.2.1 >>= fun x49 =>
        z8c x47 x49 >>= fun r51 =>
        some (decide (0<r51)) >>= fun y53 =>
        some y53
       else
        some false
    else
     some false) >>= fun s38 =>
    if s38 then
     some (.inr ({ s25.1 with v:=x27.Act.Value },s25.2.2,w64 (s25.2.2+1)))
    else
     some (.inr (s25.1,s25.2.1,w64 (s25.2.2+1)))
 else
  some (.inl s25.1)
def z2h (a0:z00) (a1:List UInt8):Option (z0b × Int) :=
 z4x (iter (z7n a0 a1) (([]:List (V3 × Bool)),0)) fun s5 =>
 (iter (z9g a0 a1 s5) ((⟨false,(⟨0,0,0,[]⟩:z03)⟩:z0b),(-1),0)) >>= fun s24 =>
 some (s24,0)
end
section
open Go Go.RowKit
set_option maxRecDepth 100000
theorem zbl (a0:z00) (a1:List UInt8):z36 Tryz.prog 65 [.rd z01 a0,.rd z6a a1] [zG1] (z2h a0 a1) (fun r nv=>⟨[.rd z0i r.1,.rd z0c r.2],[(1001,some (.bool true,.glob 1 (z4v 64 z0z) z58))]⟩):=by
 refine z4g 143 Tryz.func65 Z Z Z fun H w=>?_
 refine gSR<|Eb Z (bx 1 Z) fun v1=>Eb Z (z4w 2 zkq (.zr (R:=z0i) (x:=(⟨false,(⟨0,0,0,[]⟩:z03)⟩:z0b)) zw8)) fun v2=>Zb Z<|gSR<|Eb Z (z4w 3 zkq (.zr (R:=z0i) (x:=(⟨false,(⟨0,0,0,[]⟩:z03)⟩:z0b)) zw8)) fun v3=>Zn<|gSR<|Ef Z (mkm aZ z0f 4 (Or.inl Z) Tryz.underlying150) fun v4=>Zb Z<|zb3 (fun (s5:(List (V3 × Bool))) aa ww=>Sta (ctx 143 H [zG1] w) [(1,.rd z6a a1),(2,.val (z07 v1 0)),(4,.val (z07 v2 0)),(6,.val (z07 v3 0)),(7,.val v4)] [(1,some (v1,.box 27 [.rd z01 a0])),(2,some (v2,.box 112 [.rd z0i (⟨false,(⟨0,0,0,[]⟩:z03)⟩:z0b)])),(3,some (v3,.box 112 [.rd z0i (⟨false,(⟨0,0,0,[]⟩:z03)⟩:z0b)])),(4,some (v4,.map aZ z0f s5)),zG1] aa ww) ?_ (fun s5=>?_)
 ·
  refine gSR<|Zq (faB 1 Z Z Tryz.underlying27 Z (by exact zf7))<|Zq (ld 1 Z Z (fP (z0n _)) zkh Z)<|Zq (z5r Z .rd Z tu25)<|Zm Z<|Zn<|z3l (fun (s6:(List (V3 × Bool)) × Int) aa ww=>Sta (ctx 143 H [zG1] w) [(1,.rd z6a a1),(2,.val (z07 v1 0)),(4,.val (z07 v2 0)),(6,.val (z07 v3 0)),(7,.val v4),(19,.rd (z02 z04) a0.Ops),(20,.rd z0c (a0.Ops.length:Int)),(21,.rd z0c s6.2)] [(1,some (v1,.box 27 [.rd z01 a0])),(2,some (v2,.box 112 [.rd z0i (⟨false,(⟨0,0,0,[]⟩:z03)⟩:z0b)])),(3,some (v3,.box 112 [.rd z0i (⟨false,(⟨0,0,0,[]⟩:z03)⟩:z0b)])),(4,some (v4,.map aZ z0f s6.1)),zG1] aa ww) (fun aa ww h=>Zu h [1,2,3,4,1001]) (fun s6=>?_)
  refine gSR<|Zq (I.lss Z Z)<|Zn<|z11<|gIf Z Z (fun h7=>?_) (fun h7=>?_)
  ·
   refine Zt<|zb3 (fun (s8:(List (V3 × Bool))) aa ww=>Sta (ctx 143 H [zG1] w) [(1,.rd z6a a1),(2,.val (z07 v1 0)),(4,.val (z07 v2 0)),(6,.val (z07 v3 0)),(7,.val v4),(19,.rd (z02 z04) a0.Ops),(20,.rd z0c (a0.Ops.length:Int)),(21,.rd z0c s6.2)] [(1,some (v1,.box 27 [.rd z01 a0])),(2,some (v2,.box 112 [.rd z0i (⟨false,(⟨0,0,0,[]⟩:z03)⟩:z0b)])),(3,some (v3,.box 112 [.rd z0i (⟨false,(⟨0,0,0,[]⟩:z03)⟩:z0b)])),(4,some (v4,.map aZ z0f s8)),zG1] aa ww) ?_ (fun s8=>?_)
   ·
    refine z85<|gSR<|Zm Z<|z0v fun x9 h10=>Zq (ixR Z Z h10 tu25 zbb Z)<|Zq (ldR Z zgr)<|Eb Z (z4w 1100 zbb (ZrE.rd (R:=z0z) (x:=0) (Zr.num Z) (ZrE.nilS (ZrE.rd (R:=z3u) (x:=0) (Zr.num Z) (ZrE.rd (R:=z0h) (x:=(⟨0,[],(⟨0,0,0,[]⟩:z03)⟩:z06)) zlw (ZrE.rd (R:=z0m) (x:=(⟨0,0⟩:z08)) zpq ZrE.nil Z) Z) Z)) Z)) fun v11=>Za Z<|z89 aZ [.rd z0z 0,.rd (z02 aZ) [],.rd z3u 0,.rd z0h (⟨0,[],(⟨0,0,0,[]⟩:z03)⟩:z06),.rd z0m (⟨0,0⟩:z08)] 1100 [.rd z0z 0] [.rd z3u 0,.rd z0h (⟨0,[],(⟨0,0,0,[]⟩:z03)⟩:z06),.rd z0m (⟨0,0⟩:z08)] Z Z Z<|zb2 (R:=z04) (⟨0,[],0,(⟨0,[],(⟨0,0,0,[]⟩:z03)⟩:z06),(⟨0,0⟩:z08)⟩:z05) 1100 Z (Sp.via (Sp.prod (Sp.prod (Sp.prod (Sp.prod (Sp.prod Sp.unit))))))<|Es (sto 1100 Z Z fH Z zbb)<|Zn<|z11<|gSR<|Zq (faB 1100 Z Z Tryz.underlying72 Z (by exact zjk))<|Zq (faB 1100 Z Z Tryz.underlying64 Z (by exact ti9))<|Zq (ld 1100 Z Z ((fP (z20 _)).part (z3n _)) ty9 Z)<|Zm Z<|Zq (neS Z Z)<|Zm Z<|z2i 31 Z (fun h12=>?_) (fun h12=>?_)
    ·
     refine lKn 30 Z h12<|Zk Z<|Zk Z<|Zk Z<|Zk Z<|Zq (pkT Z Z)<|Zn<|zll Z<|z3f<|z1h<|z13q<|za9 (fun aa ww h=>Zu h [1,2,3,4,1001])
    ·
     refine lKn 30 Z h12<|z2x Zx Z Z (faB 1100 Z Z Tryz.underlying72 Z (by exact zjk))<|z2x Zx Z Z (faB 1100 Z Z Tryz.underlying64 Z (by exact ti5))<|z2x Zx Z Z (ld 1100 Z Z ((fP (z20 _)).part (z1p _)) ty5 Z)<|z2x Zx Z Z (B.neq Z Z)<|Zq (pkF Z Z)<|Zj Z (fun h13=>?_) (fun h13=>?_)
     ·
      refine gKn 35 Z h13<|z3f<|z1h<|z13q<|za9 (fun aa ww h=>Zu h [1,2,3,4,1001])
     ·
      refine gKn 35 Z h13<|Zt<|z11<|zb6 [1001,1119] mixed Z Z<|hTk 0 Z Z (ld 1 Z Z fH z7q Z)<|hTk 1 Z Z (faB 1 Z Z Tryz.underlying27 Z (by exact zae))<|hTk 2 Z Z (ld 1 Z Z (fP (z0o _)) ze3 Z)<|hTk 3 Z Z (mv Z)<|zd3 fun x14 h15=>hTk 4 Z Z (ixR Z Z h15 tu24 z3h Z)<|hTk 5 Z Z (ldR Z z6s)<|z7s 6 [1001] [(100,1119)] Z (by kernel_rfl) Z (gd0 Z) Z Tryz.func97 Z Z (zgk _ _) (Y2 Z Z) (y1 Z) Z (fun _ _=>(z130 (flC z80 (flC z4j fl0)))) fun r16 n17=>hTk 7 Z Z (mv Z)<|hTk 8 Z Z (ext Z Z)<|hTk 9 Z Z (ext Z Z)<|Zf 10 Z Z z80 (asg Z)<|hTk 11 Z Z (asg Z)<|z4h (by kernel_rfl)<|z0t<|z11<|gSR<|Zm Z<|Zq (I.neq Z Z)<|Zj Z (fun h18=>?_) (fun h18=>?_)
      ·
       refine gSR<|Zq (bld (x':=(⟨false,(⟨0,0,0,[]⟩:z03)⟩:z0b)) [(0,1),(1,4)] Tryz.underlying112 zkq Z zw8 Z (Bld.done Z))<|Zm Z<|Es (sto 2 Z Z fH Z zkq)<|Zb Z<|z0w<|z1e<|z88<|zag<|zb5<|zag<|zdc [] [1001] Z (eC 2 Z Z zzi<|eE Z<|eN) (y1 Z)
      ·
       refine Zt<|gSR<|Zm Z<|Zq (z5r Z (.own 1119 Z) Z tu24)<|Zm Z<|Zn<|z3l (fun (s19:(List (V3 × Bool)) × Int) aa ww=>Sta (ctx 143 H [zG1] w) [(1,.rd z6a a1),(2,.val (z07 v1 0)),(4,.val (z07 v2 0)),(6,.val (z07 v3 0)),(7,.val v4),(19,.rd (z02 z04) a0.Ops),(20,.rd z0c (a0.Ops.length:Int)),(21,.rd z0c s6.2),(51,.val (n17 0)),(52,.rd z0c (r16.1.length:Int)),(53,.rd z0c s19.2)] [(1,some (v1,.box 27 [.rd z01 a0])),(2,some (v2,.box 112 [.rd z0i (⟨false,(⟨0,0,0,[]⟩:z03)⟩:z0b)])),(3,some (v3,.box 112 [.rd z0i (⟨false,(⟨0,0,0,[]⟩:z03)⟩:z0b)])),(4,some (v4,.map aZ z0f s19.1)),(1119,some ((n17 0),.list aZ 78 r16.1)),zG1] aa ww) (fun aa ww h=>Zu h [1,2,3,4,1119,1001]) (fun s19=>?_)
       refine gSR<|Zq (I.lss Z Z)<|Zn<|z11<|gIf Z Z (fun h20=>?_) (fun h20=>?_)
       ·
        refine Zt<|z11<|z85<|gSR<|z0v fun x21 h22=>Zq (ixO 1119 Z Z Z h22 tu24 z3h)<|Zq (ld 1119 Z Z (Foc.el h22) z6s Z)<|Eb Z (z4w 1140 z3h (.zr (R:=aZ) (x:=(Vector.replicate 32 0)) zf6)) fun v23=>Es (sto 1140 Z Z fH Z z3h)<|Zn<|z3d<|Zm Z<|Zq (ld 1140 Z Z fH z6s Z)<|Es (mup 4 Z Z Z Z zpr Tryz.underlying150)<|z2c<|z4r<|z0t<|z3d<|Zq (I.add Z Z)<|Zm Z<|z2c<|z2k (fun aa ww h=>Zu h [1,2,3,4,1119,1001])
       ·
        refine z3f<|z1h<|z1k<|z4r<|za9 (fun aa ww h=>Zu h [1,2,3,4,1001])
   ·
    refine z3d<|Zq (I.add Z Z)<|Zm Z<|z2c<|z2k (fun aa ww h=>Zu h [1,2,3,4,1001])
  ·
   refine z3f<|z1h<|z1k<|za9 (fun aa ww h=>Zu h [1,2,3,4,1001])
 ·
  refine gSR<|Zb Z<|zb9 (fun (s24:z0b) aa ww=>Sta (ctx 143 H [zG1] w) [(4,.val (z07 v2 0)),(6,.val (z07 v3 0))] [(2,some (v2,.box 112 [.rd z0i (⟨false,(⟨0,0,0,[]⟩:z03)⟩:z0b)])),(3,some (v3,.box 112 [.rd z0i s24])),zG1] aa ww) ?_ (fun s24=>?_)
  ·
   refine gSR<|Zq (faB 1 Z Z Tryz.underlying27 Z (by exact zf7))<|Zq (ld 1 Z Z (fP (z0n _)) zkh Z)<|Zq (z5r Z .rd Z tu25)<|Zm Z<|Zn<|z3l (fun (s25:z0b × Int × Int) aa ww=>Sta (ctx 143 H [zG1] w) [(1,.rd z6a a1),(2,.val (z07 v1 0)),(4,.val (z07 v2 0)),(6,.val (z07 v3 0)),(7,.val v4),(14,.rd z0c s25.2.1),(62,.rd (z02 z04) a0.Ops),(63,.rd z0c (a0.Ops.length:Int)),(64,.rd z0c s25.2.2)] [(1,some (v1,.box 27 [.rd z01 a0])),(2,some (v2,.box 112 [.rd z0i (⟨false,(⟨0,0,0,[]⟩:z03)⟩:z0b)])),(3,some (v3,.box 112 [.rd z0i s25.1])),(4,some (v4,.map aZ z0f s5)),zG1] aa ww) (fun aa ww h=>Zu h [1,2,3,4,1001]) (fun s25=>?_)
   refine gSR<|Zq (I.lss Z Z)<|Zn<|z11<|gIf Z Z (fun h26=>?_) (fun h26=>?_)
   ·
    refine Zt<|z11<|z85<|gSR<|Zm Z<|z0v fun x27 h28=>Zq (ixR Z Z h28 tu25 zbb Z)<|Zq (ldR Z zgr)<|Eb Z (z4w 1141 zbb (ZrE.rd (R:=z0z) (x:=0) (Zr.num Z) (ZrE.nilS (ZrE.rd (R:=z3u) (x:=0) (Zr.num Z) (ZrE.rd (R:=z0h) (x:=(⟨0,[],(⟨0,0,0,[]⟩:z03)⟩:z06)) zlw (ZrE.rd (R:=z0m) (x:=(⟨0,0⟩:z08)) zpq ZrE.nil Z) Z) Z)) Z)) fun v29=>Za Z<|z89 aZ [.rd z0z 0,.rd (z02 aZ) [],.rd z3u 0,.rd z0h (⟨0,[],(⟨0,0,0,[]⟩:z03)⟩:z06),.rd z0m (⟨0,0⟩:z08)] 1141 [.rd z0z 0] [.rd z3u 0,.rd z0h (⟨0,[],(⟨0,0,0,[]⟩:z03)⟩:z06),.rd z0m (⟨0,0⟩:z08)] Z Z Z<|zb2 (R:=z04) (⟨0,[],0,(⟨0,[],(⟨0,0,0,[]⟩:z03)⟩:z06),(⟨0,0⟩:z08)⟩:z05) 1141 Z (Sp.via (Sp.prod (Sp.prod (Sp.prod (Sp.prod (Sp.prod Sp.unit))))))<|Es (sto 1141 Z Z fH Z zbb)<|Zn<|z85<|gSR<|Zq (faB 1141 Z Z Tryz.underlying72 Z (by exact zjk))<|Zq (faB 1141 Z Z Tryz.underlying64 Z (by exact ti9))<|Zq (ld 1141 Z Z ((fP (z20 _)).part (z3n _)) ty9 Z)<|Zm Z<|Zq (neS Z Z)<|Za Z<|z3j 69 Z fun y30=>Zj Z (fun h31=>?_) (fun h31=>?_)
    ·
     refine z5o<|z4r<|z4r<|z0t<|z3d<|Zq (I.add Z Z)<|Zm Z<|z2c<|z2k (fun aa ww h=>Zu h [1,2,3,4,1001])
    ·
     refine zb9 (fun (s32:Bool) aa ww=>Sta (ctx 143 H [zG1] w) [(1,.rd z6a a1),(2,.val (z07 v1 0)),(4,.val (z07 v2 0)),(6,.val (z07 v3 0)),(7,.val v4),(14,.rd z0c s25.2.1),(15,.rd z0c s25.2.2),(16,.val (z07 v29 0)),(62,.rd (z02 z04) a0.Ops),(63,.rd z0c (a0.Ops.length:Int)),(64,.rd z0c s25.2.2),(75,.rd z0f s32)] [(1,some (v1,.box 27 [.rd z01 a0])),(2,some (v2,.box 112 [.rd z0i (⟨false,(⟨0,0,0,[]⟩:z03)⟩:z0b)])),(3,some (v3,.box 112 [.rd z0i s25.1])),(4,some (v4,.map aZ z0f s5)),(1141,some (v29,.box 72 [.rd z04 x27])),zG1] aa ww) ?_ (fun s32=>?_)
     ·
      refine z3d<|Zq (faB 1141 Z Z Tryz.underlying72 Z (by exact zjk))<|Zq (faB 1141 Z Z Tryz.underlying64 Z (by exact ti5))<|Zq (ld 1141 Z Z ((fP (z20 _)).part (z1p _)) ty5 Z)<|Zq (B.eql Z Z)<|Zm Z<|z2i 80 Z (fun h33=>?_) (fun h33=>?_)
      ·
       refine lKn 79 Z h33<|z2x Zx Z Z (mv Z)<|z2x Zx Z Z (faB 1 Z Z Tryz.underlying27 Z (by exact zae))<|z2x Zx Z Z (ld 1 Z Z (fP (z0o _)) ze3 Z)<|z2x Zx Z Z (mv Z)<|z0v fun x34 h35=>z2x Zx Z Z (ixR Z Z h35 tu24 z3h Z)<|z2x Zx Z Z (ldR Z z6s)<|z2x Zx Z Z (mlk Z (.own 4 Z Z) Z zpr Tryz.underlying150 ti4 Zr.bool Z)<|z2x Zx Z Z (zlr Z)<|Zq (pkT Z Z)<|Za Z<|z3j 75 Z fun y36=>z2c<|z4k (fun aa ww h=>Zu h [1,2,3,4,1141,1001])
      ·
       refine lKn 79 Z h33<|Zk Z<|Zk Z<|Zk Z<|Zk Z<|Zk Z<|Zk Z<|Zk Z<|Zk Z<|Zq (pkF Z Z)<|Za Z<|z2c<|z4k (fun aa ww h=>Zu h [1,2,3,4,1141,1001])
     ·
      refine gIf Z Z (fun h37=>?_) (fun h37=>?_)
      ·
       refine z3d<|Zq (faB 3 Z Z Tryz.underlying112 Z (by exact ti4))<|Es (sto 3 Z Z (fP (zba _)) Z ti4)<|z2c<|z4r<|z4r<|z0t<|z3d<|Zq (I.add Z Z)<|Zm Z<|z2c<|z2k (fun aa ww h=>Zu h [1,2,3,4,1001])
      ·
       refine zb9 (fun (s38:Bool) aa ww=>Sta (ctx 143 H [zG1] w) [(1,.rd z6a a1),(2,.val (z07 v1 0)),(4,.val (z07 v2 0)),(6,.val (z07 v3 0)),(7,.val v4),(14,.rd z0c s25.2.1),(15,.rd z0c s25.2.2),(16,.val (z07 v29 0)),(62,.rd (z02 z04) a0.Ops),(63,.rd z0c (a0.Ops.length:Int)),(64,.rd z0c s25.2.2),(91,.rd z0f s38)] [(1,some (v1,.box 27 [.rd z01 a0])),(2,some (v2,.box 112 [.rd z0i (⟨false,(⟨0,0,0,[]⟩:z03)⟩:z0b)])),(3,some (v3,.box 112 [.rd z0i s25.1])),(4,some (v4,.map aZ z0f s5)),(1141,some (v29,.box 72 [.rd z04 x27])),zG1] aa ww) ?_ (fun s38=>?_)
       ·
        refine zb6 [] mixed Z Z<|hTk 0 Z Z (faB 1141 Z Z Tryz.underlying72 Z (by exact zjk))<|hTk 1 Z Z (faB 1141 Z Z Tryz.underlying64 Z (by exact ti5))<|hTk 2 Z Z (ld 1141 Z Z ((fP (z20 _)).part (z1p _)) ty5 Z)<|hTk 3 Z Z (B.eql Z Z)<|hTk 4 Z Z (mv Z)<|hIf 96 Z Z (fun h39=>?_) (fun h39=>?_)
        ·
         refine hKn 95 Z Z h39<|Zg 5 Z Z (mv Z)<|Zg 6 Z Z (I.lss Z Z)<|Zg 7 Z Z (mv Z)<|hIf 99 Z Z (fun h40=>?_) (fun h40=>?_)
         ·
          refine hKn 98 Z Z h40<|hSk 8 Z Z<|hSk 9 Z Z<|hSk 10 Z Z<|hSk 11 Z Z<|hSk 12 Z Z<|hSk 13 Z Z<|hSk 14 Z Z<|hSk 15 Z Z<|hSk 16 Z Z<|Zg 17 Z Z (pkT Z Z)<|Zg 18 Z Z (mv Z)<|hSk 19 Z Z<|hSk 20 Z Z<|hSk 21 Z Z<|hSk 22 Z Z<|hSk 23 Z Z<|hSk 24 Z Z<|hSk 25 Z Z<|hSk 26 Z Z<|hSk 27 Z Z<|hSk 28 Z Z<|z4i 29 Z (by kernel_rfl) (by kernel_rfl) (by kernel_rfl) (gdU Z Z Z) Z Z<|z4i 30 Z (by kernel_rfl) (by kernel_rfl) (by kernel_rfl) (gdU Z Z Z) Z Z<|z4i 31 Z (by kernel_rfl) (by kernel_rfl) (by kernel_rfl) (gdU Z Z Z) Z Z<|z4i 32 Z (by kernel_rfl) (by kernel_rfl) (by kernel_rfl) (gdU Z Z Z) Z Z<|z4i 33 Z (by kernel_rfl) (by kernel_rfl) (by kernel_rfl) (gdU Z Z Z) Z Z<|z4i 34 Z (by kernel_rfl) (by kernel_rfl) (by kernel_rfl) (gdU Z Z Z) Z Z<|z4i 35 Z (by kernel_rfl) (by kernel_rfl) (by kernel_rfl) (gdU Z Z Z) Z Z<|z4i 36 Z (by kernel_rfl) (by kernel_rfl) (by kernel_rfl) (gdU Z Z Z) Z Z<|z4i 37 Z (by kernel_rfl) (by kernel_rfl) (by kernel_rfl) (gdU Z Z Z) Z Z<|z4i 38 Z (by kernel_rfl) (by kernel_rfl) (by kernel_rfl) (gdU Z Z Z) Z Z<|z4i 39 Z (by kernel_rfl) (by kernel_rfl) (by kernel_rfl) (gdU Z Z Z) Z Z<|z4i 40 Z (by kernel_rfl) (by kernel_rfl) (by kernel_rfl) (gdU Z Z Z) Z Z<|hSk 41 Z Z<|Zg 42 Z Z (pkT Z Z)<|hTk 43 Z Z (pkT Z Z)<|hTk 44 Z Z (asg Z)<|z4h (by kernel_rfl)<|z4k (fun aa ww h=>Zu h [1,2,3,4,1141,1001])
         ·
          refine hKn 98 Z Z h40<|Zg 8 Z Z (faB 1141 Z Z Tryz.underlying72 Z (by exact ti52))<|Zg 9 Z Z (ld 1141 Z Z (fP (z44 _)) zyj Z)<|Zg 10 Z Z (faB 1 Z Z Tryz.underlying27 Z (by exact zf7))<|Zg 11 Z Z (ld 1 Z Z (fP (z0n _)) zkh Z)<|Zg 12 Z Z (mv Z)<|zd3 fun x41 h42=>Zg 13 Z Z (ixR Z Z h42 tu25 zbb Z)<|Zg 14 Z Z (faR Z (z44 _) Tryz.underlying72 Z Z (by exact ti52))<|Zg 15 Z Z (ldR Z zyj)<|Zg 16 Z Z (U.gtr Z Z)<|Zg 17 Z Z (pkF Z Z)<|Zg 18 Z Z (mv Z)<|hIf 110 Z Z (fun h43=>?_) (fun h43=>?_)
          ·
           refine hKn 108 Z Z h43<|hKn 109 Z Z h43<|hSk 19 Z Z<|hSk 20 Z Z<|hSk 21 Z Z<|hSk 22 Z Z<|hSk 23 Z Z<|hSk 24 Z Z<|hSk 25 Z Z<|hSk 26 Z Z<|hSk 27 Z Z<|hSk 28 Z Z<|z4i 29 Z (by kernel_rfl) (by kernel_rfl) (by kernel_rfl) (gdU Z Z Z) Z Z<|z4i 30 Z (by kernel_rfl) (by kernel_rfl) (by kernel_rfl) (gdU Z Z Z) Z Z<|z4i 31 Z (by kernel_rfl) (by kernel_rfl) (by kernel_rfl) (gdU Z Z Z) Z Z<|z4i 32 Z (by kernel_rfl) (by kernel_rfl) (by kernel_rfl) (gdU Z Z Z) Z Z<|z4i 33 Z (by kernel_rfl) (by kernel_rfl) (by kernel_rfl) (gdU Z Z Z) Z Z<|z4i 34 Z (by kernel_rfl) (by kernel_rfl) (by kernel_rfl) (gdU Z Z Z) Z Z<|z4i 35 Z (by kernel_rfl) (by kernel_rfl) (by kernel_rfl) (gdU Z Z Z) Z Z<|z4i 36 Z (by kernel_rfl) (by kernel_rfl) (by kernel_rfl) (gdU Z Z Z) Z Z<|z4i 37 Z (by kernel_rfl) (by kernel_rfl) (by kernel_rfl) (gdU Z Z Z) Z Z<|z4i 38 Z (by kernel_rfl) (by kernel_rfl) (by kernel_rfl) (gdU Z Z Z) Z Z<|z4i 39 Z (by kernel_rfl) (by kernel_rfl) (by kernel_rfl) (gdU Z Z Z) Z Z<|z4i 40 Z (by kernel_rfl) (by kernel_rfl) (by kernel_rfl) (gdU Z Z Z) Z Z<|hSk 41 Z Z<|Zg 42 Z Z (pkT Z Z)<|hTk 43 Z Z (pkT Z Z)<|hTk 44 Z Z (asg Z)<|z4h (by kernel_rfl)<|z4k (fun aa ww h=>Zu h [1,2,3,4,1141,1001])
          ·
           refine hKn 108 Z Z h43<|hKn 109 Z Z h43<|Zg 19 Z Z (faB 1141 Z Z Tryz.underlying72 Z (by exact ti52))<|Zg 20 Z Z (ld 1141 Z Z (fP (z44 _)) zyj Z)<|Zg 21 Z Z (faB 1 Z Z Tryz.underlying27 Z (by exact zf7))<|Zg 22 Z Z (ld 1 Z Z (fP (z0n _)) zkh Z)<|Zg 23 Z Z (mv Z)<|zd3 fun x44 h45=>Zg 24 Z Z (ixR Z Z h45 tu25 zbb Z)<|Zg 25 Z Z (faR Z (z44 _) Tryz.underlying72 Z Z (by exact ti52))<|Zg 26 Z Z (ldR Z zyj)<|Zg 27 Z Z (U.eql Z Z)<|Zg 28 Z Z (mv Z)<|hIf 120 Z Z (fun h46=>?_) (fun h46=>?_)
           ·
            refine hKn 119 Z Z h46<|Zg 29 Z Z (faB 1 Z Z Tryz.underlying27 Z (by exact zae))<|Zg 30 Z Z (ld 1 Z Z (fP (z0o _)) ze3 Z)<|Zg 31 Z Z (mv Z)<|zd3 fun x47 h48=>Zg 32 Z Z (ixR Z Z h48 tu24 z3h Z)<|Zg 33 Z Z (ldR Z z6s)<|Zg 34 Z Z (faB 1 Z Z Tryz.underlying27 Z (by exact zae))<|Zg 35 Z Z (ld 1 Z Z (fP (z0o _)) ze3 Z)<|Zg 36 Z Z (mv Z)<|zd3 fun x49 h50=>Zg 37 Z Z (ixR Z Z h50 tu24 z3h Z)<|Zg 38 Z Z (ldR Z z6s)<|z7s 39 [] [] Z (by kernel_rfl) Z Zx Z Tryz.func89 Z Z (z9b _ _) (Y2 Z Z) rN Z (fun _ _=>z4j) fun r51 n52=>Zg 40 Z Z (I.gtr Z Z)<|Zg 41 Z Z (pkT Z Z)<|Zg 42 Z Z (pkF Z Z)<|hTk 43 Z Z (pkT Z Z)<|hTk 44 Z Z (asg Z)<|z12r 91 Z Z fun y53=>z4h (by kernel_rfl)<|z4k (fun aa ww h=>Zu h [1,2,3,4,1141,1001])
           ·
            refine hKn 119 Z Z h46<|hSk 29 Z Z<|hSk 30 Z Z<|hSk 31 Z Z<|hSk 32 Z Z<|hSk 33 Z Z<|hSk 34 Z Z<|hSk 35 Z Z<|hSk 36 Z Z<|hSk 37 Z Z<|hSk 38 Z Z<|hSk 39 Z Z<|hSk 40 Z Z<|Zg 41 Z Z (pkF Z Z)<|Zg 42 Z Z (pkF Z Z)<|hTk 43 Z Z (pkT Z Z)<|hTk 44 Z Z (asg Z)<|z4h (by kernel_rfl)<|z4k (fun aa ww h=>Zu h [1,2,3,4,1141,1001])
        ·
         refine hKn 95 Z Z h39<|hSk 5 Z Z<|hSk 6 Z Z<|hSk 7 Z Z<|z4i 8 Z (by kernel_rfl) (by kernel_rfl) (by kernel_rfl) (gdU Z Z Z) Z Z<|z4i 9 Z (by kernel_rfl) (by kernel_rfl) (by kernel_rfl) (gdU Z Z Z) Z Z<|z4i 10 Z (by kernel_rfl) (by kernel_rfl) (by kernel_rfl) (gdU Z Z Z) Z Z<|z4i 11 Z (by kernel_rfl) (by kernel_rfl) (by kernel_rfl) (gdU Z Z Z) Z Z<|z4i 12 Z (by kernel_rfl) (by kernel_rfl) (by kernel_rfl) (gdU Z Z Z) Z Z<|z4i 13 Z (by kernel_rfl) (by kernel_rfl) (by kernel_rfl) (gdU Z Z Z) Z Z<|z4i 14 Z (by kernel_rfl) (by kernel_rfl) (by kernel_rfl) (gdU Z Z Z) Z Z<|z4i 15 Z (by kernel_rfl) (by kernel_rfl) (by kernel_rfl) (gdU Z Z Z) Z Z<|z4i 16 Z (by kernel_rfl) (by kernel_rfl) (by kernel_rfl) (gdU Z Z Z) Z Z<|hSk 17 Z Z<|hSk 18 Z Z<|z4i 19 Z (by kernel_rfl) (by kernel_rfl) (by kernel_rfl) (gdU Z Z Z) Z Z<|z4i 20 Z (by kernel_rfl) (by kernel_rfl) (by kernel_rfl) (gdU Z Z Z) Z Z<|z4i 21 Z (by kernel_rfl) (by kernel_rfl) (by kernel_rfl) (gdU Z Z Z) Z Z<|z4i 22 Z (by kernel_rfl) (by kernel_rfl) (by kernel_rfl) (gdU Z Z Z) Z Z<|z4i 23 Z (by kernel_rfl) (by kernel_rfl) (by kernel_rfl) (gdU Z Z Z) Z Z<|z4i 24 Z (by kernel_rfl) (by kernel_rfl) (by kernel_rfl) (gdU Z Z Z) Z Z<|z4i 25 Z (by kernel_rfl) (by kernel_rfl) (by kernel_rfl) (gdU Z Z Z) Z Z<|z4i 26 Z (by kernel_rfl) (by kernel_rfl) (by kernel_rfl) (gdU Z Z Z) Z Z<|z4i 27 Z (by kernel_rfl) (by kernel_rfl) (by kernel_rfl) (gdU Z Z Z) Z Z<|z4i 28 Z (by kernel_rfl) (by kernel_rfl) (by kernel_rfl) (gdU Z Z Z) Z Z<|z4i 29 Z (by kernel_rfl) (by kernel_rfl) (by kernel_rfl) (gdU Z Z Z) Z Z<|z4i 30 Z (by kernel_rfl) (by kernel_rfl) (by kernel_rfl) (gdU Z Z Z) Z Z<|z4i 31 Z (by kernel_rfl) (by kernel_rfl) (by kernel_rfl) (gdU Z Z Z) Z Z<|z4i 32 Z (by kernel_rfl) (by kernel_rfl) (by kernel_rfl) (gdU Z Z Z) Z Z<|z4i 33 Z (by kernel_rfl) (by kernel_rfl) (by kernel_rfl) (gdU Z Z Z) Z Z<|z4i 34 Z (by kernel_rfl) (by kernel_rfl) (by kernel_rfl) (gdU Z Z Z) Z Z<|z4i 35 Z (by kernel_rfl) (by kernel_rfl) (by kernel_rfl) (gdU Z Z Z) Z Z<|z4i 36 Z (by kernel_rfl) (by kernel_rfl) (by kernel_rfl) (gdU Z Z Z) Z Z<|z4i 37 Z (by kernel_rfl) (by kernel_rfl) (by kernel_rfl) (gdU Z Z Z) Z Z<|z4i 38 Z (by kernel_rfl) (by kernel_rfl) (by kernel_rfl) (gdU Z Z Z) Z Z<|z4i 39 Z (by kernel_rfl) (by kernel_rfl) (by kernel_rfl) (gdU Z Z Z) Z Z<|z4i 40 Z (by kernel_rfl) (by kernel_rfl) (by kernel_rfl) (gdU Z Z Z) Z Z<|z4i 41 Z (by kernel_rfl) (by kernel_rfl) (by kernel_rfl) (gdU Z Z Z) Z Z<|hSk 42 Z Z<|hTk 43 Z Z (pkF Z Z)<|hTk 44 Z Z (asg Z)<|z4h (by kernel_rfl)<|z4k (fun aa ww h=>Zu h [1,2,3,4,1141,1001])
       ·
        refine gIf Z Z (fun h54=>?_) (fun h54=>?_)
        ·
         refine zb6 [3] mixed Z Z<|hTk 0 Z Z (mv Z)<|hTk 1 Z Z (faB 1141 Z Z Tryz.underlying72 Z (by exact zjk))<|hTk 2 Z Z (faB 1141 Z Z Tryz.underlying64 Z (by exact zel))<|hTk 3 Z Z (ld 1141 Z Z ((fP (z20 _)).part (z5a _)) zo7 Z)<|hTk 4 Z Z (asg Z)<|hTk 5 Z Z (faB 3 Z Z Tryz.underlying112 Z (by exact zel))<|Zp 6 Z Z Z Z Z (sto 3 Z Z (fP (zcx _)) Z zel)<|z4h (by kernel_rfl)<|z4r<|z4r<|z0t<|z3d<|Zq (I.add Z Z)<|Zm Z<|z2c<|z2k (fun aa ww h=>Zu h [1,2,3,4,1001])
        ·
         refine z5o<|z4r<|z4r<|z0t<|z3d<|Zq (I.add Z Z)<|Zm Z<|z2c<|z2k (fun aa ww h=>Zu h [1,2,3,4,1001])
   ·
    refine z3f<|z1h<|z1k<|z4k (fun aa ww h=>Zu h [2,3,1001])
  ·
   refine gSR<|Zq (ld 3 Z Z fH zzi Z)<|Es (sto 2 Z Z fH Z zkq)<|Zb Z<|z0w<|zdc [] [1001] Z (eC 2 Z Z zzi<|eE Z<|eN) (y1 Z)
def z2n (a0:z00) (a1:List UInt8):Option (Bool × z03 × Int) :=
 z4a a0 >>= fun r3 =>
 if r3 != 0 then
  some (false,(⟨0,0,0,[]⟩:z03),r3)
 else
  z2h a0 a1 >>= fun r6 =>
  some (r6.1.in_,r6.1.v,r6.2)
theorem zgm (a0:z00) (a1:List UInt8):z36 Tryz.prog 25 [.rd z01 a0,.rd z6a a1] [zG1] (z2n a0 a1) (fun r nv=>⟨[.rd z0f r.1,.rd z0u r.2.1,.rd z0c r.2.2],[(1001,some (.bool true,.glob 1 (z4v 64 z0z) z58))]⟩):=by
 refine z4g 27 Tryz.func25 Z Z Z fun H w=>?_
 refine gSR<|Eb Z (bx 1 Z) fun v1=>Za Z<|Eb Z (z4w 2 zel (.zr (R:=z0u) (x:=(⟨0,0,0,[]⟩:z03)) zmp)) fun v2=>Zb Z<|z11<|gSR<|Zq (ld 1 Z Z fH z7q Z)<|Zc [1001] [] Tryz.func60 Z (zc7 _) fun r3 n4=>Zb Z<|gSR<|Zm Z<|Zq (I.neq Z Z)<|Zj Z (fun h5=>?_) (fun h5=>?_)
 ·
  refine gSR<|Zq (bld (x':=(⟨0,0,0,[]⟩:z03)) [(0,1),(1,1),(2,1),(3,1)] Tryz.underlying54 zel Z zmp Z (Bld.done Z))<|Zm Z<|Za Z<|Es (sto 2 Z Z fH Z zel)<|Zb Z<|z0w<|z1e<|zdc [] [1001] Z (eE Z<|eC 2 Z Z zo7<|eE Z<|eN) (y1 Z)
 ·
  refine Zt<|gSR<|Zq (ld 1 Z Z fH z7q Z)<|Zm Z<|Zc [1001] [] Tryz.func65 Z (zbl _ _) fun r6 n7=>Zm Z<|Zq (ext Z Z)<|Zq (ext Z Z)<|Eb Z (z4w 3 zkq (.zr (R:=z0i) (x:=(⟨false,(⟨0,0,0,[]⟩:z03)⟩:z0b)) zw8)) fun v8=>Es (sto 3 Z Z fH Z zkq)<|Zb Z<|z11<|zb6 [2] mixed Z Z<|hTk 0 Z Z (faB 3 Z Z Tryz.underlying112 Z (by exact ti4))<|hTk 1 Z Z (ld 3 Z Z (fP (zba _)) ty4 Z)<|hTk 2 Z Z (faB 3 Z Z Tryz.underlying112 Z (by exact zel))<|hTk 3 Z Z (ld 3 Z Z (fP (zcx _)) zo7 Z)<|hTk 4 Z Z (mv Z)<|hTk 5 Z Z (asg Z)<|Zp 6 Z Z Z Z Z (sto 2 Z Z fH Z zel)<|hTk 7 Z Z (asg Z)<|z4h (by kernel_rfl)<|z0t<|z0w<|zdc [] [1001] Z (eE Z<|eC 2 Z Z zo7<|eE Z<|eN) (y1 Z)
def z4u (a1:Int):Option ((List (List UInt8))) :=
 if decide (a1<0) then
  none
 else
  some (w64 (a1 - (w64 (0 - (([]:List (List UInt8)).length:Int))))) >>= fun y2 =>
  if decide (0<y2) then
   mkn 32 [] y2 >>= fun x4 =>
   cut x4 0 (([]:List (List UInt8)).length:Int) >>= fun x7 =>
   some x7
  else
   some []
theorem zd5 (a1:Int):z36 Tryz.prog 99 [.val (.slice none 0 0),.rd z0c a1] [] (z4u a1) (fun r nv=>⟨[.val (nv 0)],[(100,some (nv 0,.list z6a 9 r))]⟩):=by
 refine z4g 27 Tryz.func99 Z Z Z fun H w=>?_
 refine gSR<|Zb Z<|z11<|gSR<|Zm Z<|Zq (I.lss Z Z)<|Zj Z (fun h1=>?_) (fun h1=>?_)
 ·
  refine z113
 ·
  refine Zt<|z11<|gSR<|Zm Z<|Zm Z<|Zq (capN Z Z tu47)<|Zm Z<|ztr z6a 11 Z<|Zq (z5r Z .rd Z tu47)<|Zq (I.sub Z Z)<|Zq (I.sub Z Z)<|Za Z<|z3j 1 Z fun y2=>Zn<|gSR<|Zm Z<|Zq (I.gtr Z Z)<|Zj Z (fun h3=>?_) (fun h3=>?_)
  ·
   refine z3d<|Zm Z<|Zm Z<|Zq (capN Z Z tu47)<|Zq (cutN Z Z tu47 ti9)<|Zm Z<|z0v fun x4 h5=>Ef Z (apZ 1 Z Z h5 tu47 tu3 ti9 Zr.str Z) fun v6=>Zm Z<|ztr z6a 23 Z<|Zq (z5r Z .rd Z tu47)<|z0v fun x7 h8=>Ef Z (cutO 1 Z Z Z h8 tu47 ti9) fun v9=>Zb Z<|gSR<|Zm Z<|Zb Z<|z0w<|Ze [v9] [1] Z
  ·
   refine Zt<|gSR<|Zm Z<|Zb Z<|z0w<|zra z6a 9 2<|Ze [(.slice none 0 0)] [2] Z
def z2o (a0:List (List (List UInt8))) (s2:Int × Int):Option (Sum Int (Int × Int)) :=
 if decide (s2.2<(a0.length:Int)) then
  idx a0 s2.2 >>= fun x4 =>
  some (w64 (s2.1+(x4.length:Int))) >>= fun y6 =>
  if decide (y6<0) then
   none
  else
   some (.inr (y6,w64 (s2.2+1)))
 else
  some (.inl s2.1)
def z2m (a0:List (List (List UInt8))) (s11:(List (List UInt8)) × Int):Option (Sum ((List (List UInt8))) ((List (List UInt8)) × Int)) :=
 if decide (s11.2<(a0.length:Int)) then
  idx a0 s11.2 >>= fun x14 =>
  app 16 s11.1 x14 >>= fun x16 =>
  some (.inr (x16,w64 (s11.2+1)))
 else
  some (.inl s11.1)
def z47 (a0:List (List (List UInt8))):Option ((List (List UInt8))) :=
 (iter (z2o a0) (0,0)) >>= fun s1 =>
 z4u s1 >>= fun r8 =>
 (iter (z2m a0) (r8,0)) >>= fun s10 =>
 some s10
theorem zc4 (a0:List (List (List UInt8))):z36 Tryz.prog 67 [.rd (z02 (z02 z6a)) a0] [] (z47 a0) (fun r nv=>⟨[.val (nv 0)],[(100,some (nv 0,.list z6a 9 r))]⟩):=by
 refine z4g 36 Tryz.func67 Z Z Z fun H w=>?_
 refine gSR<|Zb Z<|gSR<|Zb Z<|zb9 (fun (s1:Int) aa ww=>Sta (ctx 36 H [] w) [(0,.rd (z02 (z02 z6a)) a0),(3,.rd z0c s1)] [] aa ww) ?_ (fun s1=>?_)
 ·
  refine gSR<|Zm Z<|Zq (z5r Z .rd Z Tryz.underlying153)<|Zm Z<|Zn<|z3l (fun (s2:Int × Int) aa ww=>Sta (ctx 36 H [] w) [(0,.rd (z02 (z02 z6a)) a0),(3,.rd z0c s2.1),(9,.rd (z02 (z02 z6a)) a0),(10,.rd z0c (a0.length:Int)),(11,.rd z0c s2.2)] [] aa ww) (fun aa ww h=>Zu h []) (fun s2=>?_)
  refine gSR<|Zq (I.lss Z Z)<|Zn<|z11<|gIf Z Z (fun h3=>?_) (fun h3=>?_)
  ·
   refine Zt<|z11<|z85<|gSR<|z0v fun x4 h5=>Zq (ixR Z Z h5 Tryz.underlying153 ti47 Z)<|Zq (ldR Z ty47)<|Zb Z<|gSR<|Zm Z<|Zm Z<|Zq (z5r Z .rd Z tu47)<|Zq (I.add Z Z)<|Za Z<|z3j 3 Z fun y6=>Zn<|gSR<|Zm Z<|Zq (I.lss Z Z)<|Zj Z (fun h7=>?_) (fun h7=>?_)
   ·
    refine z113
   ·
    refine z5o<|z4r<|z0t<|z3d<|Zq (I.add Z Z)<|Zm Z<|z2c<|z2k (fun aa ww h=>Zu h [])
  ·
   refine z3f<|z1h<|z1k<|z4k (fun aa ww h=>Zu h [])
 ·
  refine gSR<|Zm Z<|Zc [] [(100,1)] Tryz.func99 Z (zd5 _) fun r8 n9=>Zb Z<|zb9 (fun (s10:(List (List UInt8))) aa ww=>∃ nv:Nat→Value,Sta (ctx 36 H [] w) [(6,.val (nv 0))] [(1,some ((nv 0),.list z6a 9 s10))] aa ww) ?_ (fun s10=>?_)
  ·
   refine gSR<|Zm Z<|Zq (z5r Z .rd Z Tryz.underlying153)<|Zm Z<|Zn<|z3l (fun (s11:(List (List UInt8)) × Int) aa ww=>∃ nv:Nat→Value,Sta (ctx 36 H [] w) [(6,.val (nv 0)),(25,.rd (z02 (z02 z6a)) a0),(26,.rd z0c (a0.length:Int)),(27,.rd z0c s11.2)] [(1,some ((nv 0),.list z6a 9 s11.1))] aa ww) (fun aa ww h=>⟨nvl [(n9 0)],Zu h [1]⟩) (fun s11=>?_)
   refine gEx fun n12=>gSR<|Zq (I.lss Z Z)<|Zn<|z11<|gIf Z Z (fun h13=>?_) (fun h13=>?_)
   ·
    refine Zt<|z11<|z85<|gSR<|z0v fun x14 h15=>Zq (ixR Z Z h15 Tryz.underlying153 ti47 Z)<|Zq (ldR Z ty47)<|Zb Z<|z3d<|Zm Z<|Zm Z<|z0v fun x16 h17=>Ef Z (apn 1 Z Z Z .rd h17 tu47 ti9 Z Z Z) fun v18=>Za Z<|z2c<|z4r<|z0t<|z3d<|Zq (I.add Z Z)<|Zm Z<|z2c<|z2k (fun aa ww h=>⟨nvl [v18],Zu h [1]⟩)
   ·
    refine z3f<|z1h<|z1k<|z4k (fun aa ww h=>⟨nvl [(n12 0)],Zu h [1]⟩)
  ·
   refine gEx fun n19=>gSR<|Zm Z<|Zb Z<|z0w<|Ze [(n19 0)] [1] Z
def z2b (c0:List (List UInt8)) (s3:Int) (s13:(List (List UInt8)) × Int × Int):Option (Sum ((List (List UInt8)) × Int) ((List (List UInt8)) × Int × Int)) :=
 if decide (s13.2.2<((((c0.length:Int):Int).toNat - (s3:Int).toNat:Nat):Int)) then
  subi ((s3:Int).toNat) (((c0.length:Int):Int).toNat - (s3:Int).toNat) s13.2.2 >>= fun q15 =>
  idx s13.1 (q15:Int) >>= fun x17 =>
  subi ((s3:Int).toNat) (((c0.length:Int):Int).toNat - (s3:Int).toNat) (w64 (s13.2.2 - 1)) >>= fun q19 =>
  idx s13.1 (q19:Int) >>= fun x21 =>
  if x17 != x21 then
   subi ((s3:Int).toNat) (((c0.length:Int):Int).toNat - (s3:Int).toNat) s13.2.2 >>= fun q24 =>
   idx s13.1 (q24:Int) >>= fun x26 =>
   idx s13.1 s13.2.1 >>= fun x28 =>
   some (w64 (s13.2.1+1)) >>= fun y30 =>
   some (w64 (s13.2.2+1)) >>= fun y31 =>
   some (.inr (s13.1.set (s13.2.1:Int).toNat x26,y30,y31))
  else
   some (w64 (s13.2.2+1)) >>= fun y32 =>
   some (.inr (s13.1,s13.2.1,y32))
 else
  some (.inl (s13.1,s13.2.1))
def z18 (c0:List (List UInt8)) (s3:Int):Option (Sum (Sum ((List (List UInt8))) Unit) Int) :=
 if decide (s3<(c0.length:Int)) then
  idx c0 s3 >>= fun x5 =>
  idx c0 (w64 (s3 - 1)) >>= fun x7 =>
  if x5==x7 then
   chk (0≤s3∧s3≤(c0.length:Int)∧(c0.length:Int)≤(c0.length:Int)) >>= fun u10 =>
   (iter (z2b c0 s3) (c0,s3,1)) >>= fun s12 =>
   chk (0≤s12.2∧s12.2≤(s12.1.length:Int)∧(s12.1.length:Int)≤(s12.1.length:Int)) >>= fun u33 =>
   chk ((s12.2:Int).toNat+(((s12.1.length:Int):Int).toNat - (s12.2:Int).toNat)≤s12.1.length) >>= fun u35 =>
   cut (clr s12.1 ((s12.2:Int).toNat) (((s12.1.length:Int):Int).toNat - (s12.2:Int).toNat) []) 0 s12.2 >>= fun x37 =>
   some (.inl (.inl x37))
  else
   some (.inr (w64 (s3+1)))
 else
  some (.inl (.inr ()))
def z41 (c0:List (List UInt8)):Option ((List (List UInt8))) :=
 if decide ((c0.length:Int)<2) then
  some c0
 else
  z4x (iter (z18 c0) 1) fun s2 =>
  some c0
theorem zbv (p0:Value) (c0:List (List UInt8)):z36 Tryz.prog 68 [.val p0] [(1,some (p0,.list z6a 9 c0))] (z41 c0) (fun r nv=>⟨[.val (nv 0)],[(100,some (nv 0,.list z6a 9 r))]⟩):=by
 refine z4g 61 Tryz.func68 Z Z Z fun H w=>?_
 refine gSR<|Zb Z<|z11<|gSR<|Zm Z<|Zq (z5r Z (.own 1 Z) Z tu47)<|Zq (I.lss Z Z)<|Zj Z (fun h1=>?_) (fun h1=>?_)
 ·
  refine gSR<|Zm Z<|Zb Z<|z0w<|z1e<|Ze [p0] [1] Z
 ·
  refine Zt<|zb3 (fun (s2:Unit) aa ww=>Sta (ctx 61 H [(1,some (p0,.list z6a 9 c0))] w) [(0,.val p0)] [(1,some (p0,.list z6a 9 c0))] aa ww) ?_ (fun s2=>?_)
  ·
   refine gSR<|Zb Z<|z3l (fun (s3:Int) aa ww=>Sta (ctx 61 H [(1,some (p0,.list z6a 9 c0))] w) [(0,.val p0),(3,.rd z0c s3)] [(1,some (p0,.list z6a 9 c0))] aa ww) (fun aa ww h=>Zu h [1]) (fun s3=>?_)
   refine z11<|gSR<|Zm Z<|Zm Z<|Zq (z5r Z (.own 1 Z) Z tu47)<|Zq (I.lss Z Z)<|Zj Z (fun h4=>?_) (fun h4=>?_)
   ·
    refine Zt<|z11<|z85<|z11<|zlk mixed (by kernel_rfl)<|Rq Z (mv Z)<|Rq Z (mv Z)<|za6 fun x5 h6=>Rq Z (ixO 1 Z Z Z h6 tu47 ti9)<|Rq Z (ld 1 Z Z (Foc.el h6) ty9 Z)<|Rq Z (mv Z)<|Rq Z (mv Z)<|Rq Z (I.sub Z Z)<|za6 fun x7 h8=>Rq Z (ixO 1 Z Z Z h8 tu47 ti9)<|Rq Z (ld 1 Z Z (Foc.el h8) ty9 Z)<|Rq Z (eqS Z Z)<|zyk<|z0t<|gIf Z Z (fun h9=>?_) (fun h9=>?_)
    ·
     refine gSR<|Zm Z<|Zm Z<|z0v fun u10 h11=>Zq (z10z 1 Z Z (.to Z) .no (z8i h11) tu47 ti9)<|Zb Z<|zb9 (fun (s12:(List (List UInt8)) × Int) aa ww=>Sta (ctx 61 H [(1,some (p0,.list z6a 9 c0))] w) [(0,.val p0),(3,.rd z0c s12.2)] [(1,some (p0,.list z6a 9 s12.1))] aa ww) ?_ (fun s12=>?_)
     ·
      refine gSR<|Zb Z<|z3l (fun (s13:(List (List UInt8)) × Int × Int) aa ww=>Sta (ctx 61 H [(1,some (p0,.list z6a 9 c0))] w) [(0,.val p0),(3,.rd z0c s13.2.1),(4,.sub z6a.sz p0 ((s3:Int).toNat) (((c0.length:Int):Int).toNat - (s3:Int).toNat)),(5,.rd z0c s13.2.2)] [(1,some (p0,.list z6a 9 s13.1))] aa ww) (fun aa ww h=>Zu h [1]) (fun s13=>?_)
      refine z11<|gSR<|Zm Z<|Zm Z<|Zq (z18a Z Z tu47)<|Zq (I.lss Z Z)<|Zj Z (fun h14=>?_) (fun h14=>?_)
      ·
       refine Zt<|z11<|z85<|z11<|zlk mixed (by kernel_rfl)<|Rq Z (mv Z)<|Rq Z (mv Z)<|za6 fun q15 h16=>za6 fun x17 h18=>Rq Z (ixSu 1 Z Z Z h16 tu47 ti9)<|Rq Z (ld 1 Z Z (Foc.el h18) ty9 Z)<|Rq Z (mv Z)<|Rq Z (mv Z)<|Rq Z (I.sub Z Z)<|za6 fun q19 h20=>za6 fun x21 h22=>Rq Z (ixSu 1 Z Z Z h20 tu47 ti9)<|Rq Z (ld 1 Z Z (Foc.el h22) ty9 Z)<|Rq Z (neS Z Z)<|zyk<|z0t<|gIf Z Z (fun h23=>?_) (fun h23=>?_)
       ·
        refine gSR<|Zm Z<|Zm Z<|Zm Z<|Zm Z<|z0v fun q24 h25=>z0v fun x26 h27=>Zq (ixSu 1 Z Z Z h25 tu47 ti9)<|Zq (ld 1 Z Z (Foc.el h27) ty9 Z)<|z0v fun x28 h29=>Zq (ixO 1 Z Z Z h29 tu47 ti9)<|Es (sto 1 Z Z (Foc.el h29) Z ti9)<|Zn<|z3d<|Zm Z<|Zq (I.add Z Z)<|Za Z<|z3j 3 Z fun y30=>z2c<|z4r<|z0t<|z3d<|Zm Z<|Zq (I.add Z Z)<|Za Z<|z3j 5 Z fun y31=>z2c<|z2k (fun aa ww h=>Zu h [1])
       ·
        refine z5o<|z4r<|z0t<|z3d<|Zm Z<|Zq (I.add Z Z)<|Za Z<|z3j 5 Z fun y32=>z2c<|z2k (fun aa ww h=>Zu h [1])
      ·
       refine z3f<|z1h<|z1k<|z4k (fun aa ww h=>Zu h [1])
     ·
      refine gSR<|Zm Z<|Zm Z<|z0v fun u33 h34=>Zq (z10z 1 Z Z (.to Z) .no (z8i h34) tu47 ti9)<|z0v fun u35 h36=>EsV (clrS 1 Z Z (z8i h36) Z tu47 ti9 Zr.str Z)<|Zn<|gSR<|Zm Z<|Zm Z<|z0v fun x37 h38=>Ef Z (cutO 1 Z Z Z h38 tu47 ti9) fun v39=>Zb Z<|z0w<|z88<|z1e<|zb5<|zag<|Ze [v39] [1] Z
    ·
     refine z5o<|z4r<|z0t<|z3d<|Zm Z<|Zq (I.add Z Z)<|Za Z<|z2c<|z2k (fun aa ww h=>Zu h [1])
   ·
    refine z3f<|z1h<|z1k<|za9 (fun aa ww h=>Zu h [1])
  ·
   refine gSR<|Zm Z<|Zb Z<|z0w<|Ze [p0] [1] Z
def z8j (a0:z00) (a1:z00) (r15:(List (List UInt8))) (s17:(List (List UInt8)) × Int):Option (Sum (Sum ((List (List UInt8)) × Int) ((List (List UInt8)))) ((List (List UInt8)) × Int)) :=
 if decide (s17.2<(r15.length:Int)) then
  idx r15 s17.2 >>= fun x20 =>
  z2h a0 x20 >>= fun r22 =>
  if r22.2 != 0 then
   some (.inl (.inl ([],r22.2)))
  else
   z2h a1 x20 >>= fun r26 =>
   if r26.2 != 0 then
    some (.inl (.inl ([],r26.2)))
   else
    if !decide (r22.1=r26.1) then
     app 16 s17.1 [x20] >>= fun x32 =>
     some (.inr (x32,w64 (s17.2+1)))
    else
     some (.inr (s17.1,w64 (s17.2+1)))
 else
  some (.inl (.inr s17.1))
def z3p (a0:z00) (a1:z00):Option ((List (List UInt8)) × Int) :=
 z2q a0 >>= fun r3 =>
 if r3.2 != 0 then
  some ([],r3.2)
 else
  z2q a1 >>= fun r6 =>
  if r6.2 != 0 then
   some ([],r6.2)
  else
   z47 [r3.1,r6.1] >>= fun r10 =>
   zn9 r10 >>= fun r12 =>
   z4x (z41 r12 >>= fun r15 =>
   iter (z8j a0 a1 r15) ([],0)) fun s14 =>
   some (s14,0)
theorem zak (a0:z00) (a1:z00):z36 Tryz.prog 27 [.rd z01 a0,.rd z01 a1] [zG1] (z3p a0 a1) (fun r nv=>⟨[.val (nv 0),.rd z0c r.2],[(1001,some (.bool true,.glob 1 (z4v 64 z0z) z58)),(100,some (nv 0,.list z6a 9 r.1))]⟩):=by
 refine z4g 72 Tryz.func27 Z Z Z fun H w=>?_
 refine gSR<|Eb Z (bx 1 Z) fun v1=>Eb Z (bx 2 Z) fun v2=>Za Z<|Zb Z<|gSR<|Zq (ld 1 Z Z fH z7q Z)<|Zc [1001] [(100,3)] Tryz.func23 Z (z6j _) fun r3 n4=>Zm Z<|Zq (ext Z Z)<|Zq (ext Z Z)<|Za Z<|Zb Z<|z11<|gSR<|Zm Z<|Zq (I.neq Z Z)<|Zj Z (fun h5=>?_) (fun h5=>?_)
 ·
  refine gSR<|Zm Z<|Za Z<|Zb Z<|z0w<|z1e<|zra z6a 9 4<|Ze [(.slice none 0 0)] [1001,4] Z
 ·
  refine Zt<|gSR<|Zq (ld 2 Z Z fH z7q Z)<|Zc [1001] [(100,5)] Tryz.func23 Z (z6j _) fun r6 n7=>Zm Z<|Zq (ext Z Z)<|Zq (ext Z Z)<|Za Z<|Zb Z<|z11<|gSR<|Zm Z<|Zq (I.neq Z Z)<|Zj Z (fun h8=>?_) (fun h8=>?_)
  ·
   refine gSR<|Zm Z<|Za Z<|Zb Z<|z0w<|z1e<|zra z6a 9 6<|Ze [(.slice none 0 0)] [1001,6] Z
  ·
   refine Zt<|gSR<|Zm Z<|Zm Z<|zfz 3 [19,6,32] Z (fS Z<|fS Z<|fS Z<|fN)<|zfz 5 [27,8,33] Z (fS Z<|fS Z<|fS Z<|fN)<|Ef Z (lit (R:=(z02 z6a)) ([r3.1,r6.1]:List (List (List UInt8))) 7 (pP Z Z<|pP Z Z<|pN) Z Tryz.underlying153 ti47 Z Z) fun v9=>zfz 7 [34] Z (fS Z<|fN)<|Zc [] [(100,8)] Tryz.func67 Z (zc4 _) fun r10 n11=>Zb Z<|gSR<|Zm Z<|Zc [8] [(1,8)] Tryz.func63 Z (zuv _ _) fun r12 n13=>Zn<|gSR<|Zb Z<|zb3 (fun (s14:(List (List UInt8))) aa ww=>∃ nv:Nat→Value,Sta (ctx 72 H [zG1] w) [(10,.val (nv 0))] [(13,some ((nv 0),.list z6a 9 s14)),zG1] aa ww) ?_ (fun s14=>?_)
   ·
    refine gSR<|Zm Z<|Zc [8] [(100,1100)] Tryz.func68 Z (zbv _ _) fun r15 n16=>Zq (z5r Z (.own 1100 Z) Z tu47)<|Zm Z<|Zn<|zzn z6a 9 1107<|z3l (fun (s17:(List (List UInt8)) × Int) aa ww=>∃ nv:Nat→Value,Sta (ctx 72 H [zG1] w) [(2,.val (z07 v1 0)),(3,.val (z07 v2 0)),(10,.val (nv 0)),(39,.val (n16 0)),(40,.rd z0c (r15.length:Int)),(41,.rd z0c s17.2)] [(1,some (v1,.box 27 [.rd z01 a0])),(2,some (v2,.box 27 [.rd z01 a1])),(1106,some ((nv 0),.list z6a 9 s17.1)),(1100,some ((n16 0),.list z6a 9 r15)),zG1] aa ww) (fun aa ww h=>⟨nvl [(.slice none 0 0)],Zu h [1,2,1107,1100,1001]⟩) (fun s17=>?_)
    refine gEx fun n18=>gSR<|Zq (I.lss Z Z)<|Zn<|z11<|gIf Z Z (fun h19=>?_) (fun h19=>?_)
    ·
     refine Zt<|z11<|z85<|gSR<|z0v fun x20 h21=>Zq (ixO 1100 Z Z Z h21 tu47 ti9)<|Zq (ld 1100 Z Z (Foc.el h21) ty9 Z)<|Zb Z<|gSR<|Zq (ld 1 Z Z fH z7q Z)<|Zm Z<|Zc [1001] [] Tryz.func65 Z (zbl _ _) fun r22 n23=>Zm Z<|Zq (ext Z Z)<|Zq (ext Z Z)<|Eb Z (z4w 1108 zkq (.zr (R:=z0i) (x:=(⟨false,(⟨0,0,0,[]⟩:z03)⟩:z0b)) zw8)) fun v24=>Es (sto 1108 Z Z fH Z zkq)<|Zb Z<|z11<|gSR<|Zm Z<|Zq (I.neq Z Z)<|Zj Z (fun h25=>?_) (fun h25=>?_)
     ·
      refine gSR<|Zm Z<|Za Z<|Zb Z<|z0w<|z1e<|z88<|z1e<|zb5<|zag<|zra z6a 9 1109<|Ze [(.slice none 0 0)] [1001,1109] Z
     ·
      refine Zt<|gSR<|Zq (ld 2 Z Z fH z7q Z)<|Zm Z<|Zc [1001] [] Tryz.func65 Z (zbl _ _) fun r26 n27=>Zm Z<|Zq (ext Z Z)<|Zq (ext Z Z)<|Eb Z (z4w 1110 zkq (.zr (R:=z0i) (x:=(⟨false,(⟨0,0,0,[]⟩:z03)⟩:z0b)) zw8)) fun v28=>Es (sto 1110 Z Z fH Z zkq)<|Zb Z<|z11<|gSR<|Zm Z<|Zq (I.neq Z Z)<|Zj Z (fun h29=>?_) (fun h29=>?_)
      ·
       refine gSR<|Zm Z<|Za Z<|Zb Z<|z0w<|z1e<|z88<|z1e<|zb5<|zag<|zra z6a 9 1111<|Ze [(.slice none 0 0)] [1001,1111] Z
      ·
       refine Zt<|gSR<|Zq (ld 1108 Z Z fH zzi Z)<|Zq (ld 1110 Z Z fH zzi Z)<|Zq (neA Z Z z1a9 Z Z z1ag)<|Zj Z (fun h30=>?_) (fun h30=>?_)
       ·
        refine z3d<|Zm Z<|Zm Z<|Ef Z (lit (R:=z6a) ([x20]:List (List UInt8)) 1112 (pP Z Z<|pN) Z tu47 ti9 Z Z) fun v31=>z0v fun x32 h33=>Ef Z (apn 1106 Z Z Z (.own 1112 Z) h33 tu47 ti9 Z Z Z) fun v34=>Za Z<|z2c<|z4r<|z0t<|z3d<|Zq (I.add Z Z)<|Zm Z<|z2c<|z2k (fun aa ww h=>⟨nvl [v34],Zu h [1,2,1106,1100,1001]⟩)
       ·
        refine z5o<|z4r<|z0t<|z3d<|Zq (I.add Z Z)<|Zm Z<|z2c<|z2k (fun aa ww h=>⟨nvl [(n18 0)],Zu h [1,2,1106,1100,1001]⟩)
    ·
     refine z3f<|z1h<|z1k<|za9 (fun aa ww h=>⟨nvl [(n18 0)],Zu h [1106,1001]⟩)
   ·
    refine gEx fun n35=>gSR<|Zm Z<|Za Z<|Zb Z<|z0w<|Ze [(n35 0)] [1001,13] Z
def z69 (a0:List (List UInt8)) (a1:List (List UInt8)) (s3:Int):Option (Sum (Sum Bool Unit) Int) :=
 if decide (s3<(a0.length:Int)) then
  idx a0 s3 >>= fun x5 =>
  idx a1 s3 >>= fun x7 =>
  if x5 != x7 then
   some (.inl (.inl false))
  else
   some (.inr (w64 (s3+1)))
 else
  some (.inl (.inr ()))
def z4p (a0:List (List UInt8)) (a1:List (List UInt8)):Option (Bool) :=
 if (a0.length:Int) != (a1.length:Int) then
  some false
 else
  z4x (iter (z69 a0 a1) 0) fun s2 =>
  some true
theorem z8e (a0:List (List UInt8)) (a1:List (List UInt8)):z36 Tryz.prog 29 [.rd (z02 z6a) a0,.rd (z02 z6a) a1] [] (z4p a0 a1) (fun r nv=>⟨[.rd z0f r],[]⟩):=by
 refine z4g 26 Tryz.func29 Z Z Z fun H w=>?_
 refine gSR<|Zb Z<|z11<|gSR<|Zm Z<|Zq (z5r Z .rd Z tu47)<|Zm Z<|Zq (z5r Z .rd Z tu47)<|Zq (I.neq Z Z)<|Zj Z (fun h1=>?_) (fun h1=>?_)
 ·
  refine gSR<|Zb Z<|z0w<|z1e<|Ze [] [] Z
 ·
  refine Zt<|zb3 (fun (s2:Unit) aa ww=>Sta (ctx 26 H [] w) [] [] aa ww) ?_ (fun s2=>?_)
  ·
   refine gSR<|Zb Z<|z3l (fun (s3:Int) aa ww=>Sta (ctx 26 H [] w) [(0,.rd (z02 z6a) a0),(1,.rd (z02 z6a) a1),(5,.rd z0c s3)] [] aa ww) (fun aa ww h=>Zu h []) (fun s3=>?_)
   refine z11<|gSR<|Zm Z<|Zm Z<|Zq (z5r Z .rd Z tu47)<|Zq (I.lss Z Z)<|Zj Z (fun h4=>?_) (fun h4=>?_)
   ·
    refine Zt<|z11<|z85<|z11<|zlk mixed (by kernel_rfl)<|Rq Z (mv Z)<|Rq Z (mv Z)<|za6 fun x5 h6=>Rq Z (ixR Z Z h6 tu47 ti9 Z)<|Rq Z (ldR Z ty9)<|Rq Z (mv Z)<|Rq Z (mv Z)<|za6 fun x7 h8=>Rq Z (ixR Z Z h8 tu47 ti9 Z)<|Rq Z (ldR Z ty9)<|Rq Z (neS Z Z)<|zyk<|z0t<|gIf Z Z (fun h9=>?_) (fun h9=>?_)
    ·
     refine gSR<|Zb Z<|z0w<|z88<|z1e<|zb5<|zag<|Ze [] [] Z
    ·
     refine z5o<|z4r<|z0t<|z3d<|Zm Z<|Zq (I.add Z Z)<|Za Z<|z2c<|z2k (fun aa ww h=>Zu h [])
   ·
    refine z3f<|z1h<|z1k<|za9 (fun aa ww h=>Zu h [])
  ·
   refine gSR<|Zb Z<|z0w<|Ze [] [] Z
def z15 (a0:z00) (a1:z06) (a2:UInt64) (a3:List V3):Option (z00 × V3 × Bool) :=
 zjz 3 (⟨0,a3,a2,a1,(⟨0,0⟩:z08)⟩:z05) >>= fun r5 =>
 zm7 a0 r5.1 >>= fun r8 =>
 if r5.2==0 then
  some (r8.1,r8.2.1,r8.2.2==0)
 else
  some (r8.1,r8.2.1,false)
theorem z49 (a0:z00) (a1:z06) (a2:UInt64) (a3:List V3):z36 Tryz.prog 41 [.rd z01 a0,.rd z0h a1,.rd z3u a2,.rd (z02 aZ) a3] [zG1] (z15 a0 a1 a2 a3) (fun r nv=>⟨[.rd z01 r.1,.rd aZ r.2.1,.rd z0f r.2.2],[(1001,some (.bool true,.glob 1 (z4v 64 z0z) z58))]⟩):=by
 refine z4g 39 Tryz.func41 Z Z Z fun H w=>?_
 refine gSR<|Eb Z (bx 1 Z) fun v1=>Eb Z (bx 2 Z) fun v2=>Eb Z (z4w 3 z4f (ZrE.nilS (ZrE.nilS ZrE.nil))) fun v3=>Eb Z (z4w 4 z3h (.zr (R:=aZ) (x:=(Vector.replicate 32 0)) zf6)) fun v4=>Zb Z<|gSR<|Zm Z<|Zm Z<|Zq (ld 2 Z Z fH ty64 Z)<|Zq (bld (x':=(⟨0,a3,a2,a1,(⟨0,0⟩:z08)⟩:z05)) [(0,1),(1,1),(2,1),(3,6),(9,2)] Tryz.underlying72 zbb Z zr72 Z (Bld.cons (z1c _) Z Z<|Bld.cons (z44 _) Z Z<|Bld.cons (z20 _) Z Z<|Bld.done Z))<|Zc [1001] [] Tryz.func34 Z (zvn _ _) fun r5 n6=>Zm Z<|Zq (ext Z Z)<|Zq (ext Z Z)<|Eb Z (z4w 5 zbb (ZrE.rd (R:=z0z) (x:=0) (Zr.num Z) (ZrE.nilS (ZrE.rd (R:=z3u) (x:=0) (Zr.num Z) (ZrE.rd (R:=z0h) (x:=(⟨0,[],(⟨0,0,0,[]⟩:z03)⟩:z06)) zlw (ZrE.rd (R:=z0m) (x:=(⟨0,0⟩:z08)) zpq ZrE.nil Z) Z) Z)) Z)) fun v7=>z89 aZ [.rd z0z 0,.rd (z02 aZ) [],.rd z3u 0,.rd z0h (⟨0,[],(⟨0,0,0,[]⟩:z03)⟩:z06),.rd z0m (⟨0,0⟩:z08)] 5 [.rd z0z 0] [.rd z3u 0,.rd z0h (⟨0,[],(⟨0,0,0,[]⟩:z03)⟩:z06),.rd z0m (⟨0,0⟩:z08)] Z Z Z<|zb2 (R:=z04) (⟨0,[],0,(⟨0,[],(⟨0,0,0,[]⟩:z03)⟩:z06),(⟨0,0⟩:z08)⟩:z05) 5 Z (Sp.via (Sp.prod (Sp.prod (Sp.prod (Sp.prod (Sp.prod Sp.unit))))))<|Es (sto 5 Z Z fH Z zbb)<|Zb Z<|gSR<|Zq (ld 1 Z Z fH z7q Z)<|Zq (ld 5 Z Z fH zgr Z)<|Zc [1001] [] Tryz.func35 Z (zwi _ _) fun r8 n9=>Zm Z<|Zq (ext Z Z)<|Zq (ext Z Z)<|Zq (ext Z Z)<|Eb Z (z4w 6 z4f (ZrE.nilS (ZrE.nilS ZrE.nil))) fun v10=>Eb Z (z4w 7 z3h (.zr (R:=aZ) (x:=(Vector.replicate 32 0)) zf6)) fun v11=>z89 aZ [.rd (z02 aZ) [],.val (.slice none 0 0)] 6 [] [.val (.slice none 0 0)] Z Z Z<|z89 z04 [.rd (z02 aZ) [],.rd (z02 z04) []] 6 [.rd (z02 aZ) []] [] Z Z Z<|zb2 (R:=z01) (⟨[],[]⟩:z00) 6 Z (Sp.via (Sp.prod (Sp.prod Sp.unit)))<|Es (sto 6 Z Z fH Z z4f)<|Es (sto 7 Z Z fH Z z3h)<|Zb Z<|z11<|zb6 [3,4] mixed Z Z<|hTk 0 Z Z (ld 6 Z Z fH z7q Z)<|hTk 1 Z Z (ld 7 Z Z fH z6s Z)<|hTk 2 Z Z (mv Z)<|hTk 3 Z Z (I.eql Z Z)<|hTk 4 Z Z (mv Z)<|hIf 35 Z Z (fun h12=>?_) (fun h12=>?_)
 ·
  refine hKn 34 Z Z h12<|Zg 5 Z Z (mv Z)<|Zg 6 Z Z (I.eql Z Z)<|hTk 7 Z Z (pkT Z Z)<|hPnl aZ [.rd (z02 aZ) [],.val (.slice none 0 0)] 3 [] [.val (.slice none 0 0)] Z Z Z<|hPnl z04 [.rd (z02 aZ) [],.rd (z02 z04) []] 3 [.rd (z02 aZ) []] [] Z Z Z<|hJoi (R:=z01) (⟨[],[]⟩:z00) 3 Z (Sp.via (Sp.prod (Sp.prod Sp.unit)))<|Zp 8 Z Z Z Z Z (sto 3 Z Z fH Z z4f)<|Zp 9 Z Z Z Z Z (sto 4 Z Z fH Z z3h)<|hTk 10 Z Z (asg Z)<|z4h (by kernel_rfl)<|z0t<|z0w<|zdc [] [1001] Z (eC 3 Z Z z7q<|eC 4 Z Z z6s<|eE Z<|eN) (y1 Z)
 ·
  refine hKn 34 Z Z h12<|hSk 5 Z Z<|hSk 6 Z Z<|hTk 7 Z Z (pkF Z Z)<|hPnl aZ [.rd (z02 aZ) [],.val (.slice none 0 0)] 3 [] [.val (.slice none 0 0)] Z Z Z<|hPnl z04 [.rd (z02 aZ) [],.rd (z02 z04) []] 3 [.rd (z02 aZ) []] [] Z Z Z<|hJoi (R:=z01) (⟨[],[]⟩:z00) 3 Z (Sp.via (Sp.prod (Sp.prod Sp.unit)))<|Zp 8 Z Z Z Z Z (sto 3 Z Z fH Z z4f)<|Zp 9 Z Z Z Z Z (sto 4 Z Z fH Z z3h)<|hTk 10 Z Z (asg Z)<|z4h (by kernel_rfl)<|z0t<|z0w<|zdc [] [1001] Z (eC 3 Z Z z7q<|eC 4 Z Z z6s<|eE Z<|eN) (y1 Z)
def z2e (a0:Int):Option (z03) :=
 some (⟨1,a0,0,[]⟩:z03)
theorem z5f (a0:Int):z36 Tryz.prog 43 [.rd z0c a0] [] (z2e a0) (fun r nv=>⟨[.rd z0u r],[]⟩):=by
 refine z4g 5 Tryz.func43 Z Z Z fun H w=>?_
 refine gSR<|Eb Z (z4w 1 zel (.zr (R:=z0u) (x:=(⟨0,0,0,[]⟩:z03)) zmp)) fun v1=>Zn<|gSR<|Zm Z<|Zq (bld (x':=(⟨1,a0,0,[]⟩:z03)) [(0,1),(1,1),(2,1),(3,1)] Tryz.underlying54 zel Z zmp Z (Bld.cons (z3w _) Z Z<|Bld.cons (z9y _) Z Z<|Bld.done Z))<|Es (sto 1 Z Z fH Z zel)<|Zn<|z0w<|zdc [] [] Z (eC 1 Z Z zo7<|eN) (rN)
def z93 (a0:V3) (a1:V3):Option (Bool) :=
 z5s a0 a1 >>= fun r3 =>
 some (decide (r3<0)) >>= fun y5 =>
 some y5
theorem zhd (a0:V3) (a1:V3):z36 Tryz.prog 70 [.rd aZ a0,.rd aZ a1] [] (z93 a0 a1) (fun r nv=>⟨[.rd z0f r],[]⟩):=by
 refine z4g 9 Tryz.func70 Z Z Z fun H w=>?_
 refine gSR<|Eb Z (bx 1 Z) fun v1=>Eb Z (bx 2 Z) fun v2=>Zb Z<|gSR<|Zq (ld 1 Z Z fH z6s Z)<|Zq (ld 2 Z Z fH z6s Z)<|Zc [] [] Tryz.func85 Z (zjl _ _) fun r3 n4=>Zq (I.lss Z Z)<|Za Z<|z3j 4 Z fun y5=>Zn<|z0w<|Ze [] [] Z
def z2j (a0:z00) (a1:List UInt8) (a2:Bool) (a3:z03):Option (Bool) :=
 z2n a0 a1 >>= fun r3 =>
 if r3.2.2==0 then
  if r3.1==a2 then
   some (decide (r3.2.1=a3)) >>= fun y8 =>
   some y8
  else
   some false
 else
  some false
theorem z3c (a0:z00) (a1:List UInt8) (a2:Bool) (a3:z03):z36 Tryz.prog 42 [.rd z01 a0,.rd z6a a1,.rd z0f a2,.rd z0u a3] [zG1] (z2j a0 a1 a2 a3) (fun r nv=>⟨[.rd z0f r],[(1001,some (.bool true,.glob 1 (z4v 64 z0z) z58))]⟩):=by
 refine z4g 31 Tryz.func42 Z Z Z fun H w=>?_
 refine gSR<|Eb Z (bx 1 Z) fun v1=>Eb Z (bx 2 Z) fun v2=>Zb Z<|gSR<|Zq (ld 1 Z Z fH z7q Z)<|Zm Z<|Zc [1001] [] Tryz.func25 Z (zgm _ _) fun r3 n4=>Zm Z<|Zq (ext Z Z)<|Zq (ext Z Z)<|Zq (ext Z Z)<|Eb Z (z4w 3 zel (.zr (R:=z0u) (x:=(⟨0,0,0,[]⟩:z03)) zmp)) fun v5=>Za Z<|Es (sto 3 Z Z fH Z zel)<|Zb Z<|gSR<|Zm Z<|Zq (I.eql Z Z)<|Zm Z<|z2i 21 Z (fun h6=>?_) (fun h6=>?_)
 ·
  refine lKn 20 Z h6<|z2x Zx Z Z (mv Z)<|z2x Zx Z Z (mv Z)<|z2x Zx Z Z (eqB Tryz.underlying4 Z Z)<|Zq (pkT Z Z)<|Zm Z<|z2i 26 Z (fun h7=>?_) (fun h7=>?_)
  ·
   refine lKn 24 Z h7<|lKn 25 Z h7<|z2x Zx Z Z (ld 3 Z Z fH zo7 Z)<|z2x Zx Z Z (ld 2 Z Z fH zo7 Z)<|z2x Zx Z Z (eqA Z Z eq54 Z Z gq54)<|Zq (pkT Z Z)<|Za Z<|z3j 8 Z fun y8=>Zn<|z0w<|Ze [] [1001] Z
  ·
   refine lKn 24 Z h7<|lKn 25 Z h7<|Zk Z<|Zk Z<|Zk Z<|Zq (pkF Z Z)<|Zb Z<|z0w<|Ze [] [1001] Z
 ·
  refine lKn 20 Z h6<|Zk Z<|Zk Z<|Zk Z<|Zq (pkF Z Z)<|Zm Z<|Zk Z<|Zk Z<|Zk Z<|Zq (pkF Z Z)<|Zb Z<|z0w<|Ze [] [1001] Z
def za2  : Option (Bool) :=
 z15 (⟨[],[]⟩:z00) (⟨2,([97]:List UInt8),(⟨0,0,0,[]⟩:z03)⟩:z06) 1 [] >>= fun r3 =>
 z15 r3.1 (⟨3,([97]:List UInt8),(⟨0,0,0,[]⟩:z03)⟩:z06) 2 [] >>= fun r7 =>
 z15 r3.1 (⟨3,([97]:List UInt8),(⟨0,0,0,[]⟩:z03)⟩:z06) 2 [r3.2.1] >>= fun r12 =>
 z2q r3.1 >>= fun r16 =>
 z2e 1 >>= fun r18 =>
 z15 (⟨[],[]⟩:z00) (⟨4,([114]:List UInt8),r18⟩:z06) 7 [] >>= fun r20 =>
 z2e 2 >>= fun r24 =>
 z15 r20.1 (⟨4,([114]:List UInt8),r24⟩:z06) 7 [] >>= fun r27 =>
 (z93 r20.2.1 r27.2.1 >>= fun r32 =>
 if r32 then
  some 2
 else
  some 1) >>= fun s31 =>
 if r3.2.2 then
  if r7.2.2 then
   if r12.2.2 then
    if r16.2==0 then
     z4p r16.1 [([97]:List UInt8)] >>= fun r41 =>
     if r41 then
      z2j r3.1 ([97]:List UInt8) true (⟨0,0,0,[]⟩:z03) >>= fun r44 =>
      if r44 then
       z2j r7.1 ([97]:List UInt8) true (⟨0,0,0,[]⟩:z03) >>= fun r47 =>
       if r47 then
        z2j r12.1 ([97]:List UInt8) false (⟨0,0,0,[]⟩:z03) >>= fun r50 =>
        if r50 then
         if r20.2.2 then
          if r27.2.2 then
           z2e s31 >>= fun r55 =>
           z2j r27.1 ([114]:List UInt8) false r55 >>= fun r57 =>
           some r57
          else
           some false
         else
          some false
        else
         some false
       else
        some false
      else
       some false
     else
      some false
    else
     some false
   else
    some false
  else
   some false
 else
  some false
end
section
open Go Go.RowKit
set_option maxRecDepth 100000
set_option maxHeartbeats 4000000 in
theorem zhx  : z36 Tryz.prog 30 [] [zG1] (za2) (fun r nv=>⟨[.rd z0f r],[(1001,some (.bool true,.glob 1 (z4v 64 z0z) z58))]⟩):=by
 refine z4g 113 Tryz.func30 Z Z Z fun H w=>?_
 refine gSR<|Zb Z<|gSR<|Zq (bld (x':=(⟨2,([97]:List UInt8),(⟨0,0,0,[]⟩:z03)⟩:z06)) [(0,1),(1,1),(2,4)] Tryz.underlying64 zjk Z zlw Z (Bld.cons (z1p _) Z Z<|Bld.cons (z3n _) Z Z<|Bld.done Z))<|Zq (bld (x':=(⟨3,([97]:List UInt8),(⟨0,0,0,[]⟩:z03)⟩:z06)) [(0,1),(1,1),(2,4)] Tryz.underlying64 zjk Z zlw Z (Bld.cons (z1p _) Z Z<|Bld.cons (z3n _) Z Z<|Bld.done Z))<|Eb Z (z4w 1 zjk (.zr (R:=z0h) (x:=(⟨0,[],(⟨0,0,0,[]⟩:z03)⟩:z06)) zlw)) fun v1=>Eb Z (z4w 2 zjk (.zr (R:=z0h) (x:=(⟨0,[],(⟨0,0,0,[]⟩:z03)⟩:z06)) zlw)) fun v2=>Es (sto 1 Z Z fH Z zjk)<|Es (sto 2 Z Z fH Z zjk)<|Zn<|gSR<|Zq (bld (x':=(⟨[],[]⟩:z00)) [(0,1),(1,1)] Tryz.underlying27 z4f Z zr27 Z (Bld.done Z))<|Zq (ld 1 Z Z fH ty64 Z)<|call [1001] [] Z Tryz.func41 Z Z (z49 _ _ _ _) (aQ Z<|aQ Z<|aQ Z<|aNil Z<|aN) (y1 Z) fun r3 n4=>Zm Z<|Zq (ext Z Z)<|Zq (ext Z Z)<|Zq (ext Z Z)<|Eb Z (z4w 3 z4f (ZrE.nilS (ZrE.nilS ZrE.nil))) fun v5=>Eb Z (z4w 4 z3h (.zr (R:=aZ) (x:=(Vector.replicate 32 0)) zf6)) fun v6=>z89 aZ [.rd (z02 aZ) [],.val (.slice none 0 0)] 3 [] [.val (.slice none 0 0)] Z Z Z<|z89 z04 [.rd (z02 aZ) [],.rd (z02 z04) []] 3 [.rd (z02 aZ) []] [] Z Z Z<|zb2 (R:=z01) (⟨[],[]⟩:z00) 3 Z (Sp.via (Sp.prod (Sp.prod Sp.unit)))<|Es (sto 3 Z Z fH Z z4f)<|Es (sto 4 Z Z fH Z z3h)<|Zb Z<|gSR<|Zq (ld 3 Z Z fH z7q Z)<|Zq (ld 2 Z Z fH ty64 Z)<|call [1001] [] Z Tryz.func41 Z Z (z49 _ _ _ _) (aQ Z<|aQ Z<|aQ Z<|aNil Z<|aN) (y1 Z) fun r7 n8=>Zm Z<|Zq (ext Z Z)<|Zq (ext Z Z)<|Zq (ext Z Z)<|Eb Z (z4w 5 z4f (ZrE.nilS (ZrE.nilS ZrE.nil))) fun v9=>Eb Z (z4w 6 z3h (.zr (R:=aZ) (x:=(Vector.replicate 32 0)) zf6)) fun v10=>z89 aZ [.rd (z02 aZ) [],.val (.slice none 0 0)] 5 [] [.val (.slice none 0 0)] Z Z Z<|z89 z04 [.rd (z02 aZ) [],.rd (z02 z04) []] 5 [.rd (z02 aZ) []] [] Z Z Z<|zb2 (R:=z01) (⟨[],[]⟩:z00) 5 Z (Sp.via (Sp.prod (Sp.prod Sp.unit)))<|Es (sto 5 Z Z fH Z z4f)<|Es (sto 6 Z Z fH Z z3h)<|Zb Z<|gSR<|Zq (ld 3 Z Z fH z7q Z)<|Zq (ld 2 Z Z fH ty64 Z)<|Zq (ld 4 Z Z fH z6s Z)<|Ef Z (lit (R:=aZ) ([r3.2.1]:List V3) 7 (pP Z Z<|pN) Z tu24 z3h Z Z) fun v11=>zfz 7 [41] Z (fS Z<|fN)<|Zc [1001] [] Tryz.func41 Z (z49 _ _ _ _) fun r12 n13=>Zm Z<|Zq (ext Z Z)<|Zq (ext Z Z)<|Zq (ext Z Z)<|Eb Z (z4w 8 z4f (ZrE.nilS (ZrE.nilS ZrE.nil))) fun v14=>Eb Z (z4w 9 z3h (.zr (R:=aZ) (x:=(Vector.replicate 32 0)) zf6)) fun v15=>z89 aZ [.rd (z02 aZ) [],.val (.slice none 0 0)] 8 [] [.val (.slice none 0 0)] Z Z Z<|z89 z04 [.rd (z02 aZ) [],.rd (z02 z04) []] 8 [.rd (z02 aZ) []] [] Z Z Z<|zb2 (R:=z01) (⟨[],[]⟩:z00) 8 Z (Sp.via (Sp.prod (Sp.prod Sp.unit)))<|Es (sto 8 Z Z fH Z z4f)<|Es (sto 9 Z Z fH Z z3h)<|Zb Z<|gSR<|Zq (ld 3 Z Z fH z7q Z)<|Zc [1001] [(100,10)] Tryz.func23 Z (z6j _) fun r16 n17=>Zm Z<|Zq (ext Z Z)<|Zq (ext Z Z)<|Za Z<|Zb Z<|gSR<|Zq (bld (x':=(⟨[],[]⟩:z00)) [(0,1),(1,1)] Tryz.underlying27 z4f Z zr27 Z (Bld.done Z))<|Zc [] [] Tryz.func43 Z (z5f _) fun r18 n19=>Zq (bld (x':=(⟨4,([114]:List UInt8),r18⟩:z06)) [(0,1),(1,1),(2,4)] Tryz.underlying64 zjk Z zlw Z (Bld.cons (z1p _) Z Z<|Bld.cons (z3n _) Z Z<|Bld.cons (z5a _) Z Z<|Bld.done Z))<|call [1001] [] Z Tryz.func41 Z Z (z49 _ _ _ _) (aQ Z<|aQ Z<|aQ Z<|aNil Z<|aN) (y1 Z) fun r20 n21=>Zm Z<|Zq (ext Z Z)<|Zq (ext Z Z)<|Zq (ext Z Z)<|Eb Z (z4w 11 z4f (ZrE.nilS (ZrE.nilS ZrE.nil))) fun v22=>Eb Z (z4w 12 z3h (.zr (R:=aZ) (x:=(Vector.replicate 32 0)) zf6)) fun v23=>z89 aZ [.rd (z02 aZ) [],.val (.slice none 0 0)] 11 [] [.val (.slice none 0 0)] Z Z Z<|z89 z04 [.rd (z02 aZ) [],.rd (z02 z04) []] 11 [.rd (z02 aZ) []] [] Z Z Z<|zb2 (R:=z01) (⟨[],[]⟩:z00) 11 Z (Sp.via (Sp.prod (Sp.prod Sp.unit)))<|Es (sto 11 Z Z fH Z z4f)<|Es (sto 12 Z Z fH Z z3h)<|Zb Z<|z11<|gSub [(3,.val (z07 v5 0)),(5,.rd z0f r3.2.2),(6,.val (z07 v9 0)),(8,.rd z0f r7.2.2),(9,.val (z07 v14 0)),(11,.rd z0f r12.2.2),(12,.val (n17 0)),(13,.rd z0c r16.2),(14,.val (z07 v22 0)),(15,.val (z07 v23 0)),(16,.rd z0f r20.2.2)] [zG1,(1,some (v1,.box 64 [.rd z0h (⟨2,([97]:List UInt8),(⟨0,0,0,[]⟩:z03)⟩:z06)])),(2,some (v2,.box 64 [.rd z0h (⟨3,([97]:List UInt8),(⟨0,0,0,[]⟩:z03)⟩:z06)])),(3,some (v5,.box 27 [.rd z01 r3.1])),(4,some (v6,.box 78 [.rd aZ r3.2.1])),(5,some (v9,.box 27 [.rd z01 r7.1])),(6,some (v10,.box 78 [.rd aZ r7.2.1])),(8,some (v14,.box 27 [.rd z01 r12.1])),(9,some (v15,.box 78 [.rd aZ r12.2.1])),(10,some ((n17 0),.list z6a 9 r16.1)),(11,some (v22,.box 27 [.rd z01 r20.1])),(12,some (v23,.box 78 [.rd aZ r20.2.1]))] [1001,1,2,3,4,5,6,8,9,10,11,12] (Zs Z Z Z Z<|Zs Z Z Z Z<|sS Z<|sS Z<|sS Z<|sN) (Zi Z<|Zi Z<|Zi Z<|Zi Z<|Zi Z<|Zi Z<|Zi Z<|Zi Z<|Zi Z<|Zi Z<|Zi Z<|Zi Z<|rN)<|zf3 fun r24 h26=>zf3 fun r27 h29=>gOr [] [⟨11,some ([], fun nv=>(v22,.box 27 [.rd z01 r20.1])),[]⟩,⟨1001,some ([], fun nv=>((.bool true),.glob 1 (z4v 64 z0z) z58)),[]⟩,⟨13,none,[(8,some ([1], fun nv=>((nv 1),.box 27 [.rd z01 (⟨[],[]⟩:z00)]))),(10,some ([1], fun nv=>((nv 1),.box 27 [.rd z01 r27.1])))]⟩,⟨14,none,[(9,some ([2], fun nv=>((nv 2),.box 78 [.rd aZ (Vector.replicate 32 0)]))),(11,some ([2], fun nv=>((nv 2),.box 78 [.rd aZ r27.2.1])))]⟩] [pk 60 (.rd z01 r20.1) [(0,0,false)],pd 61 (.rd z0u r24),pd 62 (.rd z0h (⟨4,([114]:List UInt8),r24⟩:z06)),pk 63 (.tup [.rd z01 r27.1,.rd aZ r27.2.1,.rd z0f r27.2.2]) [(1,0,false)],pd 59 (.tup [.rd z01 r27.1,.rd aZ r27.2.1,.rd z0f r27.2.2]),pd 64 (.rd z01 r27.1),pd 65 (.rd aZ r27.2.1),pd 66 (.rd z0f r27.2.2),⟨some (17,[1], fun nv=>.val (z07 (nv 1) 0)),[(2,0,true)],[1],[]⟩,⟨some (18,[2], fun nv=>.val (z07 (nv 2) 0)),[(3,0,true)],[2],[]⟩,⟨none,[(2,1,true)],[],[]⟩,⟨none,[(3,1,true)],[],[]⟩,pd 19 (.rd z0f r27.2.2)] mixed (oC (oRn (fun nv E=>ld 11 Z Z fH z7q Z))<|oC (oCl [] [] [] h26 Tryz.func43 Z (fun nv=>(z5f _)) (fun nv=>(Y1 Z)) (fun nv E=>rN))<|oC (oRn (fun nv E=>bld (x':=(⟨4,([114]:List UInt8),r24⟩:z06)) [(0,1),(1,1),(2,4)] Tryz.underlying64 zjk Z zlw Z (Bld.cons (z1p _) Z Z<|Bld.cons (z3n _) Z Z<|Bld.cons (z5a _) Z Z<|Bld.done Z)))<|oC (oCl [] [1001] [] h29 Tryz.func41 Z (fun nv=>(z49 _ _ _ _)) (fun nv=>(aQ Z<|aQ Z<|aQ Z<|aNil Z<|aN)) (fun nv E=>(y1 Z)))<|oC (oRn (fun nv E=>mv Z))<|oC (oRn (fun nv E=>ext Z Z))<|oC (oRn (fun nv E=>ext Z Z))<|oC (oRn (fun nv E=>ext Z Z))<|oC (oEb 13 1 (fun nv E=>z4w 13 z4f (.zr (R:=z01) (x:=(⟨[],[]⟩:z00)) zr27)))<|oC (oEb 14 2 (fun nv E=>z4w 14 z3h (.zr (R:=aZ) (x:=(Vector.replicate 32 0)) zf6)))<|oC (oEs 13 (fun nv E=>sto 13 Z Z fH Z z4f))<|oC (oEs 14 (fun nv E=>sto 14 Z Z fH Z z3h))<|oC (oRn (fun nv E=>asg Z))<|oN) fun n30=>z0t<|gSR<|Zb Z<|zb9 (fun (s31:Int) aa ww=>∃ nv:Nat→Value,Sta (ctx 113 H [zG1] w) [(3,.val (z07 v5 0)),(5,.rd z0f r3.2.2),(6,.val (z07 v9 0)),(8,.rd z0f r7.2.2),(9,.val (z07 v14 0)),(11,.rd z0f r12.2.2),(12,.val (n17 0)),(13,.rd z0c r16.2),(16,.rd z0f r20.2.2),(17,.val (z07 (nv 0) 0)),(19,.rd z0f r27.2.2),(20,.rd z0c s31)] [(3,some (v5,.box 27 [.rd z01 r3.1])),(5,some (v9,.box 27 [.rd z01 r7.1])),(8,some (v14,.box 27 [.rd z01 r12.1])),(10,some ((n17 0),.list z6a 9 r16.1)),(13,some ((nv 0),.box 27 [.rd z01 r27.1])),zG1] aa ww) ?_ (fun s31=>?_)
 ·
  refine gSR<|Zq (ld 12 Z Z fH z6s Z)<|Zq (ld 14 Z Z fH z6s Z)<|Zc [] [] Tryz.func70 Z (zhd _ _) fun r32 n33=>Zj Z (fun h34=>?_) (fun h34=>?_)
  ·
   refine z3d<|Za Z<|z2c<|z4k (fun aa ww h=>⟨nvl [(n30 1)],Zu h [3,5,8,10,13,1001]⟩)
  ·
   refine z5o<|z4k (fun aa ww h=>⟨nvl [(n30 1)],Zu h [3,5,8,10,13,1001]⟩)
 ·
  refine gEx fun n35=>z11<|zb6 [1001,1041] mixed Z Z<|hTk 0 Z Z (mv Z)<|hTk 1 Z Z (mv Z)<|hIf 71 Z Z (fun h36=>?_) (fun h36=>?_)
  ·
   refine hKn 5 Z Z h36<|hKn 70 Z Z h36<|Zg 2 Z Z (mv Z)<|hTk 3 Z Z (pkT Z Z)<|hTk 4 Z Z (mv Z)<|hIf 74 Z Z (fun h37=>?_) (fun h37=>?_)
   ·
    refine hKn 8 Z Z h37<|hKn 72 Z Z h37<|hKn 73 Z Z h37<|Zg 5 Z Z (mv Z)<|hTk 6 Z Z (pkT Z Z)<|hTk 7 Z Z (mv Z)<|hIf 77 Z Z (fun h38=>?_) (fun h38=>?_)
    ·
     refine hKn 11 Z Z h38<|hKn 75 Z Z h38<|hKn 76 Z Z h38<|Zg 8 Z Z (mv Z)<|Zg 9 Z Z (I.eql Z Z)<|hTk 10 Z Z (pkT Z Z)<|hTk 11 Z Z (mv Z)<|hIf 81 Z Z (fun h39=>?_) (fun h39=>?_)
     ·
      refine hKn 79 Z Z h39<|hKn 80 Z Z h39<|Zg 12 Z Z (mv Z)<|hDo 13 Z (by kernel_rfl) Zx Z Z Z (lit (R:=z6a) ([([97]:List UInt8)]:List (List UInt8)) 1041 (pP Z Z<|pN) Z tu47 ti9 Z Z) (fun _=>rfl) fun v40=>hFrz 10 [12,82] Z (fS Z<|fS Z<|fN)<|hFrz 1041 [83] Z (fS Z<|fN)<|z7s 14 [] [] Z (by kernel_rfl) Z Zx Z Tryz.func29 Z Z (z8e _ _) (Y2 Z Z) rN Z (fun _ _=>z8r) fun r41 n42=>hTk 15 Z Z (pkT Z Z)<|hTk 16 Z Z (mv Z)<|hIf 86 Z Z (fun h43=>?_) (fun h43=>?_)
      ·
       refine hKn 84 Z Z h43<|hKn 85 Z Z h43<|Zg 17 Z Z (ld 3 Z Z fH z7q Z)<|Zg 18 Z Z (bld (x':=(⟨0,0,0,[]⟩:z03)) [(0,1),(1,1),(2,1),(3,1)] Tryz.underlying54 zel Z zmp Z (Bld.done Z))<|z7s 19 [1001] [] Z (by kernel_rfl) Z Zx Z Tryz.func42 Z Z (z3c _ _ _ _) (aQ Z<|aQ Z<|aQ Z<|aQ Z<|aN) (y1 Z) Z (fun _ _=>z8r) fun r44 n45=>hTk 20 Z Z (pkT Z Z)<|hTk 21 Z Z (mv Z)<|hIf 91 Z Z (fun h46=>?_) (fun h46=>?_)
       ·
        refine hKn 89 Z Z h46<|hKn 90 Z Z h46<|Zg 22 Z Z (ld 5 Z Z fH z7q Z)<|Zg 23 Z Z (bld (x':=(⟨0,0,0,[]⟩:z03)) [(0,1),(1,1),(2,1),(3,1)] Tryz.underlying54 zel Z zmp Z (Bld.done Z))<|z7s 24 [1001] [] Z (by kernel_rfl) Z Zx Z Tryz.func42 Z Z (z3c _ _ _ _) (aQ Z<|aQ Z<|aQ Z<|aQ Z<|aN) (y1 Z) Z (fun _ _=>z8r) fun r47 n48=>hTk 25 Z Z (pkT Z Z)<|hTk 26 Z Z (mv Z)<|hIf 96 Z Z (fun h49=>?_) (fun h49=>?_)
        ·
         refine hKn 94 Z Z h49<|hKn 95 Z Z h49<|Zg 27 Z Z (ld 8 Z Z fH z7q Z)<|Zg 28 Z Z (bld (x':=(⟨0,0,0,[]⟩:z03)) [(0,1),(1,1),(2,1),(3,1)] Tryz.underlying54 zel Z zmp Z (Bld.done Z))<|z7s 29 [1001] [] Z (by kernel_rfl) Z Zx Z Tryz.func42 Z Z (z3c _ _ _ _) (aQ Z<|aQ Z<|aQ Z<|aQ Z<|aN) (y1 Z) Z (fun _ _=>z8r) fun r50 n51=>hTk 30 Z Z (pkT Z Z)<|hTk 31 Z Z (mv Z)<|hIf 101 Z Z (fun h52=>?_) (fun h52=>?_)
         ·
          refine hKn 99 Z Z h52<|hKn 100 Z Z h52<|Zg 32 Z Z (mv Z)<|hTk 33 Z Z (pkT Z Z)<|hTk 34 Z Z (mv Z)<|hIf 104 Z Z (fun h53=>?_) (fun h53=>?_)
          ·
           refine hKn 16 Z Z h53<|hKn 102 Z Z h53<|hKn 103 Z Z h53<|Zg 35 Z Z (mv Z)<|hTk 36 Z Z (pkT Z Z)<|hTk 37 Z Z (mv Z)<|hIf 107 Z Z (fun h54=>?_) (fun h54=>?_)
           ·
            refine hKn 19 Z Z h54<|hKn 105 Z Z h54<|hKn 106 Z Z h54<|Zg 38 Z Z (ld 13 Z Z fH z7q Z)<|Zg 39 Z Z (mv Z)<|z14d 40 [] [] Z (by kernel_rfl) Z Zx Z Tryz.func43 Z Z (z5f _) (Y1 Z) rN Z fun r55 n56=>z7s 41 [1001] [] Z (by kernel_rfl) Z Zx Z Tryz.func42 Z Z (z3c _ _ _ _) (aQ Z<|aQ Z<|aQ Z<|aQ Z<|aN) (y1 Z) Z (fun _ _=>z8r) fun r57 n58=>hTk 42 Z Z (pkT Z Z)<|hTk 43 Z Z (asg Z)<|z4h (by kernel_rfl)<|z0t<|z0w<|Ze [] [1001] Z
           ·
            refine hKn 19 Z Z h54<|hKn 105 Z Z h54<|hKn 106 Z Z h54<|hSk 38 Z Z<|hSk 39 Z Z<|hSk 40 Z Z<|hSk 41 Z Z<|hTk 42 Z Z (pkF Z Z)<|hTk 43 Z Z (asg Z)<|z4h (by kernel_rfl)<|z0t<|z0w<|Ze [] [1001] Z
          ·
           refine hKn 16 Z Z h53<|hKn 102 Z Z h53<|hKn 103 Z Z h53<|hSk 35 Z Z<|hTk 36 Z Z (pkF Z Z)<|hTk 37 Z Z (mv Z)<|hSk 38 Z Z<|hSk 39 Z Z<|hSk 40 Z Z<|hSk 41 Z Z<|hTk 42 Z Z (pkF Z Z)<|hTk 43 Z Z (asg Z)<|z4h (by kernel_rfl)<|z0t<|z0w<|Ze [] [1001] Z
         ·
          refine hKn 99 Z Z h52<|hKn 100 Z Z h52<|hSk 32 Z Z<|hTk 33 Z Z (pkF Z Z)<|hTk 34 Z Z (mv Z)<|hSk 35 Z Z<|hTk 36 Z Z (pkF Z Z)<|hTk 37 Z Z (mv Z)<|hSk 38 Z Z<|hSk 39 Z Z<|hSk 40 Z Z<|hSk 41 Z Z<|hTk 42 Z Z (pkF Z Z)<|hTk 43 Z Z (asg Z)<|z4h (by kernel_rfl)<|z0t<|z0w<|Ze [] [1001] Z
        ·
         refine hKn 94 Z Z h49<|hKn 95 Z Z h49<|hSk 27 Z Z<|hSk 28 Z Z<|hSk 29 Z Z<|hTk 30 Z Z (pkF Z Z)<|hTk 31 Z Z (mv Z)<|hSk 32 Z Z<|hTk 33 Z Z (pkF Z Z)<|hTk 34 Z Z (mv Z)<|hSk 35 Z Z<|hTk 36 Z Z (pkF Z Z)<|hTk 37 Z Z (mv Z)<|hSk 38 Z Z<|hSk 39 Z Z<|hSk 40 Z Z<|hSk 41 Z Z<|hTk 42 Z Z (pkF Z Z)<|hTk 43 Z Z (asg Z)<|z4h (by kernel_rfl)<|z0t<|z0w<|Ze [] [1001] Z
       ·
        refine hKn 89 Z Z h46<|hKn 90 Z Z h46<|hSk 22 Z Z<|hSk 23 Z Z<|hSk 24 Z Z<|hTk 25 Z Z (pkF Z Z)<|hTk 26 Z Z (mv Z)<|hSk 27 Z Z<|hSk 28 Z Z<|hSk 29 Z Z<|hTk 30 Z Z (pkF Z Z)<|hTk 31 Z Z (mv Z)<|hSk 32 Z Z<|hTk 33 Z Z (pkF Z Z)<|hTk 34 Z Z (mv Z)<|hSk 35 Z Z<|hTk 36 Z Z (pkF Z Z)<|hTk 37 Z Z (mv Z)<|hSk 38 Z Z<|hSk 39 Z Z<|hSk 40 Z Z<|hSk 41 Z Z<|hTk 42 Z Z (pkF Z Z)<|hTk 43 Z Z (asg Z)<|z4h (by kernel_rfl)<|z0t<|z0w<|Ze [] [1001] Z
      ·
       refine hKn 84 Z Z h43<|hKn 85 Z Z h43<|hSk 17 Z Z<|hSk 18 Z Z<|hSk 19 Z Z<|hTk 20 Z Z (pkF Z Z)<|hTk 21 Z Z (mv Z)<|hSk 22 Z Z<|hSk 23 Z Z<|hSk 24 Z Z<|hTk 25 Z Z (pkF Z Z)<|hTk 26 Z Z (mv Z)<|hSk 27 Z Z<|hSk 28 Z Z<|hSk 29 Z Z<|hTk 30 Z Z (pkF Z Z)<|hTk 31 Z Z (mv Z)<|hSk 32 Z Z<|hTk 33 Z Z (pkF Z Z)<|hTk 34 Z Z (mv Z)<|hSk 35 Z Z<|hTk 36 Z Z (pkF Z Z)<|hTk 37 Z Z (mv Z)<|hSk 38 Z Z<|hSk 39 Z Z<|hSk 40 Z Z<|hSk 41 Z Z<|hTk 42 Z Z (pkF Z Z)<|hTk 43 Z Z (asg Z)<|z4h (by kernel_rfl)<|z0t<|z0w<|Ze [] [1001] Z
     ·
      refine hKn 79 Z Z h39<|hKn 80 Z Z h39<|hSk 12 Z Z<|hSk 13 Z Z<|hSk 14 Z Z<|hTk 15 Z Z (pkF Z Z)<|hTk 16 Z Z (mv Z)<|hSk 17 Z Z<|hSk 18 Z Z<|hSk 19 Z Z<|hTk 20 Z Z (pkF Z Z)<|hTk 21 Z Z (mv Z)<|hSk 22 Z Z<|hSk 23 Z Z<|hSk 24 Z Z<|hTk 25 Z Z (pkF Z Z)<|hTk 26 Z Z (mv Z)<|hSk 27 Z Z<|hSk 28 Z Z<|hSk 29 Z Z<|hTk 30 Z Z (pkF Z Z)<|hTk 31 Z Z (mv Z)<|hSk 32 Z Z<|hTk 33 Z Z (pkF Z Z)<|hTk 34 Z Z (mv Z)<|hSk 35 Z Z<|hTk 36 Z Z (pkF Z Z)<|hTk 37 Z Z (mv Z)<|hSk 38 Z Z<|hSk 39 Z Z<|hSk 40 Z Z<|hSk 41 Z Z<|hTk 42 Z Z (pkF Z Z)<|hTk 43 Z Z (asg Z)<|z4h (by kernel_rfl)<|z0t<|z0w<|Ze [] [1001] Z
    ·
     refine hKn 11 Z Z h38<|hKn 75 Z Z h38<|hKn 76 Z Z h38<|hSk 8 Z Z<|hSk 9 Z Z<|hTk 10 Z Z (pkF Z Z)<|hTk 11 Z Z (mv Z)<|hSk 12 Z Z<|hSk 13 Z Z<|hSk 14 Z Z<|hTk 15 Z Z (pkF Z Z)<|hTk 16 Z Z (mv Z)<|hSk 17 Z Z<|hSk 18 Z Z<|hSk 19 Z Z<|hTk 20 Z Z (pkF Z Z)<|hTk 21 Z Z (mv Z)<|hSk 22 Z Z<|hSk 23 Z Z<|hSk 24 Z Z<|hTk 25 Z Z (pkF Z Z)<|hTk 26 Z Z (mv Z)<|hSk 27 Z Z<|hSk 28 Z Z<|hSk 29 Z Z<|hTk 30 Z Z (pkF Z Z)<|hTk 31 Z Z (mv Z)<|hSk 32 Z Z<|hTk 33 Z Z (pkF Z Z)<|hTk 34 Z Z (mv Z)<|hSk 35 Z Z<|hTk 36 Z Z (pkF Z Z)<|hTk 37 Z Z (mv Z)<|hSk 38 Z Z<|hSk 39 Z Z<|hSk 40 Z Z<|hSk 41 Z Z<|hTk 42 Z Z (pkF Z Z)<|hTk 43 Z Z (asg Z)<|z4h (by kernel_rfl)<|z0t<|z0w<|Ze [] [1001] Z
   ·
    refine hKn 8 Z Z h37<|hKn 72 Z Z h37<|hKn 73 Z Z h37<|hSk 5 Z Z<|hTk 6 Z Z (pkF Z Z)<|hTk 7 Z Z (mv Z)<|hSk 8 Z Z<|hSk 9 Z Z<|hTk 10 Z Z (pkF Z Z)<|hTk 11 Z Z (mv Z)<|hSk 12 Z Z<|hSk 13 Z Z<|hSk 14 Z Z<|hTk 15 Z Z (pkF Z Z)<|hTk 16 Z Z (mv Z)<|hSk 17 Z Z<|hSk 18 Z Z<|hSk 19 Z Z<|hTk 20 Z Z (pkF Z Z)<|hTk 21 Z Z (mv Z)<|hSk 22 Z Z<|hSk 23 Z Z<|hSk 24 Z Z<|hTk 25 Z Z (pkF Z Z)<|hTk 26 Z Z (mv Z)<|hSk 27 Z Z<|hSk 28 Z Z<|hSk 29 Z Z<|hTk 30 Z Z (pkF Z Z)<|hTk 31 Z Z (mv Z)<|hSk 32 Z Z<|hTk 33 Z Z (pkF Z Z)<|hTk 34 Z Z (mv Z)<|hSk 35 Z Z<|hTk 36 Z Z (pkF Z Z)<|hTk 37 Z Z (mv Z)<|hSk 38 Z Z<|hSk 39 Z Z<|hSk 40 Z Z<|hSk 41 Z Z<|hTk 42 Z Z (pkF Z Z)<|hTk 43 Z Z (asg Z)<|z4h (by kernel_rfl)<|z0t<|z0w<|Ze [] [1001] Z
  ·
   refine hKn 5 Z Z h36<|hKn 70 Z Z h36<|hSk 2 Z Z<|hTk 3 Z Z (pkF Z Z)<|hTk 4 Z Z (mv Z)<|hSk 5 Z Z<|hTk 6 Z Z (pkF Z Z)<|hTk 7 Z Z (mv Z)<|hSk 8 Z Z<|hSk 9 Z Z<|hTk 10 Z Z (pkF Z Z)<|hTk 11 Z Z (mv Z)<|hSk 12 Z Z<|hSk 13 Z Z<|hSk 14 Z Z<|hTk 15 Z Z (pkF Z Z)<|hTk 16 Z Z (mv Z)<|hSk 17 Z Z<|hSk 18 Z Z<|hSk 19 Z Z<|hTk 20 Z Z (pkF Z Z)<|hTk 21 Z Z (mv Z)<|hSk 22 Z Z<|hSk 23 Z Z<|hSk 24 Z Z<|hTk 25 Z Z (pkF Z Z)<|hTk 26 Z Z (mv Z)<|hSk 27 Z Z<|hSk 28 Z Z<|hSk 29 Z Z<|hTk 30 Z Z (pkF Z Z)<|hTk 31 Z Z (mv Z)<|hSk 32 Z Z<|hTk 33 Z Z (pkF Z Z)<|hTk 34 Z Z (mv Z)<|hSk 35 Z Z<|hTk 36 Z Z (pkF Z Z)<|hTk 37 Z Z (mv Z)<|hSk 38 Z Z<|hSk 39 Z Z<|hSk 40 Z Z<|hSk 41 Z Z<|hTk 42 Z Z (pkF Z Z)<|hTk 43 Z Z (asg Z)<|z4h (by kernel_rfl)<|z0t<|z0w<|Ze [] [1001] Z
def z3m (a0:z00) (a1:Int) (a2:UInt64):Option (z00 × Bool) :=
 z2e a1 >>= fun r3 =>
 z15 a0 (⟨4,([114]:List UInt8),r3⟩:z06) a2 [] >>= fun r6 =>
 some (r6.1,r6.2.2)
set_option maxHeartbeats 4000000 in
theorem zbq (a0:z00) (a1:Int) (a2:UInt64):z36 Tryz.prog 40 [.rd z01 a0,.rd z0c a1,.rd z3u a2] [zG1] (z3m a0 a1 a2) (fun r nv=>⟨[.rd z01 r.1,.rd z0f r.2],[(1001,some (.bool true,.glob 1 (z4v 64 z0z) z58))]⟩):=by
 refine z4g 23 Tryz.func40 Z Z Z fun H w=>?_
 refine gSR<|Eb Z (bx 1 Z) fun v1=>Eb Z (z4w 2 z4f (ZrE.nilS (ZrE.nilS ZrE.nil))) fun v2=>Zb Z<|z11<|gSub [(1,.rd z0c a1),(2,.rd z3u a2),(3,.val (z07 v1 0)),(6,.val (z07 v2 0))] [zG1,(1,some (v1,.box 27 [.rd z01 a0])),(2,some (v2,.box 27 [.val (.slice none 0 0),.val (.slice none 0 0)]))] [1001,1,2] (Zs Z Z Z Z<|sN) (Zi Z<|Zi Z<|Zi Z<|rN)<|zf3 fun r3 h5=>zf3 fun r6 h8=>gOr [] [⟨1,some ([], fun nv=>(v1,.box 27 [.rd z01 a0])),[]⟩,⟨1001,some ([], fun nv=>((.bool true),.glob 1 (z4v 64 z0z) z58)),[]⟩,⟨3,none,[(10,some ([1], fun nv=>((nv 1),.box 27 [.rd z01 (⟨[],[]⟩:z00)]))),(12,some ([1], fun nv=>((nv 1),.box 27 [.rd z01 r6.1])))]⟩,⟨4,none,[(11,some ([2], fun nv=>((nv 2),.box 78 [.rd aZ (Vector.replicate 32 0)]))),(13,some ([2], fun nv=>((nv 2),.box 78 [.rd aZ r6.2.1])))]⟩] [pk 12 (.rd z01 a0) [(0,0,false)],pd 13 (.rd z0c a1),pd 14 (.rd z0u r3),pd 15 (.rd z0h (⟨4,([114]:List UInt8),r3⟩:z06)),pd 16 (.rd z3u a2),pk 17 (.tup [.rd z01 r6.1,.rd aZ r6.2.1,.rd z0f r6.2.2]) [(1,0,false)],pd 11 (.tup [.rd z01 r6.1,.rd aZ r6.2.1,.rd z0f r6.2.2]),pd 18 (.rd z01 r6.1),pd 19 (.rd aZ r6.2.1),pd 20 (.rd z0f r6.2.2),⟨some (8,[1], fun nv=>.val (z07 (nv 1) 0)),[(2,0,true)],[1],[]⟩,⟨some (9,[2], fun nv=>.val (z07 (nv 2) 0)),[(3,0,true)],[2],[]⟩,⟨none,[(2,1,true)],[],[]⟩,⟨none,[(3,1,true)],[],[]⟩,pd 10 (.rd z0f r6.2.2)] mixed (oC (oRn (fun nv E=>ld 1 Z Z fH z7q Z))<|oC (oRn (fun nv E=>mv Z))<|oC (oCl [] [] [] h5 Tryz.func43 Z (fun nv=>(z5f _)) (fun nv=>(Y1 Z)) (fun nv E=>rN))<|oC (oRn (fun nv E=>bld (x':=(⟨4,([114]:List UInt8),r3⟩:z06)) [(0,1),(1,1),(2,4)] Tryz.underlying64 zjk Z zlw Z (Bld.cons (z1p _) Z Z<|Bld.cons (z3n _) Z Z<|Bld.cons (z5a _) Z Z<|Bld.done Z)))<|oC (oRn (fun nv E=>mv Z))<|oC (oCl [] [1001] [] h8 Tryz.func41 Z (fun nv=>(z49 _ _ _ _)) (fun nv=>(aQ Z<|aQ Z<|aQ Z<|aNil Z<|aN)) (fun nv E=>(y1 Z)))<|oC (oRn (fun nv E=>mv Z))<|oC (oRn (fun nv E=>ext Z Z))<|oC (oRn (fun nv E=>ext Z Z))<|oC (oRn (fun nv E=>ext Z Z))<|oC (oEb 3 1 (fun nv E=>z4w 3 z4f (.zr (R:=z01) (x:=(⟨[],[]⟩:z00)) zr27)))<|oC (oEb 4 2 (fun nv E=>z4w 4 z3h (.zr (R:=aZ) (x:=(Vector.replicate 32 0)) zf6)))<|oC (oEs 3 (fun nv E=>sto 3 Z Z fH Z z4f))<|oC (oEs 4 (fun nv E=>sto 4 Z Z fH Z z3h))<|oC (oRn (fun nv E=>asg Z))<|oN) fun n9=>z0t<|gSR<|Zq (ld 3 Z Z fH z7q Z)<|Zm Z<|z89 aZ [.rd (z02 aZ) [],.val (.slice none 0 0)] 2 [] [.val (.slice none 0 0)] Z Z Z<|z89 z04 [.rd (z02 aZ) [],.rd (z02 z04) []] 2 [.rd (z02 aZ) []] [] Z Z Z<|zb2 (R:=z01) (⟨[],[]⟩:z00) 2 Z (Sp.via (Sp.prod (Sp.prod Sp.unit)))<|Es (sto 2 Z Z fH Z z4f)<|Zb Z<|z0w<|zdc [] [1001] Z (eC 2 Z Z z7q<|eE Z<|eN) (y1 Z)
def z3b (s100:(List z00) × Int) (s105:(List V3) × (List z05) × Int):Option (Sum (Sum (Sum (Sum Bool ((List z00))) ((List z00) × Int)) ((List V3) × (List z05))) ((List V3) × (List z05) × Int)) :=
 if decide (s105.2.2<13) then
  z3m (⟨s105.1,s105.2.1⟩:z00) (w64 ((w64 (100 * s100.2))+s105.2.2)) 1 >>= fun r107 =>
  if !r107.2 then
   some (.inl (.inl (.inl (.inl false))))
  else
   some (w64 (s105.2.2+1)) >>= fun y111 =>
   some (.inr (r107.1.IDs,r107.1.Ops,y111))
 else
  some (.inl (.inr (s105.1,s105.2.1)))
def z2a (s100:(List z00) × Int):Option (Sum (Sum Bool ((List z00))) ((List z00) × Int)) :=
 if decide (s100.2<5) then
  z4x (iter (z3b s100) ([],[],0)) fun s104 =>
  app 48 s100.1 [(⟨s104.1,s104.2⟩:z00)] >>= fun x113 =>
  some (w64 (s100.2+1)) >>= fun y116 =>
  some (.inr (x113,y116))
 else
  some (.inl (.inr s100.1))
def z7o  : Option (Bool) :=
 z3m (⟨[],[]⟩:z00) 5 1000000000000 >>= fun r1 =>
 z3m r1.1 6 999999999999 >>= fun r4 =>
 z15 r4.1 (⟨1,[],(⟨0,0,0,[]⟩:z03)⟩:z06) 0 [] >>= fun r7 =>
 (if r1.2 then
  if r4.2 then
   if r7.2.2 then
    z2e 5 >>= fun r15 =>
    z2j r7.1 ([114]:List UInt8) false r15 >>= fun r17 =>
    if r17 then
     z2j r7.1 [] false (⟨0,0,0,[]⟩:z03) >>= fun r20 =>
     if r20 then
      z2j (⟨[],[]⟩:z00) ([114]:List UInt8) false (⟨0,0,0,[]⟩:z03) >>= fun r23 =>
      some r23
     else
      some false
    else
     some false
   else
    some false
  else
   some false
 else
  some false) >>= fun s11 =>
 z2q r7.1 >>= fun r25 =>
 z2q (⟨[],[]⟩:z00) >>= fun r27 =>
 z3p r7.1 r1.1 >>= fun r29 =>
 z3p (⟨[],[]⟩:z00) r7.1 >>= fun r31 =>
 z1s [] >>= fun r33 =>
 z8p [] >>= fun r36 =>
 z4t [] >>= fun r39 =>
 z5p [] >>= fun r41 =>
 (if r25.2==0 then
  z4p r25.1 [([114]:List UInt8)] >>= fun r46 =>
  if r46 then
   if r27.2==0 then
    if (r27.1.length:Int)==0 then
     if r29.2==0 then
      if (r29.1.length:Int)==0 then
       if r31.2==0 then
        z4p r31.1 [([114]:List UInt8)] >>= fun r55 =>
        if r55 then
         if r33.2==0 then
          if (r33.1.Ops.length:Int)==0 then
           if r36.2==0 then
            if (r36.1.Ops.length:Int)==0 then
             if r39.2==0 then
              if (r39.1.length:Int)==0 then
               if r41.2==0 then
                some r41.1
               else
                some false
              else
               some false
             else
              some false
            else
             some false
           else
            some false
          else
           some false
         else
          some false
        else
         some false
       else
        some false
      else
       some false
     else
      some false
    else
     some false
   else
    some false
  else
   some false
 else
  some false) >>= fun s43 =>
 mkn 48 (⟨[],[]⟩:z00) 6 >>= fun x67 =>
 z1s x67 >>= fun r70 =>
 z1s [r1.1,(⟨[ze2 (Vector.replicate 32 0) ((0:Nat):Int) 1],[]⟩:z00)] >>= fun r74 =>
 z5p [(⟨[ze2 (Vector.replicate 32 0) ((0:Nat):Int) 1],[]⟩:z00)] >>= fun r78 =>
 z2n (⟨[ze2 (Vector.replicate 32 0) ((0:Nat):Int) 1],[]⟩:z00) ([114]:List UInt8) >>= fun r80 =>
 z2q (⟨[ze2 (Vector.replicate 32 0) ((0:Nat):Int) 1],[]⟩:z00) >>= fun r83 =>
 z3p r1.1 (⟨[ze2 (Vector.replicate 32 0) ((0:Nat):Int) 1],[]⟩:z00) >>= fun r85 =>
 (if r70.2==4 then
  if r74.2==8 then
   if r78.2==8 then
    if r80.2.2==8 then
     if r83.2==8 then
      if r85.2==8 then
       mkn 48 (⟨[],[]⟩:z00) 5 >>= fun x94 =>
       z1r x94 >>= fun r97 =>
       some (r97==0)
      else
       some false
     else
      some false
    else
     some false
   else
    some false
  else
   some false
 else
  some false) >>= fun s87 =>
 z4x (iter (z2a) ([],0)) fun s99 =>
 z1s s99 >>= fun r118 =>
 z4t s99 >>= fun r121 =>
 cut s99 0 4 >>= fun x123 =>
 z1s x123 >>= fun r125 =>
 z4t [r1.1,r4.1] >>= fun r129 =>
 if s11 then
  if s43 then
   if s87 then
    if r118.2==4 then
     if r121.2==4 then
      if r125.2==0 then
       if (r125.1.Ops.length:Int)==52 then
        if r129.2==0 then
         if (r129.1.length:Int)==2 then
          idx r129.1 0 >>= fun x140 =>
          if (x140.length:Int)==1 then
           idx r129.1 1 >>= fun x143 =>
           if (x143.length:Int)==0 then
            za2 >>= fun r146 =>
            some r146
           else
            some false
          else
           some false
         else
          some false
        else
         some false
       else
        some false
      else
       some false
     else
      some false
    else
     some false
   else
    some false
  else
   some false
 else
  some false
end
section
open Go Go.RowKit
set_option maxRecDepth 100000
theorem ze0  : z36 Tryz.prog 7 [] [zG1] (z7o) (fun r nv=>⟨[.rd z0f r],[(1001,some (.bool true,.glob 1 (z4v 64 z0z) z58))]⟩):=by
 refine z4g 367 Tryz.func7 Z Z Z fun H w=>?_
 refine gSR<|Zb Z<|gSR<|Zq (bld (x':=(⟨[],[]⟩:z00)) [(0,1),(1,1)] Tryz.underlying27 z4f Z zr27 Z (Bld.done Z))<|Zc [1001] [] Tryz.func40 Z (zbq _ _ _) fun r1 n2=>Zm Z<|Zq (ext Z Z)<|Zq (ext Z Z)<|Eb Z (z4w 1 z4f (ZrE.nilS (ZrE.nilS ZrE.nil))) fun v3=>z89 aZ [.rd (z02 aZ) [],.val (.slice none 0 0)] 1 [] [.val (.slice none 0 0)] Z Z Z<|z89 z04 [.rd (z02 aZ) [],.rd (z02 z04) []] 1 [.rd (z02 aZ) []] [] Z Z Z<|zb2 (R:=z01) (⟨[],[]⟩:z00) 1 Z (Sp.via (Sp.prod (Sp.prod Sp.unit)))<|Es (sto 1 Z Z fH Z z4f)<|Zb Z<|gSR<|Zq (ld 1 Z Z fH z7q Z)<|Zc [1001] [] Tryz.func40 Z (zbq _ _ _) fun r4 n5=>Zm Z<|Zq (ext Z Z)<|Zq (ext Z Z)<|Eb Z (z4w 2 z4f (ZrE.nilS (ZrE.nilS ZrE.nil))) fun v6=>z89 aZ [.rd (z02 aZ) [],.val (.slice none 0 0)] 2 [] [.val (.slice none 0 0)] Z Z Z<|z89 z04 [.rd (z02 aZ) [],.rd (z02 z04) []] 2 [.rd (z02 aZ) []] [] Z Z Z<|zb2 (R:=z01) (⟨[],[]⟩:z00) 2 Z (Sp.via (Sp.prod (Sp.prod Sp.unit)))<|Es (sto 2 Z Z fH Z z4f)<|Zb Z<|gSR<|Zq (ld 2 Z Z fH z7q Z)<|Zq (bld (x':=(⟨1,[],(⟨0,0,0,[]⟩:z03)⟩:z06)) [(0,1),(1,1),(2,4)] Tryz.underlying64 zjk Z zlw Z (Bld.cons (z1p _) Z Z<|Bld.done Z))<|call [1001] [] Z Tryz.func41 Z Z (z49 _ _ _ _) (aQ Z<|aQ Z<|aQ Z<|aNil Z<|aN) (y1 Z) fun r7 n8=>Zm Z<|Zq (ext Z Z)<|Zq (ext Z Z)<|Zq (ext Z Z)<|Eb Z (z4w 3 z4f (ZrE.nilS (ZrE.nilS ZrE.nil))) fun v9=>Eb Z (z4w 4 z3h (.zr (R:=aZ) (x:=(Vector.replicate 32 0)) zf6)) fun v10=>z89 aZ [.rd (z02 aZ) [],.val (.slice none 0 0)] 3 [] [.val (.slice none 0 0)] Z Z Z<|z89 z04 [.rd (z02 aZ) [],.rd (z02 z04) []] 3 [.rd (z02 aZ) []] [] Z Z Z<|zb2 (R:=z01) (⟨[],[]⟩:z00) 3 Z (Sp.via (Sp.prod (Sp.prod Sp.unit)))<|Es (sto 3 Z Z fH Z z4f)<|Es (sto 4 Z Z fH Z z3h)<|Zb Z<|zb9 (fun (s11:Bool) aa ww=>Sta (ctx 367 H [zG1] w) [(1,.val (z07 v3 0)),(3,.val (z07 v6 0)),(5,.val (z07 v9 0)),(8,.rd z0f s11)] [(1,some (v3,.box 27 [.rd z01 r1.1])),(2,some (v6,.box 27 [.rd z01 r4.1])),(3,some (v9,.box 27 [.rd z01 r7.1])),zG1] aa ww) ?_ (fun s11=>?_)
 ·
  refine zb6 [1001] mixed Z Z<|hTk 0 Z Z (mv Z)<|hTk 1 Z Z (mv Z)<|hIf 73 Z Z (fun h12=>?_) (fun h12=>?_)
  ·
   refine hKn 59 Z Z h12<|hKn 2 Z Z h12<|hKn 72 Z Z h12<|Zg 2 Z Z (mv Z)<|hTk 3 Z Z (pkT Z Z)<|hTk 4 Z Z (mv Z)<|hIf 76 Z Z (fun h13=>?_) (fun h13=>?_)
   ·
    refine hKn 64 Z Z h13<|hKn 4 Z Z h13<|hKn 74 Z Z h13<|hKn 75 Z Z h13<|Zg 5 Z Z (mv Z)<|hTk 6 Z Z (pkT Z Z)<|hTk 7 Z Z (mv Z)<|hIf 79 Z Z (fun h14=>?_) (fun h14=>?_)
    ·
     refine hKn 71 Z Z h14<|hKn 7 Z Z h14<|hKn 77 Z Z h14<|hKn 78 Z Z h14<|Zg 8 Z Z (ld 3 Z Z fH z7q Z)<|z14d 9 [] [] Z (by kernel_rfl) Z Zx Z Tryz.func43 Z Z (z5f _) (Y1 Z) rN Z fun r15 n16=>z7s 10 [1001] [] Z (by kernel_rfl) Z Zx Z Tryz.func42 Z Z (z3c _ _ _ _) (aQ Z<|aQ Z<|aQ Z<|aQ Z<|aN) (y1 Z) Z (fun _ _=>z8r) fun r17 n18=>hTk 11 Z Z (pkT Z Z)<|hTk 12 Z Z (mv Z)<|hIf 84 Z Z (fun h19=>?_) (fun h19=>?_)
     ·
      refine hKn 82 Z Z h19<|hKn 83 Z Z h19<|Zg 13 Z Z (ld 3 Z Z fH z7q Z)<|Zg 14 Z Z (bld (x':=(⟨0,0,0,[]⟩:z03)) [(0,1),(1,1),(2,1),(3,1)] Tryz.underlying54 zel Z zmp Z (Bld.done Z))<|z7s 15 [1001] [] Z (by kernel_rfl) Z Zx Z Tryz.func42 Z Z (z3c _ _ _ _) (aQ Z<|aQ Z<|aQ Z<|aQ Z<|aN) (y1 Z) Z (fun _ _=>z8r) fun r20 n21=>hTk 16 Z Z (pkT Z Z)<|hTk 17 Z Z (mv Z)<|hIf 89 Z Z (fun h22=>?_) (fun h22=>?_)
      ·
       refine hKn 87 Z Z h22<|hKn 88 Z Z h22<|Zg 18 Z Z (bld (x':=(⟨[],[]⟩:z00)) [(0,1),(1,1)] Tryz.underlying27 z4f Z zr27 Z (Bld.done Z))<|Zg 19 Z Z (bld (x':=(⟨0,0,0,[]⟩:z03)) [(0,1),(1,1),(2,1),(3,1)] Tryz.underlying54 zel Z zmp Z (Bld.done Z))<|z7s 20 [1001] [] Z (by kernel_rfl) Z Zx Z Tryz.func42 Z Z (z3c _ _ _ _) (aQ Z<|aQ Z<|aQ Z<|aQ Z<|aN) (y1 Z) Z (fun _ _=>z8r) fun r23 n24=>hTk 21 Z Z (pkT Z Z)<|hTk 22 Z Z (asg Z)<|z4h (by kernel_rfl)<|z4k (fun aa ww h=>Zu h [1,2,3,1001])
      ·
       refine hKn 87 Z Z h22<|hKn 88 Z Z h22<|hSk 18 Z Z<|hSk 19 Z Z<|hSk 20 Z Z<|hTk 21 Z Z (pkF Z Z)<|hTk 22 Z Z (asg Z)<|z4h (by kernel_rfl)<|z4k (fun aa ww h=>Zu h [1,2,3,1001])
     ·
      refine hKn 82 Z Z h19<|hKn 83 Z Z h19<|hSk 13 Z Z<|hSk 14 Z Z<|hSk 15 Z Z<|hTk 16 Z Z (pkF Z Z)<|hTk 17 Z Z (mv Z)<|hSk 18 Z Z<|hSk 19 Z Z<|hSk 20 Z Z<|hTk 21 Z Z (pkF Z Z)<|hTk 22 Z Z (asg Z)<|z4h (by kernel_rfl)<|z4k (fun aa ww h=>Zu h [1,2,3,1001])
    ·
     refine hKn 71 Z Z h14<|hKn 7 Z Z h14<|hKn 77 Z Z h14<|hKn 78 Z Z h14<|hSk 8 Z Z<|hSk 9 Z Z<|hSk 10 Z Z<|hTk 11 Z Z (pkF Z Z)<|hTk 12 Z Z (mv Z)<|hSk 13 Z Z<|hSk 14 Z Z<|hSk 15 Z Z<|hTk 16 Z Z (pkF Z Z)<|hTk 17 Z Z (mv Z)<|hSk 18 Z Z<|hSk 19 Z Z<|hSk 20 Z Z<|hTk 21 Z Z (pkF Z Z)<|hTk 22 Z Z (asg Z)<|z4h (by kernel_rfl)<|z4k (fun aa ww h=>Zu h [1,2,3,1001])
   ·
    refine hKn 64 Z Z h13<|hKn 4 Z Z h13<|hKn 74 Z Z h13<|hKn 75 Z Z h13<|hSk 5 Z Z<|hTk 6 Z Z (pkF Z Z)<|hTk 7 Z Z (mv Z)<|hSk 8 Z Z<|hSk 9 Z Z<|hSk 10 Z Z<|hTk 11 Z Z (pkF Z Z)<|hTk 12 Z Z (mv Z)<|hSk 13 Z Z<|hSk 14 Z Z<|hSk 15 Z Z<|hTk 16 Z Z (pkF Z Z)<|hTk 17 Z Z (mv Z)<|hSk 18 Z Z<|hSk 19 Z Z<|hSk 20 Z Z<|hTk 21 Z Z (pkF Z Z)<|hTk 22 Z Z (asg Z)<|z4h (by kernel_rfl)<|z4k (fun aa ww h=>Zu h [1,2,3,1001])
  ·
   refine hKn 59 Z Z h12<|hKn 2 Z Z h12<|hKn 72 Z Z h12<|hSk 2 Z Z<|hTk 3 Z Z (pkF Z Z)<|hTk 4 Z Z (mv Z)<|hSk 5 Z Z<|hTk 6 Z Z (pkF Z Z)<|hTk 7 Z Z (mv Z)<|hSk 8 Z Z<|hSk 9 Z Z<|hSk 10 Z Z<|hTk 11 Z Z (pkF Z Z)<|hTk 12 Z Z (mv Z)<|hSk 13 Z Z<|hSk 14 Z Z<|hSk 15 Z Z<|hTk 16 Z Z (pkF Z Z)<|hTk 17 Z Z (mv Z)<|hSk 18 Z Z<|hSk 19 Z Z<|hSk 20 Z Z<|hTk 21 Z Z (pkF Z Z)<|hTk 22 Z Z (asg Z)<|z4h (by kernel_rfl)<|z4k (fun aa ww h=>Zu h [1,2,3,1001])
 ·
  refine gSR<|Zq (ld 3 Z Z fH z7q Z)<|Zc [1001] [(100,1100)] Tryz.func23 Z (z6j _) fun r25 n26=>Zm Z<|Zq (ext Z Z)<|Zq (ext Z Z)<|Za Z<|Zb Z<|gSR<|Zq (bld (x':=(⟨[],[]⟩:z00)) [(0,1),(1,1)] Tryz.underlying27 z4f Z zr27 Z (Bld.done Z))<|Zc [1001] [(100,1101)] Tryz.func23 Z (z6j _) fun r27 n28=>Zm Z<|Zq (ext Z Z)<|Zq (ext Z Z)<|Za Z<|Zb Z<|gSR<|Zq (ld 3 Z Z fH z7q Z)<|Zq (ld 1 Z Z fH z7q Z)<|Zc [1001] [(100,1102)] Tryz.func27 Z (zak _ _) fun r29 n30=>Zm Z<|Zq (ext Z Z)<|Zq (ext Z Z)<|Za Z<|Zb Z<|gSR<|Zq (bld (x':=(⟨[],[]⟩:z00)) [(0,1),(1,1)] Tryz.underlying27 z4f Z zr27 Z (Bld.done Z))<|Zq (ld 3 Z Z fH z7q Z)<|Zc [1001] [(100,1103)] Tryz.func27 Z (zak _ _) fun r31 n32=>Zm Z<|Zq (ext Z Z)<|Zq (ext Z Z)<|Za Z<|Zb Z<|gSR<|call [1001] [] Z Tryz.func13 Z Z (z5v _) (aNil Z<|aN) (y1 Z) fun r33 n34=>Zm Z<|Zq (ext Z Z)<|Zq (ext Z Z)<|Eb Z (z4w 1104 z4f (ZrE.nilS (ZrE.nilS ZrE.nil))) fun v35=>z89 aZ [.rd (z02 aZ) [],.val (.slice none 0 0)] 1104 [] [.val (.slice none 0 0)] Z Z Z<|z89 z04 [.rd (z02 aZ) [],.rd (z02 z04) []] 1104 [.rd (z02 aZ) []] [] Z Z Z<|zb2 (R:=z01) (⟨[],[]⟩:z00) 1104 Z (Sp.via (Sp.prod (Sp.prod Sp.unit)))<|Es (sto 1104 Z Z fH Z z4f)<|Zb Z<|gSR<|call [1001] [] Z Tryz.func15 Z Z (zix _) (aNil Z<|aN) (y1 Z) fun r36 n37=>Zm Z<|Zq (ext Z Z)<|Zq (ext Z Z)<|Eb Z (z4w 1105 z4f (ZrE.nilS (ZrE.nilS ZrE.nil))) fun v38=>z89 aZ [.rd (z02 aZ) [],.val (.slice none 0 0)] 1105 [] [.val (.slice none 0 0)] Z Z Z<|z89 z04 [.rd (z02 aZ) [],.rd (z02 z04) []] 1105 [.rd (z02 aZ) []] [] Z Z Z<|zb2 (R:=z01) (⟨[],[]⟩:z00) 1105 Z (Sp.via (Sp.prod (Sp.prod Sp.unit)))<|Es (sto 1105 Z Z fH Z z4f)<|Zb Z<|gSR<|call [1001] [(100,1106)] Z Tryz.func17 Z Z (zbi _) (aNil Z<|aN) (y1 Z) fun r39 n40=>Zm Z<|Zq (ext Z Z)<|Zq (ext Z Z)<|Za Z<|Zb Z<|gSR<|call [1001] [] Z Tryz.func11 Z Z (zfv _) (aNil Z<|aN) (y1 Z) fun r41 n42=>Zm Z<|Zq (ext Z Z)<|Zq (ext Z Z)<|Za Z<|Zb Z<|zb9 (fun (s43:Bool) aa ww=>Sta (ctx 367 H [zG1] w) [(1,.val (z07 v3 0)),(3,.val (z07 v6 0)),(8,.rd z0f s11),(25,.rd z0f s43)] [(1,some (v3,.box 27 [.rd z01 r1.1])),(2,some (v6,.box 27 [.rd z01 r4.1])),zG1] aa ww) ?_ (fun s43=>?_)
  ·
   refine z3d<|Zm Z<|Zq (I.eql Z Z)<|Zm Z<|z2i 134 Z (fun h44=>?_) (fun h44=>?_)
   ·
    refine lKn 133 Z h44<|z2x Zx Z Z (mv Z)<|Efg Zx Z Z (lit (R:=z6a) ([([114]:List UInt8)]:List (List UInt8)) 1107 (pP Z Z<|pN) Z tu47 ti9 Z Z) fun v45=>zfz 1100 [97,9,135] Z (fS Z<|fS Z<|fS Z<|fN)<|zfz 1107 [136] Z (fS Z<|fN)<|zoe [] [] Zx Z Tryz.func29 Z Z (z8e _ _) (Y2 Z Z) rN fun r46 n47=>Zq (pkT Z Z)<|Zm Z<|z2i 139 Z (fun h48=>?_) (fun h48=>?_)
    ·
     refine lKn 137 Z h48<|lKn 138 Z h48<|z2x Zx Z Z (mv Z)<|z2x Zx Z Z (I.eql Z Z)<|Zq (pkT Z Z)<|Zm Z<|z2i 143 Z (fun h49=>?_) (fun h49=>?_)
     ·
      refine lKn 141 Z h49<|lKn 142 Z h49<|z2x Zx Z Z (mv Z)<|z2x Zx Z Z (z5r Z (.own 1101 Z) Z tu47)<|z2x Zx Z Z (I.eql Z Z)<|Zq (pkT Z Z)<|Zm Z<|z2i 148 Z (fun h50=>?_) (fun h50=>?_)
      ·
       refine lKn 146 Z h50<|lKn 147 Z h50<|z2x Zx Z Z (mv Z)<|z2x Zx Z Z (I.eql Z Z)<|Zq (pkT Z Z)<|Zm Z<|z2i 152 Z (fun h51=>?_) (fun h51=>?_)
       ·
        refine lKn 150 Z h51<|lKn 151 Z h51<|z2x Zx Z Z (mv Z)<|z2x Zx Z Z (z5r Z (.own 1102 Z) Z tu47)<|z2x Zx Z Z (I.eql Z Z)<|Zq (pkT Z Z)<|Zm Z<|z2i 157 Z (fun h52=>?_) (fun h52=>?_)
        ·
         refine lKn 155 Z h52<|lKn 156 Z h52<|z2x Zx Z Z (mv Z)<|z2x Zx Z Z (I.eql Z Z)<|Zq (pkT Z Z)<|Zm Z<|z2i 161 Z (fun h53=>?_) (fun h53=>?_)
         ·
          refine lKn 159 Z h53<|lKn 160 Z h53<|z2x Zx Z Z (mv Z)<|Efg Zx Z Z (lit (R:=z6a) ([([114]:List UInt8)]:List (List UInt8)) 1108 (pP Z Z<|pN) Z tu47 ti9 Z Z) fun v54=>zfz 1103 [114,15,162] Z (fS Z<|fS Z<|fS Z<|fN)<|zfz 1108 [163] Z (fS Z<|fN)<|zoe [] [] Zx Z Tryz.func29 Z Z (z8e _ _) (Y2 Z Z) rN fun r55 n56=>Zq (pkT Z Z)<|Zm Z<|z2i 166 Z (fun h57=>?_) (fun h57=>?_)
          ·
           refine lKn 164 Z h57<|lKn 165 Z h57<|z2x Zx Z Z (mv Z)<|z2x Zx Z Z (I.eql Z Z)<|Zq (pkT Z Z)<|Zm Z<|z2i 170 Z (fun h58=>?_) (fun h58=>?_)
           ·
            refine lKn 168 Z h58<|lKn 169 Z h58<|z2x Zx Z Z (faB 1104 Z Z Tryz.underlying27 Z (by exact zf7))<|z2x Zx Z Z (ld 1104 Z Z (fP (z0n _)) zkh Z)<|z2x Zx Z Z (z5r Z .rd Z tu25)<|z2x Zx Z Z (I.eql Z Z)<|Zq (pkT Z Z)<|Zm Z<|z2i 176 Z (fun h59=>?_) (fun h59=>?_)
            ·
             refine lKn 174 Z h59<|lKn 175 Z h59<|z2x Zx Z Z (mv Z)<|z2x Zx Z Z (I.eql Z Z)<|Zq (pkT Z Z)<|Zm Z<|z2i 180 Z (fun h60=>?_) (fun h60=>?_)
             ·
              refine lKn 178 Z h60<|lKn 179 Z h60<|z2x Zx Z Z (faB 1105 Z Z Tryz.underlying27 Z (by exact zf7))<|z2x Zx Z Z (ld 1105 Z Z (fP (z0n _)) zkh Z)<|z2x Zx Z Z (z5r Z .rd Z tu25)<|z2x Zx Z Z (I.eql Z Z)<|Zq (pkT Z Z)<|Zm Z<|z2i 186 Z (fun h61=>?_) (fun h61=>?_)
              ·
               refine lKn 184 Z h61<|lKn 185 Z h61<|z2x Zx Z Z (mv Z)<|z2x Zx Z Z (I.eql Z Z)<|Zq (pkT Z Z)<|Zm Z<|z2i 190 Z (fun h62=>?_) (fun h62=>?_)
               ·
                refine lKn 188 Z h62<|lKn 189 Z h62<|z2x Zx Z Z (mv Z)<|z2x Zx Z Z (z5r Z (.own 1106 Z) Z tu38)<|z2x Zx Z Z (I.eql Z Z)<|Zq (pkT Z Z)<|Zm Z<|z2i 195 Z (fun h63=>?_) (fun h63=>?_)
                ·
                 refine lKn 193 Z h63<|lKn 194 Z h63<|z2x Zx Z Z (mv Z)<|z2x Zx Z Z (I.eql Z Z)<|Zq (pkT Z Z)<|Zm Z<|z2i 199 Z (fun h64=>?_) (fun h64=>?_)
                 ·
                  refine lKn 197 Z h64<|lKn 198 Z h64<|z2x Zx Z Z (mv Z)<|Zq (pkT Z Z)<|Za Z<|z2c<|z4k (fun aa ww h=>Zu h [1,2,1001])
                 ·
                  refine lKn 197 Z h64<|lKn 198 Z h64<|Zk Z<|Zq (pkF Z Z)<|Za Z<|z2c<|z4k (fun aa ww h=>Zu h [1,2,1001])
                ·
                 refine lKn 193 Z h63<|lKn 194 Z h63<|Zk Z<|Zk Z<|Zq (pkF Z Z)<|Zm Z<|Zk Z<|Zq (pkF Z Z)<|Za Z<|z2c<|z4k (fun aa ww h=>Zu h [1,2,1001])
               ·
                refine lKn 188 Z h62<|lKn 189 Z h62<|Zk Z<|Zk Z<|Zk Z<|Zq (pkF Z Z)<|Zm Z<|Zk Z<|Zk Z<|Zq (pkF Z Z)<|Zm Z<|Zk Z<|Zq (pkF Z Z)<|Za Z<|z2c<|z4k (fun aa ww h=>Zu h [1,2,1001])
              ·
               refine lKn 184 Z h61<|lKn 185 Z h61<|Zk Z<|Zk Z<|Zq (pkF Z Z)<|Zm Z<|Zk Z<|Zk Z<|Zk Z<|Zq (pkF Z Z)<|Zm Z<|Zk Z<|Zk Z<|Zq (pkF Z Z)<|Zm Z<|Zk Z<|Zq (pkF Z Z)<|Za Z<|z2c<|z4k (fun aa ww h=>Zu h [1,2,1001])
             ·
              refine lKn 178 Z h60<|lKn 179 Z h60<|Zk Z<|Zk Z<|Zk Z<|Zk Z<|Zq (pkF Z Z)<|Zm Z<|Zk Z<|Zk Z<|Zq (pkF Z Z)<|Zm Z<|Zk Z<|Zk Z<|Zk Z<|Zq (pkF Z Z)<|Zm Z<|Zk Z<|Zk Z<|Zq (pkF Z Z)<|Zm Z<|Zk Z<|Zq (pkF Z Z)<|Za Z<|z2c<|z4k (fun aa ww h=>Zu h [1,2,1001])
            ·
             refine lKn 174 Z h59<|lKn 175 Z h59<|Zk Z<|Zk Z<|Zq (pkF Z Z)<|Zm Z<|Zk Z<|Zk Z<|Zk Z<|Zk Z<|Zq (pkF Z Z)<|Zm Z<|Zk Z<|Zk Z<|Zq (pkF Z Z)<|Zm Z<|Zk Z<|Zk Z<|Zk Z<|Zq (pkF Z Z)<|Zm Z<|Zk Z<|Zk Z<|Zq (pkF Z Z)<|Zm Z<|Zk Z<|Zq (pkF Z Z)<|Za Z<|z2c<|z4k (fun aa ww h=>Zu h [1,2,1001])
           ·
            refine lKn 168 Z h58<|lKn 169 Z h58<|Zk Z<|Zk Z<|Zk Z<|Zk Z<|Zq (pkF Z Z)<|Zm Z<|Zk Z<|Zk Z<|Zq (pkF Z Z)<|Zm Z<|Zk Z<|Zk Z<|Zk Z<|Zk Z<|Zq (pkF Z Z)<|Zm Z<|Zk Z<|Zk Z<|Zq (pkF Z Z)<|Zm Z<|Zk Z<|Zk Z<|Zk Z<|Zq (pkF Z Z)<|Zm Z<|Zk Z<|Zk Z<|Zq (pkF Z Z)<|Zm Z<|Zk Z<|Zq (pkF Z Z)<|Za Z<|z2c<|z4k (fun aa ww h=>Zu h [1,2,1001])
          ·
           refine lKn 164 Z h57<|lKn 165 Z h57<|Zk Z<|Zk Z<|Zq (pkF Z Z)<|Zm Z<|Zk Z<|Zk Z<|Zk Z<|Zk Z<|Zq (pkF Z Z)<|Zm Z<|Zk Z<|Zk Z<|Zq (pkF Z Z)<|Zm Z<|Zk Z<|Zk Z<|Zk Z<|Zk Z<|Zq (pkF Z Z)<|Zm Z<|Zk Z<|Zk Z<|Zq (pkF Z Z)<|Zm Z<|Zk Z<|Zk Z<|Zk Z<|Zq (pkF Z Z)<|Zm Z<|Zk Z<|Zk Z<|Zq (pkF Z Z)<|Zm Z<|Zk Z<|Zq (pkF Z Z)<|Za Z<|z2c<|z4k (fun aa ww h=>Zu h [1,2,1001])
         ·
          refine lKn 159 Z h53<|lKn 160 Z h53<|Zk Z<|Zk Z<|Zk Z<|Zq (pkF Z Z)<|Zm Z<|Zk Z<|Zk Z<|Zq (pkF Z Z)<|Zm Z<|Zk Z<|Zk Z<|Zk Z<|Zk Z<|Zq (pkF Z Z)<|Zm Z<|Zk Z<|Zk Z<|Zq (pkF Z Z)<|Zm Z<|Zk Z<|Zk Z<|Zk Z<|Zk Z<|Zq (pkF Z Z)<|Zm Z<|Zk Z<|Zk Z<|Zq (pkF Z Z)<|Zm Z<|Zk Z<|Zk Z<|Zk Z<|Zq (pkF Z Z)<|Zm Z<|Zk Z<|Zk Z<|Zq (pkF Z Z)<|Zm Z<|Zk Z<|Zq (pkF Z Z)<|Za Z<|z2c<|z4k (fun aa ww h=>Zu h [1,2,1001])
        ·
         refine lKn 155 Z h52<|lKn 156 Z h52<|Zk Z<|Zk Z<|Zq (pkF Z Z)<|Zm Z<|Zk Z<|Zk Z<|Zk Z<|Zq (pkF Z Z)<|Zm Z<|Zk Z<|Zk Z<|Zq (pkF Z Z)<|Zm Z<|Zk Z<|Zk Z<|Zk Z<|Zk Z<|Zq (pkF Z Z)<|Zm Z<|Zk Z<|Zk Z<|Zq (pkF Z Z)<|Zm Z<|Zk Z<|Zk Z<|Zk Z<|Zk Z<|Zq (pkF Z Z)<|Zm Z<|Zk Z<|Zk Z<|Zq (pkF Z Z)<|Zm Z<|Zk Z<|Zk Z<|Zk Z<|Zq (pkF Z Z)<|Zm Z<|Zk Z<|Zk Z<|Zq (pkF Z Z)<|Zm Z<|Zk Z<|Zq (pkF Z Z)<|Za Z<|z2c<|z4k (fun aa ww h=>Zu h [1,2,1001])
       ·
        refine lKn 150 Z h51<|lKn 151 Z h51<|Zk Z<|Zk Z<|Zk Z<|Zq (pkF Z Z)<|Zm Z<|Zk Z<|Zk Z<|Zq (pkF Z Z)<|Zm Z<|Zk Z<|Zk Z<|Zk Z<|Zq (pkF Z Z)<|Zm Z<|Zk Z<|Zk Z<|Zq (pkF Z Z)<|Zm Z<|Zk Z<|Zk Z<|Zk Z<|Zk Z<|Zq (pkF Z Z)<|Zm Z<|Zk Z<|Zk Z<|Zq (pkF Z Z)<|Zm Z<|Zk Z<|Zk Z<|Zk Z<|Zk Z<|Zq (pkF Z Z)<|Zm Z<|Zk Z<|Zk Z<|Zq (pkF Z Z)<|Zm Z<|Zk Z<|Zk Z<|Zk Z<|Zq (pkF Z Z)<|Zm Z<|Zk Z<|Zk Z<|Zq (pkF Z Z)<|Zm Z<|Zk Z<|Zq (pkF Z Z)<|Za Z<|z2c<|z4k (fun aa ww h=>Zu h [1,2,1001])
      ·
       refine lKn 146 Z h50<|lKn 147 Z h50<|Zk Z<|Zk Z<|Zq (pkF Z Z)<|Zm Z<|Zk Z<|Zk Z<|Zk Z<|Zq (pkF Z Z)<|Zm Z<|Zk Z<|Zk Z<|Zq (pkF Z Z)<|Zm Z<|Zk Z<|Zk Z<|Zk Z<|Zq (pkF Z Z)<|Zm Z<|Zk Z<|Zk Z<|Zq (pkF Z Z)<|Zm Z<|Zk Z<|Zk Z<|Zk Z<|Zk Z<|Zq (pkF Z Z)<|Zm Z<|Zk Z<|Zk Z<|Zq (pkF Z Z)<|Zm Z<|Zk Z<|Zk Z<|Zk Z<|Zk Z<|Zq (pkF Z Z)<|Zm Z<|Zk Z<|Zk Z<|Zq (pkF Z Z)<|Zm Z<|Zk Z<|Zk Z<|Zk Z<|Zq (pkF Z Z)<|Zm Z<|Zk Z<|Zk Z<|Zq (pkF Z Z)<|Zm Z<|Zk Z<|Zq (pkF Z Z)<|Za Z<|z2c<|z4k (fun aa ww h=>Zu h [1,2,1001])
     ·
      refine lKn 141 Z h49<|lKn 142 Z h49<|Zk Z<|Zk Z<|Zk Z<|Zq (pkF Z Z)<|Zm Z<|Zk Z<|Zk Z<|Zq (pkF Z Z)<|Zm Z<|Zk Z<|Zk Z<|Zk Z<|Zq (pkF Z Z)<|Zm Z<|Zk Z<|Zk Z<|Zq (pkF Z Z)<|Zm Z<|Zk Z<|Zk Z<|Zk Z<|Zq (pkF Z Z)<|Zm Z<|Zk Z<|Zk Z<|Zq (pkF Z Z)<|Zm Z<|Zk Z<|Zk Z<|Zk Z<|Zk Z<|Zq (pkF Z Z)<|Zm Z<|Zk Z<|Zk Z<|Zq (pkF Z Z)<|Zm Z<|Zk Z<|Zk Z<|Zk Z<|Zk Z<|Zq (pkF Z Z)<|Zm Z<|Zk Z<|Zk Z<|Zq (pkF Z Z)<|Zm Z<|Zk Z<|Zk Z<|Zk Z<|Zq (pkF Z Z)<|Zm Z<|Zk Z<|Zk Z<|Zq (pkF Z Z)<|Zm Z<|Zk Z<|Zq (pkF Z Z)<|Za Z<|z2c<|z4k (fun aa ww h=>Zu h [1,2,1001])
    ·
     refine lKn 137 Z h48<|lKn 138 Z h48<|Zk Z<|Zk Z<|Zq (pkF Z Z)<|Zm Z<|Zk Z<|Zk Z<|Zk Z<|Zq (pkF Z Z)<|Zm Z<|Zk Z<|Zk Z<|Zq (pkF Z Z)<|Zm Z<|Zk Z<|Zk Z<|Zk Z<|Zq (pkF Z Z)<|Zm Z<|Zk Z<|Zk Z<|Zq (pkF Z Z)<|Zm Z<|Zk Z<|Zk Z<|Zk Z<|Zq (pkF Z Z)<|Zm Z<|Zk Z<|Zk Z<|Zq (pkF Z Z)<|Zm Z<|Zk Z<|Zk Z<|Zk Z<|Zk Z<|Zq (pkF Z Z)<|Zm Z<|Zk Z<|Zk Z<|Zq (pkF Z Z)<|Zm Z<|Zk Z<|Zk Z<|Zk Z<|Zk Z<|Zq (pkF Z Z)<|Zm Z<|Zk Z<|Zk Z<|Zq (pkF Z Z)<|Zm Z<|Zk Z<|Zk Z<|Zk Z<|Zq (pkF Z Z)<|Zm Z<|Zk Z<|Zk Z<|Zq (pkF Z Z)<|Zm Z<|Zk Z<|Zq (pkF Z Z)<|Za Z<|z2c<|z4k (fun aa ww h=>Zu h [1,2,1001])
   ·
    refine lKn 133 Z h44<|Zk Z<|Zk Z<|Zk Z<|Zq (pkF Z Z)<|Zm Z<|Zk Z<|Zk Z<|Zq (pkF Z Z)<|Zm Z<|Zk Z<|Zk Z<|Zk Z<|Zq (pkF Z Z)<|Zm Z<|Zk Z<|Zk Z<|Zq (pkF Z Z)<|Zm Z<|Zk Z<|Zk Z<|Zk Z<|Zq (pkF Z Z)<|Zm Z<|Zk Z<|Zk Z<|Zq (pkF Z Z)<|Zm Z<|Zk Z<|Zk Z<|Zk Z<|Zq (pkF Z Z)<|Zm Z<|Zk Z<|Zk Z<|Zq (pkF Z Z)<|Zm Z<|Zk Z<|Zk Z<|Zk Z<|Zk Z<|Zq (pkF Z Z)<|Zm Z<|Zk Z<|Zk Z<|Zq (pkF Z Z)<|Zm Z<|Zk Z<|Zk Z<|Zk Z<|Zk Z<|Zq (pkF Z Z)<|Zm Z<|Zk Z<|Zk Z<|Zq (pkF Z Z)<|Zm Z<|Zk Z<|Zk Z<|Zk Z<|Zq (pkF Z Z)<|Zm Z<|Zk Z<|Zk Z<|Zq (pkF Z Z)<|Zm Z<|Zk Z<|Zq (pkF Z Z)<|Za Z<|z2c<|z4k (fun aa ww h=>Zu h [1,2,1001])
  ·
   refine gSR<|Zq (bldG (x':=(ze2 (Vector.replicate 32 0) ((0:Nat):Int) 1:V3)) tu78 z3h zf6 ti5 (Bld.cons (z72.el (z15l (k:=0) (by decide))) Z Z<|Bld.done Z))<|Ef Z (lit (R:=aZ) ([ze2 (Vector.replicate 32 0) ((0:Nat):Int) 1]:List V3) 1109 (pP Z Z<|pN) Z tu24 z3h Z Z) fun v65=>Zq (zwv [(0,1),(1,1)] Tryz.underlying27 z4f (ZrE.nilS (ZrE.nilS ZrE.nil)) Z (zkj.cons Z Z z0a (zah.cast (zah.here z0a) Z)<|zkj.done Z))<|Eb Z (z4w 1110 z4f (ZrE.nilS (ZrE.nilS ZrE.nil))) fun v66=>Es (zws 1110 Z Z (z0j.cast (z0j.cons z0a (z0j.cons z0a z0j.nil)) Z) Z (z5l.cons z1q (z5l.cons z1q z5l.nil)) (z0j.cast (z0j.cons z0a (z0j.cons z0a z0j.nil)) Z) z4f)<|Zn<|gSR<|z0v fun x67 h68=>Ef Z (mks (R:=z01) 1111 Z Z h68 tu22 z4f zr27 Z) fun v69=>zfz 1111 [206] Z (fS Z<|fN)<|Zc [1001] [] Tryz.func13 Z (z5v _) fun r70 n71=>Zm Z<|Zq (ext Z Z)<|Zq (ext Z Z)<|Eb Z (z4w 1112 z4f (ZrE.nilS (ZrE.nilS ZrE.nil))) fun v72=>z89 aZ [.rd (z02 aZ) [],.val (.slice none 0 0)] 1112 [] [.val (.slice none 0 0)] Z Z Z<|z89 z04 [.rd (z02 aZ) [],.rd (z02 z04) []] 1112 [.rd (z02 aZ) []] [] Z Z Z<|zb2 (R:=z01) (⟨[],[]⟩:z00) 1112 Z (Sp.via (Sp.prod (Sp.prod Sp.unit)))<|Es (sto 1112 Z Z fH Z z4f)<|Zb Z<|gSR<|Zq (ld 1 Z Z fH z7q Z)<|zvv [.rd (z02 aZ) [ze2 (Vector.replicate 32 0) ((0:Nat):Int) 1],.val (.slice none 0 0)] 1110 1109 [] [.val (.slice none 0 0)] Z Z Z Z Z<|z89 z04 [.rd (z02 aZ) [ze2 (Vector.replicate 32 0) ((0:Nat):Int) 1],.rd (z02 z04) []] 1110 [.rd (z02 aZ) [ze2 (Vector.replicate 32 0) ((0:Nat):Int) 1]] [] Z Z Z<|zb2 (R:=z01) (⟨[ze2 (Vector.replicate 32 0) ((0:Nat):Int) 1],[]⟩:z00) 1110 Z (Sp.via (Sp.prod (Sp.prod Sp.unit)))<|Zq (ld 1110 Z Z fH z7q Z)<|Ef Z (lit (R:=z01) ([r1.1,(⟨[ze2 (Vector.replicate 32 0) ((0:Nat):Int) 1],[]⟩:z00)]:List z00) 1113 (pP Z Z<|pP Z Z<|pN) Z tu22 z4f Z Z) fun v73=>zfz 1113 [213] Z (fS Z<|fN)<|Zc [1001] [] Tryz.func13 Z (z5v _) fun r74 n75=>Zm Z<|Zq (ext Z Z)<|Zq (ext Z Z)<|Eb Z (z4w 1114 z4f (ZrE.nilS (ZrE.nilS ZrE.nil))) fun v76=>z89 aZ [.rd (z02 aZ) [],.val (.slice none 0 0)] 1114 [] [.val (.slice none 0 0)] Z Z Z<|z89 z04 [.rd (z02 aZ) [],.rd (z02 z04) []] 1114 [.rd (z02 aZ) []] [] Z Z Z<|zb2 (R:=z01) (⟨[],[]⟩:z00) 1114 Z (Sp.via (Sp.prod (Sp.prod Sp.unit)))<|Es (sto 1114 Z Z fH Z z4f)<|Zb Z<|gSR<|Zq (ld 1110 Z Z fH z7q Z)<|Ef Z (lit (R:=z01) ([(⟨[ze2 (Vector.replicate 32 0) ((0:Nat):Int) 1],[]⟩:z00)]:List z00) 1115 (pP Z Z<|pN) Z tu22 z4f Z Z) fun v77=>zfz 1115 [219] Z (fS Z<|fN)<|Zc [1001] [] Tryz.func11 Z (zfv _) fun r78 n79=>Zm Z<|Zq (ext Z Z)<|Zq (ext Z Z)<|Za Z<|Zb Z<|gSR<|Zq (ld 1110 Z Z fH z7q Z)<|Zc [1001] [] Tryz.func25 Z (zgm _ _) fun r80 n81=>Zm Z<|Zq (ext Z Z)<|Zq (ext Z Z)<|Zq (ext Z Z)<|Eb Z (z4w 1116 zel (.zr (R:=z0u) (x:=(⟨0,0,0,[]⟩:z03)) zmp)) fun v82=>Za Z<|Es (sto 1116 Z Z fH Z zel)<|Zb Z<|gSR<|Zq (ld 1110 Z Z fH z7q Z)<|Zc [1001] [(100,1117)] Tryz.func23 Z (z6j _) fun r83 n84=>Zm Z<|Zq (ext Z Z)<|Zq (ext Z Z)<|Za Z<|Zb Z<|gSR<|Zq (ld 1 Z Z fH z7q Z)<|Zq (ld 1110 Z Z fH z7q Z)<|Zc [1001] [(100,1118)] Tryz.func27 Z (zak _ _) fun r85 n86=>Zm Z<|Zq (ext Z Z)<|Zq (ext Z Z)<|Za Z<|Zb Z<|zb9 (fun (s87:Bool) aa ww=>Sta (ctx 367 H [zG1] w) [(1,.val (z07 v3 0)),(3,.val (z07 v6 0)),(8,.rd z0f s11),(25,.rd z0f s43),(40,.rd z0f s87)] [(1,some (v3,.box 27 [.rd z01 r1.1])),(2,some (v6,.box 27 [.rd z01 r4.1])),zG1] aa ww) ?_ (fun s87=>?_)
   ·
    refine z3d<|Zm Z<|Zq (I.eql Z Z)<|Zm Z<|z2i 242 Z (fun h88=>?_) (fun h88=>?_)
    ·
     refine lKn 241 Z h88<|z2x Zx Z Z (mv Z)<|z2x Zx Z Z (I.eql Z Z)<|Zq (pkT Z Z)<|Zm Z<|z2i 246 Z (fun h89=>?_) (fun h89=>?_)
     ·
      refine lKn 244 Z h89<|lKn 245 Z h89<|z2x Zx Z Z (mv Z)<|z2x Zx Z Z (I.eql Z Z)<|Zq (pkT Z Z)<|Zm Z<|z2i 250 Z (fun h90=>?_) (fun h90=>?_)
      ·
       refine lKn 248 Z h90<|lKn 249 Z h90<|z2x Zx Z Z (mv Z)<|z2x Zx Z Z (I.eql Z Z)<|Zq (pkT Z Z)<|Zm Z<|z2i 254 Z (fun h91=>?_) (fun h91=>?_)
       ·
        refine lKn 252 Z h91<|lKn 253 Z h91<|z2x Zx Z Z (mv Z)<|z2x Zx Z Z (I.eql Z Z)<|Zq (pkT Z Z)<|Zm Z<|z2i 258 Z (fun h92=>?_) (fun h92=>?_)
        ·
         refine lKn 256 Z h92<|lKn 257 Z h92<|z2x Zx Z Z (mv Z)<|z2x Zx Z Z (I.eql Z Z)<|Zq (pkT Z Z)<|Zm Z<|z2i 262 Z (fun h93=>?_) (fun h93=>?_)
         ·
          refine lKn 260 Z h93<|lKn 261 Z h93<|z0v fun x94 h95=>Efg Zx Z Z (mks (R:=z01) 1119 Z Z h95 tu22 z4f zr27 Z) fun v96=>zfz 1119 [263] Z (fS Z<|fN)<|zoe [1001] [] Zx Z Tryz.func20 Z Z (z9e _) (Y1 Z) (y1 Z) fun r97 n98=>z2x Zx Z Z (I.eql Z Z)<|Zq (pkT Z Z)<|Za Z<|z2c<|z4k (fun aa ww h=>Zu h [1,2,1001])
         ·
          refine lKn 260 Z h93<|lKn 261 Z h93<|Zk Z<|Zk Z<|Zk Z<|Zq (pkF Z Z)<|Za Z<|z2c<|z4k (fun aa ww h=>Zu h [1,2,1001])
        ·
         refine lKn 256 Z h92<|lKn 257 Z h92<|Zk Z<|Zk Z<|Zq (pkF Z Z)<|Zm Z<|Zk Z<|Zk Z<|Zk Z<|Zq (pkF Z Z)<|Za Z<|z2c<|z4k (fun aa ww h=>Zu h [1,2,1001])
       ·
        refine lKn 252 Z h91<|lKn 253 Z h91<|Zk Z<|Zk Z<|Zq (pkF Z Z)<|Zm Z<|Zk Z<|Zk Z<|Zq (pkF Z Z)<|Zm Z<|Zk Z<|Zk Z<|Zk Z<|Zq (pkF Z Z)<|Za Z<|z2c<|z4k (fun aa ww h=>Zu h [1,2,1001])
      ·
       refine lKn 248 Z h90<|lKn 249 Z h90<|Zk Z<|Zk Z<|Zq (pkF Z Z)<|Zm Z<|Zk Z<|Zk Z<|Zq (pkF Z Z)<|Zm Z<|Zk Z<|Zk Z<|Zq (pkF Z Z)<|Zm Z<|Zk Z<|Zk Z<|Zk Z<|Zq (pkF Z Z)<|Za Z<|z2c<|z4k (fun aa ww h=>Zu h [1,2,1001])
     ·
      refine lKn 244 Z h89<|lKn 245 Z h89<|Zk Z<|Zk Z<|Zq (pkF Z Z)<|Zm Z<|Zk Z<|Zk Z<|Zq (pkF Z Z)<|Zm Z<|Zk Z<|Zk Z<|Zq (pkF Z Z)<|Zm Z<|Zk Z<|Zk Z<|Zq (pkF Z Z)<|Zm Z<|Zk Z<|Zk Z<|Zk Z<|Zq (pkF Z Z)<|Za Z<|z2c<|z4k (fun aa ww h=>Zu h [1,2,1001])
    ·
     refine lKn 241 Z h88<|Zk Z<|Zk Z<|Zq (pkF Z Z)<|Zm Z<|Zk Z<|Zk Z<|Zq (pkF Z Z)<|Zm Z<|Zk Z<|Zk Z<|Zq (pkF Z Z)<|Zm Z<|Zk Z<|Zk Z<|Zq (pkF Z Z)<|Zm Z<|Zk Z<|Zk Z<|Zq (pkF Z Z)<|Zm Z<|Zk Z<|Zk Z<|Zk Z<|Zq (pkF Z Z)<|Za Z<|z2c<|z4k (fun aa ww h=>Zu h [1,2,1001])
   ·
    refine gSR<|Zb Z<|zb3 (fun (s99:(List z00)) aa ww=>∃ nv:Nat→Value,Sta (ctx 367 H [zG1] w) [(1,.val (z07 v3 0)),(3,.val (z07 v6 0)),(8,.rd z0f s11),(25,.rd z0f s43),(40,.rd z0f s87),(41,.val (nv 0))] [(1,some (v3,.box 27 [.rd z01 r1.1])),(2,some (v6,.box 27 [.rd z01 r4.1])),(1123,some ((nv 0),.list z01 27 s99)),zG1] aa ww) ?_ (fun s99=>?_)
    ·
     refine gSR<|Zb Z<|zzn z01 27 1128<|z3l (fun (s100:(List z00) × Int) aa ww=>∃ nv:Nat→Value,Sta (ctx 367 H [zG1] w) [(1,.val (z07 v3 0)),(3,.val (z07 v6 0)),(8,.rd z0f s11),(25,.rd z0f s43),(40,.rd z0f s87),(41,.val (nv 0)),(42,.rd z0c s100.2)] [(1,some (v3,.box 27 [.rd z01 r1.1])),(2,some (v6,.box 27 [.rd z01 r4.1])),(1127,some ((nv 0),.list z01 27 s100.1)),zG1] aa ww) (fun aa ww h=>⟨nvl [(.slice none 0 0)],Zu h [1,2,1128,1001]⟩) (fun s100=>?_)
     refine gEx fun n101=>z11<|gSR<|Zm Z<|Zq (I.lss Z Z)<|Zj Z (fun h102=>?_) (fun h102=>?_)
     ·
      refine Zt<|z11<|z85<|gSR<|Eb Z (z4w 1129 z4f (ZrE.nilS (ZrE.nilS ZrE.nil))) fun v103=>Zn<|zb3 (fun (s104:(List V3) × (List z05)) aa ww=>Sta (ctx 367 H [zG1] w) [(1,.val (z07 v3 0)),(3,.val (z07 v6 0)),(8,.rd z0f s11),(25,.rd z0f s43),(40,.rd z0f s87),(41,.val (n101 0)),(42,.rd z0c s100.2),(43,.val (z07 v103 0))] [(1,some (v3,.box 27 [.rd z01 r1.1])),(2,some (v6,.box 27 [.rd z01 r4.1])),(1127,some ((n101 0),.list z01 27 s100.1)),(1129,some (v103,.box 27 [.rd (z02 aZ) s104.1,.rd (z02 z04) s104.2])),zG1] aa ww) ?_ (fun s104=>?_)
      ·
       refine gSR<|Zb Z<|gPnl aZ [.rd (z02 aZ) [],.val (.slice none 0 0)] 1129 [] [.val (.slice none 0 0)] Z Z Z<|gPnl z04 [.rd (z02 aZ) [],.rd (z02 z04) []] 1129 [.rd (z02 aZ) []] [] Z Z Z<|z3l (fun (s105:(List V3) × (List z05) × Int) aa ww=>Sta (ctx 367 H [zG1] w) [(1,.val (z07 v3 0)),(3,.val (z07 v6 0)),(8,.rd z0f s11),(25,.rd z0f s43),(40,.rd z0f s87),(41,.val (n101 0)),(42,.rd z0c s100.2),(43,.val (z07 v103 0)),(44,.rd z0c s105.2.2)] [(1,some (v3,.box 27 [.rd z01 r1.1])),(2,some (v6,.box 27 [.rd z01 r4.1])),(1127,some ((n101 0),.list z01 27 s100.1)),(1129,some (v103,.box 27 [.rd (z02 aZ) s105.1,.rd (z02 z04) s105.2.1])),zG1] aa ww) (fun aa ww h=>Zu h [1,2,1127,1129,1001]) (fun s105=>?_)
       refine z11<|gSR<|Zm Z<|Zq (I.lss Z Z)<|Zj Z (fun h106=>?_) (fun h106=>?_)
       ·
        refine Zt<|z11<|z85<|gSR<|zb2 (R:=z01) (⟨s105.1,s105.2.1⟩:z00) 1129 Z (Sp.via (Sp.prod (Sp.prod Sp.unit)))<|Zq (ld 1129 Z Z fH z7q Z)<|Zm Z<|Zq (I.mul Z Z)<|Zm Z<|Zq (I.add Z Z)<|Zc [1001] [] Tryz.func40 Z (zbq _ _ _) fun r107 n108=>Zm Z<|Zq (ext Z Z)<|Zq (ext Z Z)<|Eb Z (z4w 1130 z4f (ZrE.nilS (ZrE.nilS ZrE.nil))) fun v109=>z89 aZ [.rd (z02 aZ) [],.val (.slice none 0 0)] 1130 [] [.val (.slice none 0 0)] Z Z Z<|z89 z04 [.rd (z02 aZ) [],.rd (z02 z04) []] 1130 [.rd (z02 aZ) []] [] Z Z Z<|zb2 (R:=z01) (⟨[],[]⟩:z00) 1130 Z (Sp.via (Sp.prod (Sp.prod Sp.unit)))<|Es (sto 1130 Z Z fH Z z4f)<|Zb Z<|z11<|gSR<|Zm Z<|Zq (zlr Z)<|Zj Z (fun h110=>?_) (fun h110=>?_)
        ·
         refine gSR<|Zb Z<|z0w<|z1e<|z88<|z1e<|zb5<|zag<|z88<|z1e<|zb5<|zag<|Ze [] [1001] Z
        ·
         refine Zt<|z3d<|Zq (ld 1130 Z Z fH z7q Z)<|Es (sto 1129 Z Z fH Z z4f)<|z2c<|z4r<|z0t<|z3d<|Zm Z<|Zq (I.add Z Z)<|Za Z<|z3j 44 Z fun y111=>z2c<|eSpl (R:=z01) 1129 Z (Sp.via (Sp.prod (Sp.prod Sp.unit)))<|z2k (fun aa ww h=>Zu h [1,2,1127,1129,1001])
       ·
        refine z3f<|z1h<|z1k<|za9 (fun aa ww h=>Zu h [1,2,1127,1129,1001])
      ·
       refine z3d<|Zm Z<|zb2 (R:=z01) (⟨s104.1,s104.2⟩:z00) 1129 Z (Sp.via (Sp.prod (Sp.prod Sp.unit)))<|Zq (ld 1129 Z Z fH z7q Z)<|Ef Z (lit (R:=z01) ([(⟨s104.1,s104.2⟩:z00)]:List z00) 1131 (pP Z Z<|pN) Z tu22 z4f Z Z) fun v112=>zfz 1131 [289] Z (fS Z<|fN)<|z0v fun x113 h114=>Ef Z (apn 1127 Z Z Z .rd h114 tu22 z4f Z Z Z) fun v115=>Za Z<|z2c<|z4r<|z0t<|z3d<|Zm Z<|Zq (I.add Z Z)<|Za Z<|z3j 42 Z fun y116=>z2c<|z2k (fun aa ww h=>⟨nvl [v115],Zu h [1,2,1127,1001]⟩)
     ·
      refine z3f<|z1h<|z1k<|za9 (fun aa ww h=>⟨nvl [(n101 0)],Zu h [1,2,1127,1001]⟩)
    ·
     refine gEx fun n117=>gSR<|Zm Z<|zfz 1123 [41,292] Z (fS Z<|fS Z<|fN)<|Zc [1001] [] Tryz.func13 Z (z5v _) fun r118 n119=>Zm Z<|Zq (ext Z Z)<|Zq (ext Z Z)<|Eb Z (z4w 1132 z4f (ZrE.nilS (ZrE.nilS ZrE.nil))) fun v120=>z89 aZ [.rd (z02 aZ) [],.val (.slice none 0 0)] 1132 [] [.val (.slice none 0 0)] Z Z Z<|z89 z04 [.rd (z02 aZ) [],.rd (z02 z04) []] 1132 [.rd (z02 aZ) []] [] Z Z Z<|zb2 (R:=z01) (⟨[],[]⟩:z00) 1132 Z (Sp.via (Sp.prod (Sp.prod Sp.unit)))<|Es (sto 1132 Z Z fH Z z4f)<|Zb Z<|gSR<|Zm Z<|Zc [1001] [(100,1133)] Tryz.func17 Z (zbi _) fun r121 n122=>Zm Z<|Zq (ext Z Z)<|Zq (ext Z Z)<|Za Z<|Zb Z<|gSR<|Zm Z<|z0v fun x123 h124=>Zq (cut' Z .no (.to Z) h124 tu22 z4f)<|Zc [1001] [] Tryz.func13 Z (z5v _) fun r125 n126=>Zm Z<|Zq (ext Z Z)<|Zq (ext Z Z)<|Eb Z (z4w 1134 z4f (ZrE.nilS (ZrE.nilS ZrE.nil))) fun v127=>z89 aZ [.rd (z02 aZ) [],.val (.slice none 0 0)] 1134 [] [.val (.slice none 0 0)] Z Z Z<|z89 z04 [.rd (z02 aZ) [],.rd (z02 z04) []] 1134 [.rd (z02 aZ) []] [] Z Z Z<|zb2 (R:=z01) (⟨[],[]⟩:z00) 1134 Z (Sp.via (Sp.prod (Sp.prod Sp.unit)))<|Es (sto 1134 Z Z fH Z z4f)<|Zb Z<|gSR<|Zq (ld 1 Z Z fH z7q Z)<|Zq (ld 2 Z Z fH z7q Z)<|Ef Z (lit (R:=z01) ([r1.1,r4.1]:List z00) 1135 (pP Z Z<|pP Z Z<|pN) Z tu22 z4f Z Z) fun v128=>zfz 1135 [310] Z (fS Z<|fN)<|Zc [1001] [(100,1136)] Tryz.func17 Z (zbi _) fun r129 n130=>Zm Z<|Zq (ext Z Z)<|Zq (ext Z Z)<|Za Z<|Zb Z<|gSR<|Zm Z<|z2x Zx Z Z (mv Z)<|Zq (pkT Z Z)<|Zm Z<|z2i 317 Z (fun h131=>?_) (fun h131=>?_)
     ·
      refine lKn 8 Z h131<|lKn 315 Z h131<|lKn 316 Z h131<|z2x Zx Z Z (mv Z)<|Zq (pkT Z Z)<|Zm Z<|z2i 320 Z (fun h132=>?_) (fun h132=>?_)
      ·
       refine lKn 25 Z h132<|lKn 318 Z h132<|lKn 319 Z h132<|z2x Zx Z Z (mv Z)<|Zq (pkT Z Z)<|Zm Z<|z2i 323 Z (fun h133=>?_) (fun h133=>?_)
       ·
        refine lKn 40 Z h133<|lKn 321 Z h133<|lKn 322 Z h133<|z2x Zx Z Z (mv Z)<|z2x Zx Z Z (I.eql Z Z)<|Zq (pkT Z Z)<|Zm Z<|z2i 327 Z (fun h134=>?_) (fun h134=>?_)
        ·
         refine lKn 325 Z h134<|lKn 326 Z h134<|z2x Zx Z Z (mv Z)<|z2x Zx Z Z (I.eql Z Z)<|Zq (pkT Z Z)<|Zm Z<|z2i 331 Z (fun h135=>?_) (fun h135=>?_)
         ·
          refine lKn 329 Z h135<|lKn 330 Z h135<|z2x Zx Z Z (mv Z)<|z2x Zx Z Z (I.eql Z Z)<|Zq (pkT Z Z)<|Zm Z<|z2i 335 Z (fun h136=>?_) (fun h136=>?_)
          ·
           refine lKn 333 Z h136<|lKn 334 Z h136<|z2x Zx Z Z (faB 1134 Z Z Tryz.underlying27 Z (by exact zf7))<|z2x Zx Z Z (ld 1134 Z Z (fP (z0n _)) zkh Z)<|z2x Zx Z Z (z5r Z .rd Z tu25)<|z2x Zx Z Z (I.eql Z Z)<|Zq (pkT Z Z)<|Zm Z<|z2i 341 Z (fun h137=>?_) (fun h137=>?_)
           ·
            refine lKn 339 Z h137<|lKn 340 Z h137<|z2x Zx Z Z (mv Z)<|z2x Zx Z Z (I.eql Z Z)<|Zq (pkT Z Z)<|Zm Z<|z2i 345 Z (fun h138=>?_) (fun h138=>?_)
            ·
             refine lKn 343 Z h138<|lKn 344 Z h138<|z2x Zx Z Z (mv Z)<|z2x Zx Z Z (z5r Z (.own 1136 Z) Z tu38)<|z2x Zx Z Z (I.eql Z Z)<|Zq (pkT Z Z)<|Zm Z<|z2i 350 Z (fun h139=>?_) (fun h139=>?_)
             ·
              refine lKn 348 Z h139<|lKn 349 Z h139<|z2x Zx Z Z (mv Z)<|z0v fun x140 h141=>z2x Zx Z Z (ixO 1136 Z Z Z h141 tu38 zae)<|z2x Zx Z Z (ld 1136 Z Z (Foc.el h141) ze3 Z)<|z2x Zx Z Z (z5r Z .rd Z tu24)<|z2x Zx Z Z (I.eql Z Z)<|Zq (pkT Z Z)<|Zm Z<|z2i 357 Z (fun h142=>?_) (fun h142=>?_)
              ·
               refine lKn 355 Z h142<|lKn 356 Z h142<|z2x Zx Z Z (mv Z)<|z0v fun x143 h144=>z2x Zx Z Z (ixO 1136 Z Z Z h144 tu38 zae)<|z2x Zx Z Z (ld 1136 Z Z (Foc.el h144) ze3 Z)<|z2x Zx Z Z (z5r Z .rd Z tu24)<|z2x Zx Z Z (I.eql Z Z)<|Zq (pkT Z Z)<|Zm Z<|z2i 364 Z (fun h145=>?_) (fun h145=>?_)
               ·
                refine lKn 362 Z h145<|lKn 363 Z h145<|zoe [1001] [] Zx Z Tryz.func30 Z Z (zhx) (aN) (y1 Z) fun r146 n147=>Zq (pkT Z Z)<|Zb Z<|z0w<|Ze [] [1001] Z
               ·
                refine lKn 362 Z h145<|lKn 363 Z h145<|Zk Z<|Zq (pkF Z Z)<|Zb Z<|z0w<|Ze [] [1001] Z
              ·
               refine lKn 355 Z h142<|lKn 356 Z h142<|Zk Z<|Zk Z<|Zk Z<|Zk Z<|Zk Z<|Zq (pkF Z Z)<|Zm Z<|Zk Z<|Zq (pkF Z Z)<|Zb Z<|z0w<|Ze [] [1001] Z
             ·
              refine lKn 348 Z h139<|lKn 349 Z h139<|Zk Z<|Zk Z<|Zk Z<|Zk Z<|Zk Z<|Zq (pkF Z Z)<|Zm Z<|Zk Z<|Zk Z<|Zk Z<|Zk Z<|Zk Z<|Zq (pkF Z Z)<|Zm Z<|Zk Z<|Zq (pkF Z Z)<|Zb Z<|z0w<|Ze [] [1001] Z
            ·
             refine lKn 343 Z h138<|lKn 344 Z h138<|Zk Z<|Zk Z<|Zk Z<|Zq (pkF Z Z)<|Zm Z<|Zk Z<|Zk Z<|Zk Z<|Zk Z<|Zk Z<|Zq (pkF Z Z)<|Zm Z<|Zk Z<|Zk Z<|Zk Z<|Zk Z<|Zk Z<|Zq (pkF Z Z)<|Zm Z<|Zk Z<|Zq (pkF Z Z)<|Zb Z<|z0w<|Ze [] [1001] Z
           ·
            refine lKn 339 Z h137<|lKn 340 Z h137<|Zk Z<|Zk Z<|Zq (pkF Z Z)<|Zm Z<|Zk Z<|Zk Z<|Zk Z<|Zq (pkF Z Z)<|Zm Z<|Zk Z<|Zk Z<|Zk Z<|Zk Z<|Zk Z<|Zq (pkF Z Z)<|Zm Z<|Zk Z<|Zk Z<|Zk Z<|Zk Z<|Zk Z<|Zq (pkF Z Z)<|Zm Z<|Zk Z<|Zq (pkF Z Z)<|Zb Z<|z0w<|Ze [] [1001] Z
          ·
           refine lKn 333 Z h136<|lKn 334 Z h136<|Zk Z<|Zk Z<|Zk Z<|Zk Z<|Zq (pkF Z Z)<|Zm Z<|Zk Z<|Zk Z<|Zq (pkF Z Z)<|Zm Z<|Zk Z<|Zk Z<|Zk Z<|Zq (pkF Z Z)<|Zm Z<|Zk Z<|Zk Z<|Zk Z<|Zk Z<|Zk Z<|Zq (pkF Z Z)<|Zm Z<|Zk Z<|Zk Z<|Zk Z<|Zk Z<|Zk Z<|Zq (pkF Z Z)<|Zm Z<|Zk Z<|Zq (pkF Z Z)<|Zb Z<|z0w<|Ze [] [1001] Z
         ·
          refine lKn 329 Z h135<|lKn 330 Z h135<|Zk Z<|Zk Z<|Zq (pkF Z Z)<|Zm Z<|Zk Z<|Zk Z<|Zk Z<|Zk Z<|Zq (pkF Z Z)<|Zm Z<|Zk Z<|Zk Z<|Zq (pkF Z Z)<|Zm Z<|Zk Z<|Zk Z<|Zk Z<|Zq (pkF Z Z)<|Zm Z<|Zk Z<|Zk Z<|Zk Z<|Zk Z<|Zk Z<|Zq (pkF Z Z)<|Zm Z<|Zk Z<|Zk Z<|Zk Z<|Zk Z<|Zk Z<|Zq (pkF Z Z)<|Zm Z<|Zk Z<|Zq (pkF Z Z)<|Zb Z<|z0w<|Ze [] [1001] Z
        ·
         refine lKn 325 Z h134<|lKn 326 Z h134<|Zk Z<|Zk Z<|Zq (pkF Z Z)<|Zm Z<|Zk Z<|Zk Z<|Zq (pkF Z Z)<|Zm Z<|Zk Z<|Zk Z<|Zk Z<|Zk Z<|Zq (pkF Z Z)<|Zm Z<|Zk Z<|Zk Z<|Zq (pkF Z Z)<|Zm Z<|Zk Z<|Zk Z<|Zk Z<|Zq (pkF Z Z)<|Zm Z<|Zk Z<|Zk Z<|Zk Z<|Zk Z<|Zk Z<|Zq (pkF Z Z)<|Zm Z<|Zk Z<|Zk Z<|Zk Z<|Zk Z<|Zk Z<|Zq (pkF Z Z)<|Zm Z<|Zk Z<|Zq (pkF Z Z)<|Zb Z<|z0w<|Ze [] [1001] Z
       ·
        refine lKn 40 Z h133<|lKn 321 Z h133<|lKn 322 Z h133<|Zk Z<|Zk Z<|Zq (pkF Z Z)<|Zm Z<|Zk Z<|Zk Z<|Zq (pkF Z Z)<|Zm Z<|Zk Z<|Zk Z<|Zq (pkF Z Z)<|Zm Z<|Zk Z<|Zk Z<|Zk Z<|Zk Z<|Zq (pkF Z Z)<|Zm Z<|Zk Z<|Zk Z<|Zq (pkF Z Z)<|Zm Z<|Zk Z<|Zk Z<|Zk Z<|Zq (pkF Z Z)<|Zm Z<|Zk Z<|Zk Z<|Zk Z<|Zk Z<|Zk Z<|Zq (pkF Z Z)<|Zm Z<|Zk Z<|Zk Z<|Zk Z<|Zk Z<|Zk Z<|Zq (pkF Z Z)<|Zm Z<|Zk Z<|Zq (pkF Z Z)<|Zb Z<|z0w<|Ze [] [1001] Z
      ·
       refine lKn 25 Z h132<|lKn 318 Z h132<|lKn 319 Z h132<|Zk Z<|Zq (pkF Z Z)<|Zm Z<|Zk Z<|Zk Z<|Zq (pkF Z Z)<|Zm Z<|Zk Z<|Zk Z<|Zq (pkF Z Z)<|Zm Z<|Zk Z<|Zk Z<|Zq (pkF Z Z)<|Zm Z<|Zk Z<|Zk Z<|Zk Z<|Zk Z<|Zq (pkF Z Z)<|Zm Z<|Zk Z<|Zk Z<|Zq (pkF Z Z)<|Zm Z<|Zk Z<|Zk Z<|Zk Z<|Zq (pkF Z Z)<|Zm Z<|Zk Z<|Zk Z<|Zk Z<|Zk Z<|Zk Z<|Zq (pkF Z Z)<|Zm Z<|Zk Z<|Zk Z<|Zk Z<|Zk Z<|Zk Z<|Zq (pkF Z Z)<|Zm Z<|Zk Z<|Zq (pkF Z Z)<|Zb Z<|z0w<|Ze [] [1001] Z
     ·
      refine lKn 8 Z h131<|lKn 315 Z h131<|lKn 316 Z h131<|Zk Z<|Zq (pkF Z Z)<|Zm Z<|Zk Z<|Zq (pkF Z Z)<|Zm Z<|Zk Z<|Zk Z<|Zq (pkF Z Z)<|Zm Z<|Zk Z<|Zk Z<|Zq (pkF Z Z)<|Zm Z<|Zk Z<|Zk Z<|Zq (pkF Z Z)<|Zm Z<|Zk Z<|Zk Z<|Zk Z<|Zk Z<|Zq (pkF Z Z)<|Zm Z<|Zk Z<|Zk Z<|Zq (pkF Z Z)<|Zm Z<|Zk Z<|Zk Z<|Zk Z<|Zq (pkF Z Z)<|Zm Z<|Zk Z<|Zk Z<|Zk Z<|Zk Z<|Zk Z<|Zq (pkF Z Z)<|Zm Z<|Zk Z<|Zk Z<|Zk Z<|Zk Z<|Zk Z<|Zq (pkF Z Z)<|Zm Z<|Zk Z<|Zq (pkF Z Z)<|Zb Z<|z0w<|Ze [] [1001] Z
end
section
open Go
section
variable {α:Type}
theorem zgi {l:List α} {i:Nat} (d:α) (h:i<l.length):idx l (i:Int)=some (l.getD i d):=by rw [z09 h]; simp [h]
theorem z10n {n:Nat} {v:Vector α n} {i:Int}:z7h v i=idx v.toList i:=rfl
theorem z13l {n:Nat} {v:Vector α n} {i:Nat} {x:α}:(ze2 v (i:Int) x).toList=v.toList.set i x:=by
 unfold ze2; simp
theorem z136 {l:List α} {i j:Nat} {x d:α} (h:i<l.length):(l.set i x).getD j d=if i=j then x else l.getD j d:=by
 simp only [List.getD_eq_getElem?_getD,List.getElem?_set]
 by_cases e:i=j
 ·
  subst e; simp [h]
 ·
  simp [e]
theorem zqo {l:List α} {n i:Nat} {d:α} (h:i<n):(l.take n).getD i d=l.getD i d:=by
 simp [List.getD_eq_getElem?_getD,List.getElem?_take,h]
theorem zph {l:List α} {n:Nat} {x:α} (h:n<l.length):(l.set n x).take (n+1)=l.take n++[x]:=by
 rw [List.take_add_one,List.getElem?_set_self h,List.take_set_of_le (Nat.le_refl _)]; rfl
end
theorem ztj (a:UInt32) (n:Nat):(zot a n).toNat=a.toNat * 2 ^ (min n 32) % 4294967296:=by unfold zot; simp
theorem zfk (a:UInt32) (n:Nat):(z6f a n).toNat=a.toNat / 2 ^ (min n 32):=by
 unfold z6f
 have h1:=UInt32.toNat_lt a
 have h2:a.toNat / 2 ^ (min n 32)≤a.toNat:=Nat.div_le_self _ _
 simp; omega
def tr (x:UInt32) (n:Nat):UInt32:=z6f x n ||| zot x (32 - n)
theorem zej (x:UInt32) (n:Nat) (h:n≤32):z2t x (n:Int)=some (tr x n):=by
 unfold z2t
 rw [z2z (by omega),z0s (by omega) (by omega),z2z (by omega)]
 simp only [bS]
 unfold tr
 rw [show ((32:Int) - (n:Int)).toNat=32 - n by omega,Int.toNat_natCast]
theorem zlo (x:UInt32) (n:Nat) (h:1≤n) (h2:n≤31):z1i x (-(n:Int))=some (tr x n):=by
 have key:∀ n:Fin 32,1≤n.val→(UInt64.ofInt (-(n.val:Int)) &&& 31)=UInt64.ofNat (32 - n.val):=by decide +kernel
 have k2:∀ n:Fin 32,1≤n.val→(UInt64.ofNat (32 - n.val)).toNat=32 - n.val∧(32 - UInt64.ofNat (32 - n.val)).toNat=n.val:=by decide +kernel
 unfold z1i
 rw [key ⟨n, by omega⟩ h]
 simp only [bS]
 rw [(k2 ⟨n, by omega⟩ h).1,(k2 ⟨n, by omega⟩ h).2]
 unfold tr
 rw [UInt32.or_comm]
theorem z14c (x:UInt32) (a b c:Nat) (ha:1≤a∧a≤31) (hb:1≤b∧b≤31) (hc:1≤c∧c≤31):zf0 x (a:Int) (b:Int) (c:Int)=some ((tr x a ^^^ tr x b) ^^^ tr x c):=by
 unfold zf0
 rw [z0s (by omega) (by omega),z0s (by omega) (by omega),z0s (by omega) (by omega)]
 rw [show (0:Int) - (a:Int) = -(a:Int) by omega, show (0:Int) - (b:Int) = -(b:Int) by omega, show (0:Int) - (c:Int) = -(c:Int) by omega]
 rw [zlo x a ha.1 ha.2,zlo x b hb.1 hb.2,zlo x c hc.1 hc.2]
 rfl
def sg0 (x:UInt32):UInt32:=(tr x 7 ^^^ tr x 18) ^^^ z6f x 3
def sg1 (x:UInt32):UInt32:=(tr x 17 ^^^ tr x 19) ^^^ z6f x 10
def word (b:List UInt8) (k:Nat):UInt32:=(((b.getD (4 * k) 0).toUInt32 * 256+(b.getD (4 * k+1) 0).toUInt32) * 256+(b.getD (4 * k+2) 0).toUInt32) * 256+(b.getD (4 * k+3) 0).toUInt32
def zsv (l:List UInt32):List UInt32:=l++[((l.getD (l.length - 16) 0+l.getD (l.length - 7) 0)+sg0 (l.getD (l.length - 15) 0))+sg1 (l.getD (l.length - 2) 0)]
def z6z (b:List UInt8):Nat→List UInt32
 | 0=>(List.range 16).map (word b)
 | n+1=>zsv (z6z b n)
theorem zet (b:List UInt8):∀ n,(z6z b n).length=16+n
 | 0=>by simp [z6z]
 | n+1=>by simp [z6z,zsv,zet b n]; omega
theorem zuj (l:List UInt32) (t:Nat) (h:l.length=t):zsv l=l++[((l.getD (t - 16) 0+l.getD (t - 7) 0)+sg0 (l.getD (t - 15) 0))+sg1 (l.getD (t - 2) 0)]:=by subst h; rfl
theorem z133 (b:List UInt8) (hb:64≤b.length):iter (z5k b) ([],0)=some (z6z b 0):=by
 refine z2f (F:=z5k b) (b:=z6z b 0) 16 (fun i=>((List.range i).map (word b),(i:Int))) (fun i hi=>?_) ?_
 ·
  unfold z5k
  rw [if_pos (by simp; omega)]
  simp only []
  rw [z0s (x:=4 * (i:Int)) (by omega) (by omega),z0s (x:=4 * (i:Int)+1) (by omega) (by omega),z0s (x:=4 * (i:Int)+2) (by omega) (by omega),z0s (x:=4 * (i:Int)+3) (by omega) (by omega)]
  rw [show (4 * (i:Int))=((4 * i:Nat):Int) by omega, show (((4 * i:Nat):Int)+1)=((4 * i+1:Nat):Int) by omega, show (((4 * i:Nat):Int)+2)=((4 * i+2:Nat):Int) by omega, show (((4 * i:Nat):Int)+3)=((4 * i+3:Nat):Int) by omega]
  rw [zgi 0 (by omega),zgi 0 (by omega),zgi 0 (by omega),zgi 0 (by omega)]
  simp only [bS]
  rw [z0x (by simp; omega)]
  simp only [bS,z0d (show i<9223372036854775807 by omega)]
  rw [List.range_succ,List.map_append]
  rfl
 ·
  unfold z5k
  rw [if_neg (by simp)]
  rfl
theorem z13d (b:List UInt8):iter (z5d) (z6z b 0,16)=some (z6z b 48):=by
 refine z2f (F:=z5d) (b:=z6z b 48) 48 (fun i=>(z6z b i,((16+i:Nat):Int))) (fun i hi=>?_) ?_
 ·
  have hl:=zet b i
  unfold z5d
  rw [if_pos (by simp; omega)]
  simp only []
  rw [z0s (x:=((16+i:Nat):Int) - 15) (by omega) (by omega),z0s (x:=((16+i:Nat):Int) - 2) (by omega) (by omega),z0s (x:=((16+i:Nat):Int) - 16) (by omega) (by omega),z0s (x:=((16+i:Nat):Int) - 7) (by omega) (by omega)]
  rw [show ((16+i:Nat):Int) - 15=((16+i - 15:Nat):Int) by omega, show ((16+i:Nat):Int) - 2=((16+i - 2:Nat):Int) by omega, show ((16+i:Nat):Int) - 16=((16+i - 16:Nat):Int) by omega, show ((16+i:Nat):Int) - 7=((16+i - 7:Nat):Int) by omega]
  rw [zgi 0 (by omega),zgi 0 (by omega),zgi 0 (by omega),zgi 0 (by omega)]
  simp only [bS]
  rw [show (7:Int)=((7:Nat):Int) from rfl, show (18:Int)=((18:Nat):Int) from rfl, show (17:Int)=((17:Nat):Int) from rfl, show (19:Int)=((19:Nat):Int) from rfl]
  rw [zej _ 7 (by omega),zej _ 18 (by omega),zej _ 17 (by omega),zej _ 19 (by omega)]
  simp only [bS]
  rw [z0x (by simp; omega)]
  simp only [bS,z0d (show 16+i<9223372036854775807 by omega)]
  rw [show z6z b (i+1)=zsv (z6z b i) from rfl,zuj _ (16+i) hl]
  rfl
 ·
  unfold z5d
  rw [if_neg (by simp)]
theorem z17h (x:UInt32) (y:UInt8) (h:x.toNat<16777216):(zot x 8) ||| y.toUInt32=x * 256+y.toUInt32:=by
 apply UInt32.toNat_inj.1
 have hy:=UInt8.toNat_lt y
 rw [UInt32.toNat_or,ztj,UInt32.toNat_add,UInt32.toNat_mul]
 have e1:(y.toUInt32).toNat=y.toNat:=by simp
 have e2:(256:UInt32).toNat=256:=rfl
 rw [e1,e2, show (2:Nat) ^ (min 8 32)=256 from rfl,Nat.mod_eq_of_lt (a:=x.toNat * 256) (by omega),Nat.mod_eq_of_lt (a:=x.toNat * 256+y.toNat) (by omega)]
 have:=Nat.shiftLeft_add_eq_or_of_lt (i:=8) (b:=y.toNat) (by simpa using hy) x.toNat
 rw [Nat.shiftLeft_eq, show (2:Nat) ^ 8=256 from rfl] at this
 exact this.symm
def zks (b:List UInt8) (k:Nat):Nat→UInt32
 | 0=>0
 | m+1=>zks b k m * 256+(b.getD (4 * k+m) 0).toUInt32
theorem ztn (b:List UInt8) (k:Nat):∀ m,m≤4→(zks b k m).toNat<256 ^ m
 | 0,_=>by simp [zks]
 | m+1,h=>by
  have ih:=ztn b k m (by omega)
  have hy:=UInt8.toNat_lt (b.getD (4 * k+m) 0)
  have hp:256 ^ m≤256 ^ 3:=Nat.pow_le_pow_right (by omega) (by omega)
  have e3:(256:Nat) ^ 3=16777216:=rfl
  have ep:256 ^ (m+1)=256 ^ m * 256:=Nat.pow_succ ..
  rw [zks,UInt32.toNat_add,UInt32.toNat_mul,ep]
  have e1:((b.getD (4 * k+m) 0).toUInt32).toNat=(b.getD (4 * k+m) 0).toNat:=by simp
  have e2:(256:UInt32).toNat=256:=rfl
  rw [e1,e2,Nat.mod_eq_of_lt (a:=(zks b k m).toNat * 256) (by omega),Nat.mod_eq_of_lt (by omega)]
  omega
theorem zwh (b:List UInt8) (k:Nat):zks b k 4=word b k:=by
 simp only [zks,word,Nat.add_zero]
 simp
theorem zzf (b:List UInt8) (hb:b.length=64):∃ w,iter (z6t b) (Vector.replicate 64 0,0)=some w∧w.toList.take 16=z6z b 0:=by
 refine z6d (F:=z6t b) 64 (fun i s=>s.2=(i:Int)∧∀ k,k<16→s.1.toList.getD k 0=zks b k (min 4 (i - 4 * k))) (fun w=>w.toList.take 16=z6z b 0) (fun i s hi hs=>?_) (fun s hs=>?_) (Vector.replicate 64 0,0) 0 (by omega) ⟨rfl, fun k hk=>?_⟩
 ·
  obtain ⟨w,j⟩:=s
  obtain ⟨h1,h2⟩:=hs
  simp only at h1 h2
  subst h1
  have hlw:w.toList.length=64:=by simp
  have hdiv:w64 (Int.tdiv (i:Int) 4)=((i / 4:Nat):Int):=by
   have:Int.tdiv (i:Int) 4=((i / 4:Nat):Int):=by
    rw [Int.tdiv_eq_ediv_of_nonneg (by omega)]; omega
   rw [this,z0s (by omega) (by omega)]
  refine ⟨(ze2 w ((i / 4:Nat):Int) (zks b (i / 4) (i % 4+1)),((i+1:Nat):Int)),?_,rfl, fun k hk=>?_⟩
  ·
   unfold z6t
   rw [if_pos (by simp; omega)]
   simp only [hdiv,z10n]
   rw [zgi 0 (by omega)]
   simp only [bS]
   rw [zgi 0 (by omega)]
   simp only [bS,z0d (show i<9223372036854775807 by omega)]
   rw [h2 (i / 4) (by omega), show min 4 (i - 4 * (i / 4))=i % 4 by omega]
   have hlt:=ztn b (i / 4) (i % 4) (by omega)
   have hp:256 ^ (i % 4)≤256 ^ 3:=Nat.pow_le_pow_right (by omega) (by omega)
   have e3:(256:Nat) ^ 3=16777216:=rfl
   rw [z17h _ _ (by omega)]
   have e4:zks b (i / 4) (i % 4+1)=zks b (i / 4) (i % 4) * 256+(b.getD i 0).toUInt32:=by
    show zks b (i / 4) (i % 4) * 256+(b.getD (4 * (i / 4)+i % 4) 0).toUInt32=_
    rw [show 4 * (i / 4)+i % 4=i by omega]
   rw [e4]
  ·
   simp only []
   rw [z13l,z136 (by omega)]
   by_cases hk2:i / 4=k
   ·
    subst hk2
    rw [if_pos rfl, show min 4 (i+1 - 4 * (i / 4))=i % 4+1 by omega]
   ·
    rw [if_neg hk2,h2 k hk]
    congr 1; omega
 ·
  obtain ⟨w,j⟩:=s
  obtain ⟨h1,h2⟩:=hs
  simp only at h1 h2
  subst h1
  have hlw:w.toList.length=64:=by simp
  refine ⟨w,?_,?_⟩
  ·
   unfold z6t
   rw [if_neg (by simp [hb])]
  ·
   apply List.ext_getElem
   ·
    simp [z6z]
   ·
    intro k k1 k2
    have hk:k<16:=by simp [z6z] at k2; exact k2
    have:=h2 k hk
    rw [show min 4 (64 - 4 * k)=4 by omega,zwh] at this
    have e:w.toList.getD k 0=w.toList[k]'(by omega):=by rw [List.getD_eq_getElem?_getD,List.getElem?_eq_getElem (by omega)]; rfl
    rw [e] at this
    simp only [List.getElem_take,this,z6z,List.getElem_map,List.getElem_range]
 ·
  show (Vector.replicate 64 (0:UInt32)).toList.getD k 0=_
  rw [show min 4 (0 - 4 * k)=0 by omega,Vector.toList_replicate,List.getD_eq_getElem?_getD,List.getElem?_replicate,if_pos (by omega)]
  rfl
theorem zvu (v:Vector UInt32 64) (t:Nat) (h1:16≤t) (h2:t<64) (p q r s u:UInt32) (e1:z7h v ((t - 15:Nat):Int)=some p) (e2:z7h v ((t - 2:Nat):Int)=some q) (e3:z7h v ((t - 16:Nat):Int)=some r) (e4:z7h v ((t - 7:Nat):Int)=some s) (e5:z7h v (t:Int)=some u) :
  z57 (v,(t:Int))=some (.inr (ze2 v (t:Int) (((r+s)+sg0 p)+sg1 q),((t+1:Nat):Int))):=by
 have r1:=zlo p 7 (by omega) (by omega)
 have r2:=zlo p 18 (by omega) (by omega)
 have r3:=zlo q 17 (by omega) (by omega)
 have r4:=zlo q 19 (by omega) (by omega)
 have hw:=z0d (show t<9223372036854775807 by omega)
 have hd:decide ((t:Int)<64)=true:=by simp; omega
 have w1:w64 ((t:Int) - 15)=((t - 15:Nat):Int):=by rw [z0s (by omega) (by omega)]; omega
 have w2:w64 ((t:Int) - 2)=((t - 2:Nat):Int):=by rw [z0s (by omega) (by omega)]; omega
 have w3:w64 ((t:Int) - 16)=((t - 16:Nat):Int):=by rw [z0s (by omega) (by omega)]; omega
 have w4:w64 ((t:Int) - 7)=((t - 7:Nat):Int):=by rw [z0s (by omega) (by omega)]; omega
 unfold z57
 rw [if_pos hd]
 simp only []
 rw [w1,w2,w3,w4,hw,e1,e2,e3,e4,e5]
 simp only [bS]
 rw [show (-7:Int) = -((7:Nat):Int) from rfl, show (-18:Int) = -((18:Nat):Int) from rfl, show (-17:Int) = -((17:Nat):Int) from rfl, show (-19:Int) = -((19:Nat):Int) from rfl,r1,r2,r3,r4]
 simp only [bS]
 rfl
theorem zz1 (b:List UInt8) (w:Vector UInt32 64) (hw:w.toList.take 16=z6z b 0):∃ v,iter (z57) (w,16)=some v∧v.toList=z6z b 48:=by
 refine z6d (F:=z57) 48 (fun i s=>s.2=((16+i:Nat):Int)∧s.1.toList.take (16+i)=z6z b i) (fun v=>v.toList=z6z b 48) (fun i s hi hs=>?_) (fun s hs=>?_) (w,16) 0 (by omega) ⟨rfl,hw⟩
 ·
  obtain ⟨w,j⟩:=s
  obtain ⟨h1,h2⟩:=hs
  simp only at h1 h2
  subst h1
  have hlw:w.toList.length=64:=by simp
  have hl:=zet b i
  have hg:∀ k,k<16+i→w.toList.getD k 0=(z6z b i).getD k 0:=fun k hk=>by rw [← h2,zqo hk]
  have hv:∀ k,k<16+i→z7h w (k:Int)=some ((z6z b i).getD k 0):=fun k hk=>by rw [z10n,zgi 0 (by omega),hg k hk]
  refine ⟨_,zvu w (16+i) (by omega) (by omega) _ _ _ _ _ (hv _ (by omega)) (hv _ (by omega)) (hv _ (by omega)) (hv _ (by omega)) (z8o (by omega)),rfl,?_⟩
  simp only []
  rw [z13l, show 16+(i+1)=16+i+1 by omega,zph (by omega),h2, show z6z b (i+1)=zsv (z6z b i) from rfl,zuj _ (16+i) hl]
 ·
  obtain ⟨w,j⟩:=s
  obtain ⟨h1,h2⟩:=hs
  simp only at h1 h2
  subst h1
  refine ⟨w,?_,?_⟩
  ·
   unfold z57
   rw [if_neg (by simp)]
  ·
   rw [← h2,List.take_of_length_le (by simp)]
abbrev O8:=UInt32 × UInt32 × UInt32 × UInt32 × UInt32 × UInt32 × UInt32 × UInt32
def toV (s:O8):Vector UInt32 8:=#v[s.1,s.2.1,s.2.2.1,s.2.2.2.1,s.2.2.2.2.1,s.2.2.2.2.2.1,s.2.2.2.2.2.2.1,s.2.2.2.2.2.2.2]
def ofV (h:Vector UInt32 8):O8:=(h[0],h[1],h[2],h[3],h[4],h[5],h[6],h[7])
theorem z15a (h:Vector UInt32 8):toV (ofV h)=h:=by
 apply Vector.ext
 intro i hi
 unfold toV ofV
 match i,hi with
 | 0,_=>rfl
 | 1,_=>rfl
 | 2,_=>rfl
 | 3,_=>rfl
 | 4,_=>rfl
 | 5,_=>rfl
 | 6,_=>rfl
 | 7,_=>rfl
def rnd1 (k w:UInt32) (s:O8):UInt32:=(((s.2.2.2.2.2.2.2+((tr s.2.2.2.2.1 6 ^^^ tr s.2.2.2.2.1 11) ^^^ tr s.2.2.2.2.1 25))+((s.2.2.2.2.1 &&& s.2.2.2.2.2.1) ^^^ ((~~~s.2.2.2.2.1) &&& s.2.2.2.2.2.2.1)))+k)+w
def rnd2 (s:O8):UInt32:=((tr s.1 2 ^^^ tr s.1 13) ^^^ tr s.1 22)+(((s.1 &&& s.2.1) ^^^ (s.1 &&& s.2.2.1)) ^^^ (s.2.1 &&& s.2.2.1))
def rnd (k w:UInt32) (s:O8):O8:=(rnd1 k w s+rnd2 s,s.1,s.2.1,s.2.2.1,s.2.2.2.1+rnd1 k w s,s.2.2.2.2.1,s.2.2.2.2.2.1,s.2.2.2.2.2.2.1)
def ztl (K W:List UInt32) (s:O8):Nat→O8
 | 0=>s
 | n+1=>rnd (K.getD n 0) (W.getD n 0) (ztl K W s n)
theorem zzu:zcw=some z58.toList:=rfl
theorem zp4:z58.toList.length=64:=by simp
theorem zy8 (w:Vector UInt32 64) (a b c d e f g z:UInt32) (i:Nat) (hi:i<64) (k u:UInt32) (hk:z7h z58 (i:Int)=some k) (hu:z7h w (i:Int)=some u) :
  z5x w (a,b,c,d,e,f,g,z,(i:Int))=some (.inr (rnd1 k u (a,b,c,d,e,f,g,z)+rnd2 (a,b,c,d,e,f,g,z),a,b,c,d+rnd1 k u (a,b,c,d,e,f,g,z),e,f,g,((i+1:Nat):Int))):=by
 have m1:=z14c e 6 11 25 (by omega) (by omega) (by omega)
 have m2:=z14c a 2 13 22 (by omega) (by omega) (by omega)
 have hw:=z0d (show i<9223372036854775807 by omega)
 have hd:decide ((i:Int)<64)=true:=by simp; omega
 unfold z5x
 rw [if_pos hd]
 simp only []
 rw [hk,hu,hw]
 simp only [bS]
 rw [show (6:Int)=((6:Nat):Int) from rfl, show (11:Int)=((11:Nat):Int) from rfl, show (25:Int)=((25:Nat):Int) from rfl, show (2:Int)=((2:Nat):Int) from rfl, show (13:Int)=((13:Nat):Int) from rfl, show (22:Int)=((22:Nat):Int) from rfl,m1,m2]
 simp only [bS]
 rfl
theorem z118 (K W:List UInt32) (a b c d e f g z:UInt32) (i:Nat) (hi:i<64) (k u:UInt32) (hk:idx K (i:Int)=some k) (hu:idx W (i:Int)=some u) :
  z3i W K (#v[a,b,c,d,e,f,g,z],(i:Int))=some (.inr (#v[rnd1 k u (a,b,c,d,e,f,g,z)+rnd2 (a,b,c,d,e,f,g,z),a,b,c,d+rnd1 k u (a,b,c,d,e,f,g,z),e,f,g],((i+1:Nat):Int))):=by
 have t1:=zej e 6 (by omega)
 have t2:=zej e 11 (by omega)
 have t3:=zej e 25 (by omega)
 have t4:=zej a 2 (by omega)
 have t5:=zej a 13 (by omega)
 have t6:=zej a 22 (by omega)
 have hw:=z0d (show i<9223372036854775807 by omega)
 have hd:decide ((i:Int)<64)=true:=by simp; omega
 have v0:z7h #v[a,b,c,d,e,f,g,z] 0=some a:=rfl
 have v1:z7h #v[a,b,c,d,e,f,g,z] 1=some b:=rfl
 have v2:z7h #v[a,b,c,d,e,f,g,z] 2=some c:=rfl
 have v3:z7h #v[a,b,c,d,e,f,g,z] 3=some d:=rfl
 have v4:z7h #v[a,b,c,d,e,f,g,z] 4=some e:=rfl
 have v5:z7h #v[a,b,c,d,e,f,g,z] 5=some f:=rfl
 have v6:z7h #v[a,b,c,d,e,f,g,z] 6=some g:=rfl
 have v7:z7h #v[a,b,c,d,e,f,g,z] 7=some z:=rfl
 unfold z3i
 rw [if_pos hd]
 simp only []
 rw [v0,v1,v2,v3,v4,v5,v6,v7,hk,hu,hw]
 simp only [bS]
 rw [show (6:Int)=((6:Nat):Int) from rfl, show (11:Int)=((11:Nat):Int) from rfl, show (25:Int)=((25:Nat):Int) from rfl, show (2:Int)=((2:Nat):Int) from rfl, show (13:Int)=((13:Nat):Int) from rfl, show (22:Int)=((22:Nat):Int) from rfl,t1,t2,t3,t4,t5,t6]
 simp only [bS]
 rfl
def zvz (s:O8) (i:Int):UInt32 × UInt32 × UInt32 × UInt32 × UInt32 × UInt32 × UInt32 × UInt32 × Int:=match s with
 | (a,b,c,d,e,f,g,z)=>(a,b,c,d,e,f,g,z,i)
theorem zvw (w:Vector UInt32 64) (s:O8) (i:Nat) (hi:i<64):z5x w (zvz s (i:Int))=some (.inr (zvz (rnd (z58.toList.getD i 0) (w.toList.getD i 0) s) ((i+1:Nat):Int))):=by
 obtain ⟨a,b,c,d,e,f,g,z⟩:=s
 exact zy8 w a b c d e f g z i hi _ _ (zgi 0 (by rw [zp4]; exact hi)) (zgi 0 (by simp; exact hi))
theorem zvs (w:Vector UInt32 64) (s:O8):iter (z5x w) (zvz s 0)=some (ztl z58.toList w.toList s 64):=by
 refine z2f (F:=z5x w) (b:=ztl z58.toList w.toList s 64) 64 (fun i=>zvz (ztl z58.toList w.toList s i) (i:Int)) (fun i hi=>zvw w _ i hi) ?_
 generalize ztl z58.toList w.toList s 64=q
 obtain ⟨a,b,c,d,e,f,g,z⟩:=q
 unfold zvz z5x
 rw [if_neg (by simp)]
theorem zx9 (K W:List UInt32) (hk:K.length=64) (hW:W.length=64) (s:O8) (i:Nat) (hi:i<64):z3i W K (toV s,(i:Int))=some (.inr (toV (rnd (K.getD i 0) (W.getD i 0) s),((i+1:Nat):Int))):=by
 obtain ⟨a,b,c,d,e,f,g,z⟩:=s
 exact z118 K W a b c d e f g z i hi _ _ (zgi 0 (by omega)) (zgi 0 (by omega))
theorem zyr (K W:List UInt32) (hk:K.length=64) (hW:W.length=64) (s:O8):iter (z3i W K) (toV s,0)=some (toV (ztl K W s 64)):=by
 refine z2f (F:=z3i W K) (b:=toV (ztl K W s 64)) 64 (fun i=>(toV (ztl K W s i),(i:Int))) (fun i hi=>zx9 K W hk hW _ i hi) ?_
 generalize toV (ztl K W s 64)=q
 unfold z3i
 rw [if_neg (by simp)]
theorem z16c (s:O8):zdv s=z1l (toV s):=by
 funext x
 obtain ⟨h,i⟩:=x
 unfold zdv z1l
 simp only [bS]
 show (if decide (i<8)=true then z7h (toV s) i >>= _ else _)=_
 split
 ·
  cases h1:z7h (toV s) i <;> cases h2:z7h h i <;> rfl
 ·
  rfl
def addV (h v:Vector UInt32 8):Vector UInt32 8:=(iter (z1l v) (h,0)).getD h
theorem zyx (h v:Vector UInt32 8):iter (z1l v) (h,0)=some (addV h v):=by
 obtain ⟨r,h1,-⟩:=z6d (F:=z1l v) 8 (fun i s=>s.2=(i:Int)) (fun _=>True) (fun i s hi hs=>by
  obtain ⟨u,j⟩:=s
  simp only at hs
  subst hs
  unfold z1l
  rw [if_pos (by simp; omega)]
  rw [z8o (show i<8 by omega),z8o (show i<8 by omega)]
  simp only [bS,z0d (show i<9223372036854775807 by omega)]
  exact ⟨_,rfl,rfl⟩) (fun s hs=>by
  obtain ⟨u,j⟩:=s
  simp only at hs
  subst hs
  unfold z1l
  rw [if_neg (by simp)]
  exact ⟨_,rfl,trivial⟩) (h,0) 0 (by omega) rfl
 unfold addV
 rw [h1]; rfl
def gr (h:Vector UInt32 8) (b:List UInt8):Vector UInt32 8:=addV h (toV (ztl z58.toList (z6z b 48) (ofV h) 64))
theorem z17o (h:Vector UInt32 8) (b:List UInt8) (hb:b.length=64):zbg h b=some (gr h b):=by
 unfold zbg
 rw [z133 b (by omega)]
 simp only [bS]
 rw [z13d b]
 simp only [bS,zzu]
 have:=zyr z58.toList (z6z b 48) zp4 (by rw [zet]) (ofV h)
 rw [z15a] at this
 rw [this]
 simp only [bS]
 rw [zyx]
 rfl
theorem z15n (h:Vector UInt32 8) (b:List UInt8) (hb:64≤b.length):ze4 h b=some (gr h (b.take 64)):=by
 unfold ze4 zdt
 rw [show (64:Int)=((64:Nat):Int) from rfl, show (0:Int)=((0:Nat):Int) from rfl,z9s (by omega) hb]
 simp only [bS,List.drop_zero,Nat.sub_zero]
 obtain ⟨w,h1,h2⟩:=zzf (b.take 64) (by simp; omega)
 rw [show ((0:Nat):Int)=0 from rfl,h1]
 simp only [bS]
 obtain ⟨v,h3,h4⟩:=zz1 (b.take 64) w h2
 rw [h3]
 simp only [bS]
 have hv:∀ i:Nat,(hi:i<8)→z7h h (i:Int)=some h[i]:=fun i hi=>z8o hi
 rw [show z7h h 0=some h[0] from hv 0 (by omega), show z7h h 1=some h[1] from hv 1 (by omega), show z7h h 2=some h[2] from hv 2 (by omega), show z7h h 3=some h[3] from hv 3 (by omega), show z7h h 4=some h[4] from hv 4 (by omega), show z7h h 5=some h[5] from hv 5 (by omega), show z7h h 6=some h[6] from hv 6 (by omega), show z7h h 7=some h[7] from hv 7 (by omega)]
 simp only [bS]
 have:=zvs v (ofV h)
 rw [show (h[0],h[1],h[2],h[3],h[4],h[5],h[6],h[7],(0:Int))=zvz (ofV h) 0 from rfl,this]
 simp only [bS]
 rw [z16c,h4,zyx]
 rfl
end
section
open Go
def blk (h:Vector UInt32 8) (b:List UInt8):Vector UInt32 8:=if h64:64≤b.length then blk (gr h (b.take 64)) (b.drop 64) else h
termination_by b.length
decreasing_by simp; omega
theorem zs3 {h:Vector UInt32 8} {b:List UInt8} (hb:b.length<64):blk h b=h:=by rw [blk,dif_neg (by omega)]
theorem zqt {h:Vector UInt32 8} {b:List UInt8} (hb:64≤b.length):blk h b=blk (gr h (b.take 64)) (b.drop 64):=by rw [blk,dif_pos hb]
def lft (b:List UInt8):List UInt8:=b.drop (b.length / 64 * 64)
theorem zzk {b:List UInt8} (hb:b.length<64):lft b=b:=by unfold lft; rw [Nat.div_eq_of_lt hb]; simp
theorem zzc {b:List UInt8} (hb:64≤b.length):lft b=lft (b.drop 64):=by
 unfold lft
 rw [List.drop_drop,List.length_drop]
 congr 1
 omega
theorem z105 (b:List UInt8):(lft b).length<64:=by unfold lft; simp; omega
theorem z16w (h:Vector UInt32 8):∀ (n:Nat) (a c:List UInt8),a.length=n→blk h (a++c)=blk (blk h a) (lft a++c)∧lft (a++c)=lft (lft a++c):=by
 intro n
 induction n using Nat.strongRecOn generalizing h with
 | _ n ih =>
  intro a c ha
  by_cases h64:64≤a.length
  ·
   have e1:(a++c).take 64=a.take 64:=by rw [List.take_append_of_le_length h64]
   have e2:(a++c).drop 64=a.drop 64++c:=by rw [List.drop_append_of_le_length h64]
   have hl:64≤(a++c).length:=by simp; omega
   obtain ⟨i1,i2⟩:=ih (a.drop 64).length (by simp; omega) (gr h (a.take 64)) (a.drop 64) c rfl
   rw [zqt hl,e1,e2,zqt h64,zzc h64,zzc hl,e2]
   exact ⟨i1,i2⟩
  ·
   rw [zs3 (b:=a) (by omega),zzk (b:=a) (by omega)]
   exact ⟨rfl,rfl⟩
theorem zxe:∀ (n:Nat) (m:z28) (r:List UInt8),r.length=n→iter z9t (m,r)=some ({ m with Words:=blk m.Words r },lft r):=by
 intro n
 induction n using Nat.strongRecOn with
 | _ n ih =>
  intro m r hr
  by_cases h64:64≤r.length
  ·
   have hs:z9t (m,r)=some (.inr ({ m with Words:=gr m.Words (r.take 64) },r.drop 64)):=by
    unfold z9t
    rw [if_pos (by simp; omega)]
    simp only []
    rw [z15n _ _ h64, show (64:Int)=((64:Nat):Int) from rfl,z9s h64 (Nat.le_refl _)]
    simp only [bS]
    rw [List.take_of_length_le (l:=r.drop 64) (by simp)]
   rw [z17 hs,ih (r.drop 64).length (by simp; omega) _ _ rfl,zqt h64,zzc h64]
  ·
   refine (z14 (b:=(m,r)) ?_).trans ?_
   ·
    unfold z9t
    rw [if_neg (by simp; omega)]
   ·
    rw [zs3 (by omega),zzk (by omega)]
theorem z15w (a b:List UInt8) (h:a.length+b.length≤1000000):z1z [a,b]=some (a++b):=by
 have l1:iter (z0r [a,b]) (0,0)=some ((a.length+b.length:Nat):Int):=by
  have s1:z0r [a,b] (0,0)=some (.inr ((a.length:Int),1)):=by
   unfold z0r
   rw [if_pos (by simp)]
   simp only []
   rw [show idx [a,b] 0=some a from rfl]
   simp only [bS]
   rw [z0s (x:=(0:Int)+(a.length:Int)) (by omega) (by omega),z0s (x:=(0:Int)+1) (by omega) (by omega)]
   rw [if_neg (by simp)]
   simp
  have s2:z0r [a,b] ((a.length:Int),1)=some (.inr (((a.length+b.length:Nat):Int),2)):=by
   unfold z0r
   rw [if_pos (by simp)]
   simp only []
   rw [show idx [a,b] 1=some b from rfl]
   simp only [bS]
   rw [z0s (x:=(a.length:Int)+(b.length:Int)) (by omega) (by omega),z0s (x:=(1:Int)+1) (by omega) (by omega)]
   rw [if_neg (by simp; omega)]
   simp
  have s3:z0r [a,b] (((a.length+b.length:Nat):Int),2)=some (.inl ((a.length+b.length:Nat):Int)):=by
   unfold z0r
   rw [if_neg (by simp)]
  rw [z17 s1,z17 s2,z14 s3]
 have gw:z3z ((a.length+b.length:Nat):Int)=some []:=by
  unfold z3z
  rw [if_neg (by simp; omega)]
  rw [show ((([]:List UInt8).length:Nat):Int)=0 from rfl, show w64 ((0:Int) - 0)=0 by decide,Int.sub_zero,z0s (by omega) (by omega)]
  simp only [bS]
  split
  ·
   rw [zhn (by omega) (by omega)]
   simp only [bS]
   rw [show (0:Int)=((0:Nat):Int) from rfl,z9s (Nat.le_refl _) (Nat.zero_le _)]
   simp
  ·
   rfl
 have l2:iter (z0q [a,b]) ([],0)=some (a++b):=by
  have s1:z0q [a,b] ([],0)=some (.inr (a,1)):=by
   unfold z0q
   rw [if_pos (by simp)]
   simp only []
   rw [show idx [a,b] 0=some a from rfl,z0s (x:=(0:Int)+1) (by omega) (by omega)]
   simp only [bS]
   rw [z0x (by simp; omega)]
   simp
  have s2:z0q [a,b] (a,1)=some (.inr (a++b,2)):=by
   unfold z0q
   rw [if_pos (by simp)]
   simp only []
   rw [show idx [a,b] 1=some b from rfl,z0s (x:=(1:Int)+1) (by omega) (by omega)]
   simp only [bS]
   rw [z0x (by simp; omega)]
   simp
  have s3:z0q [a,b] (a++b,2)=some (.inl (a++b)):=by
   unfold z0q
   rw [if_neg (by simp)]
  rw [z17 s1,z17 s2,z14 s3]
 unfold z1z
 rw [l1]
 simp only [bS]
 rw [gw]
 simp only [bS]
 rw [l2]
 simp only [bS]
theorem z15p (m:z28) (b:List UInt8) (h:m.Rest.length+b.length≤1000000):zbu m b=some ⟨blk m.Words (m.Rest++b),lft (m.Rest++b),w64 (m.N+(b.length:Int))⟩:=by
 unfold zbu
 rw [z15w _ _ h]
 simp only [bS]
 rw [zxe _ _ _ rfl]
 simp only [bS]
 unfold z8f
 have:=z105 (m.Rest++b)
 rw [z0x (by simp; omega)]
 simp only [bS,List.nil_append]
def H0:Vector UInt32 8:=#v[1779033703,3144134277,1013904242,2773480762,1359893119,2600822924,528734635,1541459225]
def zwu (a:List UInt8):z28:=⟨blk H0 a,lft a,(a.length:Int)⟩
theorem z12i:ze8=some (zwu []):=by
 unfold ze8 zwu
 rw [zs3 (by simp),zzk (by simp)]
 rfl
theorem zrt (a b:List UInt8) (h:a.length+b.length≤500000):zbu (zwu a) b=some (zwu (a++b)):=by
 have hl:=z105 a
 rw [z15p (zwu a) b (by show (lft a).length+b.length≤1000000; omega)]
 obtain ⟨h1,h2⟩:=z16w H0 _ a b rfl
 unfold zwu
 rw [h1,h2,z0s (by simp; omega) (by simp; omega)]
 simp
theorem zwq (b:List UInt8) (hb:b.length≤1000000):∀ (n:Nat) (h:Vector UInt32 8) (i:Nat),(b.drop i).length=n→i≤b.length→iter (z5j b) (h,(i:Int))=some (blk h (b.drop i)):=by
 intro n
 induction n using Nat.strongRecOn with
 | _ n ih =>
  intro h i hn hi
  have hw:w64 ((i:Int)+64)=((i+64:Nat):Int):=by rw [z0s (by omega) (by omega)]; omega
  simp only [List.length_drop] at hn
  by_cases h64:i+64≤b.length
  ·
   have hs:z5j b (h,(i:Int))=some (.inr (gr h ((b.drop i).take 64),((i+64:Nat):Int))):=by
    unfold z5j
    simp only [hw]
    rw [if_pos (by simp; omega),z9s (by omega) h64]
    simp only [bS]
    rw [show i+64 - i=64 by omega,z17o _ _ (by simp; omega)]
    simp only [bS]
   rw [z17 hs,ih (b.drop (i+64)).length (by simp; omega) _ _ rfl h64,zqt (b:=b.drop i) (by simp; omega),List.drop_drop]
  ·
   refine (z14 (b:=h) ?_).trans ?_
   ·
    unfold z5j
    simp only [hw]
    rw [if_neg (by simp; omega)]
   ·
    rw [zs3 (by simp; omega)]
theorem zyc (h:Vector UInt32 8) (b:List UInt8) (hb:b.length≤1000000):zbe h b=some (blk h b):=by
 unfold zbe
 have:=zwq b hb _ h 0 rfl (by omega)
 rw [show (0:Int)=((0:Nat):Int) from rfl,this]
 simp only [bS,List.drop_zero]
def zrs (n:Nat):Nat:=(119 - n % 64) % 64
def z90 (n:Nat):List UInt8:=(List.range 8).map fun i=>(z86 (UInt64.ofNat n * 8) (56 - 8 * i)).toUInt8
def tl (n:Nat):List UInt8:=([128]++List.replicate (zrs n) 0)++z90 n
theorem zri (n:Nat):UInt64.ofInt (n:Int)=UInt64.ofNat n:=by
 apply UInt64.toNat_inj.1
 unfold UInt64.ofInt
 simp only [UInt64.toNat_ofNat']
 omega
theorem z10h (n:Nat) (x:List UInt8) (hx:x.length≤100):iter (zat (UInt64.ofNat n * 8)) (x,56)=some (x++z90 n):=by
 rw [show (x,(56:Int))=(x++(z90 n).take 0,56 - 8 * ((0:Nat):Int)) by simp]
 refine z2f (F:=zat (UInt64.ofNat n * 8)) (b:=x++z90 n) 8 (fun i=>(x++(z90 n).take i,56 - 8 * (i:Int))) (fun i hi=>?_) ?_
 ·
  have hl:(z90 n).length=8:=by simp [z90]
  unfold zat
  rw [if_pos (by simp; omega)]
  simp only []
  rw [z2z (by omega),z0s (by omega) (by omega)]
  simp only [bS]
  rw [z0x (by simp; omega)]
  simp only [bS]
  rw [List.take_add_one,List.getElem?_eq_getElem (by omega)]
  simp only [Option.toList_some,List.append_assoc]
  rw [show (56 - 8 * (i:Int)).toNat=56 - 8 * i by omega, show (56 - 8 * (i:Int) - 8)=56 - 8 * ((i+1:Nat):Int) by omega]
  simp [z90]
 ·
  have hl:(z90 n).length=8:=by simp [z90]
  unfold zat
  rw [if_neg (by simp),List.take_of_length_le (by omega)]
theorem zxk (n:Nat) (x:List UInt8) (hx:x.length≤100):iter (z6l (n:Int)) (x,7)=some (x++z90 n):=by
 rw [show (x,(7:Int))=(x++(z90 n).take 0,7 - ((0:Nat):Int)) by simp]
 refine z2f (F:=z6l (n:Int)) (b:=x++z90 n) 8 (fun i=>(x++(z90 n).take i,7 - (i:Int))) (fun i hi=>?_) ?_
 ·
  have hl:(z90 n).length=8:=by simp [z90]
  unfold z6l
  rw [if_pos (by simp; omega)]
  simp only []
  rw [z0s (x:=8 * (7 - (i:Int))) (by omega) (by omega),z2z (by omega),z0s (by omega) (by omega)]
  simp only [bS]
  rw [z0x (by simp; omega)]
  simp only [bS]
  rw [List.take_add_one,List.getElem?_eq_getElem (by omega)]
  simp only [Option.toList_some,List.append_assoc]
  rw [show (8 * (7 - (i:Int))).toNat=56 - 8 * i by omega, show (7 - (i:Int) - 1)=7 - ((i+1:Nat):Int) by omega]
  rw [zri]
  simp [z90,UInt64.mul_comm]
 ·
  have hl:(z90 n).length=8:=by simp [z90]
  unfold z6l
  rw [if_neg (by simp),List.take_of_length_le (by omega)]
theorem z10m (n:Nat) (hn:n≤1000000):iter (z6r (n:Int)) [128]=some ([128]++List.replicate (zrs n) 0):=by
 refine z2f (F:=z6r (n:Int)) (b:=[128]++List.replicate (zrs n) 0) (zrs n) (fun i=>[128]++List.replicate i 0) (fun i hi=>?_) ?_
 ·
  have hz:zrs n<64:=Nat.mod_lt _ (by omega)
  have hl:(([128]++List.replicate i 0:List UInt8).length:Int)=((1+i:Nat):Int):=by simp; omega
  unfold z6r
  rw [hl,z0s (x:=(n:Int)+((1+i:Nat):Int)) (by omega) (by omega),z0s (by omega) (by omega)]
  have ht:Int.tmod ((n:Int)+((1+i:Nat):Int)+8) 64=(((n+9+i) % 64:Nat):Int):=by
   rw [Int.tmod_eq_emod_of_nonneg (by omega)]; omega
  rw [ht,if_pos]
  ·
   rw [z0x (by simp; omega)]
   simp only [bS]
   rw [List.replicate_succ',List.append_assoc]
  ·
   simp only [bne_iff_ne,ne_eq]
   unfold zrs at hi
   omega
 ·
  have hl:(([128]++List.replicate (zrs n) 0:List UInt8).length:Int)=((1+zrs n:Nat):Int):=by simp; omega
  have hz:zrs n<64:=Nat.mod_lt _ (by omega)
  unfold z6r
  rw [hl,z0s (x:=(n:Int)+((1+zrs n:Nat):Int)) (by omega) (by omega),z0s (by omega) (by omega)]
  have ht:Int.tmod ((n:Int)+((1+zrs n:Nat):Int)+8) 64=0:=by
   rw [Int.tmod_eq_emod_of_nonneg (by omega)]
   unfold zrs
   omega
  rw [ht,if_neg (by simp)]
theorem z13k (n:Nat) (hn:n≤1000000):zdq (n:Int)=some (tl n):=by
 have hz:zrs n<64:=Nat.mod_lt _ (by omega)
 unfold zdq
 rw [z10m n hn]
 simp only [bS]
 rw [zxk n _ (by simp; omega)]
 simp only [bS]
 rfl
def wr (h:Vector UInt32 8):V3:=Vector.ofFn fun i=>(z6f (h[i.val / 4]'(by omega)) (24 - 8 * (i.val % 4))).toUInt8
theorem zvk (h:Vector UInt32 8):zaz h=some (wr h):=by
 have:∃ r,iter (z56 h) (Vector.replicate 32 0,0)=some r∧r=wr h:=by
  refine z6d (F:=z56 h) 32 (fun i s=>s.2=(i:Int)∧∀ k (hk:k<32),k<i→s.1[k]=(wr h)[k]) (fun r=>r=wr h) (fun i s hi hs=>?_) (fun s hs=>?_) (Vector.replicate 32 0,0) 0 (by omega) ⟨rfl, fun k hk h0=>by omega⟩
  ·
   obtain ⟨v,j⟩:=s
   obtain ⟨h1,h2⟩:=hs
   simp only at h1 h2
   subst h1
   have hd:w64 (Int.tdiv (i:Int) 4)=((i / 4:Nat):Int):=by
    have:Int.tdiv (i:Int) 4=((i / 4:Nat):Int):=by rw [Int.tdiv_eq_ediv_of_nonneg (by omega)]; omega
    rw [this,z0s (by omega) (by omega)]
   have hm:w64 (8 * (Int.tmod (i:Int) 4))=((8 * (i % 4):Nat):Int):=by
    have:Int.tmod (i:Int) 4=((i % 4:Nat):Int):=by rw [Int.tmod_eq_emod_of_nonneg (by omega)]; omega
    rw [this,z0s (by omega) (by omega)]; omega
   have hs:w64 (24 - ((8 * (i % 4):Nat):Int))=((24 - 8 * (i % 4):Nat):Int):=by rw [z0s (by omega) (by omega)]; omega
   refine ⟨(ze2 v (i:Int) ((z6f (h[i / 4]'(by omega)) (24 - 8 * (i % 4))).toUInt8),((i+1:Nat):Int)),?_,rfl, fun k hk hk2=>?_⟩
   ·
    unfold z56
    rw [if_pos (by simp; omega)]
    simp only []
    rw [hd,hm,hs,z8o (show i / 4<8 by omega),z2z (by omega),z8o hi,z0d (show i<9223372036854775807 by omega)]
    simp only [bS,Int.toNat_natCast]
   ·
    simp only []
    rw [zh3 hk,Int.toNat_natCast]
    by_cases e:i=k
    ·
     subst e
     rw [if_pos rfl]
     simp [wr]
    ·
     rw [if_neg e]; exact h2 k hk (by omega)
  ·
   obtain ⟨v,j⟩:=s
   obtain ⟨h1,h2⟩:=hs
   simp only at h1 h2
   subst h1
   refine ⟨v,?_,?_⟩
   ·
    unfold z56
    rw [if_neg (by simp)]
   ·
    exact Vector.ext fun k hk=>h2 k hk hk
 obtain ⟨r,h1,rfl⟩:=this
 unfold zaz
 rw [h1]
 simp only [bS]
theorem zpt (m:z28):iter (z9d m) (Vector.replicate 32 0,0)=some (wr m.Words):=by
 have:∃ r,iter (z9d m) (Vector.replicate 32 0,0)=some r∧r=wr m.Words:=by
  refine z6d (F:=z9d m) 8 (fun i s=>s.2=(i:Int)∧∀ k (hk:k<32),k<4 * i→s.1[k]=(wr m.Words)[k]) (fun r=>r=wr m.Words) (fun i s hi hs=>?_) (fun s hs=>?_) (Vector.replicate 32 0,0) 0 (by omega) ⟨rfl, fun k hk h0=>by omega⟩
  ·
   obtain ⟨v,j⟩:=s
   obtain ⟨h1,h2⟩:=hs
   simp only at h1 h2
   subst h1
   have e0:w64 (4 * (i:Int))=((4 * i:Nat):Int):=by rw [z0s (by omega) (by omega)]; omega
   have e1:w64 (((4 * i:Nat):Int)+1)=((4 * i+1:Nat):Int):=by rw [z0s (by omega) (by omega)]; omega
   have e2:w64 (((4 * i:Nat):Int)+2)=((4 * i+2:Nat):Int):=by rw [z0s (by omega) (by omega)]; omega
   have e3:w64 (((4 * i:Nat):Int)+3)=((4 * i+3:Nat):Int):=by rw [z0s (by omega) (by omega)]; omega
   refine ⟨(ze2 (ze2 (ze2 (ze2 v ((4 * i:Nat):Int) (z6f m.Words[i] 24).toUInt8) ((4 * i+1:Nat):Int) (z6f m.Words[i] 16).toUInt8) ((4 * i+2:Nat):Int) (z6f m.Words[i] 8).toUInt8) ((4 * i+3:Nat):Int) m.Words[i].toUInt8,((i+1:Nat):Int)),?_,rfl, fun k hk hk2=>?_⟩
   ·
    unfold z9d
    rw [if_pos (by simp; omega)]
    simp only []
    rw [e0,e1,e2,e3,z8o hi,z8o (show 4 * i<32 by omega),z0d (show i<9223372036854775807 by omega)]
    simp only [bS]
    rw [z8o (show 4 * i+1<32 by omega),z8o (show 4 * i+2<32 by omega),z8o (show 4 * i+3<32 by omega)]
    simp only [bS]
   ·
    simp only []
    rw [zh3 hk,zh3 hk,zh3 hk,zh3 hk]
    simp only [Int.toNat_natCast]
    have hw:(wr m.Words)[k]=(z6f (m.Words[k / 4]'(by omega)) (24 - 8 * (k % 4))).toUInt8:=by simp [wr]
    have s0:∀ x:UInt32,z6f x 0=x:=fun x=>by
     apply UInt32.toNat_inj.1; rw [zfk]; simp
    by_cases c3:4 * i+3=k
    ·
     subst c3
     rw [if_pos rfl,hw]
     have a1:(4 * i+3) / 4=i:=by omega
     have a2:24 - 8 * ((4 * i+3) % 4)=0:=by omega
     simp only [a1,a2,s0]
    ·
     rw [if_neg c3]
     by_cases c2:4 * i+2=k
     ·
      subst c2
      rw [if_pos rfl,hw]
      have a1:(4 * i+2) / 4=i:=by omega
      have a2:24 - 8 * ((4 * i+2) % 4)=8:=by omega
      simp only [a1,a2]
     ·
      rw [if_neg c2]
      by_cases c1:4 * i+1=k
      ·
       subst c1
       rw [if_pos rfl,hw]
       have a1:(4 * i+1) / 4=i:=by omega
       have a2:24 - 8 * ((4 * i+1) % 4)=16:=by omega
       simp only [a1,a2]
      ·
       rw [if_neg c1]
       by_cases c0:4 * i=k
       ·
        subst c0
        rw [if_pos rfl,hw]
        have a1:(4 * i) / 4=i:=by omega
        have a2:24 - 8 * ((4 * i) % 4)=24:=by omega
        simp only [a1,a2]
       ·
        rw [if_neg c0]
        exact h2 k hk (by omega)
  ·
   obtain ⟨v,j⟩:=s
   obtain ⟨h1,h2⟩:=hs
   simp only at h1 h2
   subst h1
   refine ⟨v,?_,?_⟩
   ·
    unfold z9d
    rw [if_neg (by simp)]
   ·
    exact Vector.ext fun k hk=>h2 k hk (by omega)
 obtain ⟨r,h1,rfl⟩:=this
 exact h1
def sha (b:List UInt8):V3:=wr (blk H0 (b++tl b.length))
theorem z19a (a:List UInt8) (h:a.length≤300000):zh2 (zwu a)=some (sha a):=by
 have hz:zrs a.length<64:=Nat.mod_lt _ (by omega)
 unfold zh2
 rw [show (zwu a).N=((a.length:Nat):Int) from rfl,zri]
 simp only [bS]
 have ht:Int.tmod (w64 (119 - Int.tmod ((a.length:Nat):Int) 64)) 64=((zrs a.length:Nat):Int):=by
  have e1:Int.tmod ((a.length:Nat):Int) 64=((a.length % 64:Nat):Int):=by rw [Int.tmod_eq_emod_of_nonneg (by omega)]; omega
  rw [e1,z0s (by omega) (by omega),Int.tmod_eq_emod_of_nonneg (by omega)]
  unfold zrs
  omega
 rw [ht]
 have hap:appz 1 ([128]:List UInt8) 0 ((zrs a.length:Nat):Int)=some ([128]++List.replicate (zrs a.length) 0):=by
  unfold appz
  rw [if_pos ⟨by omega, by simp; omega⟩,Int.toNat_natCast]
 rw [hap]
 simp only [bS]
 rw [z10h _ _ (by simp; omega)]
 simp only [bS]
 have htl:(tl a.length).length≤200:=by simp [tl,z90]; omega
 rw [show ([128]++List.replicate (zrs a.length) 0)++z90 a.length=tl a.length from rfl,zrt a _ (by omega)]
 simp only [bS]
 rw [zpt]
 simp only [bS]
 rfl
theorem z19r (b:List UInt8) (h:b.length≤300000):zd7 b=some (sha b):=by
 have hz:zrs b.length<64:=Nat.mod_lt _ (by omega)
 have htl:(tl b.length).length≤200:=by simp [tl,z90]; omega
 unfold zd7 zfx
 simp only [bS]
 rw [z0x (by simp; omega)]
 simp only [bS,List.nil_append]
 rw [z13k _ (by omega)]
 simp only [bS]
 rw [z0x (by simp; omega)]
 simp only [bS]
 rw [zyc _ _ (by simp; omega)]
 simp only [bS]
 rw [zvk]
 simp only [bS]
 rfl
end
section
open Go Go.RowKit
def pmod:Nat→Nat→Nat→Nat→Nat
 | 0,_,_,m=>1 % m
 | f+1,a,n,m=>if n=0 then 1 % m else (if n % 2=1 then a * pmod f (a * a % m) (n / 2) m % m else pmod f (a * a % m) (n / 2) m)
theorem zpe:∀ (f a n m:Nat),n<2 ^ f→pmod f a n m=a ^ n % m
 | 0,a,n,m,h=>by
  have:n=0:=by simpa using h
  subst this; rfl
 | f+1,a,n,m,h=>by
  have h2:n / 2<2 ^ f:=by rw [Nat.pow_succ] at h; omega
  have key:(a * a % m) ^ (n / 2) % m=a ^ (2 * (n / 2)) % m:=by
   rw [← Nat.pow_mod,← Nat.pow_two,← Nat.pow_mul]
  simp only [pmod,zpe f _ _ _ h2,key]
  split
  ·
   rename_i h0; subst h0; rfl
  ·
   split
   ·
    rename_i h1
    rw [Nat.mul_mod,Nat.mod_mod,← Nat.mul_mod, show a * a ^ (2 * (n / 2))=a ^ (2 * (n / 2)+1) by rw [Nat.pow_succ,Nat.mul_comm], show 2 * (n / 2)+1=n by omega]
   ·
    rename_i h1
    rw [show 2 * (n / 2)=n by omega]
abbrev gp:Nat:=1000000007
abbrev gq:Nat:=500000003
theorem ztw:4 ^ gq % gp=1:=by
 rw [← zpe 64 4 gq gp (by decide)]
 decide +kernel
def inG (a:Nat):Prop:=0<a∧a<gp∧a ^ gq % gp=1
instance:DecidablePred inG:=fun a=>by unfold inG; exact inferInstance
theorem zhz (a m n p:Nat):(a ^ m % p) ^ n % p=a ^ (m * n) % p:=by rw [← Nat.pow_mod,← Nat.pow_mul]
theorem zrz {a:Nat} (h:a ^ gq % gp=1) (k:Nat):a ^ (gq * k) % gp=1:=by
 rw [Nat.pow_mul,Nat.pow_mod,h,Nat.one_pow]
 rfl
theorem zlm {a:Nat} (h:a ^ gq % gp=1) (k r:Nat):a ^ (gq * k+r) % gp=a ^ r % gp:=by
 rw [Nat.pow_add,Nat.mul_mod,zrz h,Nat.one_mul,Nat.mod_mod]
theorem zpd {a:Nat} (h:a ^ gq % gp=1) (n:Nat):inG (a ^ n % gp):=by
 have h2:(a ^ n % gp) ^ gq % gp=1:=by rw [zhz,Nat.mul_comm,zrz h]
 refine ⟨Nat.pos_of_ne_zero fun h0=>?_,Nat.mod_lt _ (by decide),h2⟩
 rw [h0,Nat.zero_pow (by decide)] at h2
 exact absurd h2 (by decide)
theorem z150 {y E:Nat} (h:y ^ gq % gp=1) (hE:E<gq):(y ^ E % gp) ^ (gq - 1) % gp=y ^ (gq - E) % gp:=by
 rw [zhz]
 by_cases h0:E=0
 ·
  subst h0
  rw [Nat.zero_mul,Nat.sub_zero,h,Nat.pow_zero]
  decide
 ·
  have e:E * (gq - 1)=gq * (E - 1)+(gq - E):=by
   obtain ⟨k,rfl⟩:∃ k,E=k+1:=⟨E - 1, by omega⟩
   have hE':k+1<500000003:=hE
   show (k+1) * 500000002=500000003 * (k+1 - 1)+(500000003 - (k+1))
   omega
  rw [e,zlm h]
theorem zyl {a n i p:Nat}:((a ^ (n >>> (i+1)) % p) * (a ^ (n >>> (i+1)) % p) % p) * a ^ ((n >>> i) % 2) % p=a ^ (n >>> i) % p:=by
 have e:n >>> i=2 * (n >>> (i+1))+(n >>> i) % 2:=by
  rw [Nat.shiftRight_succ]; omega
 have key:∀ x y:Nat,((x % p) * (x % p) % p) * y % p=x * x * y % p:=fun x y=>by
  rw [Nat.mul_mod ((x % p) * (x % p) % p) y,Nat.mod_mod,← Nat.mul_mod x x,← Nat.mul_mod]
 rw [key,← Nat.pow_add,← Nat.pow_add]
 congr 2
 omega
end
section
open Go
def u32 (n:Nat):UInt32:=UInt32.ofNat n
theorem z26 {n:Nat} (h:n<gp):(u32 n).toNat=n:=by
 have h:n<1000000007:=h
 unfold u32; simp; omega
theorem m64 (x y:UInt64) (h:x.toNat * y.toNat<18446744073709551616):(x * y % 1000000007).toNat=x.toNat * y.toNat % gp:=by
 rw [UInt64.toNat_mod,UInt64.toNat_mul,Nat.mod_eq_of_lt h]
 rfl
theorem to32 (x:UInt64) (h:x.toNat<gp):x.toUInt32=u32 x.toNat:=by
 apply UInt32.toNat_inj.1
 have h:x.toNat<1000000007:=h
 rw [z26 h]; simp; omega
theorem mul2 (x y:UInt32):zav 1000000007 [x,y]=some (u32 (x.toNat * y.toNat % gp)):=by
 have hx:=UInt32.toNat_lt x
 have hy:=UInt32.toNat_lt y
 have e1:(1 * x.toUInt64 % 1000000007:UInt64).toNat=x.toNat % gp:=by
  rw [m64 _ _ (by simp; omega)]; simp
 have hlt:x.toNat % gp<1000000007:=Nat.mod_lt _ (by decide)
 have hpr:(x.toNat % gp) * y.toNat≤1000000007 * 4294967296:=Nat.mul_le_mul (by omega) (by omega)
 have e2:(1 * x.toUInt64 % 1000000007 * y.toUInt64 % 1000000007:UInt64).toNat=x.toNat * y.toNat % gp:=by
  rw [m64 _ _ (by rw [e1]; simp; omega),e1]
  simp only [UInt32.toNat_toUInt64]
  rw [Nat.mod_mul_mod]
 have s1:z3x 1000000007 [x,y] (1,0)=some (.inr (1 * x.toUInt64 % 1000000007,1)):=by
  unfold z3x
  rw [if_pos (by simp)]
  simp only []
  rw [show idx [x,y] 0=some x from rfl,z2z (by decide),z0s (x:=(0:Int)+1) (by omega) (by omega)]
  simp only [bS]
  rfl
 have s2:z3x 1000000007 [x,y] (1 * x.toUInt64 % 1000000007,1)=some (.inr (1 * x.toUInt64 % 1000000007 * y.toUInt64 % 1000000007,2)):=by
  unfold z3x
  rw [if_pos (by simp)]
  simp only []
  rw [show idx [x,y] 1=some y from rfl,z2z (by decide),z0s (x:=(1:Int)+1) (by omega) (by omega)]
  simp only [bS]
  rfl
 have s3:z3x 1000000007 [x,y] (1 * x.toUInt64 % 1000000007 * y.toUInt64 % 1000000007,2)=some (.inl (1 * x.toUInt64 % 1000000007 * y.toUInt64 % 1000000007)):=by
  unfold z3x
  rw [if_neg (by simp)]
 unfold zav
 rw [z17 s1,z17 s2,z14 s3]
 simp only [bS]
 rw [to32 _ (by rw [e2]; exact Nat.mod_lt _ (by decide)),e2]
theorem z134 (a:UInt32) (n:UInt64) (i:Nat) (hi:i<64):zc5 a n (u32 (a.toNat ^ (n.toNat >>> (64 - i)) % gp),(i:Int))=some (.inr (u32 (a.toNat ^ (n.toNat >>> (64 - (i+1))) % gp),((i+1:Nat):Int))):=by
 have hlt:a.toNat ^ (n.toNat >>> (64 - i)) % gp<gp:=Nat.mod_lt _ (by decide)
 have hlt2:(a.toNat ^ (n.toNat >>> (64 - i)) % gp) * (a.toNat ^ (n.toNat >>> (64 - i)) % gp) % gp<gp:=Nat.mod_lt _ (by decide)
 have hw:w64 (63 - (i:Int))=((63 - i:Nat):Int):=by rw [z0s (by omega) (by omega)]; omega
 have key:=zyl (a:=a.toNat) (n:=n.toNat) (i:=63 - i) (p:=gp)
 rw [show 63 - i+1=64 - i by omega] at key
 have hb:=z19z n (63 - i) (by omega)
 unfold zc5 zht
 rw [if_pos (by simp; omega)]
 simp only []
 rw [mul2,z26 hlt]
 simp only [bS]
 rw [hw,z2z (by omega),z0d (show i<9223372036854775807 by omega)]
 simp only [bS]
 rw [show 64 - (i+1)=63 - i by omega]
 have hs:n.toNat >>> (63 - i) % 2=(if n.toNat.testBit (63 - i) then 1 else 0):=by
  rw [Nat.testBit_eq_decide_div_mod_eq,← Nat.shiftRight_eq_div_pow]
  by_cases h:n.toNat >>> (63 - i) % 2=1
  ·
   simp [h]
  ·
   simp [h]; omega
 cases ht:n.toNat.testBit (63 - i) with
 | true =>
  rw [ht] at hs
  rw [hs,if_pos rfl,Nat.pow_one] at key
  rw [if_pos (by rw [Int.toNat_natCast,hb]; exact ht),mul2,z26 hlt2,key]
  simp only [bS]
 | false =>
  rw [ht] at hs
  rw [hs,if_neg (by simp),Nat.pow_zero,Nat.mul_one,Nat.mod_mod] at key
  rw [if_neg (by rw [Int.toNat_natCast,hb,ht]; simp),key]
theorem zud (a:UInt32) (n:UInt64):zey a n=some (u32 (a.toNat ^ n.toNat % gp)):=by
 have h0:n.toNat >>> 64=0:=by
  rw [Nat.shiftRight_eq_div_pow]; exact Nat.div_eq_of_lt (UInt64.toNat_lt n)
 have:=z2f (F:=zc5 a n) (b:=u32 (a.toNat ^ n.toNat % gp)) 64 (fun i=>(u32 (a.toNat ^ (n.toNat >>> (64 - i)) % gp),(i:Int))) (fun i hi=>z134 a n i hi) (by
  unfold zc5
  rw [if_neg (by simp)]
  simp)
 simp only [Nat.sub_zero,h0,Nat.pow_zero] at this
 unfold zey
 rw [show ((1:UInt32),(0:Int))=(u32 (1 % gp),((0:Nat):Int)) from rfl,this]
 simp only [bS]
theorem zw4:∀ (k:Nat) (a n o:UInt64),n.toNat=k→a.toNat<4294967296→o.toNat<gp→∃ r:UInt64,iter (z60 1000000007) (a,n,o)=some r∧r.toNat=o.toNat * a.toNat ^ n.toNat % gp:=by
 intro k
 induction k using Nat.strongRecOn with
 | _ k ih =>
  intro a n o hk ha ho
  have ho':o.toNat<1000000007:=ho
  by_cases hn:n.toNat=0
  ·
   refine ⟨o,z14 ?_,?_⟩
   ·
    unfold z60
    rw [if_neg]
    simp only [decide_eq_true_eq,UInt64.lt_iff_toNat_lt]
    simp; omega
   ·
    rw [hn,Nat.pow_zero,Nat.mul_one,Nat.mod_eq_of_lt ho]
  ·
   have haa:(a * a % 1000000007).toNat=a.toNat * a.toNat % gp:=m64 a a (by
    have:a.toNat * a.toNat≤4294967295 * 4294967295:=Nat.mul_le_mul (by omega) (by omega)
    omega)
   have hoa:(o * a % 1000000007).toNat=o.toNat * a.toNat % gp:=m64 o a (by
    have:o.toNat * a.toNat≤1000000007 * 4294967295:=Nat.mul_le_mul (by omega) (by omega)
    omega)
   have hn2:(n / 2).toNat=n.toNat / 2:=by simp
   have hm2:((n % 2)==1)=decide (n.toNat % 2=1):=by
    rw [Bool.eq_iff_iff,beq_iff_eq,← UInt64.toNat_inj]
    simp
   have hlt:a.toNat * a.toNat % gp<1000000007:=Nat.mod_lt _ (by decide)
   have hol:o.toNat * a.toNat % gp<gp:=Nat.mod_lt _ (by decide)
   have hpow:∀ m:Nat,(a.toNat * a.toNat % gp) ^ m % gp=a.toNat ^ (2 * m) % gp:=fun m=>by
    rw [← Nat.pow_mod,← Nat.pow_two,← Nat.pow_mul]
   have hstep:z60 1000000007 (a,n,o)=some (.inr (a * a % 1000000007,n / 2, if n.toNat % 2=1 then o * a % 1000000007 else o)):=by
    unfold z60
    rw [if_pos (by simp only [decide_eq_true_eq,UInt64.lt_iff_toNat_lt]; simp; omega)]
    simp only []
    rw [hm2,z2z (by decide)]
    by_cases h:n.toNat % 2=1
    ·
     rw [if_pos (by simpa using h),if_pos h]
     simp only [bS]
    ·
     rw [if_neg (by simpa using h),if_neg h]
     simp only [bS]
   rw [z17 hstep]
   by_cases h:n.toNat % 2=1
   ·
    rw [if_pos h]
    obtain ⟨r,h1,h2⟩:=ih (n / 2).toNat (by rw [hn2]; omega) (a * a % 1000000007) (n / 2) (o * a % 1000000007) rfl (by rw [haa]; omega) (by rw [hoa]; exact hol)
    refine ⟨r,h1,?_⟩
    rw [h2,haa,hoa,hn2,Nat.mul_mod,hpow,Nat.mod_mod,← Nat.mul_mod,Nat.mul_assoc, show a.toNat * a.toNat ^ (2 * (n.toNat / 2))=a.toNat ^ (2 * (n.toNat / 2)+1) by rw [Nat.pow_succ,Nat.mul_comm], show 2 * (n.toNat / 2)+1=n.toNat by omega]
   ·
    rw [if_neg h]
    obtain ⟨r,h1,h2⟩:=ih (n / 2).toNat (by rw [hn2]; omega) (a * a % 1000000007) (n / 2) o rfl (by rw [haa]; omega) ho
    refine ⟨r,h1,?_⟩
    rw [h2,haa,hn2,Nat.mul_mod,hpow,← Nat.mul_mod, show 2 * (n.toNat / 2)=n.toNat by omega]
theorem zuk (a n:UInt64) (ha:a.toNat<4294967296):∃ r:UInt64,za3 a n 1000000007=some r∧r.toNat=a.toNat ^ n.toNat % gp:=by
 obtain ⟨r,h1,h2⟩:=zw4 _ a n 1 rfl ha (by decide)
 refine ⟨r,?_, by rw [h2]; simp⟩
 unfold za3
 rw [h1]
 simp only [bS]
theorem zlx (a:UInt32) (n:UInt64):z7p a n=some (u32 (a.toNat ^ n.toNat % gp)):=by
 obtain ⟨r,h1,h2⟩:=zuk a.toUInt64 n (by simp; exact UInt32.toNat_lt a)
 unfold z7p
 rw [h1]
 simp only [bS]
 simp only [UInt32.toNat_toUInt64] at h2
 rw [to32 _ (by rw [h2]; exact Nat.mod_lt _ (by decide)),h2]
theorem z190 (a:UInt32):(u32 (a.toNat ^ (500000003:UInt64).toNat % gp)==1)=decide (a.toNat ^ gq % gp=1):=by
 have hlt:a.toNat ^ gq % gp<gp:=Nat.mod_lt _ (by decide)
 rw [show (500000003:UInt64).toNat=gq from rfl,Bool.eq_iff_iff,beq_iff_eq,decide_eq_true_iff,← UInt32.toNat_inj,z26 hlt]
 rfl
theorem zwz (a:UInt32):zgt a=some (decide (inG a.toNat)):=by
 unfold zgt
 have h1:decide (0<a)=decide (0<a.toNat):=by simp [UInt32.lt_iff_toNat_lt]
 have h2:decide (a<1000000007)=decide (a.toNat<gp):=by simp [UInt32.lt_iff_toNat_lt]
 rw [h1,h2,zud]
 simp only [bS]
 rw [z190]
 unfold inG
 by_cases c1:0<a.toNat
 ·
  by_cases c2:a.toNat<gp
  ·
   simp [c1,c2]
  ·
   simp [c1,c2]
 ·
  simp [c1]
theorem zur (a:UInt32):zd4 a=some (decide (inG a.toNat)):=by
 obtain ⟨r,hr1,hr2⟩:=zuk a.toUInt64 500000003 (by simp; exact UInt32.toNat_lt a)
 unfold zd4
 have h1:decide (1≤a)=decide (0<a.toNat):=by
  rw [decide_eq_decide,UInt32.le_iff_toNat_le]; simp; omega
 have h2:decide (a<1000000007)=decide (a.toNat<gp):=by simp [UInt32.lt_iff_toNat_lt]
 rw [h1,h2,hr1]
 simp only [bS]
 have h3:(r==1)=decide (a.toNat ^ gq % gp=1):=by
  simp only [UInt32.toNat_toUInt64] at hr2
  rw [Bool.eq_iff_iff,beq_iff_eq,decide_eq_true_iff,← UInt64.toNat_inj,hr2]
  rfl
 rw [h3]
 unfold inG
 by_cases c1:0<a.toNat
 ·
  by_cases c2:a.toNat<gp
  ·
   simp [c1,c2]
  ·
   simp [c1,c2]
 ·
  simp [c1]
end
section
open Go
theorem zy2 (l:List (List UInt8)) (h0:l.length≤20) (h:∀ b∈l,b.length≤10000):z1g l=some false:=by
 have:iter (z0y l) 0=some (.inr ()):=by
  refine z2f (F:=z0y l) (b:=.inr ()) l.length (fun i=>(i:Int)) (fun i hi=>?_) ?_
  ·
   have hb:=h l[i] (List.getElem_mem _)
   unfold z0y zdd
   rw [if_pos (by simp; omega),z09 hi]
   simp only [bS]
   rw [if_neg (by simp; omega),z0d (show i<9223372036854775807 by omega)]
  ·
   unfold z0y
   rw [if_neg (by simp)]
 unfold z1g z2r
 rw [this]
 simp only [zn7,bS]
 rfl
theorem zkz:∀ (l:List (List UInt8)),(∀ b∈l,b.length≤10000)→l.flatten.length≤l.length * 10000
 | [],_=>by simp
 | b::l,h=>by
  have h1:=h b (by simp)
  have h2:=zkz l (fun c hc=>h c (by simp [hc]))
  simp only [List.flatten_cons,List.length_append,List.length_cons]; omega
theorem zmr (l:List (List UInt8)) (h0:l.length≤20) (h:∀ b∈l,b.length≤10000):zb0 l=some (sha l.flatten,0):=by
 have hl:iter (z81 l) (zwu [],0)=some (zwu l.flatten):=by
  have:=z2f (F:=z81 l) (b:=zwu l.flatten) l.length (fun i=>(zwu (l.take i).flatten,(i:Int))) (fun i hi=>?_) ?_
  ·
   simpa using this
  ·
   have hb:=h l[i] (List.getElem_mem _)
   have hf:=zkz (l.take i) (fun b hb'=>h b (List.mem_of_mem_take hb'))
   simp only [List.length_take] at hf
   unfold z81
   rw [if_pos (by simp; omega)]
   simp only []
   rw [z09 hi]
   simp only [bS]
   rw [zrt _ _ (by omega),z0d (show i<9223372036854775807 by omega)]
   simp only [bS]
   rw [List.take_add_one,List.getElem?_eq_getElem hi,List.flatten_append]
   rw [show ((some l[i]:Option (List UInt8)).toList).flatten=l[i] by simp]
  ·
   unfold z81
   rw [if_neg (by simp)]
   simp
 have hf:=zkz l h
 unfold zb0
 rw [if_neg (by simp; omega),zy2 l h0 h]
 simp only [bS]
 rw [if_neg (by simp),z12i]
 simp only [bS]
 rw [hl]
 simp only [bS]
 rw [z19a _ (by omega)]
 simp only [bS]
theorem z17x (b:List UInt8) (h:b.length≤10000):zh6 b=some (sha b,0):=by
 unfold zh6
 rw [zmr [b] (by simp) (by simpa using h)]
 simp
def four (x:UInt32):List UInt8:=[(z6f x 24).toUInt8,(z6f x 16).toUInt8,(z6f x 8).toUInt8,x.toUInt8]
theorem zyw (x:UInt32):zax x=some (four x):=by
 unfold zax four
 have hx:=UInt32.toNat_lt x
 have e1:(x / 16777216).toUInt8=(z6f x 24).toUInt8:=by
  apply UInt8.toNat_inj.1
  simp only [UInt32.toNat_toUInt8,zfk,UInt32.toNat_div]; rfl
 have e2:((x / 65536) % 256).toUInt8=(z6f x 16).toUInt8:=by
  apply UInt8.toNat_inj.1
  simp only [UInt32.toNat_toUInt8,zfk,UInt32.toNat_div,UInt32.toNat_mod]
  exact Nat.mod_mod _ _
 have e3:((x / 256) % 256).toUInt8=(z6f x 8).toUInt8:=by
  apply UInt8.toNat_inj.1
  simp only [UInt32.toNat_toUInt8,zfk,UInt32.toNat_div,UInt32.toNat_mod]
  exact Nat.mod_mod _ _
 have e4:(x % 256).toUInt8=x.toUInt8:=by
  apply UInt8.toNat_inj.1
  simp only [UInt32.toNat_toUInt8,UInt32.toNat_mod]
  exact Nat.mod_mod _ _
 rw [e1,e2,e3,e4]
def zls (d:V3):Nat→UInt64
 | 0=>0
 | i+1=>256 * zls d i+(d.toList.getD i 0).toUInt64
theorem zsx (d:V3):∀ i,i≤8→(zls d i).toNat<256 ^ i
 | 0,_=>by simp [zls]
 | i+1,h=>by
  have ih:=zsx d i (by omega)
  have hy:=UInt8.toNat_lt (d.toList.getD i 0)
  have ep:256 ^ (i+1)=256 ^ i * 256:=Nat.pow_succ ..
  have hp:256 ^ i≤256 ^ 7:=Nat.pow_le_pow_right (by omega) (by omega)
  have e7:(256:Nat) ^ 7=72057594037927936:=rfl
  rw [zls,UInt64.toNat_add,UInt64.toNat_mul,ep]
  have e1:((d.toList.getD i 0).toUInt64).toNat=(d.toList.getD i 0).toNat:=by simp
  have e2:(256:UInt64).toNat=256:=rfl
  rw [e1,e2,Nat.mod_eq_of_lt (a:=256 * (zls d i).toNat) (by omega),Nat.mod_eq_of_lt (by omega)]
  omega
theorem z12a (x:UInt64) (y:UInt8) (h:x.toNat<72057594037927936):(zpi x 8) ||| y.toUInt64=256 * x+y.toUInt64:=by
 apply UInt64.toNat_inj.1
 have hy:=UInt8.toNat_lt y
 rw [UInt64.toNat_or,zly,UInt64.toNat_add,UInt64.toNat_mul]
 have e1:(y.toUInt64).toNat=y.toNat:=by simp
 have e2:(256:UInt64).toNat=256:=rfl
 rw [e1,e2, show (2:Nat) ^ (min 8 64)=256 from rfl,Nat.mod_eq_of_lt (a:=x.toNat * 256) (by omega),Nat.mod_eq_of_lt (a:=256 * x.toNat) (by omega),Nat.mod_eq_of_lt (by omega)]
 have:=Nat.shiftLeft_add_eq_or_of_lt (i:=8) (b:=y.toNat) (by simpa using hy) x.toNat
 rw [Nat.shiftLeft_eq, show (2:Nat) ^ 8=256 from rfl] at this
 rw [← this]; omega
theorem zub (d:V3) (e:Int):iter (zc3 (d,e)) (0,0)=some (zls d 8):=by
 refine z2f (F:=zc3 (d,e)) (b:=zls d 8) 8 (fun i=>(zls d i,(i:Int))) (fun i hi=>?_) ?_
 ·
  have hl:((d.toList.drop 0).take 8).length=8:=by simp
  have hlt:=zsx d i (by omega)
  have hp:256 ^ i≤256 ^ 7:=Nat.pow_le_pow_right (by omega) (by omega)
  have e7:(256:Nat) ^ 7=72057594037927936:=rfl
  unfold zc3
  simp only [hl]
  rw [if_pos (by simp; omega),zgi 0 (by rw [hl]; exact hi)]
  simp only [bS]
  rw [List.drop_zero,zqo hi,z12a _ _ (by omega),z0d (show i<9223372036854775807 by omega)]
  rfl
 ·
  have hl:((d.toList.drop 0).take 8).length=8:=by simp
  unfold zc3
  simp only [hl]
  rw [if_neg (by simp)]
theorem z171 (b:List UInt8) (h:b.length≤300000):zbo b=some (zls (sha b) 8):=by
 have:iter (z5e (sha b)) (0,0)=some (zls (sha b) 8):=by
  refine z2f (F:=z5e (sha b)) (b:=zls (sha b) 8) 8 (fun i=>(zls (sha b) i,(i:Int))) (fun i hi=>?_) ?_
  ·
   unfold z5e
   rw [if_pos (by simp; omega)]
   simp only [z10n]
   rw [zgi 0 (by simp; omega),z0d (show i<9223372036854775807 by omega)]
   simp only [bS]
   rfl
  ·
   unfold z5e
   rw [if_neg (by simp)]
 unfold zbo
 rw [z19r b h]
 simp only [bS]
 rw [this]
 simp only [bS]
def zwt (r y:UInt32) (m:List UInt8):UInt32:=(zls (sha ((([99]++four r)++four y)++m)) 8 % 500000003).toUInt32
theorem z15m (m:List UInt8) (r y:UInt32) (h:m.length≤9991):zdy 99 m [r,y]=some (zls (sha ((([99]++four r)++four y)++m)) 8,0):=by
 have l1:iter (z3y [r,y]) ([99],0)=some (([99]++four r)++four y):=by
  have s1:z3y [r,y] ([99],0)=some (.inr ([99]++four r,1)):=by
   unfold z3y
   rw [if_pos (by simp)]
   simp only []
   rw [show idx [r,y] 0=some r from rfl,z0s (x:=(0:Int)+1) (by omega) (by omega)]
   simp only [bS]
   rw [z0x (by simp)]
   rfl
  have s2:z3y [r,y] ([99]++four r,1)=some (.inr (([99]++four r)++four y,2)):=by
   unfold z3y
   rw [if_pos (by simp)]
   simp only []
   rw [show idx [r,y] 1=some y from rfl,z0s (x:=(1:Int)+1) (by omega) (by omega)]
   simp only [bS]
   rw [z0x (by simp [four])]
   rfl
  have s3:z3y [r,y] (([99]++four r)++four y,2)=some (.inl (([99]++four r)++four y)):=by
   unfold z3y
   rw [if_neg (by simp)]
  rw [z17 s1,z17 s2,z14 s3]
 unfold zdy
 rw [if_neg (by simp; omega),l1]
 simp only [bS]
 rw [zmr _ (by simp) (by
  intro b hb
  simp only [List.mem_cons,List.not_mem_nil,or_false] at hb
  rcases hb with rfl | rfl
  ·
   simp [four]
  ·
   omega)]
 simp only [bS]
 rw [zub, show [([99]++four r)++four y,m].flatten=(([99]++four r)++four y)++m by simp only [List.flatten_cons,List.flatten_nil,List.append_nil]]
 rfl
theorem zk3 (r y:UInt32) (m:List UInt8) (h:m.length≤9991):z9u r y m=some (zwt r y m,0):=by
 unfold z9u
 rw [z15m m r y h]
 simp only [bS]
 rw [if_neg (by simp)]
 rfl
theorem zld (r y:UInt32) (m:List UInt8) (h:m.length≤9991):z9i r y m=some (zwt r y m):=by
 unfold z9i
 rw [zyw]
 simp only [bS]
 rw [z0x (by simp [four]),zyw]
 simp only [bS]
 rw [z0x (by simp [four])]
 simp only [bS]
 rw [z0x (by simp [four]; omega)]
 simp only [bS]
 rw [z171 _ (by simp [four]; omega)]
 simp only [bS]
 rfl
def za5 (x:UInt32):Bool:=decide (x.toNat<gq)
theorem zft (x:UInt32):z4m x=some (za5 x):=by
 have e:decide (x.toUInt64<500000003)=za5 x:=by unfold za5; simp [UInt64.lt_iff_toNat_lt]
 unfold z4m
 rw [e]
 rfl
def sigR (y:UInt32) (s:z08):UInt32:=u32 ((4 ^ s.S.toNat % gp) * (y.toNat ^ (gq - s.E.toNat) % gp) % gp)
def zmg (y:UInt32) (m:List UInt8) (s:z08):Bool:=za5 s.E&&(za5 s.S&&(zwt (sigR y s) y m==s.E))
theorem z12v (y:UInt32) (m:List UInt8) (s:z08) (hy:inG y.toNat) (h:m.length≤9991):zcf y m s=some (zmg y m s):=by
 unfold zcf zmg
 rw [zft]
 simp only [bS]
 cases hE:za5 s.E with
 | false=>rw [if_pos (by simp)]; rfl
 | true =>
  rw [if_neg (by simp),zft]
  simp only [bS]
  cases hS:za5 s.S with
  | false=>rw [if_pos (by simp)]; rfl
  | true =>
   have hE':s.E.toNat<gq:=by simpa [za5] using hE
   have hin:=zpd hy.2.2 s.E.toNat
   have hlt:y.toNat ^ s.E.toNat % gp<gp:=Nat.mod_lt _ (by decide)
   rw [if_neg (by simp),zlx]
   simp only [bS]
   unfold zho zhi zgg
   rw [zur,z26 (by simpa using hlt)]
   simp only [bS]
   have hE64:s.E.toUInt64.toNat=s.E.toNat:=by simp
   rw [hE64,decide_eq_true hin,if_neg (by simp),zlx,z26 hlt,zlx]
   simp only [bS]
   rw [show (500000002:UInt64).toNat=gq - 1 from rfl,z150 hy.2.2 hE']
   unfold zeb
   simp only [bS]
   have hS64:s.S.toUInt64.toNat=s.S.toNat:=by simp
   have hl1:4 ^ s.S.toNat % gp<gp:=Nat.mod_lt _ (by decide)
   have hl2:y.toNat ^ (gq - s.E.toNat) % gp<gp:=Nat.mod_lt _ (by decide)
   have hprod:((u32 ((4:UInt32).toNat ^ s.S.toUInt64.toNat % gp)).toUInt64 * (u32 (y.toNat ^ (gq - s.E.toNat) % gp)).toUInt64 % 1000000007).toUInt32=sigR y s:=by
    have hb:(4 ^ s.S.toNat % gp) * (y.toNat ^ (gq - s.E.toNat) % gp)≤1000000007 * 1000000007:=Nat.mul_le_mul (Nat.le_of_lt hl1) (Nat.le_of_lt hl2)
    have e1:=m64 (u32 ((4:UInt32).toNat ^ s.S.toUInt64.toNat % gp)).toUInt64 (u32 (y.toNat ^ (gq - s.E.toNat) % gp)).toUInt64
    simp only [UInt32.toNat_toUInt64] at e1
    rw [show (4:UInt32).toNat=4 from rfl,z26 hl1,z26 hl2] at e1
    have e1:=e1 (by omega)
    rw [show (4:UInt32).toNat=4 from rfl,hS64,to32 _ (by rw [e1]; exact Nat.mod_lt _ (by decide)),e1]
    rfl
   rw [hprod,zld _ _ _ h]
   simp only [bS]
   rfl
theorem all1 (a:UInt32) (h:inG a.toNat):zdu [a]=some true:=by
 unfold zdu
 have s1:z4z [a] 0=some (.inr 1):=by
  unfold z4z
  rw [if_pos (by simp), show idx [a] 0=some a from rfl]
  simp only [bS]
  rw [zwz,decide_eq_true h,z0s (x:=(0:Int)+1) (by omega) (by omega)]
  rfl
 have s2:z4z [a] 1=some (.inl (.inr ())):=by
  unfold z4z
  rw [if_neg (by simp)]
 rw [z17 s1,z14 s2]
 rfl
theorem all2 (a b:UInt32) (h:inG a.toNat) (h2:inG b.toNat):zdu [a,b]=some true:=by
 unfold zdu
 have s1:z4z [a,b] 0=some (.inr 1):=by
  unfold z4z
  rw [if_pos (by simp), show idx [a,b] 0=some a from rfl]
  simp only [bS]
  rw [zwz,decide_eq_true h,z0s (x:=(0:Int)+1) (by omega) (by omega)]
  rfl
 have s2:z4z [a,b] 1=some (.inr 2):=by
  unfold z4z
  rw [if_pos (by simp), show idx [a,b] 1=some b from rfl]
  simp only [bS]
  rw [zwz,decide_eq_true h2,z0s (x:=(1:Int)+1) (by omega) (by omega)]
  rfl
 have s3:z4z [a,b] 2=some (.inl (.inr ())):=by
  unfold z4z
  rw [if_neg (by simp)]
 rw [z17 s1,z17 s2,z14 s3]
 rfl
theorem zzh (y:UInt32) (m:List UInt8) (s:z08) (hy:inG y.toNat) (h:m.length≤9991):zf9 y m s=some (if zmg y m s then 0 else 22):=by
 have hmax:decide (500000003≤max s.E s.S)=!(za5 s.E&&za5 s.S):=by
  have e1:(500000003≤max s.E s.S)↔(500000003≤s.E∨500000003≤s.S):=by
   rw [show max s.E s.S=if s.E≤s.S then s.S else s.E from rfl]
   split
   ·
    rename_i hh
    constructor
    ·
     exact fun h=>.inr h
    ·
     rintro (h | h)
     ·
      exact UInt32.le_trans h hh
     ·
      exact h
   ·
    rename_i hh
    constructor
    ·
     exact fun h=>.inl h
    ·
     rintro (h | h)
     ·
      exact h
     ·
      rw [UInt32.le_iff_toNat_le] at *; omega
  rw [Bool.eq_iff_iff,decide_eq_true_iff,e1]
  unfold za5
  simp only [UInt32.le_iff_toNat_le,Bool.not_eq_true',Bool.and_eq_false_iff,decide_eq_false_iff_not,Nat.not_lt]
  rfl
 unfold zf9
 rw [zwz,decide_eq_true hy]
 simp only [bS]
 rw [if_neg (by simp),if_neg (by simp; omega),hmax]
 cases hE:za5 s.E with
 | false=>unfold zmg; rw [hE]; rfl
 | true =>
  cases hS:za5 s.S with
  | false=>unfold zmg; rw [hE,hS]; rfl
  | true =>
   have hE':s.E.toNat<gq:=by simpa [za5] using hE
   have hE':s.E.toNat<500000003:=hE'
   rw [if_neg (by simp)]
   unfold zm5 zbj zmu
   rw [all1 y hy]
   simp only [bS]
   rw [if_neg (by simp),zud]
   simp only [bS]
   rw [zud]
   simp only [bS]
   have hS64:s.S.toUInt64.toNat=s.S.toNat:=by simp
   have hq:(500000003 - s.E.toUInt64).toNat=gq - s.E.toNat:=by
    rw [UInt64.toNat_sub_of_le _ _ (by rw [UInt64.le_iff_toNat_le]; simp; omega)]
    simp
   have hl1:4 ^ s.S.toNat % gp<gp:=Nat.mod_lt _ (by decide)
   have hl2:y.toNat ^ (gq - s.E.toNat) % gp<gp:=Nat.mod_lt _ (by decide)
   rw [hq,hS64, show (4:UInt32).toNat=4 from rfl]
   rw [all2 _ _ (by rw [z26 hl1]; exact zpd ztw _) (by rw [z26 hl2]; exact zpd hy.2.2 _)]
   simp only [bS]
   rw [if_neg (by simp),mul2,z26 hl1,z26 hl2]
   simp only [bS]
   rw [zk3 _ _ _ h]
   simp only [bS]
   rw [if_neg (by simp)]
   unfold zmg
   rw [hE,hS]
   show (if (zwt (sigR y s) y m != s.E)=true then some 22 else some 0)=_
   by_cases hc:zwt (sigR y s) y m=s.E
   ·
    simp [hc]
   ·
    simp [hc]
end
section
open Go
def frc {α:Type} (x:Nat) (k:Nat→α):α:=match x with
 | 0=>k 0
 | n+1=>k (n+1)
theorem z149 {α:Type} (x:Nat) (k:Nat→α):frc x k=k x:=by cases x <;> rfl
def zsd {α:Type} (x:UInt32) (k:UInt32→α):α:=frc x.toNat fun n=>k (UInt32.ofNat n)
theorem zju {α:Type} (x:UInt32) (k:UInt32→α):zsd x k=k x:=by unfold zsd; rw [z149,UInt32.ofNat_toNat]
def fB {α:Type}:List UInt8→(List UInt8→α)→α
 | [],k=>k []
 | x::l,k=>frc x.toNat fun n=>fB l fun m=>k (UInt8.ofNat n::m)
theorem z18s {α:Type}:∀ (l:List UInt8) (k:List UInt8→α),fB l k=k l
 | [],k=>rfl
 | x::l,k=>by rw [fB,z149,z18s l,UInt8.ofNat_toNat]
def fW {α:Type}:List UInt32→(List UInt32→α)→α
 | [],k=>k []
 | x::l,k=>zsd x fun n=>fW l fun m=>k (n::m)
theorem z188 {α:Type}:∀ (l:List UInt32) (k:List UInt32→α),fW l k=k l
 | [],k=>rfl
 | x::l,k=>by rw [fW,zju,z188 l]
def wL:Nat→List UInt8→List UInt32
 | 0,_=>[]
 | n+1,l=>word l 0::wL n (l.drop 4)
theorem zzl (l:List UInt8) (k:Nat):word (l.drop 4) k=word l (k+1):=by
 unfold word
 have e:∀ j,(l.drop 4).getD (4 * k+j) 0=l.getD (4 * (k+1)+j) 0:=fun j=>by
  rw [List.getD_eq_getElem?_getD,List.getD_eq_getElem?_getD,List.getElem?_drop]
  congr 2; omega
 have e0:=e 0
 rw [Nat.add_zero,Nat.add_zero] at e0
 rw [e0,e 1,e 2,e 3]
theorem z186:∀ (n:Nat) (l:List UInt8),wL n l=(List.range n).map (word l)
 | 0,l=>rfl
 | n+1,l=>by
  rw [wL,z186 n,List.range_succ_eq_map,List.map_cons,List.map_map]
  exact congrArg (List.cons (word l 0)) (List.map_congr_left fun k hk=>zzl l k)
def sF {α:Type}:Nat→List UInt32→(List UInt32→α)→α
 | 0,r,k=>k r.reverse
 | n+1,r,k=>zsd (((r.getD 15 0+r.getD 6 0)+sg0 (r.getD 14 0))+sg1 (r.getD 1 0)) fun w=>sF n (w::r) k
theorem zl5 (l:List UInt32) (i:Nat) (h:i<l.length):l.reverse.getD i 0=l.getD (l.length - (i+1)) 0:=by
 rw [List.getD_eq_getElem?_getD,List.getD_eq_getElem?_getD,List.getElem?_reverse h]
 congr 2
 omega
theorem z18j {α:Type} (b:List UInt8) (k:List UInt32→α):∀ (n m:Nat),sF n (z6z b m).reverse k=k (z6z b (m+n))
 | 0,m=>by rw [sF,List.reverse_reverse]; rfl
 | n+1,m=>by
  have hl:=zet b m
  rw [sF,zju,zl5 _ 15 (by omega),zl5 _ 6 (by omega),zl5 _ 14 (by omega),zl5 _ 1 (by omega)]
  have:((((z6z b m).getD ((z6z b m).length - (15+1)) 0+(z6z b m).getD ((z6z b m).length - (6+1)) 0)+sg0 ((z6z b m).getD ((z6z b m).length - (14+1)) 0))+sg1 ((z6z b m).getD ((z6z b m).length - (1+1)) 0))::(z6z b m).reverse=(z6z b (m+1)).reverse:=by
   show _=(zsv (z6z b m)).reverse
   unfold zsv
   rw [List.reverse_append]; rfl
  rw [this,z18j b k n (m+1)]
  congr 2; omega
def rF {α:Type}:List UInt32→List UInt32→O8→(O8→α)→α
 | q::K,w::W,s,k=>zsd (rnd1 q w s) fun t=>zsd (t+rnd2 s) fun x=>zsd (s.2.2.2.1+t) fun y=>rF K W (x,s.1,s.2.1,s.2.2.1,y,s.2.2.2.2.1,s.2.2.2.2.2.1,s.2.2.2.2.2.2.1) k
 | _,_,s,k=>k s
theorem z179 {α:Type} (K W:List UInt32) (hK:K.length=64) (hW:W.length=64) (s:O8) (k:O8→α):∀ (n i:Nat),64 - i=n→i≤64→rF (K.drop i) (W.drop i) (ztl K W s i) k=k (ztl K W s 64)
 | 0,i,h,hi=>by
  have:i=64:=by omega
  subst this
  rw [List.drop_eq_nil_of_le (by omega)]; rfl
 | n+1,i,h,hi=>by
  rw [List.drop_eq_getElem_cons (by omega),List.drop_eq_getElem_cons (by omega:i<W.length),rF,zju,zju,zju]
  rw [← z179 K W hK hW s k n (i+1) (by omega) (by omega)]
  congr 1
  rw [ztl,rnd,List.getD_eq_getElem?_getD,List.getD_eq_getElem?_getD,List.getElem?_eq_getElem (by omega),List.getElem?_eq_getElem (by omega)]
  rfl
def grK {α:Type} (h:O8) (b:List UInt8) (k:O8→α):α :=
 fW (wL 16 b).reverse fun r=>sF 48 r fun W=>rF z58.toList W h fun s =>
 zsd (h.1+s.1) fun a=>zsd (h.2.1+s.2.1) fun b=>zsd (h.2.2.1+s.2.2.1) fun c=>zsd (h.2.2.2.1+s.2.2.2.1) fun d =>
 zsd (h.2.2.2.2.1+s.2.2.2.2.1) fun e=>zsd (h.2.2.2.2.2.1+s.2.2.2.2.2.1) fun f=>zsd (h.2.2.2.2.2.2.1+s.2.2.2.2.2.2.1) fun g=>zsd (h.2.2.2.2.2.2.2+s.2.2.2.2.2.2.2) fun z=>k (a,b,c,d,e,f,g,z)
def add8 (h s:O8):O8:=(h.1+s.1,h.2.1+s.2.1,h.2.2.1+s.2.2.1,h.2.2.2.1+s.2.2.2.1,h.2.2.2.2.1+s.2.2.2.2.1,h.2.2.2.2.2.1+s.2.2.2.2.2.1,h.2.2.2.2.2.2.1+s.2.2.2.2.2.2.1,h.2.2.2.2.2.2.2+s.2.2.2.2.2.2.2)
theorem z129 (h v:Vector UInt32 8):∀ j (hj:j<8),(addV h v)[j]=h[j]+v[j]:=by
 obtain ⟨r,h1,h2⟩:=z6d (F:=z1l v) 8 (fun i s=>s.2=(i:Int)∧∀ j (hj:j<8),s.1[j]=if j<i then h[j]+v[j] else h[j]) (fun r=>∀ j (hj:j<8),r[j]=h[j]+v[j]) (fun i s hi hs=>by
  obtain ⟨u,k⟩:=s
  obtain ⟨hs,hu⟩:=hs
  simp only at hs hu
  subst hs
  unfold z1l
  rw [if_pos (by simp; omega)]
  rw [z8o (show i<8 by omega),z8o (show i<8 by omega)]
  simp only [bS,z0d (show i<9223372036854775807 by omega)]
  refine ⟨_,rfl,rfl, fun j hj=>?_⟩
  simp only
  rw [zh3 hj,hu j hj,hu i hi]
  simp only [Int.toNat_natCast]
  by_cases e:i=j
  ·
   subst e; simp
  ·
   rw [if_neg e]
   by_cases l:j<i
   ·
    rw [if_pos l,if_pos (by omega)]
   ·
    rw [if_neg l,if_neg (by omega)]) (fun s hs=>by
  obtain ⟨u,k⟩:=s
  obtain ⟨hs,hu⟩:=hs
  simp only at hs hu
  subst hs
  unfold z1l
  rw [if_neg (by simp)]
  exact ⟨_,rfl, fun j hj=>by rw [hu j hj,if_pos hj]⟩) (h,0) 0 (by omega) ⟨rfl, fun j hj=>by simp⟩
 unfold addV
 rw [h1]
 exact h2
theorem z14w (h s:O8):addV (toV h) (toV s)=toV (add8 h s):=by
 apply Vector.ext
 intro j hj
 rw [z129]
 match j,hj with
 | 0,_=>rfl
 | 1,_=>rfl
 | 2,_=>rfl
 | 3,_=>rfl
 | 4,_=>rfl
 | 5,_=>rfl
 | 6,_=>rfl
 | 7,_=>rfl
theorem z16p (s:O8):ofV (toV s)=s:=rfl
theorem z196 {α:Type} (h:O8) (b:List UInt8) (k:O8→α):∃ s,gr (toV h) b=toV s∧grK h b k=k s:=by
 refine ⟨add8 h (ztl z58.toList (z6z b 48) h 64),?_,?_⟩
 ·
  unfold gr
  rw [z16p,z14w]
 ·
  unfold grK
  have e:wL 16 b=z6z b 0:=z186 16 b
  rw [z188,e,z18j b _ 48 0]
  have:=z179 z58.toList (z6z b 48) zp4 (by rw [zet]) h (fun s=>k (add8 h s)) 64 0 rfl (by omega)
  rw [← this]
  simp only [zju]
  rfl
def blkK {α:Type}:Nat→O8→List UInt8→(O8→α)→α
 | 0,h,b,k=>k h
 | n+1,h,b,k=>grK h (b.take 64) fun s=>blkK n s (b.drop 64) k
theorem zyq {α:Type}:∀ (n:Nat) (h:O8) (b:List UInt8) (k:O8→α),b.length=64 * n→∃ s,blk (toV h) b=toV s∧blkK n h b k=k s
 | 0,h,b,k,hb=>⟨h,zs3 (by omega),rfl⟩
 | n+1,h,b,k,hb=>by
  obtain ⟨s,s1,s2⟩:=z196 h (b.take 64) (fun s=>blkK n s (b.drop 64) k)
  obtain ⟨t,t1,t2⟩:=zyq n s (b.drop 64) k (by rw [List.length_drop]; omega)
  refine ⟨t,?_,?_⟩
  ·
   rw [zqt (by omega),s1,t1]
  ·
   rw [blkK,s2,t2]
def H8:O8:=(1779033703,3144134277,1013904242,2773480762,1359893119,2600822924,528734635,1541459225)
def shaK {α:Type} (b:List UInt8) (k:O8→α):α:=fB (b++tl b.length) fun m=>blkK (m.length / 64) H8 m k
theorem z17w (n:Nat):(n+(tl n).length) % 64=0:=by
 unfold tl z90 zrs
 simp
 omega
theorem z162 {α:Type} (b:List UInt8) (k:O8→α):∃ s,sha b=wr (toV s)∧shaK b k=k s:=by
 have hl:=z17w b.length
 obtain ⟨s,s1,s2⟩:=zyq ((b++tl b.length).length / 64) H8 (b++tl b.length) k (by rw [List.length_append]; omega)
 refine ⟨s,?_,?_⟩
 ·
  unfold sha
  rw [show H0=toV H8 from rfl,s1]
 ·
  unfold shaK
  rw [z18s,s2]
def zwf (b:List UInt8) (s:O8):Bool:=shaK b fun t=>t==s
theorem z18q {b:List UInt8} {s:O8} (h:zwf b s=true):sha b=wr (toV s):=by
 unfold zwf at h
 obtain ⟨t,t1,t2⟩:=z162 b (fun t=>t==s)
 rw [t2] at h
 rw [t1,eq_of_beq h]
end
section
open Go
def okc (c:UInt8):Bool:=decide (33≤c.toNat)&&decide (c.toNat≤126)
theorem z167 (x:Int):zkw x=some (decide (x<33) || decide (126<x)):=by
 unfold zkw
 cases decide (x<33) <;> rfl
theorem zv9 (b:List UInt8):∀ (rest pre:List UInt8),b=pre++rest →
  (rest.all okc=true→iter (z1w b true) pre.length=some (.inr ()))∧(rest.all okc=false→∃ i:Nat,iter (z1w b true) pre.length=some (.inl (i:Int)))
 | [],pre,e=>by
  refine ⟨fun _=>z14 ?_, fun h=>by simp at h⟩
  subst e
  unfold z1w
  simp
 | c::rest,pre,e=>by
  have hlen:pre.length<b.length:=by rw [e]; simp
  have hget:b[pre.length]'hlen=c:=by subst e; simp
  have hF:z1w b true pre.length=if ((decide (((z9h b pre.length).1:Int)<33) || decide (126<((z9h b pre.length).1:Int)))==true) then some (.inl (.inl (pre.length:Int))) else some (.inr (pre.length+(z9h b pre.length).2)):=by
   unfold z1w
   rw [if_pos hlen]
   simp only [bs,z167]
  cases hc:okc c with
  | false =>
   refine ⟨fun h=>by simp [hc] at h, fun _=>⟨pre.length,z14 ?_⟩⟩
   rw [hF,if_pos]
   by_cases h8:c.toNat<128
   ·
    rw [zoz hlen (by rw [hget]; exact h8),hget]
    simp only [okc,Bool.and_eq_false_iff,decide_eq_false_iff_not] at hc
    simp; omega
   ·
    have:=zxy hlen (by rw [hget]; omega)
    simp; omega
  | true =>
   simp only [okc,Bool.and_eq_true,decide_eq_true_eq] at hc
   rw [zoz hlen (by rw [hget]; omega),hget,if_neg (by simp; omega)] at hF
   have ih:=zv9 b rest (pre++[c]) (by simp [e])
   simp only [List.length_append,List.length_cons,List.length_nil,Nat.zero_add] at ih
   rw [z17 hF]
   have hc':okc c=true:=by simp [okc,hc]
   simpa [hc'] using ih
theorem z10o (b:List UInt8) (hb:b.length≤9223372036854775807):∀ (rest pre:List UInt8),b=pre++rest→iter (z6o b) (pre.length:Int)=some (if rest.all okc then .inr () else .inl false)
 | [],pre,e=>by
  refine z14 ?_
  subst e
  unfold z6o
  simp
 | c::rest,pre,e=>by
  have hlen:pre.length<b.length:=by rw [e]; simp
  have hget:b[pre.length]'hlen=c:=by subst e; simp
  have hF:z6o b (pre.length:Int)=if okc c then some (.inr ((pre.length+1:Nat):Int)) else some (.inl (.inl false)):=by
   unfold z6o
   rw [if_pos (by simp <;> omega)]
   simp only [z09 hlen,hget,bs,z0d (show pre.length<9223372036854775807 by omega)]
   simp only [okc,UInt8.lt_iff_toNat_lt,UInt8.reduceToNat]
   by_cases h1:c.toNat<33
   ·
    have:¬ 33≤c.toNat:=by omega
    simp [h1,this]
   ·
    by_cases h2:126<c.toNat
    ·
     have:¬ c.toNat≤126:=by omega
     simp [h1,h2,this]
    ·
     have h3:33≤c.toNat:=by omega
     have h4:c.toNat≤126:=by omega
     simp [h1,h2,h3,h4]
  cases hc:okc c with
  | false=>rw [hc] at hF; rw [z14 hF]; simp [hc]
  | true =>
   rw [hc] at hF
   rw [z17 hF]
   have ih:=z10o b hb rest (pre++[c]) (by simp [e])
   simp only [List.length_append,List.length_cons,List.length_nil,Nat.zero_add] at ih
   rw [ih]; simp [hc]
def ze7 (k:List UInt8):Bool:=decide (1≤k.length)&&(decide (k.length≤20)&&k.all okc)
theorem z16q (k:List UInt8):zaj k=some (ze7 k):=by
 unfold zaj ze7
 by_cases h1:1≤k.length
 ·
  by_cases h2:k.length≤20
  ·
   have h:=z10o k (by omega) k [] rfl
   rw [if_neg (by simp; omega),if_neg (by simp; omega), show (0:Int)=(([]:List UInt8).length:Int) from rfl,h,decide_eq_true h1,decide_eq_true h2]
   cases k.all okc <;> rfl
  ·
   rw [if_neg (by simp; omega),if_pos (by simp; omega),decide_eq_false h2]; simp
 ·
  rw [if_pos (by simp; omega),decide_eq_false h1]; rfl
theorem z17f (k:List UInt8):zre k=some (ze7 k):=by
 unfold zre ze7 z6g z6c
 by_cases h1:1≤k.length
 ·
  by_cases h2:k.length≤20
  ·
   obtain ⟨e1,e2⟩:=zv9 k k [] rfl
   simp only [List.length_nil] at e1 e2
   rw [if_pos (by simp; omega),if_pos (by simp; omega),decide_eq_true h1,decide_eq_true h2]
   cases h:k.all okc
   ·
    obtain ⟨i,hi⟩:=e2 h
    rw [hi]
    simp only [or_l,bS]
    rw [decide_eq_false (by omega)]; rfl
   ·
    rw [e1 h]; rfl
  ·
   rw [if_pos (by simp; omega),if_neg (by simp; omega),decide_eq_false h2]; simp
 ·
  rw [if_neg (by simp; omega),decide_eq_false h1]; rfl
def v0:z03:=⟨0,0,0,[]⟩
def zha (a:z06):Bool :=
 if a.Kind=1 then decide (a.Key=[])&&decide (a.Value=v0)
 else if a.Kind=2∨a.Kind=3 then ze7 a.Key&&decide (a.Value=v0)
 else if a.Kind=4 then ze7 a.Key&&okV a.Value
 else false
theorem z178 (a:z06) (h:a.Value.Text.length≤9223372036854775807):zfb a=some (if zha a then 0 else 8):=by
 obtain ⟨K,key,v⟩:=a
 unfold zfb zha
 simp only at h ⊢
 rw [z17f,zrc v h]
 by_cases h1:K=1
 ·
  subst h1
  by_cases hk:key=[] <;> by_cases hv:v=⟨0,0,0,[]⟩ <;> simp [hk,hv,v0]
 by_cases h2:K=2∨K=3
 ·
  have e:(if K==2 then some true else some (K==3))=some true:=by
   rcases h2 with rfl | rfl <;> rfl
  rw [if_neg (by simpa using h1),e,if_neg h1,if_pos h2]
  simp only [bS]
  rw [if_pos trivial]
  cases ze7 key with
  | false=>rfl
  | true =>
   by_cases hv:v=⟨0,0,0,[]⟩
   ·
    subst hv; rfl
   ·
    have hv':¬ v=v0:=hv
    simp only [bS,if_true,decide_eq_false hv,decide_eq_false hv']; rfl
 ·
  have e:(if K==2 then some true else some (K==3))=some false:=by
   have e2:(K==2)=false:=by simp; exact fun h=>h2 (.inl h)
   have e3:(K==3)=false:=by simp; exact fun h=>h2 (.inr h)
   rw [e2,e3]; rfl
  rw [if_neg (by simpa using h1),e,if_neg h1,if_neg h2]
  simp only [bS]
  rw [if_neg (by simp)]
  by_cases h4:K=4
  ·
   subst h4
   rw [if_pos (by decide),if_pos rfl]
   cases ze7 key with
   | false=>rfl
   | true=>cases okV v <;> rfl
  ·
   rw [if_neg (by simpa using h4),if_neg h4]; rfl
theorem zyz (a:z06) (h:a.Value.Text.length≤9223372036854775807):za8 a=some (if zha a then 0 else 8):=by
 obtain ⟨K,key,v⟩:=a
 unfold za8 zha
 simp only at h ⊢
 rw [z16q,z10r v h]
 simp only [bS]
 by_cases h1:K=1
 ·
  subst h1
  by_cases hk:key=[] <;> by_cases hv:v=⟨0,0,0,[]⟩ <;> simp [hk,hv,v0]
 by_cases h2:K=2∨K=3
 ·
  have e:(if K==2 then some true else some (K==3))=some true:=by
   rcases h2 with rfl | rfl <;> rfl
  rw [if_neg (by simpa using h1),e,if_neg h1,if_pos h2]
  simp only [bS]
  rw [if_pos trivial]
  cases ze7 key with
  | false=>rfl
  | true =>
   by_cases hv:v=⟨0,0,0,[]⟩
   ·
    subst hv; rfl
   ·
    have hv':¬ v=v0:=hv
    simp only [bS,if_true,decide_eq_false hv,decide_eq_false hv']; rfl
 ·
  have e:(if K==2 then some true else some (K==3))=some false:=by
   have e2:(K==2)=false:=by simp; exact fun h=>h2 (.inl h)
   have e3:(K==3)=false:=by simp; exact fun h=>h2 (.inr h)
   rw [e2,e3]; rfl
  rw [if_neg (by simpa using h1),e,if_neg h1,if_neg h2]
  simp only [bS]
  rw [if_neg (by simp)]
  by_cases h4:K=4
  ·
   subst h4
   rw [if_pos (by decide),if_pos rfl]
   cases ze7 key with
   | false=>rfl
   | true=>cases okV v <;> rfl
  ·
   rw [if_neg (by simpa using h4),if_neg h4]; rfl
theorem zij (l:List V3) (h:l.length≤100):z0l l=some l:=by
 unfold z0l
 rw [z0x (by simp; omega)]; rfl
def ze5 (a:z05):Bool:=decide (inG a.Author.toNat)&&(!decide (1000000000000<a.Stamp)&&(zha a.Act&&(za5 a.Sig.E&&za5 a.Sig.S)))
def z54 (a:z05):Int:=if 4<a.Preds.length then 4 else if z74 a.Preds=false then 32 else if ze5 a then 0 else 8
theorem zp7 (x y:UInt32):decide (500000003≤max x y)=!(za5 x&&za5 y):=by
 have e1:(500000003≤max x y)↔(500000003≤x∨500000003≤y):=by
  rw [show max x y=if x≤y then y else x from rfl]
  split
  ·
   rename_i hh
   constructor
   ·
    exact fun h=>.inr h
   ·
    rintro (h | h)
    ·
     exact UInt32.le_trans h hh
    ·
     exact h
  ·
   rename_i hh
   constructor
   ·
    exact fun h=>.inl h
   ·
    rintro (h | h)
    ·
     exact h
    ·
     rw [UInt32.le_iff_toNat_le] at *; omega
 rw [Bool.eq_iff_iff,decide_eq_true_iff,e1]
 unfold za5
 simp only [UInt32.le_iff_toNat_le,Bool.not_eq_true',Bool.and_eq_false_iff,decide_eq_false_iff_not,Nat.not_lt]
 rfl
theorem zsc (l:List V3) (h:l.length≤4):(z10 l >>= fun r5=>if !r5 then some true else z0l l >>= fun r8=>z2y r8 >>= fun r10=>some ((r10.length:Int) != (l.length:Int)) >>= fun y12=>some y12)=some (!z74 l):=by
 obtain ⟨b,e1,e2⟩:=z10d l (by omega)
 obtain ⟨c,e3,e4⟩:=zwm l (by omega)
 have e5:=z11j l
 rw [e1]
 simp only [bS]
 cases b with
 | false =>
  have:z74 l=false:=by
   rw [← Bool.not_eq_true,e5]; intro h; have:=e2.2 h.1; simp at this
  rw [this]; rfl
 | true =>
  rw [if_neg (by simp),zij l (by omega)]
  simp only [bS]
  rw [e3]
  simp only [bS]
  by_cases hc:c.length=l.length
  ·
   rw [e5.2 ⟨e2.1 rfl,e4.1 hc⟩,hc]; simp
  ·
   have:z74 l=false:=by
    rw [← Bool.not_eq_true,e5]; intro h; exact hc (e4.2 h.2)
   rw [this]; simp; omega
theorem zgy (a:z05) (h:a.Act.Value.Text.length≤9223372036854775807):zfe a=some (z54 a):=by
 unfold zfe z54
 simp only [bS]
 by_cases h4:4<a.Preds.length
 ·
  rw [if_pos (by simp; omega),if_pos h4]
 ·
  rw [if_neg (by simp; omega),if_neg h4]
  have:=zsc a.Preds (by omega)
  simp only [bS] at this
  rw [this]
  simp only [bS]
  cases hi:z74 a.Preds with
  | false=>rfl
  | true =>
   rw [if_neg (by simp),zwz,z178 _ h,zp7]
   simp only [bS]
   unfold ze5
   cases decide (inG a.Author.toNat) with
   | false=>rfl
   | true =>
    cases decide (1000000000000<a.Stamp) with
    | true=>rfl
    | false=>cases zha a.Act <;> cases za5 a.Sig.E <;> cases za5 a.Sig.S <;> rfl
theorem zt3 (a:z05) (h:a.Act.Value.Text.length≤9223372036854775807):z9w a=some (z54 a):=by
 unfold z9w z54
 by_cases h4:4<a.Preds.length
 ·
  rw [if_pos (by simp; omega),if_pos h4]
 ·
  rw [if_neg (by simp; omega),if_neg h4,zqm _ (by omega)]
  simp only [bS]
  cases hi:z74 a.Preds with
  | false=>rfl
  | true =>
   rw [if_neg (by simp),zur,zyz _ h,zft,zft]
   simp only [bS]
   unfold ze5
   cases decide (inG a.Author.toNat) with
   | false=>rfl
   | true =>
    cases decide (1000000000000<a.Stamp) with
    | true=>rfl
    | false=>cases zha a.Act <;> cases za5 a.Sig.E <;> cases za5 a.Sig.S <;> rfl
theorem z7d {a:z05} (h:z54 a=0):a.Preds.length≤4∧z74 a.Preds=true∧ze5 a=true:=by
 unfold z54 at h
 by_cases h4:4<a.Preds.length
 ·
  rw [if_pos h4] at h; omega
 ·
  rw [if_neg h4] at h
  cases hi:z74 a.Preds with
  | false=>rw [hi] at h; simp at h
  | true =>
   rw [hi] at h
   cases hr:ze5 a with
   | false=>rw [hr] at h; simp at h
   | true=>exact ⟨by omega,rfl,rfl⟩
theorem zo3 {k:List UInt8} (h:ze7 k=true):k.length≤20:=by
 unfold ze7 at h
 simp only [Bool.and_eq_true,decide_eq_true_eq] at h
 exact h.2.1
theorem zd9 {a:z06} (h:zha a=true):(a.Kind=1∧a.Key=[])∨((a.Kind=2∨a.Kind=3)∧a.Key.length≤20)∨(a.Kind=4∧a.Key.length≤20∧okV a.Value=true):=by
 unfold zha at h
 by_cases h1:a.Kind=1
 ·
  rw [if_pos h1] at h; simp only [Bool.and_eq_true,decide_eq_true_eq] at h; exact .inl ⟨h1,h.1⟩
 ·
  rw [if_neg h1] at h
  by_cases h2:a.Kind=2∨a.Kind=3
  ·
   rw [if_pos h2] at h; simp only [Bool.and_eq_true,decide_eq_true_eq] at h; exact .inr (.inl ⟨h2,zo3 h.1⟩)
  ·
   rw [if_neg h2] at h
   by_cases h4:a.Kind=4
   ·
    rw [if_pos h4] at h; simp only [Bool.and_eq_true] at h; exact .inr (.inr ⟨h4,zo3 h.1,h.2⟩)
   ·
    rw [if_neg h4] at h; simp at h
end
section
open Go
theorem zq2 {α:Type} (l:List (List α)) (i:Nat) (h:i<l.length):(l.take (i+1)).flatten=(l.take i).flatten++l[i]:=by
 rw [List.take_add_one,List.getElem?_eq_getElem h,List.flatten_append]
 simp
theorem zr6 (l:List (List UInt8)) (h0:l.length≤20) (h:∀ b∈l,b.length≤10000):z1z l=some l.flatten:=by
 have hb:∀ i,(l.take i).flatten.length≤200000:=fun i=>by
  have:=zkz (l.take i) (fun b hb'=>h b (List.mem_of_mem_take hb'))
  simp only [List.length_take] at this; omega
 have e1:iter (z0r l) (0,0)=some (l.flatten.length:Int):=by
  have:=z2f (F:=z0r l) (b:=(l.flatten.length:Int)) l.length (fun i=>(((l.take i).flatten.length:Int),(i:Int))) (fun i hi=>?_) ?_
  ·
   simpa using this
  ·
   have h1:=hb (i+1)
   have e:=congrArg List.length (zq2 l i hi)
   rw [List.length_append] at e
   unfold z0r
   rw [if_pos (by simp; omega)]
   simp only []
   rw [z09 hi]
   simp only [bS]
   rw [z0s (x:=((l.take i).flatten.length:Int)+(l[i].length:Int)) (by omega) (by omega),if_neg (by simp; omega),z0d (show i<9223372036854775807 by omega),e]
   simp
  ·
   unfold z0r
   rw [if_neg (by simp)]
   simp
 have e2:z3z (l.flatten.length:Int)=some []:=by
  have h1:=hb l.length
  rw [List.take_length] at h1
  unfold z3z
  rw [if_neg (by simp)]
  simp only [bS]
  generalize l.flatten.length=n at h1 ⊢
  rw [show (0:Int) - (([]:List UInt8).length:Int)=0 from rfl,z0s (x:=0) (by omega) (by omega), show (n:Int) - 0=(n:Int) by omega,z0s (by omega) (by omega)]
  by_cases h2:0<n
  ·
   rw [if_pos (by simpa using h2),zhn (by omega) (by omega)]
   simp only [bS]
   rw [show (0:Int)=((0:Nat):Int) from rfl, show ((([]:List UInt8).length:Nat):Int)=((0:Nat):Int) from rfl,z9s (by omega) (by simp)]
   simp
  ·
   rw [if_neg (by simpa using h2)]
 have e3:iter (z0q l) ([],0)=some l.flatten:=by
  have:=z2f (F:=z0q l) (b:=l.flatten) l.length (fun i=>((l.take i).flatten,(i:Int))) (fun i hi=>?_) ?_
  ·
   simpa using this
  ·
   have h1:=hb (i+1)
   have e:=zq2 l i hi
   rw [e,List.length_append] at h1
   unfold z0q
   rw [if_pos (by simp; omega)]
   simp only []
   rw [z09 hi]
   simp only [bS]
   rw [z0x (by omega),z0d (show i<9223372036854775807 by omega),e]
   simp only [bS]
  ·
   unfold z0q
   rw [if_neg (by simp)]
   simp
 unfold z1z
 rw [e1]
 simp only [bS]
 rw [e2]
 simp only [bS]
 rw [e3]
 simp only [bS]
def zpn (a:z05):List UInt8:=[111]++(z1t a.Author.toNat++((z1t a.Preds.length++znh a.Preds)++(z1t a.Stamp.toNat++[a.Act.Kind])))
def keyB (a:z06):List UInt8:=z1t a.Key.length++a.Key
def msg (a:z05):List UInt8 :=
 if a.Act.Kind=1 then zpn a else if a.Act.Kind=4 then (zpn a++keyB a.Act)++encV a.Act.Value else zpn a++keyB a.Act
def zg2 (a:z05):List UInt8:=msg a++(z1t a.Sig.E.toNat++z1t a.Sig.S.toNat)
theorem zom {v:z03} (h:okV v=true) (hI:inI v.Num):(encV v).length≤100:=by
 unfold encV
 rcases zox h with k | k | k
 ·
  have:=z13 (zig v.Num) (ztv hI)
  rw [if_pos k]; simp; omega
 ·
  rw [k,if_neg (by decide),if_pos rfl]; simp [be8]
 ·
  have h3:=(okV3 h k).2.2.1
  have:=z13 v.Text.length (by omega)
  rw [k,if_neg (by decide),if_neg (by decide)]; simp; omega
theorem zon {a:z05} (h:z54 a=0):(zpn a).length≤160:=by
 obtain ⟨h1,h2,h3⟩:=z7d h
 have l1:=z13 a.Author.toNat (by have:=UInt32.toNat_lt a.Author; omega)
 have l2:=z13 a.Preds.length (by omega)
 have l3:=z13 a.Stamp.toNat (UInt64.toNat_lt _)
 have l4:=zjc a.Preds
 unfold zpn
 simp only [List.length_append,List.length_cons,List.length_nil]; omega
theorem zoi {a:z06} (h:zha a=true):(keyB a).length≤30:=by
 have hk:a.Key.length≤20:=by
  rcases zd9 h with ⟨_,h⟩ | ⟨_,h⟩ | ⟨_,h,_⟩
  ·
   simp [h]
  ·
   exact h
  ·
   exact h
 have:=z13 a.Key.length (by omega)
 unfold keyB; simp only [List.length_append]; omega
theorem zjr {a:z05} (h:ze5 a=true):zha a.Act=true:=by
 unfold ze5 at h
 simp only [Bool.and_eq_true] at h
 exact h.2.2.1
theorem zr4 {a:z05} (h:ze5 a=true):inG a.Author.toNat:=by
 unfold ze5 at h
 simp only [Bool.and_eq_true,decide_eq_true_eq] at h
 exact h.1
theorem zjw {a:z05} (h:z54 a=0) (hI:inI a.Act.Value.Num):(msg a).length≤300:=by
 have h1:=zon h
 have ha:=zjr (z7d h).2.2
 have h2:=zoi ha
 unfold msg
 split
 ·
  omega
 ·
  split
  ·
   rename_i h4
   have:okV a.Act.Value=true:=by
    rcases zd9 ha with ⟨k,_⟩ | ⟨k,_⟩ | ⟨_,_,k⟩
    ·
     rw [h4] at k; simp at k
    ·
     rw [h4] at k; simp at k
    ·
     exact k
   have h3:=zom this hI
   simp only [List.length_append]; omega
  ·
   simp only [List.length_append]; omega
theorem z103 {a:z05} (h:z54 a=0) (hI:inI a.Act.Value.Num):(zg2 a).length≤400:=by
 have h1:=zjw h hI
 have l1:=z13 a.Sig.E.toNat (by have:=UInt32.toNat_lt a.Sig.E; omega)
 have l2:=z13 a.Sig.S.toNat (by have:=UInt32.toNat_lt a.Sig.S; omega)
 unfold zg2
 simp only [List.length_append]; omega
def bare (a:z05):z05:={ a with Sig:=(⟨0,0⟩:z08) }
theorem zxu {a:z05} (h:z54 a=0):z54 (bare a)=0:=by
 obtain ⟨h1,h2,h3⟩:=z7d h
 unfold ze5 at h3
 simp only [Bool.and_eq_true] at h3
 obtain ⟨g1,g2,g3,g4,g5⟩:=h3
 unfold z54 bare
 rw [if_neg (by simp; omega),h2,if_neg (by simp),if_pos]
 unfold ze5
 rw [g1,g2,g3]; rfl
theorem zjy (a:z05) (h:z54 a=0) (hI:inI a.Act.Value.Num) (ht:a.Act.Value.Text.length≤9223372036854775807):zbh a=some (msg a,0):=by
 obtain ⟨h1,h2,h3⟩:=z7d h
 have ha:=zjr h3
 have l1:=z13 a.Author.toNat (by have:=UInt32.toNat_lt a.Author; omega)
 have l2:=z13 a.Preds.length (by omega)
 have l3:=z13 a.Stamp.toNat (UInt64.toNat_lt _)
 have l4:=zjc a.Preds
 have hl:=zon h
 have e1:zfe { a with Sig:=(⟨0,0⟩:z08) }=some 0:=by
  have:=zgy (bare a) ht
  rw [zxu h] at this
  exact this
 unfold zbh
 rw [e1]
 simp only [bS]
 rw [if_neg (by simp),z155 _ (by omega) h2]
 simp only [bS]
 rw [z7w,z7w]
 simp only [bS]
 rw [zr6 _ (by simp) (by
  intro b hb
  simp only [List.mem_cons,List.not_mem_nil,or_false] at hb
  rcases hb with rfl | rfl | rfl | rfl | rfl
  ·
   simp
  ·
   simp; omega
  ·
   simp only [List.length_append]; omega
  ·
   omega
  ·
   simp)]
 simp only [bS]
 have e2:[[111],z1t a.Author.toUInt64.toNat,z1t a.Preds.length++znh a.Preds,z1t a.Stamp.toNat,[a.Act.Kind]].flatten=zpn a:=by
  unfold zpn
  simp only [List.flatten_cons,List.flatten_nil,List.append_nil,UInt32.toNat_toUInt64]
 rw [e2]
 unfold msg
 by_cases k1:a.Act.Kind=1
 ·
  rw [if_pos (by simpa using k1),if_pos k1]
 ·
  rw [if_neg (by simpa using k1),if_neg k1]
  have hk:a.Act.Key.length≤20:=by
   rcases zd9 ha with ⟨_,h⟩ | ⟨_,h⟩ | ⟨_,h,_⟩
   ·
    simp [h]
   ·
    exact h
   ·
    exact h
  have l5:=zoi ha
  have e3:zda a.Act.Key=some (keyB a.Act,0):=zrx _ (by omega)
  rw [z2z (by omega)]
  simp only [bS]
  rw [e3]
  simp only [bS]
  rw [z0x (by omega)]
  simp only [bS]
  by_cases k4:a.Act.Kind=4
  ·
   have hv:okV a.Act.Value=true:=by
    rcases zd9 ha with ⟨k,_⟩ | ⟨k,_⟩ | ⟨_,_,k⟩
    ·
     rw [k4] at k; simp at k
    ·
     rw [k4] at k; simp at k
    ·
     exact k
   have l6:=zom hv hI
   rw [if_pos (by simpa using k4),if_pos k4,z18w _ hI ht,hv]
   simp only [bS,if_true]
   rw [z0x (by simp only [List.length_append]; omega)]
   simp only [bS]
  ·
   rw [if_neg (by simpa using k4),if_neg k4]
theorem zy0 (a:z05) (h:z54 a=0) (hI:inI a.Act.Value.Num):zaw a=some (msg a):=by
 obtain ⟨h1,h2,h3⟩:=z7d h
 have ha:=zjr h3
 have l1:=z13 a.Author.toNat (by have:=UInt32.toNat_lt a.Author; omega)
 have l2:=z13 a.Preds.length (by omega)
 have l3:=z13 a.Stamp.toNat (UInt64.toNat_lt _)
 have l4:=zjc a.Preds
 have hl:=zon h
 unfold zaw
 rw [z7r]
 simp only [bS]
 rw [z0x (by simp; omega),z124 _ (by omega)]
 simp only [bS]
 rw [z0x (by simp; omega),z7r]
 simp only [bS]
 rw [z0x (by simp; omega)]
 simp only [bS]
 rw [z0x (by simp; omega)]
 simp only [bS]
 have e2:[111]++z1t a.Author.toUInt64.toNat++(z1t a.Preds.length++znh a.Preds)++z1t a.Stamp.toNat++[a.Act.Kind]=zpn a:=by
  unfold zpn
  simp only [List.append_assoc,UInt32.toNat_toUInt64]
 rw [e2]
 unfold msg
 by_cases k1:a.Act.Kind=1
 ·
  rw [if_neg (by simp [k1]),if_pos k1]
  simp only [bS]
  rw [k1]; rfl
 ·
  rw [if_pos (by simpa using k1),if_neg k1]
  have hk:a.Act.Key.length≤20:=by
   rcases zd9 ha with ⟨_,h⟩ | ⟨_,h⟩ | ⟨_,h,_⟩
   ·
    simp [h]
   ·
    exact h
   ·
    exact h
  have l5:=zoi ha
  have e3:z8y a.Act.Key=some (keyB a.Act):=znk _ (by omega)
  rw [z2z (by omega)]
  simp only [bS]
  rw [e3]
  simp only [bS]
  rw [z0x (by omega)]
  simp only [bS]
  by_cases k4:a.Act.Kind=4
  ·
   have hv:okV a.Act.Value=true:=by
    rcases zd9 ha with ⟨k,_⟩ | ⟨k,_⟩ | ⟨_,_,k⟩
    ·
     rw [k4] at k; simp at k
    ·
     rw [k4] at k; simp at k
    ·
     exact k
   have l6:=zom hv hI
   rw [if_pos (by simpa using k4),if_pos k4,zz4 _ hI hv]
   simp only [bS]
   rw [z0x (by simp only [List.length_append]; omega)]
   simp only [bS]
  ·
   rw [if_neg (by simpa using k4),if_neg k4]
theorem zx5 (a:z05) (h:z54 a=0) (hI:inI a.Act.Value.Num) (ht:a.Act.Value.Text.length≤9223372036854775807):zf4 a=some (zg2 a,0):=by
 have hm:=zjw h hI
 have l1:=z13 a.Sig.E.toNat (by have:=UInt32.toNat_lt a.Sig.E; omega)
 have l2:=z13 a.Sig.S.toNat (by have:=UInt32.toNat_lt a.Sig.S; omega)
 unfold zf4
 rw [zgy _ ht,h]
 simp only [bS]
 rw [if_neg (by simp),zjy _ h hI ht,z7w,z7w]
 simp only [bS,UInt32.toNat_toUInt64]
 rw [zr6 _ (by simp) (by
  intro b hb
  simp only [List.mem_cons,List.not_mem_nil,or_false] at hb
  rcases hb with rfl | rfl | rfl <;> omega)]
 simp only [bS,List.flatten_cons,List.flatten_nil,List.append_nil]
 rfl
theorem zsp (a:z05) (h:z54 a=0) (hI:inI a.Act.Value.Num):zcb a=some (zg2 a):=by
 have hm:=zjw h hI
 have l1:=z13 a.Sig.E.toNat (by have:=UInt32.toNat_lt a.Sig.E; omega)
 have l2:=z13 a.Sig.S.toNat (by have:=UInt32.toNat_lt a.Sig.S; omega)
 unfold zcb zg2
 rw [zy0 _ h hI,z7r,z7r]
 simp only [bS,UInt32.toNat_toUInt64]
 rw [z0x (by omega)]
 simp only [bS]
 rw [z0x (by simp only [List.length_append]; omega)]
 simp only [bS,List.append_assoc]
def z32:V3:=Vector.replicate 32 0
theorem zzs (a:z05) (hI:inI a.Act.Value.Num) (ht:a.Act.Value.Text.length≤9223372036854775807):z109 a=some (if z54 a=0 then (sha (zg2 a),0) else (z32,z54 a)):=by
 unfold z109
 by_cases h:z54 a=0
 ·
  have:=z103 h hI
  rw [zx5 a h hI ht]
  simp only [bS]
  rw [if_neg (by simp),z17x _ (by omega),if_pos h]
  simp only [bS]
 ·
  have e:zf4 a=some ([],z54 a):=by
   unfold zf4
   rw [zgy _ ht]
   simp only [bS]
   rw [if_pos (by simpa using h)]
  rw [e]
  simp only [bS]
  rw [if_pos (by simpa using h),if_neg h]; rfl
theorem z111 (a:z05) (h:z54 a=0) (hI:inI a.Act.Value.Num):zff a=some (sha (zg2 a)):=by
 have:=z103 h hI
 unfold zff
 rw [zsp a h hI]
 simp only [bS]
 rw [z19r _ (by omega)]
 simp only [bS]
def zfj (a:z05):Int:=if z54 a=0 then (if zmg a.Author (msg a) a.Sig then 0 else 22) else z54 a
theorem zmh (a:z05) (hI:inI a.Act.Value.Num) (ht:a.Act.Value.Text.length≤9223372036854775807):zg5 a=some (zfj a):=by
 unfold zg5 zfj
 rw [zgy _ ht]
 simp only [bS]
 by_cases h:z54 a=0
 ·
  have:=zjw h hI
  rw [if_neg (by simp [h]),if_pos h,zjy a h hI ht]
  simp only [bS]
  rw [zzh _ _ _ (zr4 (z7d h).2.2) (by omega)]
  simp only [bS]
 ·
  rw [if_pos (by simpa using h),if_neg h]
theorem zrm (a:z05) (hI:inI a.Act.Value.Num) (ht:a.Act.Value.Text.length≤9223372036854775807):zbk a=some (zfj a):=by
 unfold zbk zfj zex
 rw [zt3 _ ht]
 simp only [bS]
 by_cases h:z54 a=0
 ·
  have:=zjw h hI
  rw [if_neg (by simp [h]),if_pos h,zy0 a h hI]
  simp only [bS]
  rw [z12v _ _ _ (zr4 (z7d h).2.2) (by omega)]
  simp only [bS]
  cases zmg a.Author (msg a) a.Sig <;> rfl
 ·
  rw [if_pos (by simpa using h),if_neg h]
end
section
open Go
theorem z12n (m:List UInt8) (r:UInt32) (h:m.length≤9991):zdy 110 m [r]=some (zls (sha (([110]++four r)++m)) 8,0):=by
 have l1:iter (z3y [r]) ([110],0)=some ([110]++four r):=by
  have s1:z3y [r] ([110],0)=some (.inr ([110]++four r,1)):=by
   unfold z3y
   rw [if_pos (by simp)]
   simp only []
   rw [show idx [r] 0=some r from rfl,z0s (x:=(0:Int)+1) (by omega) (by omega)]
   simp only [bS]
   rw [z0x (by simp)]
   rfl
  have s3:z3y [r] ([110]++four r,1)=some (.inl ([110]++four r)):=by
   unfold z3y
   rw [if_neg (by simp)]
  rw [z17 s1,z14 s3]
 unfold zdy
 rw [if_neg (by simp; omega),l1]
 simp only [bS]
 rw [zmr _ (by simp) (by
  intro b hb
  simp only [List.mem_cons,List.not_mem_nil,or_false] at hb
  rcases hb with rfl | rfl
  ·
   simp [four]
  ·
   omega)]
 simp only [bS]
 rw [zub, show [[110]++four r,m].flatten=([110]++four r)++m by simp only [List.flatten_cons,List.flatten_nil,List.append_nil]]
 rfl
def zhq (k:UInt32) (m:List UInt8):UInt32:=(zls (sha (([110]++four k)++m)) 8 % 500000002).toUInt32+1
theorem zrl {k:UInt32} (h1:1≤k.toNat) (h2:k.toNat<gq):zem k=some 0:=by
 have h2:k.toNat<500000003:=h2
 have hs:(k - 1).toNat=k.toNat - 1:=by
  rw [UInt32.toNat_sub_of_le _ _ (by rw [UInt32.le_iff_toNat_le]; exact h1)]; rfl
 unfold zem
 rw [if_neg (by
  rw [decide_eq_true_iff,UInt32.le_iff_toNat_le,hs]
  have:(500000002:UInt32).toNat=500000002:=rfl
  omega)]
theorem z10b (n:UInt64):zbj n=some (u32 (4 ^ n.toNat % gp)):=by
 unfold zbj
 rw [zud]; rfl
theorem z11c {k:UInt32} (h1:1≤k.toNat) (h2:k.toNat<gq) (m:List UInt8) (h:m.length≤9991):zgq k m=some (zhq k m,0):=by
 unfold zgq
 rw [zrl h1 h2]
 simp only [bS]
 rw [if_neg (by simp),z12n m k h]
 simp only [bS]
 rw [if_neg (by simp)]
 rfl
theorem zqh {k:UInt32} (h1:1≤k.toNat) (h2:k.toNat<gq):zdl k=some (u32 (4 ^ k.toNat % gp),0):=by
 unfold zdl
 rw [zrl h1 h2]
 simp only [bS]
 rw [if_neg (by simp),z10b]
 simp only [bS]
 simp
theorem q64 (x y:UInt64) (h:x.toNat * y.toNat<18446744073709551616):(x * y % 500000003).toNat=x.toNat * y.toNat % gq:=by
 rw [UInt64.toNat_mod,UInt64.toNat_mul,Nat.mod_eq_of_lt h]
 rfl
theorem mulq (x y:UInt32):zav 500000003 [x,y]=some (u32 (x.toNat * y.toNat % gq)):=by
 have hx:=UInt32.toNat_lt x
 have hy:=UInt32.toNat_lt y
 have e1:(1 * x.toUInt64 % 500000003:UInt64).toNat=x.toNat % gq:=by
  rw [q64 _ _ (by simp; omega)]; simp
 have hlt:x.toNat % gq<500000003:=Nat.mod_lt _ (by decide)
 have hpr:(x.toNat % gq) * y.toNat≤500000003 * 4294967296:=Nat.mul_le_mul (by omega) (by omega)
 have e2:(1 * x.toUInt64 % 500000003 * y.toUInt64 % 500000003:UInt64).toNat=x.toNat * y.toNat % gq:=by
  rw [q64 _ _ (by rw [e1]; simp; omega),e1]
  simp only [UInt32.toNat_toUInt64]
  rw [Nat.mod_mul_mod]
 have s1:z3x 500000003 [x,y] (1,0)=some (.inr (1 * x.toUInt64 % 500000003,1)):=by
  unfold z3x
  rw [if_pos (by simp)]
  simp only []
  rw [show idx [x,y] 0=some x from rfl,z2z (by decide),z0s (x:=(0:Int)+1) (by omega) (by omega)]
  simp only [bS]
  rfl
 have s2:z3x 500000003 [x,y] (1 * x.toUInt64 % 500000003,1)=some (.inr (1 * x.toUInt64 % 500000003 * y.toUInt64 % 500000003,2)):=by
  unfold z3x
  rw [if_pos (by simp)]
  simp only []
  rw [show idx [x,y] 1=some y from rfl,z2z (by decide),z0s (x:=(1:Int)+1) (by omega) (by omega)]
  simp only [bS]
  rfl
 have s3:z3x 500000003 [x,y] (1 * x.toUInt64 % 500000003 * y.toUInt64 % 500000003,2)=some (.inl (1 * x.toUInt64 % 500000003 * y.toUInt64 % 500000003)):=by
  unfold z3x
  rw [if_neg (by simp)]
 unfold zav
 rw [z17 s1,z17 s2,z14 s3]
 simp only [bS]
 rw [to32 _ (by rw [e2]; exact Nat.lt_trans (Nat.mod_lt _ (by decide)) (by decide)),e2]
theorem z11e {x y:UInt32} (hx:x.toNat<gq) (hy:y.toNat<gq):zfm x y=some (u32 (x.toNat * y.toNat % gq),0):=by
 unfold zfm
 rw [zp7]
 unfold za5
 rw [decide_eq_true hx,decide_eq_true hy,if_neg (by simp),mulq]
 rfl
theorem z15b {x y:UInt32} (hx:x.toNat<gq) (hy:y.toNat<gq):zgw x y=some (u32 ((x.toNat+y.toNat) % gq),0):=by
 unfold zgw
 rw [zp7]
 unfold za5
 rw [decide_eq_true hx,decide_eq_true hy,if_neg (by simp)]
 have hx:x.toNat<500000003:=hx
 have hy:y.toNat<500000003:=hy
 have:(x+y) % 500000003=u32 ((x.toNat+y.toNat) % gq):=by
  apply UInt32.toNat_inj.1
  rw [z26 (Nat.lt_trans (Nat.mod_lt _ (by decide)) (by decide)),UInt32.toNat_mod,UInt32.toNat_add,Nat.mod_eq_of_lt (a:=x.toNat+y.toNat) (by omega)]
  rfl
 rw [this]
 rfl
theorem zxb (r y:UInt32) (m:List UInt8):(zwt r y m).toNat<gq:=by
 unfold zwt
 rw [UInt64.toNat_toUInt32,UInt64.toNat_mod]
 exact Nat.lt_of_le_of_lt (Nat.mod_le _ _) (Nat.mod_lt _ (by decide))
def zwy (k:UInt32) (m:List UInt8):z08 :=
 ⟨zwt (u32 (4 ^ (zhq k m).toNat % gp)) (u32 (4 ^ k.toNat % gp)) m,u32 (((zhq k m).toNat+(zwt (u32 (4 ^ (zhq k m).toNat % gp)) (u32 (4 ^ k.toNat % gp)) m).toNat * k.toNat % gq) % gq)⟩
theorem z11f {k:UInt32} (h1:1≤k.toNat) (h2:k.toNat<gq) (m:List UInt8) (h:m.length≤9991) (hK:(zhq k m).toNat<gq):zjb k m=some (zwy k m,0):=by
 unfold zjb
 rw [z11c h1 h2 m h]
 simp only [bS]
 rw [if_neg (by simp),zqh h1 h2]
 simp only [bS]
 rw [z10b]
 simp only [bS]
 rw [zk3 _ _ _ h]
 simp only [bS]
 rw [z11e (zxb _ _ _) h2]
 simp only [bS]
 have hg:∀ n,n % gq<gp:=fun n=>Nat.lt_trans (Nat.mod_lt _ (by decide)) (by decide)
 rw [z15b hK (by rw [z26 (hg _)]; exact Nat.mod_lt _ (by decide)),z26 (hg _)]
 simp only [bS]
 unfold zwy
 simp
theorem z11k {n:Nat}:4 ^ (n % gq) % gp=4 ^ n % gp:=by
 have:=zlm ztw (n / gq) (n % gq)
 rw [Nat.div_add_mod] at this
 exact this.symm
theorem z19j {k:UInt32} (h2:k.toNat<gq) (m:List UInt8) (hK:(zhq k m).toNat<gq):zmg (u32 (4 ^ k.toNat % gp)) m (zwy k m)=true:=by
 have hg:∀ n,n % gq<gp:=fun n=>Nat.lt_trans (Nat.mod_lt _ (by decide)) (by decide)
 have hp:∀ n,n % gp<gp:=fun n=>Nat.mod_lt _ (by decide)
 have hE:=zxb (u32 (4 ^ (zhq k m).toNat % gp)) (u32 (4 ^ k.toNat % gp)) m
 have hr:sigR (u32 (4 ^ k.toNat % gp)) (zwy k m)=u32 (4 ^ (zhq k m).toNat % gp):=by
  unfold sigR zwy
  generalize (zwt (u32 (4 ^ (zhq k m).toNat % gp)) (u32 (4 ^ k.toNat % gp)) m).toNat=E at *
  generalize (zhq k m).toNat=K at *
  generalize k.toNat=k at *
  rw [z26 (hg _),z26 (hp _),Nat.add_mod_mod,z11k,zhz,← Nat.mul_mod,← Nat.pow_add]
  have:K+E * k+k * (gq - E)=gq * k+K:=by
   have e:k * (gq - E)+k * E=k * gq:=by rw [← Nat.mul_add,Nat.sub_add_cancel (Nat.le_of_lt hE)]
   rw [Nat.mul_comm E k,Nat.mul_comm gq k,← e]; omega
  rw [this,zlm ztw]
 unfold zmg
 rw [hr]
 have e1:za5 (zwy k m).E=true:=decide_eq_true hE
 have e2:za5 (zwy k m).S=true:=decide_eq_true (by
  show (u32 _).toNat<gq
  rw [z26 (hg _)]; exact Nat.mod_lt _ (by decide))
 rw [e1,e2]
 simp only [Bool.true_and]
 show (_==_)=true
 simp [zwy]
def au (o:z05) (y:UInt32):z05:=⟨y,o.Preds,o.Stamp,o.Act,⟨0,0⟩⟩
def zww (k:UInt32) (o:z05):z05:=⟨u32 (4 ^ k.toNat % gp),o.Preds,o.Stamp,o.Act,zwy k (msg (au o (u32 (4 ^ k.toNat % gp))))⟩
theorem z137 {k:UInt32} (h1:1≤k.toNat) (h2:k.toNat<gq) (o:z05) (hs:o.Sig=⟨0,0⟩) (hc:z54 (au o (u32 (4 ^ k.toNat % gp)))=0) (hI:inI o.Act.Value.Num) (ht:o.Act.Value.Text.length≤9223372036854775807)
  (hK:(zhq k (msg (au o (u32 (4 ^ k.toNat % gp))))).toNat<gq):zjz k o=some (zww k o,0):=by
 have hp:=(z7d hc).1
 have hl:=zjw hc hI
 have hm:zbh (⟨u32 (4 ^ k.toNat % gp),o.Preds,o.Stamp,o.Act,⟨0,0⟩⟩:z05)=some (msg (au o (u32 (4 ^ k.toNat % gp))),0):=zjy (au o (u32 (4 ^ k.toNat % gp))) hc hI ht
 unfold zjz
 rw [zqh h1 h2]
 simp only [bS]
 rw [if_neg (by simp),zij o.Preds (Nat.le_trans hp (by omega)),hs]
 simp only [bS]
 rw [hm]
 simp only [bS]
 rw [if_neg (by simp)]
 rw [z11f h1 h2 (msg (au o (u32 (4 ^ k.toNat % gp)))) (by omega) hK]
 rfl
theorem z10t (a b:z05) (h1:a.Author=b.Author) (h2:a.Preds=b.Preds) (h3:a.Stamp=b.Stamp) (h4:a.Act=b.Act):msg a=msg b:=by
 unfold msg zpn
 rw [h1,h2,h3,h4]
theorem z13e {k:UInt32} (h2:k.toNat<gq) (o:z05) (hc:z54 (au o (u32 (4 ^ k.toNat % gp)))=0) (hK:(zhq k (msg (au o (u32 (4 ^ k.toNat % gp))))).toNat<gq):zfj (zww k o)=0:=by
 have hs:=z19j h2 _ hK
 have hx:za5 (zww k o).Sig.E=true∧za5 (zww k o).Sig.S=true:=by
  have:=hs
  unfold zmg at this
  simp only [Bool.and_eq_true] at this
  exact ⟨this.1,this.2.1⟩
 have hc2:z54 (zww k o)=0:=by
  obtain ⟨a1,a2,a3⟩:=z7d hc
  unfold ze5 at a3
  simp only [Bool.and_eq_true] at a3
  unfold z54
  rw [if_neg (by exact Nat.not_lt.2 a1),if_neg (by rw [show (zww k o).Preds=(au o (u32 (4 ^ k.toNat % gp))).Preds from rfl,a2]; simp),if_pos]
  unfold ze5
  simp only [Bool.and_eq_true]
  exact ⟨a3.1,a3.2.1,a3.2.2.1,hx.1,hx.2⟩
 have hm:msg (zww k o)=msg (au o (u32 (4 ^ k.toNat % gp))):=z10t _ _ rfl rfl rfl rfl
 have ha:(zww k o).Author=u32 (4 ^ k.toNat % gp):=rfl
 have hg:(zww k o).Sig=zwy k (msg (au o (u32 (4 ^ k.toNat % gp)))):=rfl
 unfold zfj
 rw [if_pos hc2,hm,ha,hg,if_pos hs]
end
section
open Go
@[irreducible] def idv (s:O8):V3:=wr (toV s)
theorem zsa {b:List UInt8} {s:O8} (h:zwf b s=true):sha b=idv s:=by rw [idv]; exact z18q h
def wds (s:O8):List UInt32:=[s.1,s.2.1,s.2.2.1,s.2.2.2.1,s.2.2.2.2.1,s.2.2.2.2.2.1,s.2.2.2.2.2.2.1,s.2.2.2.2.2.2.2]
@[irreducible] def wrL (s:O8):List UInt8:=(List.range 32).map fun i=>(z6f ((wds s).getD (i / 4) 0) (24 - 8 * (i % 4))).toUInt8
theorem zwn {α:Type} (n:Nat) (g:Nat→α):(Vector.ofFn (fun i:Fin n=>g i.val)).toList=(List.range n).map g:=by
 apply List.ext_getElem
 ·
  simp
 ·
  intro i h1 h2
  simp
theorem z14y (h:Vector UInt32 8):(wr h).toList=(List.range 32).map fun i=>(z6f (h.toList.getD (i / 4) 0) (24 - 8 * (i % 4))).toUInt8:=by
 rw [← zwn 32 (fun i=>(z6f (h.toList.getD (i / 4) 0) (24 - 8 * (i % 4))).toUInt8)]
 have:∀ i (hi:i / 4<8),h[i / 4]=h.toList.getD (i / 4) 0:=fun i hi=>by
  rw [List.getD_eq_getElem?_getD,List.getElem?_eq_getElem (by simpa using hi)]
  simp
 unfold wr
 exact congrArg (fun f=>(Vector.ofFn f).toList) (funext fun i=>by rw [this i.val (by omega)])
theorem zos (s:O8):(idv s).toList=wrL s:=by
 rw [idv,z14y,wrL]
 rfl
def dig:Nat→Nat→List UInt8
 | 0,_=>[]
 | f+1,n=>if n=0 then [] else UInt8.ofNat n::dig f (n / 256)
theorem z14b:∀ (f n:Nat),n<256 ^ f→z35 n=dig f n
 | 0,n,h=>by
  have:n=0:=by simpa using h
  subst this; exact zde
 | f+1,n,h=>by
  rw [dig]
  by_cases hn:n=0
  ·
   rw [if_pos hn,hn,zde]
  ·
   rw [if_neg hn,zh1 n hn,z14b f (n / 256) (by rw [Nat.pow_succ] at h; omega)]
def zw7 (n:Nat):List UInt8:=if n≤247 then [UInt8.ofNat n] else UInt8.ofNat (247+(dig 8 n).length)::(dig 8 n).reverse
theorem zg7 (n:Nat) (h:n<256 ^ 8):z1t n=zw7 n:=by
 unfold z1t zw7
 rw [z14b 8 n h]
def numl (l:List UInt8):Nat→Nat
 | 0=>0
 | i+1=>256 * numl l i+(l.getD i 0).toNat
theorem ztk (d:V3):∀ i,i≤8→(zls d i).toNat=numl d.toList i
 | 0,_=>rfl
 | i+1,h=>by
  have ih:=ztk d i (by omega)
  have hl:=zsx d i (by omega)
  have hy:=UInt8.toNat_lt (d.toList.getD i 0)
  have hp:256 ^ i≤256 ^ 7:=Nat.pow_le_pow_right (by omega) (by omega)
  have e7:(256:Nat) ^ 7=72057594037927936:=rfl
  rw [zls,UInt64.toNat_add,UInt64.toNat_mul]
  have e1:((d.toList.getD i 0).toUInt64).toNat=(d.toList.getD i 0).toNat:=by simp
  have e2:(256:UInt64).toNat=256:=rfl
  rw [e1,e2,Nat.mod_eq_of_lt (a:=256 * (zls d i).toNat) (by omega),Nat.mod_eq_of_lt (by omega),ih]
  rfl
def num8 (s:O8):Nat:=numl (wrL s) 8
theorem zsb (s:O8):(zls (idv s) 8).toNat=num8 s:=by rw [ztk _ 8 (Nat.le_refl _),zos]; rfl
def zrk:List O8→Bool
 | a::b::l=>decide (nk (wrL a)<nk (wrL b))&&zrk (b::l)
 | _=>true
theorem z14e (s:O8):kd (idv s)=nk (wrL s):=by unfold kd; rw [zos]
theorem zl6:∀ l:List O8,z74 (l.map idv)=zrk l
 | []=>by rw [List.map_nil,z74,zrk] <;> simp
 | [a]=>by rw [List.map_cons,List.map_nil,z74,zrk] <;> simp
 | a::b::l=>by
  have ih:=zl6 (b::l)
  simp only [List.map_cons] at ih ⊢
  rw [z74,zrk,ih,zvh,z14e,z14e]
  generalize nk (wrL a)=x
  generalize nk (wrL b)=y
  by_cases h:x<y
  ·
   rw [if_pos h,decide_eq_true h]; rfl
  ·
   rw [if_neg h,decide_eq_false h]
   split <;> rfl
theorem zuu:∀ P:List O8,znh (P.map idv)=P.flatMap wrL
 | []=>rfl
 | a::l=>by
  have:=zuu l
  unfold znh at this ⊢
  rw [List.map_cons,List.flatMap_cons,List.flatMap_cons,this,zos]
theorem of32 {n:Nat} (h:n<gq):(UInt32.ofNat n).toNat=n:=z26 (Nat.lt_trans h (by decide))
end
end Go.Proofs.YthgpinfkodaefaaGreatDoor
