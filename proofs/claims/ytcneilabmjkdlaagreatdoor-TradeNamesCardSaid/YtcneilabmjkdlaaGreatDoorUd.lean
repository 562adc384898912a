import Derived.Test.YtcneilabmjkdlaaGreatDoorUc
set_option linter.unusedSimpArgs false
set_option linter.unusedVariables false
namespace Go.Proofs.YtcneilabmjkdlaaGreatDoor
section
open Go Go.RowKit
set_option maxRecDepth 100000
def z3m (a1:List (List V3)) (s6:Int):Option (Sum (Sum Int Unit) Int) :=
 if decide (s6<(a1.length:Int)) then
  idx a1 s6 >>= fun x8 =>
  if decide (60<(x8.length:Int)) then
   some (.inl (.inl 4))
  else
   some (.inr (w64 (s6+1)))
 else
  some (.inl (.inr ()))
def z8j (a0:z00) (a1:List (List V3)):Option (Int) :=
 z11 a0 >>= fun r2 =>
 if r2 != 0 then
  some r2
 else
  z5u (iter (z3m a1) 0) fun s5 =>
  some 0
theorem zcu (a0:z00) (a1:List (List V3)):z1o Tryz.prog 24 [.rd z01 a0,.rd (z02 (z02 aZ)) a1] [zG1] (z8j a0 a1) (fun r nv=>⟨[.rd z0c r],[(1001,some (.bool true,.glob 1 (z3b 64 z0o) z52))]⟩):=by
 refine z29 23 Tryz.func24 Z Z Z fun H w=>?_;refine gSR<|Eb Z (bx 1 Z) fun v1=>Zb Z<|z0t<|gSR<|Zq (ld 1 Z Z fH z3k Z)<|Zc [1001] [] Tryz.func43 Z (z9y _) fun r2 n3=>Zb Z<|gSR<|Zm Z<|Zq (I.neq Z Z)<|Zj Z (fun h4=>?_) (fun h4=>?_)
 ·refine gSR<|Zm Z<|Zb Z<|z0j<|z0v<|Ze [] [1001] Z
 ·refine Zt<|z8g (fun (s5:Unit) aa ww=>Sta (ctx 23 H [zG1] w) [] [zG1] aa ww) ?_ (fun s5=>?_)
  ·refine gSR<|Zm Z<|Zq (z3h Z .rd Z Tryz.underlying82)<|Zm Z<|Zn<|z24 (fun (s6:Int) aa ww=>Sta (ctx 23 H [zG1] w) [(13,.rd (z02 (z02 aZ)) a1),(14,.rd z0c (a1.length:Int)),(15,.rd z0c s6)] [zG1] aa ww) (fun aa ww h=>Zu h [1001]) (fun s6=>?_);refine gSR<|Zq (I.lss Z Z)<|Zn<|z0t<|gIf Z Z (fun h7=>?_) (fun h7=>?_)
   ·refine Zt<|z0t<|z4m<|gSR<|z0m fun x8 h9=>Zq (ixR Z Z h9 Tryz.underlying82 z6b Z)<|Zq (ldR Z z93)<|Zb Z<|gSR<|Zm Z<|Zq (z3h Z .rd Z tu22)<|Zq (I.gtr Z Z)<|Zj Z (fun h10=>?_) (fun h10=>?_)
    ·refine gSR<|Zb Z<|z0j<|z3w<|z0v<|z7m<|z7j<|Ze [] [1001] Z
    ·refine z2p<|z3a<|z0n<|z2b<|Zq (I.add Z Z)<|Zm Z<|z1n<|z1j (fun aa ww h=>Zu h [1001])
   ·refine z1w<|z0w<|z0y<|z7p (fun aa ww h=>Zu h [1001])
  ·refine gSR<|Zb Z<|z0j<|Ze [] [1001] Z
def z33 (a0:List V3) (a1:V3) (s3:Int):Option (Sum (Sum Int Unit) Int) :=
 if decide (s3<(a0.length:Int)) then
  idx a0 s3 >>= fun x5 =>
  if decide (a1=x5) then
   some (.inl (.inl s3))
  else
   some (.inr (w64 (s3+1)))
 else
  some (.inl (.inr ()))
def z6i (a0:List V3) (a1:V3):Option (Int) :=
 z5u (iter (z33 a0 a1) 0) fun s2 =>
 some (-1)
theorem zdh (a0:List V3) (a1:V3):z1o Tryz.prog 83 [.rd (z02 aZ) a0,.rd aZ a1] [] (z6i a0 a1) (fun r nv=>⟨[.rd z0c r],[]⟩):=by
 refine z29 19 Tryz.func83 Z Z Z fun H w=>?_;refine gSR<|Eb Z (bx 1 Z) fun v1=>Zb Z<|z8g (fun (s2:Unit) aa ww=>Sta (ctx 19 H [] w) [] [] aa ww) ?_ (fun s2=>?_)
 ·refine gSR<|Zm Z<|Zq (z3h Z .rd Z tu22)<|Zm Z<|Zn<|z24 (fun (s3:Int) aa ww=>Sta (ctx 19 H [] w) [(0,.rd (z02 aZ) a0),(3,.val (z05 v1 0)),(7,.rd z0c (a0.length:Int)),(8,.rd z0c s3)] [(1,some (v1,.box 31 [.rd aZ a1]))] aa ww) (fun aa ww h=>Zu h [1]) (fun s3=>?_);refine gSR<|Zq (I.lss Z Z)<|Zn<|z0t<|gIf Z Z (fun h4=>?_) (fun h4=>?_)
  ·refine Zt<|z0t<|z4m<|gSR<|Zm Z<|Zb Z<|z0t<|zid mixed (by kernel_rfl)<|Rq Z (ld 1 Z Z fH z3t Z)<|Rq Z (mv Z)<|Rq Z (mv Z)<|z8e fun x5 h6=>Rq Z (ixR Z Z h6 tu22 z1z Z)<|Rq Z (ldR Z z3t)<|Rq Z (eqA Z Z eq31 Z Z gq31)<|zss<|z0n<|gIf Z Z (fun h7=>?_) (fun h7=>?_)
   ·refine gSR<|Zm Z<|Zb Z<|z0j<|z3w<|z0v<|z7m<|z7j<|Ze [] [] Z
   ·refine z2p<|z3a<|z0n<|z2b<|Zq (I.add Z Z)<|Zm Z<|z1n<|z1j (fun aa ww h=>Zu h [1])
  ·refine z1w<|z0w<|z0y<|z7p (fun aa ww h=>Zu h [])
 ·refine gSR<|Zb Z<|z0j<|Ze [] [] Z
def z1h (a0:List V3) (a1:V3):Option (Bool) :=
 z6i a0 a1 >>= fun r2 =>
 some (decide (0≤r2)) >>= fun y4 =>
 some y4
theorem z2l (a0:List V3) (a1:V3):z1o Tryz.prog 46 [.rd (z02 aZ) a0,.rd aZ a1] [] (z1h a0 a1) (fun r nv=>⟨[.rd z0h r],[]⟩):=by
 refine z29 9 Tryz.func46 Z Z Z fun H w=>?_;refine gSR<|Eb Z (bx 1 Z) fun v1=>Zb Z<|gSR<|Zm Z<|Zq (ld 1 Z Z fH z3t Z)<|Zc [] [] Tryz.func83 Z (zdh _ _) fun r2 n3=>Zq (I.geq Z Z)<|Za Z<|z1x 4 Z fun y4=>Zn<|z0j<|Ze [] [] Z
def z6t (a0:V3) (c1_0:List (V3 × Int)):Option (Bool) :=
 some ((zj9 c1_0 a0).getD 0) >>= fun y2 =>
 some ((zj9 c1_0 a0).isSome) >>= fun y3 =>
 some y3
theorem zcy (a0:V3) (p1_0:Value) (q1_0:Value) (c1_0:List (V3 × Int)):z1o Tryz.prog 132 [.rd aZ a0,.val (z05 p1_0 0)] [(1,some (p1_0,.box 128 [.val q1_0])),(2,some (q1_0,.map aZ z0c c1_0))] (z6t a0 c1_0) (fun r nv=>⟨[.rd z0h r],[(1,some (p1_0,.box 128 [.val q1_0])),(2,some (q1_0,.map aZ z0c c1_0))]⟩):=by
 refine z29 13 Tryz.func132 Z Z Z fun H w=>?_;refine gSR<|Eb Z (bx 3 Z) fun v1=>Zb Z<|gSR<|Zq (ldV 1 Z Z .here z15i Z)<|Zq (ld 3 Z Z fH z3t Z)<|Zq (mlk2 Z (.own 2 Z Z) Z ky31 Tryz.underlying128 ti3 (Zr.num Z) Z)<|Zm Z<|Zq (ext Z Z)<|Zq (ext Z Z)<|Za Z<|z1x 4 Z fun y2=>Za Z<|z1x 5 Z fun y3=>Zn<|gSR<|Zm Z<|Zb Z<|z0j<|Ze [] [1,2] Z
def z57 (a0:List V3) (c1_0:List (V3 × Int)) (s2:Int):Option (Sum (Sum Int Unit) Int) :=
 if decide (s2<(a0.length:Int)) then
  idx a0 s2 >>= fun x4 =>
  z6t x4 c1_0 >>= fun r6 =>
  if r6 then
   some (.inl (.inl s2))
  else
   some (.inr (w64 (s2+1)))
 else
  some (.inl (.inr ()))
def z3f (a0:List V3) (c1_0:List (V3 × Int)):Option (Int) :=
 z5u (iter (z57 a0 c1_0) 0) fun s1 =>
 some (-1)
theorem z59 (a0:List V3) (q0:Value) (l0:List V3) (p1_0:Value) (q1_0:Value) (c1_0:List (V3 × Int)):z1o Tryz.prog 82 [.vw aZ q0 l0 a0,.val (.func (.func 132) #[] #[z05 p1_0 0])] [(1,some (q0,.list aZ 31 l0)),(2,some (p1_0,.box 128 [.val q1_0])),(3,some (q1_0,.map aZ z0c c1_0))] (z3f a0 c1_0) (fun r nv=>⟨[.rd z0c r],[(1,some (q0,.list aZ 31 l0)),(2,some (p1_0,.box 128 [.val q1_0])),(3,some (q1_0,.map aZ z0c c1_0))]⟩):=by
 refine z29 19 Tryz.func82 Z Z Z fun H w=>?_;refine gSR<|Zb Z<|z8g (fun (s1:Unit) aa ww=>Sta (ctx 19 H [(1,some (q0,.list aZ 31 l0)),(2,some (p1_0,.box 128 [.val q1_0])),(3,some (q1_0,.map aZ z0c c1_0))] w) [] [(1,some (q0,.list aZ 31 l0)),(3,some (q1_0,.map aZ z0c c1_0)),(2,some (p1_0,.box 128 [.val q1_0]))] aa ww) ?_ (fun s1=>?_)
 ·refine gSR<|Zm Z<|Zq (z3h Z (.vw 1 Z) Z tu22)<|Zm Z<|Zn<|z24 (fun (s2:Int) aa ww=>Sta (ctx 19 H [(1,some (q0,.list aZ 31 l0)),(2,some (p1_0,.box 128 [.val q1_0])),(3,some (q1_0,.map aZ z0c c1_0))] w) [(0,.vw aZ q0 l0 a0),(1,.val (.func (.func 132) #[] #[z05 p1_0 0])),(7,.rd z0c (a0.length:Int)),(8,.rd z0c s2)] [(1,some (q0,.list aZ 31 l0)),(3,some (q1_0,.map aZ z0c c1_0)),(2,some (p1_0,.box 128 [.val q1_0]))] aa ww) (fun aa ww h=>Zu h [1,3,2]) (fun s2=>?_)
  refine gSR<|Zq (I.lss Z Z)<|Zn<|z0t<|gIf Z Z (fun h3=>?_) (fun h3=>?_)
  ·refine Zt<|z0t<|z4m<|gSR<|Zm Z<|Zb Z<|gSR<|Zm Z<|Zm Z<|Zm Z<|z0m fun x4 h5=>Zq (ixQ 1 Z Z Z h5 tu22 z1z)<|Zq (ldQ 1 Z Z z3t Z)<|zgt [2,3] [(1,2),(2,3)] (gd0 Z) Z Z Tryz.func132 Z Z (zcy _ _ _ _) (Y1 Z) (cQ 2 Z<|cN) (Zi Z<|Zi Z<|rN) fun r6 n7=>Zj Z (fun h8=>?_) (fun h8=>?_)
   ·refine gSR<|Zm Z<|Zb Z<|z0j<|z3w<|z0v<|z7m<|z7j<|Ze [] [1,2,3] Z
   ·refine z2p<|z3a<|z0n<|z2b<|Zq (I.add Z Z)<|Zm Z<|z1n<|z1j (fun aa ww h=>Zu h [1,3,2])
  ·refine z1w<|z0w<|z0y<|z7p (fun aa ww h=>Zu h [1,3,2])
 ·refine gSR<|Zb Z<|z0j<|Ze [] [1,2,3] Z
def z5i (c1_0:List (V3 × Int)) (s5:(List V3) × Int × Int):Option (Sum ((List V3) × Int) ((List V3) × Int × Int)) :=
 if decide (s5.2.2<(s5.1.length:Int)) then
  idx s5.1 s5.2.2 >>= fun x7 =>
  z6t x7 c1_0 >>= fun r10 =>
  if !r10 then
   idx s5.1 s5.2.1 >>= fun x13 =>
   some (w64 (s5.2.1+1)) >>= fun y15 =>
   some (w64 (s5.2.2+1)) >>= fun y16 =>
   some (.inr (s5.1.set (s5.2.1:Int).toNat x7,y15,y16))
  else
   some (w64 (s5.2.2+1)) >>= fun y17 =>
   some (.inr (s5.1,s5.2.1,y17))
 else
  some (.inl (s5.1,s5.2.1))
def z1g (c0:List V3) (c1_0:List (V3 × Int)):Option ((List V3)) :=
 z3f c0 c1_0 >>= fun r1 =>
 if r1==(-1) then
  some c0
 else
  (iter (z5i c1_0) (c0,r1,w64 (r1+1))) >>= fun s4 =>
  chk (0≤s4.2∧s4.2≤(s4.1.length:Int)∧(s4.1.length:Int)≤(s4.1.length:Int)) >>= fun u18 =>
  chk ((s4.2:Int).toNat+(((s4.1.length:Int):Int).toNat - (s4.2:Int).toNat)≤s4.1.length) >>= fun u20 =>
  cut (clr s4.1 ((s4.2:Int).toNat) (((s4.1.length:Int):Int).toNat - (s4.2:Int).toNat) (Vector.replicate 32 0)) 0 s4.2 >>= fun x22 =>
  some x22
theorem z5m (p0:Value) (c0:List V3) (p1_0:Value) (q1_0:Value) (c1_0:List (V3 × Int)):z1o Tryz.prog 44 [.val p0,.val (.func (.func 132) #[] #[z05 p1_0 0])] [(1,some (p0,.list aZ 31 c0)),(2,some (p1_0,.box 128 [.val q1_0])),(3,some (q1_0,.map aZ z0c c1_0))] (z1g c0 c1_0) (fun r nv=>⟨[.val (nv 0)],[(2,some (p1_0,.box 128 [.val q1_0])),(3,some (q1_0,.map aZ z0c c1_0)),(100,some (nv 0,.list aZ 31 r))]⟩):=by
 refine z29 42 Tryz.func44 Z Z Z fun H w=>?_;refine gSR<|Zb Z<|gSR<|Zm Z<|Zm Z<|call [1,2,3] [(1,1),(2,2),(3,3)] Z Tryz.func82 Z Z (z59 _ _ _ _ _ _) (aW Z<|aQ Z<|aN) (Zi Z<|Zi Z<|Zi Z<|rN) fun r1 n2=>Zb Z<|z0t<|gSR<|Zm Z<|Zq (I.eql Z Z)<|Zj Z (fun h3=>?_) (fun h3=>?_)
 ·refine gSR<|Zm Z<|Zb Z<|z0j<|z0v<|Ze [p0] [2,3,1] Z
 ·refine Zt<|z8d (fun (s4:(List V3) × Int) aa ww=>Sta (ctx 42 H [(1,some (p0,.list aZ 31 c0)),(2,some (p1_0,.box 128 [.val q1_0])),(3,some (q1_0,.map aZ z0c c1_0))] w) [(0,.val p0),(5,.rd z0c s4.2)] [(1,some (p0,.list aZ 31 s4.1)),(3,some (q1_0,.map aZ z0c c1_0)),(2,some (p1_0,.box 128 [.val q1_0]))] aa ww) ?_ (fun s4=>?_)
  ·refine gSR<|Zm Z<|Zq (I.add Z Z)<|Zb Z<|z24 (fun (s5:(List V3) × Int × Int) aa ww=>Sta (ctx 42 H [(1,some (p0,.list aZ 31 c0)),(2,some (p1_0,.box 128 [.val q1_0])),(3,some (q1_0,.map aZ z0c c1_0))] w) [(0,.val p0),(1,.val (.func (.func 132) #[] #[z05 p1_0 0])),(5,.rd z0c s5.2.1),(6,.rd z0c s5.2.2)] [(1,some (p0,.list aZ 31 s5.1)),(3,some (q1_0,.map aZ z0c c1_0)),(2,some (p1_0,.box 128 [.val q1_0]))] aa ww) (fun aa ww h=>Zu h [1,3,2]) (fun s5=>?_)
   refine z0t<|gSR<|Zm Z<|Zm Z<|Zq (z3h Z (.own 1 Z) Z tu22)<|Zq (I.lss Z Z)<|Zj Z (fun h6=>?_) (fun h6=>?_)
   ·refine Zt<|z0t<|z4m<|gSR<|Zm Z<|Zm Z<|z0m fun x7 h8=>Zq (ixO 1 Z Z Z h8 tu22 z1z)<|Zq (ld 1 Z Z (Foc.el h8) z3t Z)<|Eb Z (z4i 4 z1z (.zr (R:=aZ) (x:=(Vector.replicate 32 0)) zef)) fun v9=>Es (sto 4 Z Z fH Z z1z)<|Zn<|gSR<|Zm Z<|Zq (ld 4 Z Z fH z3t Z)<|zgt [2,3] [(1,2),(2,3)] (gd0 Z) Z Z Tryz.func132 Z Z (zcy _ _ _ _) (Y1 Z) (cQ 2 Z<|cN) (Zi Z<|Zi Z<|rN) fun r10 n11=>Zq (zex Z)<|Zj Z (fun h12=>?_) (fun h12=>?_)
    ·refine gSR<|Zm Z<|Zm Z<|Zq (ld 4 Z Z fH z3t Z)<|z0m fun x13 h14=>Zq (ixO 1 Z Z Z h14 tu22 z1z)<|Es (sto 1 Z Z (Foc.el h14) Z z1z)<|Zn<|z2b<|Zm Z<|Zq (I.add Z Z)<|Za Z<|z1x 5 Z fun y15=>z1n<|z3a<|z0n<|z2b<|Zm Z<|Zq (I.add Z Z)<|Za Z<|z1x 6 Z fun y16=>z1n<|z1j (fun aa ww h=>Zu h [1,3,2])
    ·refine z2p<|z3a<|z0n<|z2b<|Zm Z<|Zq (I.add Z Z)<|Za Z<|z1x 6 Z fun y17=>z1n<|z1j (fun aa ww h=>Zu h [1,3,2])
   ·refine z1w<|z0w<|z0y<|z3g (fun aa ww h=>Zu h [1,3,2])
  ·refine gSR<|Zm Z<|Zm Z<|z0m fun u18 h19=>Zq (zvw 1 Z Z (.to Z) .no (z44 h19) tu22 z1z)<|z0m fun u20 h21=>EsV (clrS 1 Z Z (z44 h21) Z tu22 z1z zef Z)<|Zn<|gSR<|Zm Z<|Zm Z<|z0m fun x22 h23=>Ef Z (cutO 1 Z Z Z h23 tu22 z1z) fun v24=>Zb Z<|z0j<|Ze [v24] [2,3,1] Z
def zaz (a0:z00) (a1:List V3):Option ((List V3) × Int) :=
 z11 a0 >>= fun r2 =>
 if r2 != 0 then
  some ([],r2)
 else
  if decide (60<(a1.length:Int)) then
   some ([],4)
  else
   z48 a0 >>= fun r6 =>
   z0p a1 >>= fun r9 =>
   z1g r9 r6 >>= fun r11 =>
   zou r11 >>= fun r13 =>
   z10 r13 >>= fun r15 =>
   some (r15,0)
theorem zjh (a0:z00) (a1:List V3):z1o Tryz.prog 87 [.rd z01 a0,.rd (z02 aZ) a1] [zG1] (zaz a0 a1) (fun r nv=>⟨[.val (nv 0),.rd z0c r.2],[(1001,some (.bool true,.glob 1 (z3b 64 z0o) z52)),(100,some (nv 0,.list aZ 31 r.1))]⟩):=by
 refine z29 27 Tryz.func87 Z Z Z fun H w=>?_;refine gSR<|Eb Z (bx 1 Z) fun v1=>Za Z<|Zb Z<|z0t<|gSR<|Zq (ld 1 Z Z fH z3k Z)<|Zc [1001] [] Tryz.func43 Z (z9y _) fun r2 n3=>Zb Z<|gSR<|Zm Z<|Zq (I.neq Z Z)<|Zj Z (fun h4=>?_) (fun h4=>?_)
 ·refine gSR<|Zm Z<|Za Z<|Zb Z<|z0j<|z0v<|zql aZ 31 2<|Ze [(.slice none 0 0)] [1001,2] Z
 ·refine Zt<|z0t<|gSR<|Zm Z<|Zq (z3h Z .rd Z tu22)<|Zq (I.gtr Z Z)<|Zj Z (fun h5=>?_) (fun h5=>?_)
  ·refine gSR<|Za Z<|Zb Z<|z0j<|z0v<|zql aZ 31 3<|Ze [(.slice none 0 0)] [1001,3] Z
  ·refine Zt<|gSR<|Zq (ld 1 Z Z fH z3k Z)<|Zc [] [(100,4)] Tryz.func89 Z (z9j _) fun r6 n7=>Eb Z (z4i 5 zw8 (.val Z)) fun v8=>Es (zmf 5 Z Z (.here z04) Z z0i z04 zw8)<|Zn<|gSR<|Zm Z<|Zc [] [(100,6)] Tryz.func26 Z (z1a _) fun r9 n10=>Zq (mkf mp0 (mp1 Z))<|Zc [6,5,4] [(100,7),(2,5),(3,4)] Tryz.func44 Z (z5m _ _ _ _ _) fun r11 n12=>Zb Z<|gSR<|Zm Z<|Zc [7] [(1,7)] Tryz.func47 Z (z11z _ _) fun r13 n14=>Zn<|gSR<|Zm Z<|Zc [7] [(100,8)] Tryz.func49 Z (z2o _ _) fun r15 n16=>Za Z<|Zb Z<|z0j<|Ze [(n16 0)] [1001,8] Z
def z7w (a0:z00) (r10:(List Bool)) (s12:(List V3) × (List z08) × Int):Option (Sum ((List V3) × (List z08)) ((List V3) × (List z08) × Int)) :=
 if decide (s12.2.2<(r10.length:Int)) then
  idx r10 s12.2.2 >>= fun x15 =>
  if x15 then
   idx a0.Ops s12.2.2 >>= fun x18 =>
   z0p x18.Preds >>= fun r21 =>
   idx a0.IDs s12.2.2 >>= fun x23 =>
   app 32 s12.1 [x23] >>= fun x25 =>
   app 112 s12.2.1 [(⟨x18.Author,r21,x18.Stamp,x18.Act,x18.Sig⟩:z08)] >>= fun x27 =>
   some (.inr (x25,x27,w64 (s12.2.2+1)))
  else
   some (.inr (s12.1,s12.2.1,w64 (s12.2.2+1)))
 else
  some (.inl (s12.1,s12.2.1))
def zcp (a0:z00) (a1:List V3):Option (z00 × Int) :=
 zaz a0 a1 >>= fun r3 =>
 if r3.2 != 0 then
  some ((⟨[],[]⟩:z00),r3.2)
 else
  some (decide (0<(r3.1.length:Int))) >>= fun y6 =>
  if y6 then
   some ((⟨[],[]⟩:z00),6)
  else
   (zcv a0 a1 >>= fun r10 =>
   iter (z7w a0 r10) ([],[],0)) >>= fun s9 =>
   some ((⟨s9.1,s9.2⟩:z00),0)
set_option maxHeartbeats 4000000 in
theorem zcj (a0:z00) (a1:List V3):z1o Tryz.prog 51 [.rd z01 a0,.rd (z02 aZ) a1] [zG1] (zcp a0 a1) (fun r nv=>⟨[.rd z01 r.1,.rd z0c r.2],[(1001,some (.bool true,.glob 1 (z3b 64 z0o) z52))]⟩):=by
 refine z29 65 Tryz.func51 Z Z Z fun H w=>?_;refine gSR<|Eb Z (bx 1 Z) fun v1=>Eb Z (z4i 2 z3v (ZrE.nilS (ZrE.nilS ZrE.nil))) fun v2=>Zb Z<|gSR<|Zq (ld 1 Z Z fH z3k Z)<|Zm Z<|Zc [1001] [(100,3)] Tryz.func87 Z (zjh _ _) fun r3 n4=>Zm Z<|Zq (ext Z Z)<|Zq (ext Z Z)<|Za Z<|Zb Z<|z0t<|z4m<|gSR<|Zm Z<|Zq (I.neq Z Z)<|Zb Z<|gIf Z Z (fun h5=>?_) (fun h5=>?_)
 ·refine gKn 20 Z h5<|gSR<|Zq (zlv [(0,1),(1,1)] Tryz.underlying25 z3v (ZrE.nilS (ZrE.nilS ZrE.nil)) Z (zfm.done Z))<|Zm Z<|Es (zkr 2 Z Z (z07.cast (z07.cons z04 (z07.cons z04 z07.nil)) Z) Z (z1i.cons z0i (z1i.cons z0i z1i.nil)) (z07.cast (z07.cons z04 (z07.cons z04 z07.nil)) Z) z3v)<|Zb Z<|z0j<|z3w<|z0v<|zgs aZ [.rd (z02 aZ) [],.val (.slice none 0 0)] 2 [] [.val (.slice none 0 0)] Z Z Z<|zgs z03 [.rd (z02 aZ) [],.rd (z02 z03) []] 2 [.rd (z02 aZ) []] [] Z Z Z<|zoi (R:=z01) (⟨[],[]⟩:z00) 2 Z (Sp.via (Sp.prod (Sp.prod Sp.unit)))<|zb4 [] [1001] Z (eC 2 Z Z z3k<|eE Z<|eN) (y1 Z)
 ·refine gKn 20 Z h5<|gSR<|Zm Z<|Zq (z3h Z (.own 3 Z) Z tu22)<|Zq (I.gtr Z Z)<|Za Z<|z1x 23 Z fun y6=>Zj Z (fun h7=>?_) (fun h7=>?_)
  ·refine gSR<|Zq (zlv [(0,1),(1,1)] Tryz.underlying25 z3v (ZrE.nilS (ZrE.nilS ZrE.nil)) Z (zfm.done Z))<|Es (zkr 2 Z Z (z07.cast (z07.cons z04 (z07.cons z04 z07.nil)) Z) Z (z1i.cons z0i (z1i.cons z0i z1i.nil)) (z07.cast (z07.cons z04 (z07.cons z04 z07.nil)) Z) z3v)<|Zb Z<|z0j<|z3w<|z0v<|zgs aZ [.rd (z02 aZ) [],.val (.slice none 0 0)] 2 [] [.val (.slice none 0 0)] Z Z Z<|zgs z03 [.rd (z02 aZ) [],.rd (z02 z03) []] 2 [.rd (z02 aZ) []] [] Z Z Z<|zoi (R:=z01) (⟨[],[]⟩:z00) 2 Z (Sp.via (Sp.prod (Sp.prod Sp.unit)))<|zb4 [] [1001] Z (eC 2 Z Z z3k<|eE Z<|eN) (y1 Z)
  ·refine z2p<|z3a<|z0n<|gSR<|Eb Z (z4i 4 z3v (ZrE.nilS (ZrE.nilS ZrE.nil))) fun v8=>Zn<|z8d (fun (s9:(List V3) × (List z08)) aa ww=>∃ nv:Nat→Value,Sta (ctx 65 H [zG1] w) [(4,.val (z05 v2 0)),(8,.val (z05 v8 0))] [(2,some (v2,.box 25 [.val (.slice none 0 0),.val (.slice none 0 0)])),(8,some ((nv 0),.list aZ 31 s9.1)),(9,some ((nv 1),.list z03 57 s9.2)),(4,some (v8,.box 25 [.val (nv 0),.val (nv 1)])),zG1] aa ww) ?_ (fun s9=>?_)
   ·refine gSR<|Zq (ld 1 Z Z fH z3k Z)<|Zm Z<|Zc [] [(100,1100)] Tryz.func88 Z (zl6 _ _) fun r10 n11=>Zq (z3h Z (.own 1100 Z) Z tu115)<|Zm Z<|Zn<|zuu aZ 31 1105<|zuu z03 57 1106<|z24 (fun (s12:(List V3) × (List z08) × Int) aa ww=>∃ nv:Nat→Value,Sta (ctx 65 H [zG1] w) [(2,.val (z05 v1 0)),(4,.val (z05 v2 0)),(8,.val (z05 v8 0)),(30,.val (n11 0)),(31,.rd z0c (r10.length:Int)),(32,.rd z0c s12.2.2)] [(1,some (v1,.box 25 [.rd z01 a0])),(2,some (v2,.box 25 [.val (.slice none 0 0),.val (.slice none 0 0)])),(1103,some ((nv 0),.list aZ 31 s12.1)),(1104,some ((nv 1),.list z03 57 s12.2.1)),(4,some (v8,.box 25 [.val (nv 0),.val (nv 1)])),(1100,some ((n11 0),.list z0h 4 r10)),zG1] aa ww) (fun aa ww h=>⟨nvl [(.slice none 0 0),(.slice none 0 0)],Zu h [1,2,1105,1106,4,1100,1001]⟩) (fun s12=>?_)
    refine gEx fun n13=>gSR<|Zq (I.lss Z Z)<|Zn<|z0t<|gIf Z Z (fun h14=>?_) (fun h14=>?_)
    ·refine Zt<|z0t<|z4m<|gSR<|Zm Z<|z0m fun x15 h16=>Zq (ixO 1100 Z Z Z h16 tu115 ti4)<|Zq (ld 1100 Z Z (Foc.el h16) ty4 Z)<|Za Z<|Zb Z<|gSR<|Zm Z<|Zj Z (fun h17=>?_) (fun h17=>?_)
     ·refine gKn 36 Z h17<|gKn 10 Z h17<|gSR<|Zq (faB 1 Z Z Tryz.underlying25 Z (by exact zas))<|Zq (ld 1 Z Z (fP (z0a _)) zf4 Z)<|Zm Z<|z0m fun x18 h19=>Zq (ixR Z Z h19 tu23 z5t Z)<|Zq (ldR Z z9t)<|Eb Z (z4i 1107 z5t (ZrE.rd (R:=z0o) (x:=0) (Zr.num Z) (ZrE.nilS (ZrE.rd (R:=z2a) (x:=0) (Zr.num Z) (ZrE.rd (R:=z0d) (x:=(⟨0,[],(⟨0,0,0,[]⟩:z06)⟩:z0f)) zmk (ZrE.rd (R:=z0e) (x:=(⟨0,0⟩:z09)) zlr ZrE.nil Z) Z) Z)) Z)) fun v20=>z9m aZ [.rd z0o 0,.rd (z02 aZ) [],.rd z2a 0,.rd z0d (⟨0,[],(⟨0,0,0,[]⟩:z06)⟩:z0f),.rd z0e (⟨0,0⟩:z09)] 1107 [.rd z0o 0] [.rd z2a 0,.rd z0d (⟨0,[],(⟨0,0,0,[]⟩:z06)⟩:z0f),.rd z0e (⟨0,0⟩:z09)] Z Z Z<|zbs (R:=z03) (⟨0,[],0,(⟨0,[],(⟨0,0,0,[]⟩:z06)⟩:z0f),(⟨0,0⟩:z09)⟩:z08) 1107 Z (Sp.via (Sp.prod (Sp.prod (Sp.prod (Sp.prod (Sp.prod Sp.unit))))))<|Es (sto 1107 Z Z fH Z z5t)<|Zn<|gSR<|Zq (faB 1107 Z Z Tryz.underlying57 Z (by exact z6b))<|Zq (ld 1107 Z Z (fP (z0z _)) z93 Z)<|Zc [] [(100,1108)] Tryz.func26 Z (z1a _) fun r21 n22=>Zq (faB 1107 Z Z Tryz.underlying57 Z (by exact z6b))<|lSpl (R:=z03) 1107 Z (Sp.via (Sp.prod (Sp.prod (Sp.prod (Sp.prod (Sp.prod Sp.unit))))))<|Es (zmf 1107 Z Z (z9e.cast (z9e.next z16 (z9e.here z16)) Z) Z z0i z04 z6b)<|Zn<|gPow [.rd z0o x18.Author,.rd (z02 aZ) r21,.rd z2a x18.Stamp,.rd z0d x18.Act,.rd z0e x18.Sig] 1107 1108 [.rd z0o x18.Author] [.rd z2a x18.Stamp,.rd z0d x18.Act,.rd z0e x18.Sig] Z Z Z Z Z<|gJoi (R:=z03) (⟨x18.Author,r21,x18.Stamp,x18.Act,x18.Sig⟩:z08) 1107 Z (Sp.via (Sp.prod (Sp.prod (Sp.prod (Sp.prod (Sp.prod Sp.unit))))))<|zps [(2,.val (z05 v1 0)),(4,.val (z05 v2 0)),(8,.val (z05 v8 0)),(30,.val (n11 0)),(31,.rd z0c (r10.length:Int)),(32,.rd z0c s12.2.2),(9,.rd z0c s12.2.2),(11,.val (z05 v20 0))] [(1,some (v1,.box 25 [.rd z01 a0])),(2,some (v2,.box 25 [.val (.slice none 0 0),.val (.slice none 0 0)])),(1103,some ((n13 0),.list aZ 31 s12.1)),(1104,some ((n13 1),.list z03 57 s12.2.1)),(4,some (v8,.box 25 [.val (n13 0),.val (n13 1)])),(1100,some ((n11 0),.list z0h 4 r10)),zG1,(1107,some (v20,.box 57 [.rd z03 (⟨x18.Author,r21,x18.Stamp,x18.Act,x18.Sig⟩:z08)]))] [1,2,1103,1104,4,1100,1001,1107] (Zs Z Z Z Z<|Zs Z Z Z Z<|sN) (Zi Z<|Zi Z<|Zi Z<|Zi Z<|Zi Z<|Zi Z<|Zi Z<|Zi Z<|rN)<|z43 fun x23 h24=>z43 fun x25 h26=>z43 fun x27 h28=>gOr [] [⟨4,some ([], fun nv=>(v8,.box 25 [.val (n13 0),.val (n13 1)])),[(15,some ([2], fun nv=>(v8,.box 25 [.val (nv 2),.val (n13 1)]))),(17,some ([2,4], fun nv=>(v8,.box 25 [.val (nv 2),.val (nv 4)])))]⟩,⟨1,some ([], fun nv=>(v1,.box 25 [.rd z01 a0])),[]⟩,⟨1109,none,[(7,none)]⟩,⟨1103,some ([], fun nv=>((n13 0),.list aZ 31 s12.1)),[(8,some ([2], fun nv=>((nv 2),.list aZ 31 x25)))]⟩,⟨1107,some ([], fun nv=>(v20,.box 57 [.rd z03 (⟨x18.Author,r21,x18.Stamp,x18.Act,x18.Sig⟩:z08)])),[]⟩,⟨1110,none,[(12,none)]⟩,⟨1104,some ([], fun nv=>((n13 1),.list z03 57 s12.2.1)),[(13,some ([4], fun nv=>((nv 4),.list z03 57 x27)))]⟩] [pk 47 (.val (z05 v8 (0+0))) [(0,0,false)],pk 48 (.val (n13 0)) [(0,0,false)],pk 49 (.val (z05 v1 (0+0))) [(1,0,false)],pk 50 (.rd (z02 aZ) a0.IDs) [(1,0,false)],pd 51 (.rd z0c s12.2.2),pd 52 (.rp aZ x23),pd 53 (.rd aZ x23),⟨some (54,[], fun nv=>.rd (z02 aZ) [x23]),[(2,0,true)],[1],[]⟩,⟨some (55,[2], fun nv=>.val (nv 2)),[(3,0,true)],[2],[]⟩,pk 56 (.val (z05 v8 (0+1))) [(0,0,false)],pk 57 (.val (n13 1)) [(0,0,false)],pk 58 (.rd z03 (⟨x18.Author,r21,x18.Stamp,x18.Act,x18.Sig⟩:z08)) [(4,0,false)],⟨some (59,[], fun nv=>.rd (z02 z03) [(⟨x18.Author,r21,x18.Stamp,x18.Act,x18.Sig⟩:z08)]),[(5,0,true)],[3],[]⟩,⟨some (60,[4], fun nv=>.val (nv 4)),[(6,0,true)],[4],[]⟩,pk 61 (.val (z05 v8 (0+0))) [(0,0,false)],⟨none,[(0,0,true),(3,1,false)],[],[]⟩,pk 62 (.val (z05 v8 (0+1))) [(0,1,false)],⟨none,[(6,1,false),(0,1,true)],[],[]⟩] mixed (oC (oRn (fun nv E=>faB 4 Z Z Tryz.underlying25 Z (by exact z6b)))<|oC (oRn (fun nv E=>ldV 4 Z Z (At.cast At.here Z) sc22 Z))<|oC (oRn (fun nv E=>faB 1 Z Z Tryz.underlying25 Z (by exact z6b)))<|oC (oRn (fun nv E=>ld 1 Z Z (fP (z0b _)) z93 Z))<|oC (oRn (fun nv E=>mv Z))<|oC (oRn (fun nv E=>ixR Z Z h24 tu22 z1z Z))<|oC (oRn (fun nv E=>ldR Z z3t))<|oC (oFz (A1:=fun nv=>[(1109,some ((nv 1),.list aZ 31 [x23]))]) 1109 1 (oEf 1109 1 (fun nv E=>lit (R:=aZ) ([x23]:List V3) 1109 (pP Z Z<|pN) Z tu22 z1z Z Z)))<|oC (oEf 1103 2 (fun nv E=>apn 1103 Z Z Z .rd h26 tu22 z1z Z Z Z))<|oC (oRn (fun nv E=>faB 4 Z Z Tryz.underlying25 Z (by exact zas)))<|oC (oRn (fun nv E=>ldV 4 Z Z (At.cast (At.next z04 At.here) Z) sc23 Z))<|oC (oRn (fun nv E=>ld 1107 Z Z fH z9t Z))<|oC (oFz (A1:=fun nv=>[(1110,some ((nv 3),.list z03 57 [(⟨x18.Author,r21,x18.Stamp,x18.Act,x18.Sig⟩:z08)]))]) 1110 3 (oEf 1110 3 (fun nv E=>lit (R:=z03) ([(⟨x18.Author,r21,x18.Stamp,x18.Act,x18.Sig⟩:z08)]:List z08) 1110 (pP Z Z<|pN) Z tu23 z5t Z Z)))<|oC (oEf 1104 4 (fun nv E=>apn 1104 Z Z Z .rd h28 tu23 z5t Z Z Z))<|oC (oRn (fun nv E=>faB 4 Z Z Tryz.underlying25 Z (by exact z6b)))<|oC (oEs 4 (fun nv E=>zmf 4 Z Z (z9e.cast (z9e.here z04) Z) Z z0i z04 z6b))<|oC (oRn (fun nv E=>faB 4 Z Z Tryz.underlying25 Z (by exact zas)))<|oC (oEs 4 (fun nv E=>zmf 4 Z Z (z9e.cast (z9e.next z04 (z9e.here z04)) Z) Z z0i z04 zas))<|oN) fun n29=>z3a<|z0n<|z2b<|Zq (I.add Z Z)<|Zm Z<|z1n<|z1j (fun aa ww h=>⟨nvl [(n29 2),(n29 4)],Zu h [1,2,1103,1104,4,1100,1001]⟩)
     ·refine gKn 36 Z h17<|gKn 10 Z h17<|z2p<|z3a<|z0n<|z2b<|Zq (I.add Z Z)<|Zm Z<|z1n<|z1j (fun aa ww h=>⟨nvl [(n13 0),(n13 1)],Zu h [1,2,1103,1104,4,1100,1001]⟩)
    ·refine z1w<|z0w<|z0y<|z3g (fun aa ww h=>⟨nvl [(n13 0),(n13 1)],Zu h [2,1103,1104,4,1001]⟩)
   ·refine gEx fun n30=>gSR<|zt3 [.rd (z02 aZ) s9.1,.val (n30 1)] 4 8 [] [.val (n30 1)] Z Z Z Z Z<|zt3 [.rd (z02 aZ) s9.1,.rd (z02 z03) s9.2] 4 9 [.rd (z02 aZ) s9.1] [] Z Z Z Z Z<|zbs (R:=z01) (⟨s9.1,s9.2⟩:z00) 4 Z (Sp.via (Sp.prod (Sp.prod Sp.unit)))<|Zq (ld 4 Z Z fH z3k Z)<|z9m aZ [.rd (z02 aZ) [],.val (.slice none 0 0)] 2 [] [.val (.slice none 0 0)] Z Z Z<|z9m z03 [.rd (z02 aZ) [],.rd (z02 z03) []] 2 [.rd (z02 aZ) []] [] Z Z Z<|zbs (R:=z01) (⟨[],[]⟩:z00) 2 Z (Sp.via (Sp.prod (Sp.prod Sp.unit)))<|Es (sto 2 Z Z fH Z z3v)<|Zb Z<|z0j<|zb4 [] [1001] Z (eC 2 Z Z z3k<|eE Z<|eN) (y1 Z)
def zad (a0:V3) (c1_0:z00):Option (Bool) :=
 z1h c1_0.IDs a0 >>= fun r2 =>
 some (!r2)
theorem zgo (a0:V3) (p1_0:Value) (c1_0:z00):z1o Tryz.prog 50 [.rd aZ a0,.val (z05 p1_0 0)] [(1,some (p1_0,.box 25 [.rd z01 c1_0]))] (zad a0 c1_0) (fun r nv=>⟨[.rd z0h r],[(1,some (p1_0,.box 25 [.rd z01 c1_0]))]⟩):=by
 refine z29 9 Tryz.func50 Z Z Z fun H w=>?_;refine gSR<|Eb Z (bx 2 Z) fun v1=>Zb Z<|gSR<|Zq (faB 1 Z Z Tryz.underlying25 Z (by exact z6b))<|Zq (ld 1 Z Z (fP (z0b _)) z93 Z)<|Zq (ld 2 Z Z fH z3t Z)<|Zc [] [] Tryz.func46 Z (z2l _ _) fun r2 n3=>Zq (zex Z)<|Zb Z<|z0j<|Ze [] [1] Z
def z67 (a0:List V3) (c1_0:z00) (s2:Int):Option (Sum (Sum Int Unit) Int) :=
 if decide (s2<(a0.length:Int)) then
  idx a0 s2 >>= fun x4 =>
  zad x4 c1_0 >>= fun r6 =>
  if r6 then
   some (.inl (.inl s2))
  else
   some (.inr (w64 (s2+1)))
 else
  some (.inl (.inr ()))
def z3o (a0:List V3) (c1_0:z00):Option (Int) :=
 z5u (iter (z67 a0 c1_0) 0) fun s1 =>
 some (-1)
theorem z68 (a0:List V3) (q0:Value) (l0:List V3) (p1_0:Value) (c1_0:z00):z1o Tryz.prog 82 [.vw aZ q0 l0 a0,.val (.func (.func 50) #[] #[z05 p1_0 0])] [(1,some (q0,.list aZ 31 l0)),(2,some (p1_0,.box 25 [.rd z01 c1_0]))] (z3o a0 c1_0) (fun r nv=>⟨[.rd z0c r],[(1,some (q0,.list aZ 31 l0)),(2,some (p1_0,.box 25 [.rd z01 c1_0]))]⟩):=by
 refine z29 19 Tryz.func82 Z Z Z fun H w=>?_;refine gSR<|Zb Z<|z8g (fun (s1:Unit) aa ww=>Sta (ctx 19 H [(1,some (q0,.list aZ 31 l0)),(2,some (p1_0,.box 25 [.rd z01 c1_0]))] w) [] [(1,some (q0,.list aZ 31 l0)),(2,some (p1_0,.box 25 [.rd z01 c1_0]))] aa ww) ?_ (fun s1=>?_)
 ·refine gSR<|Zm Z<|Zq (z3h Z (.vw 1 Z) Z tu22)<|Zm Z<|Zn<|z24 (fun (s2:Int) aa ww=>Sta (ctx 19 H [(1,some (q0,.list aZ 31 l0)),(2,some (p1_0,.box 25 [.rd z01 c1_0]))] w) [(0,.vw aZ q0 l0 a0),(1,.val (.func (.func 50) #[] #[z05 p1_0 0])),(7,.rd z0c (a0.length:Int)),(8,.rd z0c s2)] [(1,some (q0,.list aZ 31 l0)),(2,some (p1_0,.box 25 [.rd z01 c1_0]))] aa ww) (fun aa ww h=>Zu h [1,2]) (fun s2=>?_);refine gSR<|Zq (I.lss Z Z)<|Zn<|z0t<|gIf Z Z (fun h3=>?_) (fun h3=>?_)
  ·refine Zt<|z0t<|z4m<|gSR<|Zm Z<|Zb Z<|gSR<|Zm Z<|Zm Z<|Zm Z<|z0m fun x4 h5=>Zq (ixQ 1 Z Z Z h5 tu22 z1z)<|Zq (ldQ 1 Z Z z3t Z)<|zgt [2] [(1,2)] (gd0 Z) Z Z Tryz.func50 Z Z (zgo _ _ _) (Y1 Z) (cQ 2 Z<|cN) (y1 Z) fun r6 n7=>Zj Z (fun h8=>?_) (fun h8=>?_)
   ·refine gSR<|Zm Z<|Zb Z<|z0j<|z3w<|z0v<|z7m<|z7j<|Ze [] [1,2] Z
   ·refine z2p<|z3a<|z0n<|z2b<|Zq (I.add Z Z)<|Zm Z<|z1n<|z1j (fun aa ww h=>Zu h [1,2])
  ·refine z1w<|z0w<|z0y<|z7p (fun aa ww h=>Zu h [1,2])
 ·refine gSR<|Zb Z<|z0j<|Ze [] [1,2] Z
def z73 (c1_0:z00) (s5:(List V3) × Int × Int):Option (Sum ((List V3) × Int) ((List V3) × Int × Int)) :=
 if decide (s5.2.2<(s5.1.length:Int)) then
  idx s5.1 s5.2.2 >>= fun x7 =>
  zad x7 c1_0 >>= fun r10 =>
  if !r10 then
   idx s5.1 s5.2.1 >>= fun x13 =>
   some (w64 (s5.2.1+1)) >>= fun y15 =>
   some (w64 (s5.2.2+1)) >>= fun y16 =>
   some (.inr (s5.1.set (s5.2.1:Int).toNat x7,y15,y16))
  else
   some (w64 (s5.2.2+1)) >>= fun y17 =>
   some (.inr (s5.1,s5.2.1,y17))
 else
  some (.inl (s5.1,s5.2.1))
def z1s (c0:List V3) (c1_0:z00):Option ((List V3)) :=
 z3o c0 c1_0 >>= fun r1 =>
 if r1==(-1) then
  some c0
 else
  (iter (z73 c1_0) (c0,r1,w64 (r1+1))) >>= fun s4 =>
  chk (0≤s4.2∧s4.2≤(s4.1.length:Int)∧(s4.1.length:Int)≤(s4.1.length:Int)) >>= fun u18 =>
  chk ((s4.2:Int).toNat+(((s4.1.length:Int):Int).toNat - (s4.2:Int).toNat)≤s4.1.length) >>= fun u20 =>
  cut (clr s4.1 ((s4.2:Int).toNat) (((s4.1.length:Int):Int).toNat - (s4.2:Int).toNat) (Vector.replicate 32 0)) 0 s4.2 >>= fun x22 =>
  some x22
theorem z6n (p0:Value) (c0:List V3) (p1_0:Value) (c1_0:z00):z1o Tryz.prog 44 [.val p0,.val (.func (.func 50) #[] #[z05 p1_0 0])] [(1,some (p0,.list aZ 31 c0)),(2,some (p1_0,.box 25 [.rd z01 c1_0]))] (z1s c0 c1_0) (fun r nv=>⟨[.val (nv 0)],[(2,some (p1_0,.box 25 [.rd z01 c1_0])),(100,some (nv 0,.list aZ 31 r))]⟩):=by
 refine z29 42 Tryz.func44 Z Z Z fun H w=>?_;refine gSR<|Zb Z<|gSR<|Zm Z<|Zm Z<|call [1,2] [(1,1),(2,2)] Z Tryz.func82 Z Z (z68 _ _ _ _ _) (aW Z<|aQ Z<|aN) (Zi Z<|Zi Z<|rN) fun r1 n2=>Zb Z<|z0t<|gSR<|Zm Z<|Zq (I.eql Z Z)<|Zj Z (fun h3=>?_) (fun h3=>?_)
 ·refine gSR<|Zm Z<|Zb Z<|z0j<|z0v<|Ze [p0] [2,1] Z
 ·refine Zt<|z8d (fun (s4:(List V3) × Int) aa ww=>Sta (ctx 42 H [(1,some (p0,.list aZ 31 c0)),(2,some (p1_0,.box 25 [.rd z01 c1_0]))] w) [(0,.val p0),(5,.rd z0c s4.2)] [(1,some (p0,.list aZ 31 s4.1)),(2,some (p1_0,.box 25 [.rd z01 c1_0]))] aa ww) ?_ (fun s4=>?_)
  ·refine gSR<|Zm Z<|Zq (I.add Z Z)<|Zb Z<|z24 (fun (s5:(List V3) × Int × Int) aa ww=>Sta (ctx 42 H [(1,some (p0,.list aZ 31 c0)),(2,some (p1_0,.box 25 [.rd z01 c1_0]))] w) [(0,.val p0),(1,.val (.func (.func 50) #[] #[z05 p1_0 0])),(5,.rd z0c s5.2.1),(6,.rd z0c s5.2.2)] [(1,some (p0,.list aZ 31 s5.1)),(2,some (p1_0,.box 25 [.rd z01 c1_0]))] aa ww) (fun aa ww h=>Zu h [1,2]) (fun s5=>?_);refine z0t<|gSR<|Zm Z<|Zm Z<|Zq (z3h Z (.own 1 Z) Z tu22)<|Zq (I.lss Z Z)<|Zj Z (fun h6=>?_) (fun h6=>?_)
   ·refine Zt<|z0t<|z4m<|gSR<|Zm Z<|Zm Z<|z0m fun x7 h8=>Zq (ixO 1 Z Z Z h8 tu22 z1z)<|Zq (ld 1 Z Z (Foc.el h8) z3t Z)<|Eb Z (z4i 3 z1z (.zr (R:=aZ) (x:=(Vector.replicate 32 0)) zef)) fun v9=>Es (sto 3 Z Z fH Z z1z)<|Zn<|gSR<|Zm Z<|Zq (ld 3 Z Z fH z3t Z)<|zgt [2] [(1,2)] (gd0 Z) Z Z Tryz.func50 Z Z (zgo _ _ _) (Y1 Z) (cQ 2 Z<|cN) (y1 Z) fun r10 n11=>Zq (zex Z)<|Zj Z (fun h12=>?_) (fun h12=>?_)
    ·refine gSR<|Zm Z<|Zm Z<|Zq (ld 3 Z Z fH z3t Z)<|z0m fun x13 h14=>Zq (ixO 1 Z Z Z h14 tu22 z1z)<|Es (sto 1 Z Z (Foc.el h14) Z z1z)<|Zn<|z2b<|Zm Z<|Zq (I.add Z Z)<|Za Z<|z1x 5 Z fun y15=>z1n<|z3a<|z0n<|z2b<|Zm Z<|Zq (I.add Z Z)<|Za Z<|z1x 6 Z fun y16=>z1n<|z1j (fun aa ww h=>Zu h [1,2])
    ·refine z2p<|z3a<|z0n<|z2b<|Zm Z<|Zq (I.add Z Z)<|Za Z<|z1x 6 Z fun y17=>z1n<|z1j (fun aa ww h=>Zu h [1,2])
   ·refine z1w<|z0w<|z0y<|z3g (fun aa ww h=>Zu h [1,2])
  ·refine gSR<|Zm Z<|Zm Z<|z0m fun u18 h19=>Zq (zvw 1 Z Z (.to Z) .no (z44 h19) tu22 z1z)<|z0m fun u20 h21=>EsV (clrS 1 Z Z (z44 h21) Z tu22 z1z zef Z)<|Zn<|gSR<|Zm Z<|Zm Z<|z0m fun x22 h23=>Ef Z (cutO 1 Z Z Z h23 tu22 z1z) fun v24=>Zb Z<|z0j<|Ze [v24] [2,1] Z
def zce (a0:z00) (a1:List V3):Option ((List V3)) :=
 z0p a1 >>= fun r2 =>
 z1s r2 a0 >>= fun r4 =>
 zou r4 >>= fun r6 =>
 z10 r6 >>= fun r8 =>
 zcp a0 r8 >>= fun r10 =>
 some r10.1.IDs
theorem zez (a0:z00) (a1:List V3):z1o Tryz.prog 27 [.rd z01 a0,.rd (z02 aZ) a1] [zG1] (zce a0 a1) (fun r nv=>⟨[.rd (z02 aZ) r],[(1001,some (.bool true,.glob 1 (z3b 64 z0o) z52))]⟩):=by
 refine z29 23 Tryz.func27 Z Z Z fun H w=>?_;refine gSR<|Eb Z (bx 1 Z) fun v1=>Zb Z<|gSR<|Zm Z<|Zc [] [(100,2)] Tryz.func26 Z (z1a _) fun r2 n3=>Zq (mkf mp0 (mp1 Z))<|Zc [2,1] [(100,3),(2,1)] Tryz.func44 Z (z6n _ _ _ _) fun r4 n5=>Zb Z<|gSR<|Zm Z<|Zc [3] [(1,3)] Tryz.func47 Z (zry _ _) fun r6 n7=>Zn<|z0t<|z8s [3,10,25,1001] mixed Z Z<|hTk 0 Z Z (ld 1 Z Z fH z3k Z)<|hTk 1 Z Z (mv Z)<|hAlt [2,7] (by kernel_rfl) Z ⟨?_,?_,trivial⟩
 ·refine z13j 2 [3] [(100,10)] Z Z (gd0 Z) Z Tryz.func49 Z Z (z2o _ _) (Y1 Z) (y1 Z) Z (fun _ _=>z2t) fun r8 n9=>hAlt [3,7] (by kernel_rfl) Z ⟨?_,?_,trivial⟩
  ·refine oFrz 10 [17] Z (fS Z<|fN)<|z15x 3 [1001] [] Z Z (gd0 Z) Z Tryz.func51 Z Z (zcj _ _) (Y2 Z Z) (y1 Z) Z fun r10 n11=>zlt 4 Z (by kernel_rfl) (by kernel_rfl) (by kernel_rfl) (gd0 Z) Z Z (mv Z)<|zlt 5 Z (by kernel_rfl) (by kernel_rfl) (by kernel_rfl) (gd0 Z) Z Z (ext Z Z)<|Zf 6 Z Z z2s (ext Z Z)<|hDoB 7 Z (by kernel_rfl) (gd0 Z) Z Z Z (z4i 25 z3v (ZrE.nilS (ZrE.nilS ZrE.nil))) fun v12=>hPnl aZ [.rd (z02 aZ) [],.val (.slice none 0 0)] 25 [] [.val (.slice none 0 0)] Z Z Z<|hPnl z03 [.rd (z02 aZ) [],.rd (z02 z03) []] 25 [.rd (z02 aZ) []] [] Z Z Z<|hJoi (R:=z01) (⟨[],[]⟩:z00) 25 Z (Sp.via (Sp.prod (Sp.prod Sp.unit)))<|Zp 8 Z Z Z Z Z (sto 25 Z Z fH Z z3v)<|hTk 9 Z Z (asg Z)<|z54 (by kernel_rfl)<|z0n<|gSR<|Zq (faB 25 Z Z Tryz.underlying25 Z (by exact z6b))<|Zq (ld 25 Z Z (fP (z0b _)) z93 Z)<|Zb Z<|z0j<|Ze [] [1001] Z
  ·refine oDoB 7 Z (gd0 Z) Z Z Z (z4i 25 z3v (ZrE.nilS (ZrE.nilS ZrE.nil))) fun v13=>zuq 10 [17] Z (fS Z<|fN)<|zlu 3 [1001] [] Z (by kernel_rfl) Z (gd0 Z) Z Tryz.func51 Z Z (zcj _ _) (Y2 Z Z) (y1 Z) Z fun r14 n15=>zlt 4 Z (by kernel_rfl) (by kernel_rfl) (by kernel_rfl) (gd0 Z) Z Z (mv Z)<|zlt 5 Z (by kernel_rfl) (by kernel_rfl) (by kernel_rfl) (gd0 Z) Z Z (ext Z Z)<|Zf 6 Z Z z2s (ext Z Z)<|hPnl aZ [.rd (z02 aZ) [],.val (.slice none 0 0)] 25 [] [.val (.slice none 0 0)] Z Z Z<|hPnl z03 [.rd (z02 aZ) [],.rd (z02 z03) []] 25 [.rd (z02 aZ) []] [] Z Z Z<|hJoi (R:=z01) (⟨[],[]⟩:z00) 25 Z (Sp.via (Sp.prod (Sp.prod Sp.unit)))<|Zp 8 Z Z Z Z Z (sto 25 Z Z fH Z z3v)<|hTk 9 Z Z (asg Z)<|z54 (by kernel_rfl)<|z0n<|gSR<|Zq (faB 25 Z Z Tryz.underlying25 Z (by exact z6b))<|Zq (ld 25 Z Z (fP (z0b _)) z93 Z)<|Zb Z<|z0j<|Ze [] [1001] Z
 ·refine oDoB 7 Z (gd0 Z) Z Z Z (z4i 25 z3v (ZrE.nilS (ZrE.nilS ZrE.nil))) fun v16=>z41 2 [3] [(100,10)] Z (by kernel_rfl) Z (gd0 Z) Z Tryz.func49 Z Z (z2o _ _) (Y1 Z) (y1 Z) Z (fun _ _=>z2t) fun r17 n18=>zuq 10 [17] Z (fS Z<|fN)<|zlu 3 [1001] [] Z (by kernel_rfl) Z (gd0 Z) Z Tryz.func51 Z Z (zcj _ _) (Y2 Z Z) (y1 Z) Z fun r19 n20=>zlt 4 Z (by kernel_rfl) (by kernel_rfl) (by kernel_rfl) (gd0 Z) Z Z (mv Z)<|zlt 5 Z (by kernel_rfl) (by kernel_rfl) (by kernel_rfl) (gd0 Z) Z Z (ext Z Z)<|Zf 6 Z Z z2s (ext Z Z)<|hPnl aZ [.rd (z02 aZ) [],.val (.slice none 0 0)] 25 [] [.val (.slice none 0 0)] Z Z Z<|hPnl z03 [.rd (z02 aZ) [],.rd (z02 z03) []] 25 [.rd (z02 aZ) []] [] Z Z Z<|hJoi (R:=z01) (⟨[],[]⟩:z00) 25 Z (Sp.via (Sp.prod (Sp.prod Sp.unit)))<|Zp 8 Z Z Z Z Z (sto 25 Z Z fH Z z3v)<|hTk 9 Z Z (asg Z)<|z54 (by kernel_rfl)<|z0n<|gSR<|Zq (faB 25 Z Z Tryz.underlying25 Z (by exact z6b))<|Zq (ld 25 Z Z (fP (z0b _)) z93 Z)<|Zb Z<|z0j<|Ze [] [1001] Z
def zbf (a0:V3) (c1_0:List V3) (c2_0:List V3):Option (Bool) :=
 z1h c1_0 a0 >>= fun r2 =>
 if !r2 then
  some true
 else
  z1h c2_0 a0 >>= fun r5 =>
  some r5
theorem zh5 (a0:V3) (p1_0:Value) (c1_0:List V3) (p2_0:Value) (c2_0:List V3):z1o Tryz.prog 53 [.rd aZ a0,.val (z05 p1_0 0),.val (z05 p2_0 0)] [(1,some (p1_0,.box 22 [.rd (z02 aZ) c1_0])),(2,some (p2_0,.box 22 [.rd (z02 aZ) c2_0]))] (zbf a0 c1_0 c2_0) (fun r nv=>⟨[.rd z0h r],[(1,some (p1_0,.box 22 [.rd (z02 aZ) c1_0])),(2,some (p2_0,.box 22 [.rd (z02 aZ) c2_0]))]⟩):=by
 refine z29 14 Tryz.func53 Z Z Z fun H w=>?_;refine gSR<|Eb Z (bx 3 Z) fun v1=>Zb Z<|gSR<|Zq (ld 1 Z Z fH z93 Z)<|Zq (ld 3 Z Z fH z3t Z)<|Zc [] [] Tryz.func46 Z (z2l _ _) fun r2 n3=>Zq (zex Z)<|Zm Z<|z19 9 Z (fun h4=>?_) (fun h4=>?_)
 ·refine lKn 8 Z h4<|Zk Z<|Zk Z<|Zk Z<|Zq (pkT Z Z)<|Zb Z<|z0j<|Ze [] [1,2] Z
 ·refine lKn 8 Z h4<|z17 Zx Z Z (ld 2 Z Z fH z93 Z)<|z17 Zx Z Z (ld 3 Z Z fH z3t Z)<|ze9 [] [] Zx Z Tryz.func46 Z Z (z2l _ _) (Y2 Z Z) rN fun r5 n6=>Zq (pkF Z Z)<|Zb Z<|z0j<|Ze [] [1,2] Z
def z6e (a0:List V3) (c1_0:List V3) (c1_1:List V3) (s2:Int):Option (Sum (Sum Int Unit) Int) :=
 if decide (s2<(a0.length:Int)) then
  idx a0 s2 >>= fun x4 =>
  zbf x4 c1_0 c1_1 >>= fun r6 =>
  if r6 then
   some (.inl (.inl s2))
  else
   some (.inr (w64 (s2+1)))
 else
  some (.inl (.inr ()))
def z3r (a0:List V3) (c1_0:List V3) (c1_1:List V3):Option (Int) :=
 z5u (iter (z6e a0 c1_0 c1_1) 0) fun s1 =>
 some (-1)
theorem z6g (a0:List V3) (q0:Value) (l0:List V3) (p1_0:Value) (c1_0:List V3) (p1_1:Value) (c1_1:List V3):z1o Tryz.prog 82 [.vw aZ q0 l0 a0,.val (.func (.func 53) #[] #[z05 p1_0 0,z05 p1_1 0])] [(1,some (q0,.list aZ 31 l0)),(2,some (p1_0,.box 22 [.rd (z02 aZ) c1_0])),(3,some (p1_1,.box 22 [.rd (z02 aZ) c1_1]))] (z3r a0 c1_0 c1_1) (fun r nv=>⟨[.rd z0c r],[(1,some (q0,.list aZ 31 l0)),(2,some (p1_0,.box 22 [.rd (z02 aZ) c1_0])),(3,some (p1_1,.box 22 [.rd (z02 aZ) c1_1]))]⟩):=by
 refine z29 19 Tryz.func82 Z Z Z fun H w=>?_;refine gSR<|Zb Z<|z8g (fun (s1:Unit) aa ww=>Sta (ctx 19 H [(1,some (q0,.list aZ 31 l0)),(2,some (p1_0,.box 22 [.rd (z02 aZ) c1_0])),(3,some (p1_1,.box 22 [.rd (z02 aZ) c1_1]))] w) [] [(1,some (q0,.list aZ 31 l0)),(2,some (p1_0,.box 22 [.rd (z02 aZ) c1_0])),(3,some (p1_1,.box 22 [.rd (z02 aZ) c1_1]))] aa ww) ?_ (fun s1=>?_)
 ·refine gSR<|Zm Z<|Zq (z3h Z (.vw 1 Z) Z tu22)<|Zm Z<|Zn<|z24 (fun (s2:Int) aa ww=>Sta (ctx 19 H [(1,some (q0,.list aZ 31 l0)),(2,some (p1_0,.box 22 [.rd (z02 aZ) c1_0])),(3,some (p1_1,.box 22 [.rd (z02 aZ) c1_1]))] w) [(0,.vw aZ q0 l0 a0),(1,.val (.func (.func 53) #[] #[z05 p1_0 0,z05 p1_1 0])),(7,.rd z0c (a0.length:Int)),(8,.rd z0c s2)] [(1,some (q0,.list aZ 31 l0)),(2,some (p1_0,.box 22 [.rd (z02 aZ) c1_0])),(3,some (p1_1,.box 22 [.rd (z02 aZ) c1_1]))] aa ww) (fun aa ww h=>Zu h [1,2,3]) (fun s2=>?_)
  refine gSR<|Zq (I.lss Z Z)<|Zn<|z0t<|gIf Z Z (fun h3=>?_) (fun h3=>?_)
  ·refine Zt<|z0t<|z4m<|gSR<|Zm Z<|Zb Z<|gSR<|Zm Z<|Zm Z<|Zm Z<|z0m fun x4 h5=>Zq (ixQ 1 Z Z Z h5 tu22 z1z)<|Zq (ldQ 1 Z Z z3t Z)<|zgt [2,3] [(1,2),(2,3)] (gd0 Z) Z Z Tryz.func53 Z Z (zh5 _ _ _ _ _) (Y1 Z) (cQ 2 Z<|cQ 3 Z<|cN) (Zi Z<|Zi Z<|rN) fun r6 n7=>Zj Z (fun h8=>?_) (fun h8=>?_)
   ·refine gSR<|Zm Z<|Zb Z<|z0j<|z3w<|z0v<|z7m<|z7j<|Ze [] [1,2,3] Z
   ·refine z2p<|z3a<|z0n<|z2b<|Zq (I.add Z Z)<|Zm Z<|z1n<|z1j (fun aa ww h=>Zu h [1,2,3])
  ·refine z1w<|z0w<|z0y<|z7p (fun aa ww h=>Zu h [1,2,3])
 ·refine gSR<|Zb Z<|z0j<|Ze [] [1,2,3] Z
def z7g (c1_0:List V3) (c1_1:List V3) (s5:(List V3) × Int × Int):Option (Sum ((List V3) × Int) ((List V3) × Int × Int)) :=
 if decide (s5.2.2<(s5.1.length:Int)) then
  idx s5.1 s5.2.2 >>= fun x7 =>
  zbf x7 c1_0 c1_1 >>= fun r10 =>
  if !r10 then
   idx s5.1 s5.2.1 >>= fun x13 =>
   some (w64 (s5.2.1+1)) >>= fun y15 =>
   some (w64 (s5.2.2+1)) >>= fun y16 =>
   some (.inr (s5.1.set (s5.2.1:Int).toNat x7,y15,y16))
  else
   some (w64 (s5.2.2+1)) >>= fun y17 =>
   some (.inr (s5.1,s5.2.1,y17))
 else
  some (.inl (s5.1,s5.2.1))
def z2v (c0:List V3) (c1_0:List V3) (c1_1:List V3):Option ((List V3)) :=
 z3r c0 c1_0 c1_1 >>= fun r1 =>
 if r1==(-1) then
  some c0
 else
  (iter (z7g c1_0 c1_1) (c0,r1,w64 (r1+1))) >>= fun s4 =>
  chk (0≤s4.2∧s4.2≤(s4.1.length:Int)∧(s4.1.length:Int)≤(s4.1.length:Int)) >>= fun u18 =>
  chk ((s4.2:Int).toNat+(((s4.1.length:Int):Int).toNat - (s4.2:Int).toNat)≤s4.1.length) >>= fun u20 =>
  cut (clr s4.1 ((s4.2:Int).toNat) (((s4.1.length:Int):Int).toNat - (s4.2:Int).toNat) (Vector.replicate 32 0)) 0 s4.2 >>= fun x22 =>
  some x22
theorem z7d (p0:Value) (c0:List V3) (p1_0:Value) (c1_0:List V3) (p1_1:Value) (c1_1:List V3):z1o Tryz.prog 44 [.val p0,.val (.func (.func 53) #[] #[z05 p1_0 0,z05 p1_1 0])] [(1,some (p0,.list aZ 31 c0)),(2,some (p1_0,.box 22 [.rd (z02 aZ) c1_0])),(3,some (p1_1,.box 22 [.rd (z02 aZ) c1_1]))] (z2v c0 c1_0 c1_1) (fun r nv=>⟨[.val (nv 0)],[(2,some (p1_0,.box 22 [.rd (z02 aZ) c1_0])),(3,some (p1_1,.box 22 [.rd (z02 aZ) c1_1])),(100,some (nv 0,.list aZ 31 r))]⟩):=by
 refine z29 42 Tryz.func44 Z Z Z fun H w=>?_;refine gSR<|Zb Z<|gSR<|Zm Z<|Zm Z<|call [1,2,3] [(1,1),(2,2),(3,3)] Z Tryz.func82 Z Z (z6g _ _ _ _ _ _ _) (aW Z<|aQ Z<|aN) (Zi Z<|Zi Z<|Zi Z<|rN) fun r1 n2=>Zb Z<|z0t<|gSR<|Zm Z<|Zq (I.eql Z Z)<|Zj Z (fun h3=>?_) (fun h3=>?_)
 ·refine gSR<|Zm Z<|Zb Z<|z0j<|z0v<|Ze [p0] [2,3,1] Z
 ·refine Zt<|z8d (fun (s4:(List V3) × Int) aa ww=>Sta (ctx 42 H [(1,some (p0,.list aZ 31 c0)),(2,some (p1_0,.box 22 [.rd (z02 aZ) c1_0])),(3,some (p1_1,.box 22 [.rd (z02 aZ) c1_1]))] w) [(0,.val p0),(5,.rd z0c s4.2)] [(1,some (p0,.list aZ 31 s4.1)),(2,some (p1_0,.box 22 [.rd (z02 aZ) c1_0])),(3,some (p1_1,.box 22 [.rd (z02 aZ) c1_1]))] aa ww) ?_ (fun s4=>?_)
  ·refine gSR<|Zm Z<|Zq (I.add Z Z)<|Zb Z<|z24 (fun (s5:(List V3) × Int × Int) aa ww=>Sta (ctx 42 H [(1,some (p0,.list aZ 31 c0)),(2,some (p1_0,.box 22 [.rd (z02 aZ) c1_0])),(3,some (p1_1,.box 22 [.rd (z02 aZ) c1_1]))] w) [(0,.val p0),(1,.val (.func (.func 53) #[] #[z05 p1_0 0,z05 p1_1 0])),(5,.rd z0c s5.2.1),(6,.rd z0c s5.2.2)] [(1,some (p0,.list aZ 31 s5.1)),(2,some (p1_0,.box 22 [.rd (z02 aZ) c1_0])),(3,some (p1_1,.box 22 [.rd (z02 aZ) c1_1]))] aa ww) (fun aa ww h=>Zu h [1,2,3]) (fun s5=>?_)
   refine z0t<|gSR<|Zm Z<|Zm Z<|Zq (z3h Z (.own 1 Z) Z tu22)<|Zq (I.lss Z Z)<|Zj Z (fun h6=>?_) (fun h6=>?_)
   ·refine Zt<|z0t<|z4m<|gSR<|Zm Z<|Zm Z<|z0m fun x7 h8=>Zq (ixO 1 Z Z Z h8 tu22 z1z)<|Zq (ld 1 Z Z (Foc.el h8) z3t Z)<|Eb Z (z4i 4 z1z (.zr (R:=aZ) (x:=(Vector.replicate 32 0)) zef)) fun v9=>Es (sto 4 Z Z fH Z z1z)<|Zn<|gSR<|Zm Z<|Zq (ld 4 Z Z fH z3t Z)<|zgt [2,3] [(1,2),(2,3)] (gd0 Z) Z Z Tryz.func53 Z Z (zh5 _ _ _ _ _) (Y1 Z) (cQ 2 Z<|cQ 3 Z<|cN) (Zi Z<|Zi Z<|rN) fun r10 n11=>Zq (zex Z)<|Zj Z (fun h12=>?_) (fun h12=>?_)
    ·refine gSR<|Zm Z<|Zm Z<|Zq (ld 4 Z Z fH z3t Z)<|z0m fun x13 h14=>Zq (ixO 1 Z Z Z h14 tu22 z1z)<|Es (sto 1 Z Z (Foc.el h14) Z z1z)<|Zn<|z2b<|Zm Z<|Zq (I.add Z Z)<|Za Z<|z1x 5 Z fun y15=>z1n<|z3a<|z0n<|z2b<|Zm Z<|Zq (I.add Z Z)<|Za Z<|z1x 6 Z fun y16=>z1n<|z1j (fun aa ww h=>Zu h [1,2,3])
    ·refine z2p<|z3a<|z0n<|z2b<|Zm Z<|Zq (I.add Z Z)<|Za Z<|z1x 6 Z fun y17=>z1n<|z1j (fun aa ww h=>Zu h [1,2,3])
   ·refine z1w<|z0w<|z0y<|z3g (fun aa ww h=>Zu h [1,2,3])
  ·refine gSR<|Zm Z<|Zm Z<|z0m fun u18 h19=>Zq (zvw 1 Z Z (.to Z) .no (z44 h19) tu22 z1z)<|z0m fun u20 h21=>EsV (clrS 1 Z Z (z44 h21) Z tu22 z1z zef Z)<|Zn<|gSR<|Zm Z<|Zm Z<|z0m fun x22 h23=>Ef Z (cutO 1 Z Z Z h23 tu22 z1z) fun v24=>Zb Z<|z0j<|Ze [v24] [2,3,1] Z
def zck (a0:z00) (a1:List V3) (a2:List V3):Option ((List V3)) :=
 zce a0 a1 >>= fun r2 =>
 zce a0 a2 >>= fun r5 =>
 zct a0 >>= fun r9 =>
 z2v r9.1 r2 r5 >>= fun r11 =>
 some r11
set_option maxHeartbeats 4000000 in
theorem zg9 (a0:z00) (a1:List V3) (a2:List V3):z1o Tryz.prog 28 [.rd z01 a0,.rd (z02 aZ) a1,.rd (z02 aZ) a2] [zG1] (zck a0 a1 a2) (fun r nv=>⟨[.val (nv 0)],[(1001,some (.bool true,.glob 1 (z3b 64 z0o) z52)),(100,some (nv 0,.list aZ 31 r))]⟩):=by
 refine z29 25 Tryz.func28 Z Z Z fun H w=>?_;refine gSR<|Eb Z (bx 1 Z) fun v1=>Zb Z<|z0t<|zps [(1,.rd (z02 aZ) a1),(2,.rd (z02 aZ) a2),(3,.val (z05 v1 0))] [zG1,(1,some (v1,.box 25 [.rd z01 a0]))] [1001,1] (sS Z<|sS Z<|sS Z<|sN) (Zi Z<|Zi Z<|rN)<|z43 fun r2 h4=>z43 fun r5 h7=>gOr [] [⟨1,some ([], fun nv=>(v1,.box 25 [.rd z01 a0])),[]⟩,⟨1001,some ([], fun nv=>((.bool true),.glob 1 (z3b 64 z0o) z52)),[]⟩,⟨2,none,[(6,some ([1], fun nv=>((nv 1),.box 22 [.val (.slice none 0 0)]))),(8,some ([1], fun nv=>((nv 1),.box 22 [.rd (z02 aZ) r2])))]⟩,⟨3,none,[(7,some ([2], fun nv=>((nv 2),.box 22 [.val (.slice none 0 0)]))),(9,some ([2], fun nv=>((nv 2),.box 22 [.rd (z02 aZ) r5])))]⟩] [pk 11 (.rd z01 a0) [(0,0,false)],pd 12 (.rd (z02 aZ) a1),pk 13 (.rd (z02 aZ) r2) [(1,0,false)],pk 14 (.rd z01 a0) [(0,0,false)],pd 15 (.rd (z02 aZ) a2),pk 16 (.rd (z02 aZ) r5) [(1,0,false)],⟨some (7,[1], fun nv=>.val (z05 (nv 1) 0)),[(2,0,true)],[1],[]⟩,⟨some (8,[2], fun nv=>.val (z05 (nv 2) 0)),[(3,0,true)],[2],[]⟩,⟨none,[(2,1,true)],[],[]⟩,⟨none,[(3,1,true)],[],[]⟩] mixed (oC (oRn (fun nv E=>ld 1 Z Z fH z3k Z))<|oC (oRn (fun nv E=>mv Z))<|oC (oCl [] [1001] [] h4 Tryz.func27 Z (fun nv=>(zez _ _)) (fun nv=>(Y2 Z Z)) (fun nv E=>(y1 Z)))<|oC (oRn (fun nv E=>ld 1 Z Z fH z3k Z))<|oC (oRn (fun nv E=>mv Z))<|oC (oCl [] [1001] [] h7 Tryz.func27 Z (fun nv=>(zez _ _)) (fun nv=>(Y2 Z Z)) (fun nv E=>(y1 Z)))<|oC (oEb 2 1 (fun nv E=>z4i 2 z6b (.val Z)))<|oC (oEb 3 2 (fun nv E=>z4i 3 z6b (.val Z)))<|oC (oEs 2 (fun nv E=>zmf 2 Z Z (.here z04) Z z86 z16 z6b))<|oC (oEs 3 (fun nv E=>zmf 3 Z Z (.here z04) Z z86 z16 z6b))<|oN) fun n8=>z0n<|gSR<|Zq (ld 1 Z Z fH z3k Z)<|Zc [1001] [(100,4)] Tryz.func52 Z (zkw _) fun r9 n10=>Zm Z<|Zq (ext Z Z)<|Zq (ext Z Z)<|Za Z<|Zb Z<|gSR<|Zm Z<|Zq (mkf mp0 (mp2 Z Z))<|Zc [4,2,3] [(100,5),(2,2),(3,3)] Tryz.func44 Z (z7d _ _ _ _ _ _) fun r11 n12=>Zb Z<|z0j<|Ze [(n12 0)] [1001,5] Z
def z5j (a0:List (List UInt8)):Option ((List (List UInt8))) :=
 app 24 ([]:List (List UInt8)) a0 >>= fun x3 =>
 some x3
theorem zeg (a0:List (List UInt8)):z1o Tryz.prog 56 [.rd (z02 (z02 u8R)) a0] [] (z5j a0) (fun r nv=>⟨[.val (nv 0)],[(100,some (nv 0,.list (z02 u8R) 74 r))]⟩):=by
 refine z29 8 Tryz.func56 Z Z Z fun H w=>?_;refine gSR<|Zb Z<|z0t<|gSR<|Zm Z<|z14a Z Z .rd Z tu94 (fun h1=>?_) ?_
 ·subst h1;refine Zn<|zhl Z<|gSR<|Zb Z<|z0j<|z0v<|zql (z02 u8R) 74 1<|Ze [(.slice none 0 0)] [1] Z
 ·refine Zn<|zgf Z<|Zt<|gSR<|Ef Z (lit (R:=(z02 u8R)) (([]:List (List UInt8)):List (List UInt8)) 2 (pN) Z tu94 zon Z Z) fun v2=>Zm Z<|z0m fun x3 h4=>Ef Z (apn 2 Z Z Z .rd h4 tu94 zon Z Z Z) fun v5=>Zb Z<|z0j<|Ze [v5] [2] Z
def zh6 (a0:UInt8):Option (Bool) :=
 if decide (2≤a0) then
  some (decide (a0≤4)) >>= fun y2 =>
  some y2
 else
  some false
theorem znm (a0:UInt8):z1o Tryz.prog 141 [.rd u8R a0] [] (zh6 a0) (fun r nv=>⟨[.rd z0h r],[]⟩):=by
 refine z29 9 Tryz.func141 Z Z Z fun H w=>?_;refine gSR<|Zb Z<|gSR<|Zm Z<|Zq (B.geq Z Z)<|Zm Z<|z19 5 Z (fun h1=>?_) (fun h1=>?_)
 ·refine lKn 4 Z h1<|z17 Zx Z Z (mv Z)<|z17 Zx Z Z (B.leq Z Z)<|Zq (pkT Z Z)<|Za Z<|z1x 2 Z fun y2=>Zn<|z0j<|Ze [] [] Z
 ·refine lKn 4 Z h1<|Zk Z<|Zk Z<|Zq (pkF Z Z)<|Zb Z<|z0j<|Ze [] [] Z
def zo5 (a0:List V3) (s2:Int):Option (Sum (Sum Bool Unit) Int) :=
 if decide (s2<(a0.length:Int)) then
  idx a0 (w64 (s2 - 1)) >>= fun x4 =>
  idx a0 s2 >>= fun x6 =>
  z9b x4 x6 >>= fun r8 =>
  if decide (0≤r8) then
   some (.inl (.inl false))
  else
   some (.inr (w64 (s2+1)))
 else
  some (.inl (.inr ()))
def zls (a0:List V3):Option (Bool) :=
 z5u (iter (zo5 a0) 1) fun s1 =>
 some true
theorem znw (a0:List V3):z1o Tryz.prog 142 [.rd (z02 aZ) a0] [] (zls a0) (fun r nv=>⟨[.rd z0h r],[]⟩):=by
 refine z29 21 Tryz.func142 Z Z Z fun H w=>?_;refine gSR<|Zb Z<|z8g (fun (s1:Unit) aa ww=>Sta (ctx 21 H [] w) [] [] aa ww) ?_ (fun s1=>?_)
 ·refine gSR<|Zb Z<|z24 (fun (s2:Int) aa ww=>Sta (ctx 21 H [] w) [(0,.rd (z02 aZ) a0),(3,.rd z0c s2)] [] aa ww) (fun aa ww h=>Zu h []) (fun s2=>?_);refine z0t<|gSR<|Zm Z<|Zm Z<|Zq (z3h Z .rd Z tu22)<|Zq (I.lss Z Z)<|Zj Z (fun h3=>?_) (fun h3=>?_)
  ·refine Zt<|z0t<|z4m<|z0t<|z8s [] mixed Z Z<|hTk 0 Z Z (mv Z)<|hTk 1 Z Z (mv Z)<|hTk 2 Z Z (I.sub Z Z)<|z5o fun x4 h5=>hTk 3 Z Z (ixR Z Z h5 tu22 z1z Z)<|hTk 4 Z Z (ldR Z z3t)<|hTk 5 Z Z (mv Z)<|hTk 6 Z Z (mv Z)<|z5o fun x6 h7=>hTk 7 Z Z (ixR Z Z h7 tu22 z1z Z)<|hTk 8 Z Z (ldR Z z3t)<|z41 9 [] [] Z (by kernel_rfl) Z (gd0 Z) Z Tryz.func99 Z Z (zah _ _) (Y2 Z Z) rN Z (fun _ _=>z2s) fun r8 n9=>hTk 10 Z Z (I.geq Z Z)<|z54 (by kernel_rfl)<|z0n<|gIf Z Z (fun h10=>?_) (fun h10=>?_)
   ·refine gSR<|Zb Z<|z0j<|z3w<|z0v<|z7m<|z7j<|Ze [] [] Z
   ·refine z2p<|z3a<|z0n<|z2b<|Zm Z<|Zq (I.add Z Z)<|Za Z<|z1n<|z1j (fun aa ww h=>Zu h [])
  ·refine z1w<|z0w<|z0y<|z7p (fun aa ww h=>Zu h [])
 ·refine gSR<|Zb Z<|z0j<|Ze [] [] Z
def z7f (a0:z27) (s29:(List UInt8) × Bool × Int):Option (Sum ((List UInt8) × Bool) ((List UInt8) × Bool × Int)) :=
 if s29.2.1 then
  if decide (s29.2.2<(a0.Ops.length:Int)) then
   idx a0.Ops s29.2.2 >>= fun x33 =>
   zcl x33 >>= fun r35 =>
   app 1 s29.1 r35.1 >>= fun x37 =>
   idx a0.Ops s29.2.2 >>= fun x40 =>
   some (decide ((x40.length:Int)≤400)) >>= fun y42 =>
   some (w64 (s29.2.2+1)) >>= fun y43 =>
   some (.inr (x37,y42,y43))
  else
   some (.inl (s29.1,true))
 else
  some (.inl (s29.1,false))
def zg3 (a0:z27):Option ((List UInt8) × Bool) :=
 (zh6 a0.Kind >>= fun r4 =>
 if r4 then
  (if a0.N==0 then
   if (a0.Ops.length:Int)==0 then
    if decide ((a0.IDs.length:Int)≤40) then
     zls a0.IDs >>= fun r11 =>
     some r11
    else
     some false
   else
    some false
  else
   some false) >>= fun s7 =>
  if s7 then
   zjl a0.IDs >>= fun r14 =>
   app 1 [a0.Kind] r14.1 >>= fun x16 =>
   some (x16,true)
  else
   some ([a0.Kind],false)
 else
  if a0.Kind==5 then
   (if a0.N==0 then
    if (a0.IDs.length:Int)==0 then
     some (decide ((a0.Ops.length:Int)≤8)) >>= fun y23 =>
     some y23
    else
     some false
   else
    some false) >>= fun s20 =>
   z4j (UInt64.ofInt (a0.Ops.length:Int)) >>= fun r24 =>
   app 1 [a0.Kind] r24 >>= fun x26 =>
   iter (z7f a0) (x26,s20,0)
  else
   (if a0.Kind==1 then
    some true
   else
    some (a0.Kind==6)) >>= fun s44 =>
   if s44 then
    (if (a0.IDs.length:Int)==0 then
     some ((a0.Ops.length:Int)==0) >>= fun y49 =>
     some y49
    else
     some false) >>= fun s47 =>
    z4j a0.N >>= fun r50 =>
    app 1 [a0.Kind] r50 >>= fun x52 =>
    some (x52,s47)
   else
    some ([a0.Kind],false)) >>= fun s3 =>
 if s3.2 then
  some (decide ((s3.1.length:Int)≤2000)) >>= fun y57 =>
  some (s3.1,y57)
 else
  some (s3.1,false)
end
section
open Go Go.RowKit
set_option maxRecDepth 100000
theorem zoj (a0:z27):z1o Tryz.prog 97 [.rd z21 a0] [] (zg3 a0) (fun r nv=>⟨[.val (nv 0),.rd z0h r.2],[(100,some (nv 0,.list u8R 5 r.1))]⟩):=by
 refine z29 132 Tryz.func97 Z Z Z fun H w=>?_;refine gSR<|Eb Z (bx 1 Z) fun v1=>Za Z<|Zb Z<|gSR<|Zq (faB 1 Z Z Tryz.underlying96 Z (by exact ti5))<|Zq (ld 1 Z Z (fP (z5q _)) ty5 Z)<|Ef Z (lit (R:=u8R) ([a0.Kind]:List UInt8) 2 (pP Z Z<|pN) Z tu74 ti5 Z Z) fun v2=>Zb Z<|gSR<|Zb Z<|z8d (fun (s3:(List UInt8) × Bool) aa ww=>∃ nv:Nat→Value,Sta (ctx 132 H [] w) [(4,.val (nv 0)),(5,.rd z0h s3.2)] [(2,some ((nv 0),.list u8R 5 s3.1))] aa ww) ?_ (fun s3=>?_)
 ·refine z4m<|gSR<|Zq (faB 1 Z Z Tryz.underlying96 Z (by exact ti5))<|Zq (ld 1 Z Z (fP (z5q _)) ty5 Z)<|Zc [] [] Tryz.func141 Z (znm _) fun r4 n5=>Zb Z<|gIf Z Z (fun h6=>?_) (fun h6=>?_)
  ·refine gKn 17 Z h6<|z8d (fun (s7:Bool) aa ww=>Sta (ctx 132 H [] w) [(1,.val (z05 v1 0)),(4,.val v2),(5,.rd z0h s7)] [(1,some (v1,.box 96 [.rd z21 a0])),(2,some (v2,.list u8R 5 [a0.Kind]))] aa ww) ?_ (fun s7=>?_)
   ·refine z2b<|Zq (faB 1 Z Z Tryz.underlying96 Z (by exact zqm))<|Zq (ld 1 Z Z (fP (zey _)) zpo Z)<|Zq (U.eql Z Z)<|Zm Z<|z19 21 Z (fun h8=>?_) (fun h8=>?_)
    ·refine lKn 20 Z h8<|z17 Zx Z Z (faB 1 Z Z Tryz.underlying96 Z (by exact ti94))<|z17 Zx Z Z (ld 1 Z Z (fP (z3q _)) ty94 Z)<|z17 Zx Z Z (z3h Z .rd Z tu94)<|z17 Zx Z Z (I.eql Z Z)<|Zq (pkT Z Z)<|Zm Z<|z19 27 Z (fun h9=>?_) (fun h9=>?_)
     ·refine lKn 25 Z h9<|lKn 26 Z h9<|z17 Zx Z Z (faB 1 Z Z Tryz.underlying96 Z (by exact z6b))<|z17 Zx Z Z (ld 1 Z Z (fP (z94 _)) z93 Z)<|z17 Zx Z Z (z3h Z .rd Z tu22)<|z17 Zx Z Z (I.leq Z Z)<|Zq (pkT Z Z)<|Zm Z<|z19 33 Z (fun h10=>?_) (fun h10=>?_)
      ·refine lKn 31 Z h10<|lKn 32 Z h10<|z17 Zx Z Z (faB 1 Z Z Tryz.underlying96 Z (by exact z6b))<|z17 Zx Z Z (ld 1 Z Z (fP (z94 _)) z93 Z)<|ze9 [] [] Zx Z Tryz.func142 Z Z (znw _) (Y1 Z) rN fun r11 n12=>Zq (pkT Z Z)<|Za Z<|z1n<|z3g (fun aa ww h=>Zu h [1,2])
      ·refine lKn 31 Z h10<|lKn 32 Z h10<|Zk Z<|Zk Z<|Zk Z<|Zq (pkF Z Z)<|Za Z<|z1n<|z3g (fun aa ww h=>Zu h [1,2])
     ·refine lKn 25 Z h9<|lKn 26 Z h9<|Zk Z<|Zk Z<|Zk Z<|Zk Z<|Zq (pkF Z Z)<|Zm Z<|Zk Z<|Zk Z<|Zk Z<|Zq (pkF Z Z)<|Za Z<|z1n<|z3g (fun aa ww h=>Zu h [1,2])
    ·refine lKn 20 Z h8<|Zk Z<|Zk Z<|Zk Z<|Zk Z<|Zq (pkF Z Z)<|Zm Z<|Zk Z<|Zk Z<|Zk Z<|Zk Z<|Zq (pkF Z Z)<|Zm Z<|Zk Z<|Zk Z<|Zk Z<|Zq (pkF Z Z)<|Za Z<|z1n<|z3g (fun aa ww h=>Zu h [1,2])
   ·refine gSR<|Zm Z<|Zj Z (fun h13=>?_) (fun h13=>?_)
    ·refine gKn 5 Z h13<|gSR<|Zq (faB 1 Z Z Tryz.underlying96 Z (by exact z6b))<|Zq (ld 1 Z Z (fP (z94 _)) z93 Z)<|Zc [] [(100,3)] Tryz.func137 Z (zmy _) fun r14 n15=>Zm Z<|Zq (ext Z Z)<|Zq (ext Z Z)<|Za Z<|Zb Z<|z2b<|Zm Z<|Zm Z<|z0m fun x16 h17=>Ef Z (apn 2 Z Z Z (.own 3 Z) h17 tu74 ti5 Z Z Z) fun v18=>Za Z<|z1n<|z3a<|z3g (fun aa ww h=>⟨nvl [v18],Zu h [2]⟩)
    ·refine gKn 5 Z h13<|z2p<|z3a<|z3g (fun aa ww h=>⟨nvl [v2],Zu h [2]⟩)
  ·refine gKn 17 Z h6<|gSR<|Zq (faB 1 Z Z Tryz.underlying96 Z (by exact ti5))<|Zq (ld 1 Z Z (fP (z5q _)) ty5 Z)<|Zq (B.eql Z Z)<|Zb Z<|gIf Z Z (fun h19=>?_) (fun h19=>?_)
   ·refine gKn 51 Z h19<|z8d (fun (s20:Bool) aa ww=>Sta (ctx 132 H [] w) [(1,.val (z05 v1 0)),(4,.val v2),(5,.rd z0h s20)] [(1,some (v1,.box 96 [.rd z21 a0])),(2,some (v2,.list u8R 5 [a0.Kind]))] aa ww) ?_ (fun s20=>?_)
    ·refine z2b<|Zq (faB 1 Z Z Tryz.underlying96 Z (by exact zqm))<|Zq (ld 1 Z Z (fP (zey _)) zpo Z)<|Zq (U.eql Z Z)<|Zm Z<|z19 55 Z (fun h21=>?_) (fun h21=>?_)
     ·refine lKn 54 Z h21<|z17 Zx Z Z (faB 1 Z Z Tryz.underlying96 Z (by exact z6b))<|z17 Zx Z Z (ld 1 Z Z (fP (z94 _)) z93 Z)<|z17 Zx Z Z (z3h Z .rd Z tu22)<|z17 Zx Z Z (I.eql Z Z)<|Zq (pkT Z Z)<|Zm Z<|z19 61 Z (fun h22=>?_) (fun h22=>?_)
      ·refine lKn 59 Z h22<|lKn 60 Z h22<|z17 Zx Z Z (faB 1 Z Z Tryz.underlying96 Z (by exact ti94))<|z17 Zx Z Z (ld 1 Z Z (fP (z3q _)) ty94 Z)<|z17 Zx Z Z (z3h Z .rd Z tu94)<|z17 Zx Z Z (I.leq Z Z)<|Zq (pkT Z Z)<|Za Z<|z1x 5 Z fun y23=>z1n<|z3g (fun aa ww h=>Zu h [1,2])
      ·refine lKn 59 Z h22<|lKn 60 Z h22<|Zk Z<|Zk Z<|Zk Z<|Zk Z<|Zq (pkF Z Z)<|Za Z<|z1n<|z3g (fun aa ww h=>Zu h [1,2])
     ·refine lKn 54 Z h21<|Zk Z<|Zk Z<|Zk Z<|Zk Z<|Zq (pkF Z Z)<|Zm Z<|Zk Z<|Zk Z<|Zk Z<|Zk Z<|Zq (pkF Z Z)<|Za Z<|z1n<|z3g (fun aa ww h=>Zu h [1,2])
    ·refine gSR<|Zm Z<|Zq (faB 1 Z Z Tryz.underlying96 Z (by exact ti94))<|Zq (ld 1 Z Z (fP (z3q _)) ty94 Z)<|Zq (z3h Z .rd Z tu94)<|Zq (I.toU Z tu3 tu49)<|Zc [] [(100,4)] Tryz.func96 Z (z4p _) fun r24 n25=>z0m fun x26 h27=>Ef Z (apn 2 Z Z Z (.own 4 Z) h27 tu74 ti5 Z Z Z) fun v28=>Zb Z<|gSR<|Zb Z<|z24 (fun (s29:(List UInt8) × Bool × Int) aa ww=>∃ nv:Nat→Value,Sta (ctx 132 H [] w) [(1,.val (z05 v1 0)),(4,.val (nv 0)),(5,.rd z0h s29.2.1),(8,.rd z0c s29.2.2)] [(1,some (v1,.box 96 [.rd z21 a0])),(2,some ((nv 0),.list u8R 5 s29.1))] aa ww) (fun aa ww h=>⟨nvl [v28],Zu h [1,2]⟩) (fun s29=>?_)
     refine gEx fun n30=>z0t<|gSR<|Zm Z<|Zm Z<|z19 75 Z (fun h31=>?_) (fun h31=>?_)
     ·refine lKn 5 Z h31<|lKn 74 Z h31<|z17 Zx Z Z (mv Z)<|z17 Zx Z Z (faB 1 Z Z Tryz.underlying96 Z (by exact ti94))<|z17 Zx Z Z (ld 1 Z Z (fP (z3q _)) ty94 Z)<|z17 Zx Z Z (z3h Z .rd Z tu94)<|z17 Zx Z Z (I.lss Z Z)<|Zq (pkT Z Z)<|Zj Z (fun h32=>?_) (fun h32=>?_)
      ·refine gKn 80 Z h32<|Zt<|z0t<|z4m<|gSR<|Zq (faB 1 Z Z Tryz.underlying96 Z (by exact ti94))<|Zq (ld 1 Z Z (fP (z3q _)) ty94 Z)<|Zm Z<|z0m fun x33 h34=>Zq (ixR Z Z h34 tu94 zon Z)<|Zq (ldR Z ty74)<|Zc [] [(100,5)] Tryz.func138 Z (zge _) fun r35 n36=>Zm Z<|Zq (ext Z Z)<|Zq (ext Z Z)<|Za Z<|Zb Z<|gSR<|Zm Z<|Zm Z<|z0m fun x37 h38=>Ef Z (apn 2 Z Z Z (.own 5 Z) h38 tu74 ti5 Z Z Z) fun v39=>Zb Z<|z2b<|Zq (faB 1 Z Z Tryz.underlying96 Z (by exact ti94))<|Zq (ld 1 Z Z (fP (z3q _)) ty94 Z)<|Zm Z<|z0m fun x40 h41=>Zq (ixR Z Z h41 tu94 zon Z)<|Zq (ldR Z ty74)<|Zq (z3h Z .rd Z tu74)<|Zq (I.leq Z Z)<|Za Z<|z1x 5 Z fun y42=>z1n<|z3a<|z0n<|z2b<|Zm Z<|Zq (I.add Z Z)<|Za Z<|z1x 8 Z fun y43=>z1n<|z1j (fun aa ww h=>⟨nvl [v39],Zu h [1,2]⟩)
      ·refine gKn 80 Z h32<|z1w<|z0w<|z0y<|z3a<|z3g (fun aa ww h=>⟨nvl [(n30 0)],Zu h [2]⟩)
     ·refine lKn 5 Z h31<|lKn 74 Z h31<|Zk Z<|Zk Z<|Zk Z<|Zk Z<|Zk Z<|Zq (pkF Z Z)<|Zn<|zgf Z<|z1w<|z0w<|z0y<|z3a<|z3g (fun aa ww h=>⟨nvl [(n30 0)],Zu h [2]⟩)
   ·refine gKn 51 Z h19<|z8d (fun (s44:Bool) aa ww=>Sta (ctx 132 H [] w) [(1,.val (z05 v1 0)),(4,.val v2),(5,.rd z0h false),(103,.rd z0h s44)] [(1,some (v1,.box 96 [.rd z21 a0])),(2,some (v2,.list u8R 5 [a0.Kind]))] aa ww) ?_ (fun s44=>?_)
    ·refine gSR<|Zq (faB 1 Z Z Tryz.underlying96 Z (by exact ti5))<|Zq (ld 1 Z Z (fP (z5q _)) ty5 Z)<|Zq (B.eql Z Z)<|Zb Z<|gIf Z Z (fun h45=>?_) (fun h45=>?_)
     ·refine gKn 106 Z h45<|z2p<|z3g (fun aa ww h=>Zu h [1,2])
     ·refine gKn 106 Z h45<|z2b<|Zq (faB 1 Z Z Tryz.underlying96 Z (by exact ti5))<|Zq (ld 1 Z Z (fP (z5q _)) ty5 Z)<|Zq (B.eql Z Z)<|Za Z<|z1n<|z3g (fun aa ww h=>Zu h [1,2])
    ·refine gIf Z Z (fun h46=>?_) (fun h46=>?_)
     ·refine z8d (fun (s47:Bool) aa ww=>Sta (ctx 132 H [] w) [(1,.val (z05 v1 0)),(4,.val v2),(5,.rd z0h s47)] [(1,some (v1,.box 96 [.rd z21 a0])),(2,some (v2,.list u8R 5 [a0.Kind]))] aa ww) ?_ (fun s47=>?_)
      ·refine z2b<|Zq (faB 1 Z Z Tryz.underlying96 Z (by exact z6b))<|Zq (ld 1 Z Z (fP (z94 _)) z93 Z)<|Zq (z3h Z .rd Z tu22)<|Zq (I.eql Z Z)<|Zm Z<|z19 114 Z (fun h48=>?_) (fun h48=>?_)
       ·refine lKn 113 Z h48<|z17 Zx Z Z (faB 1 Z Z Tryz.underlying96 Z (by exact ti94))<|z17 Zx Z Z (ld 1 Z Z (fP (z3q _)) ty94 Z)<|z17 Zx Z Z (z3h Z .rd Z tu94)<|z17 Zx Z Z (I.eql Z Z)<|Zq (pkT Z Z)<|Za Z<|z1x 5 Z fun y49=>z1n<|z3g (fun aa ww h=>Zu h [1,2])
       ·refine lKn 113 Z h48<|Zk Z<|Zk Z<|Zk Z<|Zk Z<|Zq (pkF Z Z)<|Za Z<|z1n<|z3g (fun aa ww h=>Zu h [1,2])
      ·refine z2b<|Zm Z<|Zq (faB 1 Z Z Tryz.underlying96 Z (by exact zqm))<|Zq (ld 1 Z Z (fP (zey _)) zpo Z)<|Zc [] [(100,6)] Tryz.func96 Z (z4p _) fun r50 n51=>z0m fun x52 h53=>Ef Z (apn 2 Z Z Z (.own 6 Z) h53 tu74 ti5 Z Z Z) fun v54=>Za Z<|z1n<|z3a<|z3g (fun aa ww h=>⟨nvl [v54],Zu h [2]⟩)
     ·refine z2p<|z3a<|z3g (fun aa ww h=>⟨nvl [v2],Zu h [2]⟩)
 ·refine gEx fun n55=>gSR<|Zm Z<|Zm Z<|Zm Z<|z19 127 Z (fun h56=>?_) (fun h56=>?_)
  ·refine lKn 5 Z h56<|lKn 126 Z h56<|z17 Zx Z Z (mv Z)<|z17 Zx Z Z (z3h Z (.own 2 Z) Z tu74)<|z17 Zx Z Z (I.leq Z Z)<|Zq (pkT Z Z)<|Za Z<|Za Z<|z1x 3 Z fun y57=>Zn<|z0j<|Ze [(n55 0)] [2] Z
  ·refine lKn 5 Z h56<|lKn 126 Z h56<|Zk Z<|Zk Z<|Zk Z<|Zq (pkF Z Z)<|Za Z<|Zb Z<|z0j<|Ze [(n55 0)] [2] Z
def zfs (a0:z27):Option (Int) :=
 zg3 a0 >>= fun r2 =>
 if !r2.2 then
  some 8
 else
  some 0
theorem zos (a0:z27):z1o Tryz.prog 57 [.rd z21 a0] [] (zfs a0) (fun r nv=>⟨[.rd z0c r],[]⟩):=by
 refine z29 12 Tryz.func57 Z Z Z fun H w=>?_;refine gSR<|Eb Z (bx 1 Z) fun v1=>Zb Z<|z0t<|gSR<|Zq (ld 1 Z Z fH ty96 Z)<|Zc [] [(100,2)] Tryz.func97 Z (zoj _) fun r2 n3=>Zm Z<|Zq (ext Z Z)<|Zq (ext Z Z)<|Za Z<|Zb Z<|gSR<|Zm Z<|Zq (zex Z)<|Zj Z (fun h4=>?_) (fun h4=>?_)
 ·refine gSR<|Zb Z<|z0j<|z0v<|Ze [] [] Z
 ·refine Zt<|gSR<|Zb Z<|z0j<|Ze [] [] Z
def z4y (a0:z00) (a1:List V3) (s3:(List z27) × Int):Option (Sum ((List z27)) ((List z27) × Int)) :=
 if decide (s3.2<(a1.length:Int)) then
  idx a1 s3.2 >>= fun x6 =>
  zjg a0 x6 >>= fun r9 =>
  zd6 r9.1 >>= fun r12 =>
  z5u (some (s3.1.length:Int) >>= fun y15 =>
  if decide (0<y15) then
   idx s3.1 (w64 (y15 - 1)) >>= fun x17 =>
   z5j x17.Ops >>= fun r20 =>
   app 24 r20 [r12.1] >>= fun x23 =>
   zfs (⟨x17.Kind,x17.N,x17.IDs,x23⟩:z27) >>= fun r26 =>
   if r26==0 then
    idx s3.1 (w64 (y15 - 1)) >>= fun x29 =>
    some (.inl (.inr (s3.1.set (w64 (y15 - 1):Int).toNat (⟨x17.Kind,x17.N,x17.IDs,x23⟩:z27),w64 (s3.2+1))))
   else
    some (.inr r12.1)
  else
   some (.inr r12.1)) fun s14 =>
  app 64 s3.1 [(⟨5,0,[],[s14]⟩:z27)] >>= fun x33 =>
  some (.inr (x33,w64 (s3.2+1)))
 else
  some (.inl s3.1)
def zcx (a0:z00) (a1:List V3):Option ((List z27)) :=
 (iter (z4y a0 a1) ([],0)) >>= fun s2 =>
 some s2
theorem zgw (a0:z00) (a1:List V3):z1o Tryz.prog 29 [.rd z01 a0,.rd (z02 aZ) a1] [zG1] (zcx a0 a1) (fun r nv=>⟨[.val (nv 0)],[(1001,some (.bool true,.glob 1 (z3b 64 z0o) z52)),(100,some (nv 0,.list z21 96 r))]⟩):=by
 refine z29 63 Tryz.func29 Z Z Z fun H w=>?_;refine gSR<|Eb Z (bx 1 Z) fun v1=>Zb Z<|gSR<|Zb Z<|z8d (fun (s2:(List z27)) aa ww=>∃ nv:Nat→Value,Sta (ctx 63 H [zG1] w) [(5,.val (nv 0))] [(1107,some ((nv 0),.list z21 96 s2)),zG1] aa ww) ?_ (fun s2=>?_)
 ·refine gSR<|Zm Z<|Zq (z3h Z .rd Z tu22)<|Zm Z<|Zn<|zuu z21 96 1119<|z24 (fun (s3:(List z27) × Int) aa ww=>∃ nv:Nat→Value,Sta (ctx 63 H [zG1] w) [(2,.val (z05 v1 0)),(5,.val (nv 0)),(14,.rd (z02 aZ) a1),(15,.rd z0c (a1.length:Int)),(16,.rd z0c s3.2)] [(1,some (v1,.box 25 [.rd z01 a0])),(1118,some ((nv 0),.list z21 96 s3.1)),zG1] aa ww) (fun aa ww h=>⟨nvl [(.slice none 0 0)],Zu h [1,1119,1001]⟩) (fun s3=>?_)
  refine gEx fun n4=>gSR<|Zq (I.lss Z Z)<|Zn<|z0t<|gIf Z Z (fun h5=>?_) (fun h5=>?_)
  ·refine Zt<|z0t<|z4m<|gSR<|z0m fun x6 h7=>Zq (ixR Z Z h7 tu22 z1z Z)<|Zq (ldR Z z3t)<|Eb Z (z4i 1120 z1z (.zr (R:=aZ) (x:=(Vector.replicate 32 0)) zef)) fun v8=>Es (sto 1120 Z Z fH Z z1z)<|Zn<|gSR<|Zq (ld 1 Z Z fH z3k Z)<|Zq (ld 1120 Z Z fH z3t Z)<|Zc [1001] [] Tryz.func54 Z (zoy _ _) fun r9 n10=>Zm Z<|Zq (ext Z Z)<|Zq (ext Z Z)<|Eb Z (z4i 1121 z5t (ZrE.rd (R:=z0o) (x:=0) (Zr.num Z) (ZrE.nilS (ZrE.rd (R:=z2a) (x:=0) (Zr.num Z) (ZrE.rd (R:=z0d) (x:=(⟨0,[],(⟨0,0,0,[]⟩:z06)⟩:z0f)) zmk (ZrE.rd (R:=z0e) (x:=(⟨0,0⟩:z09)) zlr ZrE.nil Z) Z) Z)) Z)) fun v11=>z9m aZ [.rd z0o 0,.rd (z02 aZ) [],.rd z2a 0,.rd z0d (⟨0,[],(⟨0,0,0,[]⟩:z06)⟩:z0f),.rd z0e (⟨0,0⟩:z09)] 1121 [.rd z0o 0] [.rd z2a 0,.rd z0d (⟨0,[],(⟨0,0,0,[]⟩:z06)⟩:z0f),.rd z0e (⟨0,0⟩:z09)] Z Z Z<|zbs (R:=z03) (⟨0,[],0,(⟨0,[],(⟨0,0,0,[]⟩:z06)⟩:z0f),(⟨0,0⟩:z09)⟩:z08) 1121 Z (Sp.via (Sp.prod (Sp.prod (Sp.prod (Sp.prod (Sp.prod Sp.unit))))))<|Es (sto 1121 Z Z fH Z z5t)<|Zb Z<|gSR<|Zq (ld 1121 Z Z fH z9t Z)<|Zc [] [(100,1122)] Tryz.func55 Z (zlh _) fun r12 n13=>Zm Z<|Zq (ext Z Z)<|Zq (ext Z Z)<|Za Z<|Zb Z<|z8g (fun (s14:(List UInt8)) aa ww=>Sta (ctx 63 H [zG1] w) [(2,.val (z05 v1 0)),(5,.val (n4 0)),(10,.rd (z02 u8R) s14),(14,.rd (z02 aZ) a1),(15,.rd z0c (a1.length:Int)),(16,.rd z0c s3.2)] [(1,some (v1,.box 25 [.rd z01 a0])),(1118,some ((n4 0),.list z21 96 s3.1)),zG1] aa ww) ?_ (fun s14=>?_)
   ·refine gSR<|Zm Z<|Zq (z3h Z (.own 1118 Z) Z Tryz.underlying37)<|Za Z<|z1x 12 Z fun y15=>Zn<|gSR<|Zm Z<|Zq (I.gtr Z Z)<|Zj Z (fun h16=>?_) (fun h16=>?_)
    ·refine gSR<|Zm Z<|Zm Z<|Zq (I.sub Z Z)<|z0m fun x17 h18=>Zq (ixO 1118 Z Z Z h18 Tryz.underlying37 ti96)<|Zq (ld 1118 Z Z (Foc.el h18) ty96 Z)<|Eb Z (z4i 1123 ti96 (ZrE.rd (R:=u8R) (x:=0) (Zr.num Z) (ZrE.rd (R:=z2a) (x:=0) (Zr.num Z) (ZrE.nilS (ZrE.nilS ZrE.nil)) Z) Z)) fun v19=>z9m aZ [.rd u8R 0,.rd z2a 0,.rd (z02 aZ) [],.val (.slice none 0 0)] 1123 [.rd u8R 0,.rd z2a 0] [.val (.slice none 0 0)] Z Z Z<|z9m (z02 u8R) [.rd u8R 0,.rd z2a 0,.rd (z02 aZ) [],.rd (z02 (z02 u8R)) []] 1123 [.rd u8R 0,.rd z2a 0,.rd (z02 aZ) []] [] Z Z Z<|zbs (R:=z21) (⟨0,0,[],[]⟩:z27) 1123 Z (Sp.via (Sp.prod (Sp.prod (Sp.prod (Sp.prod Sp.unit)))))<|Es (sto 1123 Z Z fH Z ti96)<|Zn<|gSR<|Zq (faB 1123 Z Z Tryz.underlying96 Z (by exact ti94))<|Zq (ld 1123 Z Z (fP (z3q _)) ty94 Z)<|Zc [] [(100,1124)] Tryz.func56 Z (zeg _) fun r20 n21=>Zm Z<|zf0 1122 [29,10,43] Z (fS Z<|fS Z<|fS Z<|fN)<|Ef Z (lit (R:=(z02 u8R)) ([r12.1]:List (List UInt8)) 1125 (pP Z Z<|pN) Z tu94 zon Z Z) fun v22=>zf0 1125 [44] Z (fS Z<|fN)<|z0m fun x23 h24=>Ef Z (apn 1124 Z Z Z .rd h24 tu94 zon Z Z Z) fun v25=>Zq (faB 1123 Z Z Tryz.underlying96 Z (by exact ti94))<|lSpl (R:=z21) 1123 Z (Sp.via (Sp.prod (Sp.prod (Sp.prod (Sp.prod Sp.unit)))))<|Es (zmf 1123 Z Z (z9e.cast (z9e.next z16 (z9e.next z16 (z9e.next z16 (z9e.here z16)))) Z) Z z0i z04 ti94)<|Zn<|gSR<|zt3 [.rd u8R x17.Kind,.rd z2a x17.N,.rd (z02 aZ) x17.IDs,.rd (z02 (z02 u8R)) x23] 1123 1124 [.rd u8R x17.Kind,.rd z2a x17.N,.rd (z02 aZ) x17.IDs] [] Z Z Z Z Z<|zbs (R:=z21) (⟨x17.Kind,x17.N,x17.IDs,x23⟩:z27) 1123 Z (Sp.via (Sp.prod (Sp.prod (Sp.prod (Sp.prod Sp.unit)))))<|Zq (ld 1123 Z Z fH ty96 Z)<|Zc [] [] Tryz.func57 Z (zos _) fun r26 n27=>Zq (I.eql Z Z)<|Zj Z (fun h28=>?_) (fun h28=>?_)
     ·refine gSR<|Zm Z<|Zm Z<|Zq (I.sub Z Z)<|Zq (ld 1123 Z Z fH ty96 Z)<|z0m fun x29 h30=>Zq (ixO 1118 Z Z Z h30 Tryz.underlying37 ti96)<|Es (sto 1118 Z Z (Foc.el h30) Z ti96)<|Zn<|z1w<|z17i<|z132<|z0n<|z2b<|Zq (I.add Z Z)<|Zm Z<|z1n<|z1j (fun aa ww h=>⟨nvl [(n4 0)],Zu h [1,1118,1001]⟩)
     ·refine z2p<|z7p (fun aa ww h=>Zu h [1,1118,1001])
    ·refine z2p<|eFrz 1122 [29,10] Z (fS Z<|fS Z<|fN)<|z7p (fun aa ww h=>Zu h [1,1118,1001])
   ·refine z2b<|Zm Z<|Zm Z<|Ef Z (lit (R:=(z02 u8R)) ([s14]:List (List UInt8)) 1126 (pP Z Z<|pN) Z tu94 zon Z Z) fun v31=>zf0 1126 [57] Z (fS Z<|fN)<|Zq (bld (x':=(⟨5,0,[],[s14]⟩:z27)) [(0,1),(1,1),(2,1),(3,1)] Tryz.underlying96 ti96 Z zr96 Z (Bld.cons (z5q _) Z Z<|Bld.cons (z3q _) Z Z<|Bld.done Z))<|Ef Z (lit (R:=z21) ([(⟨5,0,[],[s14]⟩:z27)]:List z27) 1127 (pP Z Z<|pN) Z Tryz.underlying37 ti96 Z Z) fun v32=>zf0 1127 [59] Z (fS Z<|fN)<|z0m fun x33 h34=>Ef Z (apn 1118 Z Z Z .rd h34 Tryz.underlying37 ti96 Z Z Z) fun v35=>Za Z<|z1n<|z3a<|z0n<|z2b<|Zq (I.add Z Z)<|Zm Z<|z1n<|z1j (fun aa ww h=>⟨nvl [v35],Zu h [1,1118,1001]⟩)
  ·refine z1w<|z0w<|z0y<|z3g (fun aa ww h=>⟨nvl [(n4 0)],Zu h [1118,1001]⟩)
 ·refine gEx fun n36=>gSR<|Zm Z<|Zb Z<|z0j<|Ze [(n36 0)] [1001,1107] Z
def zbc (a0:z00) (a1:List V3) (a2:List V3):Option ((List z27) × Int) :=
 z8j a0 [a1,a2] >>= fun r3 =>
 if r3 != 0 then
  some ([],r3)
 else
  zck a0 a1 a2 >>= fun r6 =>
  zcx a0 r6 >>= fun r8 =>
  some (r8,0)
theorem zir (a0:z00) (a1:List V3) (a2:List V3):z1o Tryz.prog 11 [.rd z01 a0,.rd (z02 aZ) a1,.rd (z02 aZ) a2] [zG1] (zbc a0 a1 a2) (fun r nv=>⟨[.val (nv 0),.rd z0c r.2],[(1001,some (.bool true,.glob 1 (z3b 64 z0o) z52)),(100,some (nv 0,.list z21 96 r.1))]⟩):=by
 refine z29 23 Tryz.func11 Z Z Z fun H w=>?_;refine gSR<|Eb Z (bx 1 Z) fun v1=>Za Z<|Zb Z<|z0t<|gSR<|Zq (ld 1 Z Z fH z3k Z)<|Zm Z<|Zm Z<|Ef Z (lit (R:=(z02 aZ)) ([a1,a2]:List (List V3)) 2 (pP Z Z<|pP Z Z<|pN) Z Tryz.underlying82 z6b Z Z) fun v2=>zf0 2 [12] Z (fS Z<|fN)<|Zc [1001] [] Tryz.func24 Z (zcu _ _) fun r3 n4=>Zb Z<|gSR<|Zm Z<|Zq (I.neq Z Z)<|Zj Z (fun h5=>?_) (fun h5=>?_)
 ·refine gSR<|Zm Z<|Za Z<|Zb Z<|z0j<|z0v<|zql z21 96 3<|Ze [(.slice none 0 0)] [1001,3] Z
 ·refine Zt<|z0t<|z8s [16,19,1001] mixed Z Z<|hTk 0 Z Z (ld 1 Z Z fH z3k Z)<|hTk 1 Z Z (ld 1 Z Z fH z3k Z)<|hTk 2 Z Z (mv Z)<|hTk 3 Z Z (mv Z)<|z41 4 [1001] [(100,16)] Z (by kernel_rfl) Z (gd0 Z) Z Tryz.func28 Z Z (zg9 _ _ _) (aQ Z<|aQ Z<|aQ Z<|aN) (y1 Z) Z (fun _ _=>z2t) fun r6 n7=>zuq 16 [21] Z (fS Z<|fN)<|z41 5 [1001] [(100,19)] Z (by kernel_rfl) Z (gd0 Z) Z Tryz.func29 Z Z (zgw _ _) (Y2 Z Z) (y1 Z) Z (fun _ _=>z2t) fun r8 n9=>Zf 6 Z Z z2t (asg Z)<|hTk 7 Z Z (asg Z)<|z54 (by kernel_rfl)<|z0n<|z0j<|Ze [(n9 0)] [1001,19] Z
def z9w (a0:z00) (a1:List V3):Option ((List V3) × Int) :=
 z8j a0 [a1] >>= fun r3 =>
 if r3 != 0 then
  some ([],r3)
 else
  zce a0 a1 >>= fun r6 =>
  z0p r6 >>= fun r8 =>
  some (r8,0)
theorem zie (a0:z00) (a1:List V3):z1o Tryz.prog 9 [.rd z01 a0,.rd (z02 aZ) a1] [zG1] (z9w a0 a1) (fun r nv=>⟨[.val (nv 0),.rd z0c r.2],[(1001,some (.bool true,.glob 1 (z3b 64 z0o) z52)),(100,some (nv 0,.list aZ 31 r.1))]⟩):=by
 refine z29 18 Tryz.func9 Z Z Z fun H w=>?_;refine gSR<|Eb Z (bx 1 Z) fun v1=>Za Z<|Zb Z<|z0t<|gSR<|Zq (ld 1 Z Z fH z3k Z)<|Zm Z<|Ef Z (lit (R:=(z02 aZ)) ([a1]:List (List V3)) 2 (pP Z Z<|pN) Z Tryz.underlying82 z6b Z Z) fun v2=>zf0 2 [9] Z (fS Z<|fN)<|Zc [1001] [] Tryz.func24 Z (zcu _ _) fun r3 n4=>Zb Z<|gSR<|Zm Z<|Zq (I.neq Z Z)<|Zj Z (fun h5=>?_) (fun h5=>?_)
 ·refine gSR<|Zm Z<|Za Z<|Zb Z<|z0j<|z0v<|zql aZ 31 3<|Ze [(.slice none 0 0)] [1001,3] Z
 ·refine Zt<|gSR<|Zq (ld 1 Z Z fH z3k Z)<|Zm Z<|Zc [1001] [] Tryz.func27 Z (zez _ _) fun r6 n7=>Zc [] [(100,4)] Tryz.func26 Z (z1a _) fun r8 n9=>Za Z<|Zb Z<|z0j<|Ze [(n9 0)] [1001,4] Z
def za6 (a0:V3) (c1_0:z00):Option (Bool) :=
 z1h c1_0.IDs a0 >>= fun r2 =>
 some r2
theorem zgh (a0:V3) (p1_0:Value) (c1_0:z00):z1o Tryz.prog 45 [.rd aZ a0,.val (z05 p1_0 0)] [(1,some (p1_0,.box 25 [.rd z01 c1_0]))] (za6 a0 c1_0) (fun r nv=>⟨[.rd z0h r],[(1,some (p1_0,.box 25 [.rd z01 c1_0]))]⟩):=by
 refine z29 8 Tryz.func45 Z Z Z fun H w=>?_;refine gSR<|Eb Z (bx 2 Z) fun v1=>Zb Z<|gSR<|Zq (faB 1 Z Z Tryz.underlying25 Z (by exact z6b))<|Zq (ld 1 Z Z (fP (z0b _)) z93 Z)<|Zq (ld 2 Z Z fH z3t Z)<|Zc [] [] Tryz.func46 Z (z2l _ _) fun r2 n3=>Zb Z<|z0j<|Ze [] [1] Z
def z69 (a0:List V3) (c1_0:z00) (s2:Int):Option (Sum (Sum Int Unit) Int) :=
 if decide (s2<(a0.length:Int)) then
  idx a0 s2 >>= fun x4 =>
  za6 x4 c1_0 >>= fun r6 =>
  if r6 then
   some (.inl (.inl s2))
  else
   some (.inr (w64 (s2+1)))
 else
  some (.inl (.inr ()))
def z3l (a0:List V3) (c1_0:z00):Option (Int) :=
 z5u (iter (z69 a0 c1_0) 0) fun s1 =>
 some (-1)
theorem z65 (a0:List V3) (q0:Value) (l0:List V3) (p1_0:Value) (c1_0:z00):z1o Tryz.prog 82 [.vw aZ q0 l0 a0,.val (.func (.func 45) #[] #[z05 p1_0 0])] [(1,some (q0,.list aZ 31 l0)),(2,some (p1_0,.box 25 [.rd z01 c1_0]))] (z3l a0 c1_0) (fun r nv=>⟨[.rd z0c r],[(1,some (q0,.list aZ 31 l0)),(2,some (p1_0,.box 25 [.rd z01 c1_0]))]⟩):=by
 refine z29 19 Tryz.func82 Z Z Z fun H w=>?_;refine gSR<|Zb Z<|z8g (fun (s1:Unit) aa ww=>Sta (ctx 19 H [(1,some (q0,.list aZ 31 l0)),(2,some (p1_0,.box 25 [.rd z01 c1_0]))] w) [] [(1,some (q0,.list aZ 31 l0)),(2,some (p1_0,.box 25 [.rd z01 c1_0]))] aa ww) ?_ (fun s1=>?_)
 ·refine gSR<|Zm Z<|Zq (z3h Z (.vw 1 Z) Z tu22)<|Zm Z<|Zn<|z24 (fun (s2:Int) aa ww=>Sta (ctx 19 H [(1,some (q0,.list aZ 31 l0)),(2,some (p1_0,.box 25 [.rd z01 c1_0]))] w) [(0,.vw aZ q0 l0 a0),(1,.val (.func (.func 45) #[] #[z05 p1_0 0])),(7,.rd z0c (a0.length:Int)),(8,.rd z0c s2)] [(1,some (q0,.list aZ 31 l0)),(2,some (p1_0,.box 25 [.rd z01 c1_0]))] aa ww) (fun aa ww h=>Zu h [1,2]) (fun s2=>?_);refine gSR<|Zq (I.lss Z Z)<|Zn<|z0t<|gIf Z Z (fun h3=>?_) (fun h3=>?_)
  ·refine Zt<|z0t<|z4m<|gSR<|Zm Z<|Zb Z<|gSR<|Zm Z<|Zm Z<|Zm Z<|z0m fun x4 h5=>Zq (ixQ 1 Z Z Z h5 tu22 z1z)<|Zq (ldQ 1 Z Z z3t Z)<|zgt [2] [(1,2)] (gd0 Z) Z Z Tryz.func45 Z Z (zgh _ _ _) (Y1 Z) (cQ 2 Z<|cN) (y1 Z) fun r6 n7=>Zj Z (fun h8=>?_) (fun h8=>?_)
   ·refine gSR<|Zm Z<|Zb Z<|z0j<|z3w<|z0v<|z7m<|z7j<|Ze [] [1,2] Z
   ·refine z2p<|z3a<|z0n<|z2b<|Zq (I.add Z Z)<|Zm Z<|z1n<|z1j (fun aa ww h=>Zu h [1,2])
  ·refine z1w<|z0w<|z0y<|z7p (fun aa ww h=>Zu h [1,2])
 ·refine gSR<|Zb Z<|z0j<|Ze [] [1,2] Z
def z6m (c1_0:z00) (s5:(List V3) × Int × Int):Option (Sum ((List V3) × Int) ((List V3) × Int × Int)) :=
 if decide (s5.2.2<(s5.1.length:Int)) then
  idx s5.1 s5.2.2 >>= fun x7 =>
  za6 x7 c1_0 >>= fun r10 =>
  if !r10 then
   idx s5.1 s5.2.1 >>= fun x13 =>
   some (w64 (s5.2.1+1)) >>= fun y15 =>
   some (w64 (s5.2.2+1)) >>= fun y16 =>
   some (.inr (s5.1.set (s5.2.1:Int).toNat x7,y15,y16))
  else
   some (w64 (s5.2.2+1)) >>= fun y17 =>
   some (.inr (s5.1,s5.2.1,y17))
 else
  some (.inl (s5.1,s5.2.1))
def z1q (c0:List V3) (c1_0:z00):Option ((List V3)) :=
 z3l c0 c1_0 >>= fun r1 =>
 if r1==(-1) then
  some c0
 else
  (iter (z6m c1_0) (c0,r1,w64 (r1+1))) >>= fun s4 =>
  chk (0≤s4.2∧s4.2≤(s4.1.length:Int)∧(s4.1.length:Int)≤(s4.1.length:Int)) >>= fun u18 =>
  chk ((s4.2:Int).toNat+(((s4.1.length:Int):Int).toNat - (s4.2:Int).toNat)≤s4.1.length) >>= fun u20 =>
  cut (clr s4.1 ((s4.2:Int).toNat) (((s4.1.length:Int):Int).toNat - (s4.2:Int).toNat) (Vector.replicate 32 0)) 0 s4.2 >>= fun x22 =>
  some x22
theorem z6q (p0:Value) (c0:List V3) (p1_0:Value) (c1_0:z00):z1o Tryz.prog 44 [.val p0,.val (.func (.func 45) #[] #[z05 p1_0 0])] [(1,some (p0,.list aZ 31 c0)),(2,some (p1_0,.box 25 [.rd z01 c1_0]))] (z1q c0 c1_0) (fun r nv=>⟨[.val (nv 0)],[(2,some (p1_0,.box 25 [.rd z01 c1_0])),(100,some (nv 0,.list aZ 31 r))]⟩):=by
 refine z29 42 Tryz.func44 Z Z Z fun H w=>?_;refine gSR<|Zb Z<|gSR<|Zm Z<|Zm Z<|call [1,2] [(1,1),(2,2)] Z Tryz.func82 Z Z (z65 _ _ _ _ _) (aW Z<|aQ Z<|aN) (Zi Z<|Zi Z<|rN) fun r1 n2=>Zb Z<|z0t<|gSR<|Zm Z<|Zq (I.eql Z Z)<|Zj Z (fun h3=>?_) (fun h3=>?_)
 ·refine gSR<|Zm Z<|Zb Z<|z0j<|z0v<|Ze [p0] [2,1] Z
 ·refine Zt<|z8d (fun (s4:(List V3) × Int) aa ww=>Sta (ctx 42 H [(1,some (p0,.list aZ 31 c0)),(2,some (p1_0,.box 25 [.rd z01 c1_0]))] w) [(0,.val p0),(5,.rd z0c s4.2)] [(1,some (p0,.list aZ 31 s4.1)),(2,some (p1_0,.box 25 [.rd z01 c1_0]))] aa ww) ?_ (fun s4=>?_)
  ·refine gSR<|Zm Z<|Zq (I.add Z Z)<|Zb Z<|z24 (fun (s5:(List V3) × Int × Int) aa ww=>Sta (ctx 42 H [(1,some (p0,.list aZ 31 c0)),(2,some (p1_0,.box 25 [.rd z01 c1_0]))] w) [(0,.val p0),(1,.val (.func (.func 45) #[] #[z05 p1_0 0])),(5,.rd z0c s5.2.1),(6,.rd z0c s5.2.2)] [(1,some (p0,.list aZ 31 s5.1)),(2,some (p1_0,.box 25 [.rd z01 c1_0]))] aa ww) (fun aa ww h=>Zu h [1,2]) (fun s5=>?_);refine z0t<|gSR<|Zm Z<|Zm Z<|Zq (z3h Z (.own 1 Z) Z tu22)<|Zq (I.lss Z Z)<|Zj Z (fun h6=>?_) (fun h6=>?_)
   ·refine Zt<|z0t<|z4m<|gSR<|Zm Z<|Zm Z<|z0m fun x7 h8=>Zq (ixO 1 Z Z Z h8 tu22 z1z)<|Zq (ld 1 Z Z (Foc.el h8) z3t Z)<|Eb Z (z4i 3 z1z (.zr (R:=aZ) (x:=(Vector.replicate 32 0)) zef)) fun v9=>Es (sto 3 Z Z fH Z z1z)<|Zn<|gSR<|Zm Z<|Zq (ld 3 Z Z fH z3t Z)<|zgt [2] [(1,2)] (gd0 Z) Z Z Tryz.func45 Z Z (zgh _ _ _) (Y1 Z) (cQ 2 Z<|cN) (y1 Z) fun r10 n11=>Zq (zex Z)<|Zj Z (fun h12=>?_) (fun h12=>?_)
    ·refine gSR<|Zm Z<|Zm Z<|Zq (ld 3 Z Z fH z3t Z)<|z0m fun x13 h14=>Zq (ixO 1 Z Z Z h14 tu22 z1z)<|Es (sto 1 Z Z (Foc.el h14) Z z1z)<|Zn<|z2b<|Zm Z<|Zq (I.add Z Z)<|Za Z<|z1x 5 Z fun y15=>z1n<|z3a<|z0n<|z2b<|Zm Z<|Zq (I.add Z Z)<|Za Z<|z1x 6 Z fun y16=>z1n<|z1j (fun aa ww h=>Zu h [1,2])
    ·refine z2p<|z3a<|z0n<|z2b<|Zm Z<|Zq (I.add Z Z)<|Za Z<|z1x 6 Z fun y17=>z1n<|z1j (fun aa ww h=>Zu h [1,2])
   ·refine z1w<|z0w<|z0y<|z3g (fun aa ww h=>Zu h [1,2])
  ·refine gSR<|Zm Z<|Zm Z<|z0m fun u18 h19=>Zq (zvw 1 Z Z (.to Z) .no (z44 h19) tu22 z1z)<|z0m fun u20 h21=>EsV (clrS 1 Z Z (z44 h21) Z tu22 z1z zef Z)<|Zn<|gSR<|Zm Z<|Zm Z<|z0m fun x22 h23=>Ef Z (cutO 1 Z Z Z h23 tu22 z1z) fun v24=>Zb Z<|z0j<|Ze [v24] [2,1] Z
def ze5 (a0:z00) (a1:List V3):Option ((List V3)) :=
 z0p a1 >>= fun r2 =>
 z1q r2 a0 >>= fun r4 =>
 zou r4 >>= fun r6 =>
 z10 r6 >>= fun r8 =>
 some r8
theorem zii (a0:z00) (a1:List V3):z1o Tryz.prog 25 [.rd z01 a0,.rd (z02 aZ) a1] [] (ze5 a0 a1) (fun r nv=>⟨[.val (nv 0)],[(100,some (nv 0,.list aZ 31 r))]⟩):=by
 refine z29 14 Tryz.func25 Z Z Z fun H w=>?_;refine gSR<|Eb Z (bx 1 Z) fun v1=>Zb Z<|gSR<|Zm Z<|Zc [] [(100,2)] Tryz.func26 Z (z1a _) fun r2 n3=>Zq (mkf mp0 (mp1 Z))<|Zc [2,1] [(100,3),(2,1)] Tryz.func44 Z (z6q _ _ _ _) fun r4 n5=>Zb Z<|gSR<|Zm Z<|Zc [3] [(1,3)] Tryz.func47 Z (zry _ _) fun r6 n7=>Zn<|gSR<|Zm Z<|Zc [3] [(100,4)] Tryz.func49 Z (z2o _ _) fun r8 n9=>Zb Z<|z0j<|Ze [(n9 0)] [4] Z
def z4k (a0:z00) (a1:List V3):Option ((List V3) × Int) :=
 z8j a0 [a1] >>= fun r3 =>
 if r3 != 0 then
  some ([],r3)
 else
  ze5 a0 a1 >>= fun r6 =>
  some (r6,0)
theorem zat (a0:z00) (a1:List V3):z1o Tryz.prog 8 [.rd z01 a0,.rd (z02 aZ) a1] [zG1] (z4k a0 a1) (fun r nv=>⟨[.val (nv 0),.rd z0c r.2],[(1001,some (.bool true,.glob 1 (z3b 64 z0o) z52)),(100,some (nv 0,.list aZ 31 r.1))]⟩):=by
 refine z29 17 Tryz.func8 Z Z Z fun H w=>?_;refine gSR<|Eb Z (bx 1 Z) fun v1=>Za Z<|Zb Z<|z0t<|gSR<|Zq (ld 1 Z Z fH z3k Z)<|Zm Z<|Ef Z (lit (R:=(z02 aZ)) ([a1]:List (List V3)) 2 (pP Z Z<|pN) Z Tryz.underlying82 z6b Z Z) fun v2=>zf0 2 [9] Z (fS Z<|fN)<|Zc [1001] [] Tryz.func24 Z (zcu _ _) fun r3 n4=>Zb Z<|gSR<|Zm Z<|Zq (I.neq Z Z)<|Zj Z (fun h5=>?_) (fun h5=>?_)
 ·refine gSR<|Zm Z<|Za Z<|Zb Z<|z0j<|z0v<|zql aZ 31 3<|Ze [(.slice none 0 0)] [1001,3] Z
 ·refine Zt<|gSR<|Zq (ld 1 Z Z fH z3k Z)<|Zm Z<|Zc [] [(100,4)] Tryz.func25 Z (zii _ _) fun r6 n7=>Za Z<|Zb Z<|z0j<|Ze [(n7 0)] [1001,4] Z
def z7v (a0:z00) (a1:List V3) (a2:List V3):Option ((List V3) × Int) :=
 z8j a0 [a1,a2] >>= fun r3 =>
 if r3 != 0 then
  some ([],r3)
 else
  zck a0 a1 a2 >>= fun r6 =>
  some (r6,0)
theorem zdp (a0:z00) (a1:List V3) (a2:List V3):z1o Tryz.prog 10 [.rd z01 a0,.rd (z02 aZ) a1,.rd (z02 aZ) a2] [zG1] (z7v a0 a1 a2) (fun r nv=>⟨[.val (nv 0),.rd z0c r.2],[(1001,some (.bool true,.glob 1 (z3b 64 z0o) z52)),(100,some (nv 0,.list aZ 31 r.1))]⟩):=by
 refine z29 21 Tryz.func10 Z Z Z fun H w=>?_;refine gSR<|Eb Z (bx 1 Z) fun v1=>Za Z<|Zb Z<|z0t<|gSR<|Zq (ld 1 Z Z fH z3k Z)<|Zm Z<|Zm Z<|Ef Z (lit (R:=(z02 aZ)) ([a1,a2]:List (List V3)) 2 (pP Z Z<|pP Z Z<|pN) Z Tryz.underlying82 z6b Z Z) fun v2=>zf0 2 [12] Z (fS Z<|fN)<|Zc [1001] [] Tryz.func24 Z (zcu _ _) fun r3 n4=>Zb Z<|gSR<|Zm Z<|Zq (I.neq Z Z)<|Zj Z (fun h5=>?_) (fun h5=>?_)
 ·refine gSR<|Zm Z<|Za Z<|Zb Z<|z0j<|z0v<|zql aZ 31 3<|Ze [(.slice none 0 0)] [1001,3] Z
 ·refine Zt<|gSR<|Zq (ld 1 Z Z fH z3k Z)<|Zm Z<|Zm Z<|Zc [1001] [(100,4)] Tryz.func28 Z (zg9 _ _ _) fun r6 n7=>Za Z<|Zb Z<|z0j<|Ze [(n7 0)] [1001,4] Z
def z9n (a0:List V3) (a1:List V3) (s3:Int):Option (Sum (Sum Bool Unit) Int) :=
 if decide (s3<(a0.length:Int)) then
  idx a0 s3 >>= fun x5 =>
  idx a1 s3 >>= fun x7 =>
  if !decide (x5=x7) then
   some (.inl (.inl false))
  else
   some (.inr (w64 (s3+1)))
 else
  some (.inl (.inr ()))
def z4s (a0:List V3) (a1:List V3):Option (Bool) :=
 if (a0.length:Int) != (a1.length:Int) then
  some false
 else
  z5u (iter (z9n a0 a1) 0) fun s2 =>
  some true
theorem z75 (a0:List V3) (a1:List V3):z1o Tryz.prog 15 [.rd (z02 aZ) a0,.rd (z02 aZ) a1] [] (z4s a0 a1) (fun r nv=>⟨[.rd z0h r],[]⟩):=by
 refine z29 26 Tryz.func15 Z Z Z fun H w=>?_;refine gSR<|Zb Z<|z0t<|gSR<|Zm Z<|Zq (z3h Z .rd Z tu22)<|Zm Z<|Zq (z3h Z .rd Z tu22)<|Zq (I.neq Z Z)<|Zj Z (fun h1=>?_) (fun h1=>?_)
 ·refine gSR<|Zb Z<|z0j<|z0v<|Ze [] [] Z
 ·refine Zt<|z8g (fun (s2:Unit) aa ww=>Sta (ctx 26 H [] w) [] [] aa ww) ?_ (fun s2=>?_)
  ·refine gSR<|Zb Z<|z24 (fun (s3:Int) aa ww=>Sta (ctx 26 H [] w) [(0,.rd (z02 aZ) a0),(1,.rd (z02 aZ) a1),(5,.rd z0c s3)] [] aa ww) (fun aa ww h=>Zu h []) (fun s3=>?_);refine z0t<|gSR<|Zm Z<|Zm Z<|Zq (z3h Z .rd Z tu22)<|Zq (I.lss Z Z)<|Zj Z (fun h4=>?_) (fun h4=>?_)
   ·refine Zt<|z0t<|z4m<|z0t<|zid mixed (by kernel_rfl)<|Rq Z (mv Z)<|Rq Z (mv Z)<|z8e fun x5 h6=>Rq Z (ixR Z Z h6 tu22 z1z Z)<|Rq Z (ldR Z z3t)<|Rq Z (mv Z)<|Rq Z (mv Z)<|z8e fun x7 h8=>Rq Z (ixR Z Z h8 tu22 z1z Z)<|Rq Z (ldR Z z3t)<|Rq Z (neA Z Z eq31 Z Z gq31)<|zss<|z0n<|gIf Z Z (fun h9=>?_) (fun h9=>?_)
    ·refine gSR<|Zb Z<|z0j<|z3w<|z0v<|z7m<|z7j<|Ze [] [] Z
    ·refine z2p<|z3a<|z0n<|z2b<|Zm Z<|Zq (I.add Z Z)<|Za Z<|z1n<|z1j (fun aa ww h=>Zu h [])
   ·refine z1w<|z0w<|z0y<|z7p (fun aa ww h=>Zu h [])
  ·refine gSR<|Zb Z<|z0j<|Ze [] [] Z
end
section
open Go Go.Shelf Go.RowKit Go.Lib
theorem z12s {P:Program} {k:Nat} (w:World) (dT sT ty elem:TypeId) (g o dLen dCap:Nat) (a:Addr) (sLen sCap:Nat) (cur:Array Value) (t:TypeId) (cs:List Value)
  (hu:P.underlying dT=some (.slice elem)) (hs:(P.info? elem).map (·.size)=some k)
  (hg:w.heap[g]? = some (.cells cur t (0,0))) (hn:cs.length=Nat.min sLen dLen * k)
  (hsrc:∀ j v,cs[j]? = some v→w.cell? (a.add j)=some v) (hfit:o+cs.length≤cur.size) (h1:∀ v∈cs,v.oneCell'=true) :
  (Builtin.copy_ #[dT,sT] ty #[.slice (some ⟨g,o,none⟩) dLen dCap,.slice (some a) sLen sCap]).run P w =
   .ok (goInt (Nat.min sLen dLen)) (w.setRow g (cur.toList.take o++cs++cur.toList.drop (o+cs.length)).toArray):=by
 have hl:=run_firstCells_some (P:=P) w k (Nat.min sLen dLen) a sLen sCap cs hn hsrc;have hst:=run_storeCells_at P g o t cs 0 cur w hg (by simpa using hfit) h1
 cases hq:P.info? elem with
 | none=>simp [hq] at hs
 | some i =>
  have hi:i.size=k:=by simpa [hq] using hs
  simp [Builtin.copy_,run_underlying hu,Builtin.lenOf,sizeOf,typeInfo,hq,hi,hl,hst]
theorem z111 {P:Program} (w:World) {o:Oper} {a:Act} {K:Act→World→Prop} {Q:Exit→Act→World→Prop} (d s:Operand) (t t':TypeId)
  (ho:o.op=.call { callee:=.builtin .copy,args:=#[d,s],argTypes:=#[t,t'] }) (v u:Value) (hd:a.eval d=v) (hs:a.eval s=u) {v':Value} {w':World}
  (hr:(Builtin.copy_ #[t,t'] o.type #[v,u]).run P w=.ok v' w') (h:K (a.put o.dst v') w'):o.wp P a w K Q:=by
 unfold Oper.wp execOp;simp only [ho,resolve,invoke,builtin,Sem.run_bind,Sem.run_pure,Result.andThen_ok,List.map_toArray,List.map_cons,List.map_nil,hd,hs,hr];exact h
theorem zld {P:Program} (w:World) {ops:Array Oper} {rest:List Oper} {o:Oper} {a:Act} {Q:Exit→Act→World→Prop} (hgd:o.guard=none) (d s:Operand) (t t':TypeId)
  (ho:o.op=.call { callee:=.builtin .copy,args:=#[d,s],argTypes:=#[t,t'] }) (v u:Value) (hd:a.eval d=v) (hs:a.eval s=u) {v':Value} {w':World}
  (hr:(Builtin.copy_ #[t,t'] o.type #[v,u]).run P w=.ok v' w') (h:wpList P ops Q rest (a.put o.dst v') w'):wpList P ops Q (o::rest) a w :=
 wpList_plain hgd fun _ hK=>z111 w d s t t' ho v u hd hs hr (hK _ _ h)
theorem zoz {P:Program} {ops:Array Oper} {o:Oper} {a:Act} {w:World} {K:Act→World→Prop} {Q:Exit→Act→World→Prop} {E:Prop}
  (hg:o.guard=none) (d x:Operand) (dT sT:TypeId) (hop:o.op=Op.call { callee:=Callee.builtin Builtin.copy,args:=#[d,x],argTypes:=#[dT,sT] })
  (v u:Value) (hd:a.eval d=v) (hx:a.eval x=u) {v':Value} {w':World} (hr:(Builtin.copy_ #[dT,sT] o.type #[v,u]).run P w=.ok v' w') (hK:K (a.put o.dst v') w') :
  if Region.wanted o (yielded ops a.tmps)=true then Oper.wp P o a w K Q else E:=by
 have hw:Region.wanted o (yielded ops a.tmps)=true:=by simp [Region.wanted,hg]
 rw [if_pos hw];unfold Oper.wp;simp [execOp,hop,resolve,invoke,builtin,hd,hx,hr,Result.andThen];exact hK
section
variable (b n c i vb vc:Nat) (xs ys:List Value) (C V:Array Value) (w:World)
theorem zzg:TI Tryz.prog 31 (.agg (Array.replicate 32 (.int .u8 0))) 32 32:=z1z
theorem zxm:(Tryz.prog.info? 31).map (·.size)=some 32:=by kernel_rfl
set_option maxHeartbeats 4000000 in
set_option maxRecDepth 100000 in
theorem zyz (hi:i<n) (hroom:n+1≤c) (hc63:c≤9223372036854775807) (hvb:vb≠b) (hC:w.heap[b]? = some (.cells C 31 (0,0))) (hV:w.heap[vb]? = some (.cells V 31 (0,0)))
  (hCs:C.size=c * 32) (hxs:C.toList.take (n * 32)=xs) (hys:V.toList.take 32=ys) (hyl:ys.length=32) (h1x:∀ v∈xs,v.oneCell'=true) (h1y:∀ v∈ys,v.oneCell'=true) :
  Calls Tryz.prog 101 #[.slice (some ⟨b,0,none⟩) n c,.int .i64 i,.slice (some ⟨vb,0,none⟩) 1 vc] w fun e w' =>
   e=.returned (.slice (some ⟨b,0,none⟩) (n+1) c)∧∃ D,w'=w.drew.setRow b D∧D.size=C.size∧D.toList.take ((n+1) * 32)=xs.take (i * 32)++ys++xs.drop (i * 32):=by
 have hsz:=zxm;have u22:Tryz.prog.underlying 22=some (.slice 31):=Tryz.underlying22;have hcc:∀ j v,C.toList[j]? = some v→w.cell? ⟨b,j,none⟩=some v:=fun j v hj=>by
  rw [Array.getElem?_toList] at hj; unfold World.cell?; rw [hC]; exact hj
 have hcv:∀ j v,V.toList[j]? = some v→w.cell? ⟨vb,j,none⟩=some v:=fun j v hj=>by
  rw [Array.getElem?_toList] at hj; unfold World.cell?; rw [hV]; exact hj
 have hxl:xs.length=n * 32:=by rw [← hxs,List.length_take,Array.length_toList]; omega
 have hxg:∀ j v,xs[j]? = some v→C.toList[j]? = some v:=fun j v hj=>by
  rw [← hxs,List.getElem?_take] at hj; split at hj
  ·exact hj
  ·cases hj
 have hyg:∀ j v,ys[j]? = some v→V.toList[j]? = some v:=fun j v hj=>by
  rw [← hys,List.getElem?_take] at hj; split at hj
  ·exact hj
  ·cases hj
 have hVs:V.size≠0:=by
  have:ys.length≤V.size:=by rw [← hys,List.length_take,Array.length_toList]; omega
  omega
 have hov:∀ lb cb,(callFunc 143 #[.slice (some ⟨vb,0,none⟩) 1 vc,.slice (some ⟨b,(i+1) * 32,none⟩) lb cb]).run Tryz.prog w=.ok (.value (.bool false)) w:=fun lb cb=>by
  rw [run_callFunc_extern Tryz.func143 (by kernel_rfl) (by kernel_rfl) (by kernel_rfl) (e:=Extern.SlicesOverlaps.overlaps #[22,22] #[4]) (by kernel_rfl),
   Lib.run_overlaps_apart w 22 4 31 u22 32 Tryz.sizeOf31 ⟨vb,0,none⟩ ⟨b,(i+1) * 32,none⟩ 1 vc lb cb hvb 31 31 V.size C.size (by simp [World.shape?,hV]) (by simp [World.shape?,hC]) (by omega) (by simp [World.frozen?,hV]) (by simp [World.frozen?,hV])]
  rfl
 have hdl:(xs.drop (i * 32)).length=(n - i) * 32:=by rw [List.length_drop,hxl,Nat.sub_mul]
 have hmin1:Nat.min (n+1 - i) (n - i)=n - i:=by simp only [Nat.min_def]; split <;> omega
 have hcp1:∀ ty dc sc,(Builtin.copy_ #[22,22] ty #[.slice (some ⟨b,(i+1) * 32,none⟩) (n - i) dc,.slice (some ⟨b,i * 32,none⟩) (n+1 - i) sc]).run Tryz.prog w.drew =
   .ok (goInt ((n - i:Nat):Int)) (w.drew.setRow b (C.toList.take ((i+1) * 32)++xs.drop (i * 32)++C.toList.drop ((i+1) * 32+(xs.drop (i * 32)).length)).toArray):=fun ty dc sc=>by
  have e:=z12s (P:=Tryz.prog) w.drew 22 22 ty 31 b ((i+1) * 32) (n - i) dc ⟨b,i * 32,none⟩ (n+1 - i) sc C 31 (xs.drop (i * 32)) u22 hsz hC (by rw [hmin1,hdl])
   (fun j v hj=>by rw [Addr.add_lit]; exact hcc _ v (hxg _ v (by rwa [List.getElem?_drop] at hj))) (by rw [hdl,hCs]; omega) (fun v hv=>h1x v (List.mem_of_mem_drop hv))
  rw [hmin1] at e; exact e
 obtain ⟨D1,hD1⟩:∃ D1,D1=(C.toList.take ((i+1) * 32)++xs.drop (i * 32)++C.toList.drop ((i+1) * 32+(xs.drop (i * 32)).length)).toArray:=⟨_,rfl⟩
 rw [← hD1] at hcp1;have hD1s:D1.size=C.size:=by
  rw [hD1]; simp only [List.size_toArray,List.length_append,List.length_take,List.length_drop,Array.length_toList,hxl]; omega
 obtain ⟨W1,hW1⟩:∃ W1,W1=w.drew.setRow b D1:=⟨_,rfl⟩
 have hB1:W1.heap[b]? = some (.cells D1 31 (0,0)):=by rw [hW1]; exact setRow_heap w.drew b C D1 31 (0,0) hC
 have hV1:W1.heap[vb]? = some (.cells V 31 (0,0)):=by rw [hW1,setRow_other w.drew b vb D1 hvb]; exact hV
 obtain ⟨D2,hD2⟩:∃ D2,D2=(D1.toList.take (i * 32)++ys++D1.toList.drop (i * 32+ys.length)).toArray:=⟨_,rfl⟩
 have hcp2:∀ ty dc,(Builtin.copy_ #[22,22] ty #[.slice (some ⟨b,i * 32,none⟩) (n+1 - i) dc,.slice (some ⟨vb,0,none⟩) 1 vc]).run Tryz.prog W1=.ok (goInt 1) (W1.setRow b D2):=fun ty dc=>by
  have hm:Nat.min 1 (n+1 - i)=1:=by simp only [Nat.min_def]; split <;> omega
  have e:=z12s (P:=Tryz.prog) W1 22 22 ty 31 b (i * 32) (n+1 - i) dc ⟨vb,0,none⟩ 1 vc D1 31 ys u22 hsz hB1 (by rw [hm,hyl])
   (fun j v hj=>by
    rw [Addr.add_lit,Nat.zero_add]
    have:=hyg j v hj
    rw [Array.getElem?_toList] at this
    unfold World.cell?; rw [hV1]; exact this) (by rw [hyl,hD1s,hCs]; omega) h1y
  rw [hm,← hD2] at e; exact e
 have hfin:D2.size=C.size∧D2.toList.take ((n+1) * 32)=xs.take (i * 32)++ys++xs.drop (i * 32):=by
  have t1:D1.toList.take (i * 32)=xs.take (i * 32):=by
   rw [hD1,← hxs,List.take_take];simp only [List.append_assoc];rw [List.take_append_of_le_length (by rw [List.length_take,Array.length_toList]; omega),List.take_take]
   congr 1; omega
  have t2:(D1.toList.drop ((i+1) * 32)).take ((n - i) * 32)=xs.drop (i * 32):=by
   have el:(C.toList.take ((i+1) * 32)).length=(i+1) * 32:=by rw [List.length_take,Array.length_toList]; omega
   rw [hD1];simp only [List.append_assoc];rw [List.drop_append,el,Nat.sub_self,List.drop_zero,List.drop_eq_nil_of_le (by rw [el]; omega),List.nil_append,List.take_append_of_le_length (by rw [hdl]; omega),List.take_of_length_le (by rw [hdl]; omega)]
  constructor
  ·rw [hD2]; simp only [List.size_toArray,List.length_append,List.length_take,List.length_drop,Array.length_toList,hyl]; omega
  ·rw [hD2];simp only [List.append_assoc];have el:(D1.toList.take (i * 32)).length=i * 32:=by rw [List.length_take,Array.length_toList]; omega
   rw [List.take_append,el,List.take_of_length_le (by rw [el]; omega),List.take_append,hyl,List.take_of_length_le (l:=ys) (by rw [hyl]; omega),t1,
    show i * 32+32=(i+1) * 32 by omega, show (n+1) * 32 - i * 32 - 32=(n - i) * 32 by omega,t2]
 have hz1:¬ ((1:Int)=0):=by decide
 have hz2:¬ ((i:Int)=(n:Int)):=by omega
 have hw1:IntKind.i64.wrap ((i:Int)+1)=(i:Int)+1:=by rw [IntKind.wrap_i64]; omega
 have hb1:(0:Int)≤(i:Int)+1:=by omega
 have hin:i≤n:=by omega
 have htn:((i:Int)+1).toNat=i+1:=by omega
 have hb2:¬ (c=i+1):=by omega
 have hb3:(i:Int)≤(n:Int)+1:=by omega
 have hb4:¬ (c=i):=by omega
 subst hW1
 clear hcc hcv hxg hyg hD1 hD2 hxs hys hC hV hB1 hV1 h1x h1y hdl hmin1 hxl hyl
 go_enter Tryz.func101,Tryz.ntmps101
 go_wp2_with (simp only [hov])
 go_region_law (refine zoz rfl _ _ 22 22 rfl (.slice (some ⟨b,(i+1) * 32,none⟩) (n - i) (c - (i+1))) (.slice (some ⟨b,i * 32,none⟩) (n+1 - i) (c - i)) (by simp [Act.eval,Act.put]) (by simp [Act.eval,Act.put]) (hcp1 3 (c - (i+1)) (c - i)) ?_)
 go_wp2_with (at_builtin; refine zld _ rfl _ _ 22 22 rfl _ _ rfl rfl (hcp2 _ _) ?_)
 go_ret
 exact ⟨rfl,D2, by rw [setRow_setRow],hfin⟩
set_option maxHeartbeats 4000000 in
set_option maxRecDepth 100000 in
theorem z12j (hi:i<n) (hnc:n≤c) (hroom:c<n+1) (hn:n≤1000000) (hvb:vb≠b) (hC:w.heap[b]? = some (.cells C 31 (0,0))) (hV:w.heap[vb]? = some (.cells V 31 (0,0)))
  (hCs:C.size=c * 32) (hxs:C.toList.take (n * 32)=xs) (hys:V.toList.take 32=ys) (hyl:ys.length=32) (h1x:∀ v∈xs,v.oneCell'=true) (h1y:∀ v∈ys,v.oneCell'=true) :
  Calls Tryz.prog 101 #[.slice (some ⟨b,0,none⟩) n c,.int .i64 i,.slice (some ⟨vb,0,none⟩) 1 vc] w fun e w' =>
   ∃ G,e=.returned (.slice (some ⟨w.heap.size,0,none⟩) (n+1) G)∧n+1≤G∧G≤maxLen∧∃ D,w'.heap[w.heap.size]? = some (.cells D 31 (0,0))∧w.grownBy w' none∧D.size=G * 32∧D.toList.take ((n+1) * 32)=xs.take (i * 32)++ys++xs.drop (i * 32):=by
 have hsz:=zxm;have u22:Tryz.prog.underlying 22=some (.slice 31):=Tryz.underlying22;have u3:Tryz.prog.underlying 3=some (.int .i64):=Tryz.underlying3;have hcn:c=n:=by omega
 subst hcn;have hcc:∀ j v,C.toList[j]? = some v→w.cell? ⟨b,j,none⟩=some v:=fun j v hj=>by
  rw [Array.getElem?_toList] at hj; unfold World.cell?; rw [hC]; exact hj
 have hxl:xs.length=c * 32:=by rw [← hxs,List.length_take,Array.length_toList]; omega
 have hxg:∀ j v,xs[j]? = some v→C.toList[j]? = some v:=fun j v hj=>by
  rw [← hxs,List.getElem?_take] at hj; split at hj
  ·exact hj
  ·cases hj
 have hyg:∀ j v,ys[j]? = some v→V.toList[j]? = some v:=fun j v hj=>by
  rw [← hys,List.getElem?_take] at hj; split at hj
  ·exact hj
  ·cases hj
 have hbw:b<w.heap.size:=(Array.getElem?_eq_some_iff.1 hC).1;have hvw:vb<w.heap.size:=(Array.getElem?_eq_some_iff.1 hV).1;have hkk:(c:Int)+1 - (i:Int)=((c+1 - i:Nat):Int):=by omega
 obtain ⟨i0,hi0,hz0,hzs,hzb⟩:=zzg;have hold:(Builtin.firstCells i0.size i (.slice (some ⟨b,0,none⟩) i c)).run Tryz.prog w.drew=.ok (xs.take (i * 32)).toArray w.drew:=by
  rw [hzs]
  exact run_firstCells_some w.drew 32 i ⟨b,0,none⟩ i c (xs.take (i * 32)) (by rw [List.length_take]; omega) (fun j v hj=>by
   rw [Addr.add_lit,Nat.zero_add];rw [List.getElem?_take] at hj
   split at hj
   ·exact hcc j v (hxg j v hj)
   ·cases hj)
 obtain ⟨G,hG⟩:∃ G,G=grownCap w (c+1) c 31:=⟨_,rfl⟩
 obtain ⟨ROW,hROW⟩:∃ ROW:Array Value,ROW=(xs.take (i * 32)).toArray++Builtin.zeroCells (Array.replicate 32 (.int .u8 0)) (c+1 - i)++Builtin.zeroCells (Array.replicate 32 (.int .u8 0)) (G - (c+1)):=⟨_,rfl⟩
 have hrz:∀ ty,(Builtin.append_ #[22,3] ty #[.slice (some ⟨b,0,none⟩) i c,.int .i64 ((c:Int)+1 - (i:Int))]).run Tryz.prog w =
   .ok (.slice (some ⟨w.heap.size,0,none⟩) (c+1) G) (w.drew.alloc (.cells ROW 31)):=fun ty=>by
  have h:=Lib.run_append_grow_zeros w 22 3 ty 31 i0 _ .i64 .i64 u22 u3 hi0 hz0 (some ⟨b,0,none⟩) i c (xs.take (i * 32)) hold (c+1 - i) (by omega) (by omega) (by omega) (by omega) (by rw [hzb]; omega) (by rw [hzb, show i+(c+1 - i)=c+1 by omega]; exact growslice_fits (by omega) (by omega));rw [show i+(c+1 - i)=c+1 by omega] at h;rw [hkk,hROW,hG];exact h
 have hGn:c+1≤G:=by rw [hG]; exact grownCap_ge w _ _ _
 have hGm:G≤maxLen:=by rw [hG]; exact grownCap_le_maxLen w (c+1) c 31 (by unfold maxLen; omega)
 have hG63:G≤9223372036854775807:=by unfold maxLen at hGm; omega
 have hRs:ROW.size=G * 32:=by
  rw [hROW]; simp only [Array.size_append,List.size_toArray,List.length_take,size_zeroCells,Array.size_replicate,hxl]; omega
 have hRt:ROW.toList.take (i * 32)=xs.take (i * 32):=by
  rw [hROW]; simp only [Array.toList_append,List.append_assoc];rw [List.take_append_of_le_length (by rw [List.length_take]; omega),List.take_take]; congr 1; omega
 obtain ⟨D1,hD1⟩:∃ D1,D1=(ROW.toList.take (i * 32)++ys++ROW.toList.drop (i * 32+ys.length)).toArray:=⟨_,rfl⟩
 have hD1s:D1.size=G * 32:=by
  rw [hD1]; simp only [List.size_toArray,List.length_append,List.length_take,List.length_drop,Array.length_toList,hyl]; omega
 obtain ⟨D2,hD2⟩:∃ D2,D2=(D1.toList.take ((i+1) * 32)++xs.drop (i * 32)++D1.toList.drop ((i+1) * 32+(xs.drop (i * 32)).length)).toArray:=⟨_,rfl⟩
 have hdl:(xs.drop (i * 32)).length=(c - i) * 32:=by rw [List.length_drop,hxl,Nat.sub_mul]
 have hD2s:D2.size=G * 32:=by
  rw [hD2]; simp only [List.size_toArray,List.length_append,List.length_take,List.length_drop,Array.length_toList,hxl]; omega
 have hfin:D2.toList.take ((c+1) * 32)=xs.take (i * 32)++ys++xs.drop (i * 32):=by
  have e1:(ROW.toList.take (i * 32)).length=i * 32:=by rw [List.length_take,Array.length_toList]; omega
  have e2:D1.toList.take ((i+1) * 32)=xs.take (i * 32)++ys:=by
   rw [hD1]; simp only [List.append_assoc];rw [List.take_append,e1,List.take_of_length_le (by rw [e1]; omega),List.take_append_of_le_length (by rw [hyl]; omega),List.take_of_length_le (l:=ys) (by rw [hyl]; omega),hRt]
  have e3:(D1.toList.take ((i+1) * 32)).length=(i+1) * 32:=by rw [List.length_take,Array.length_toList]; omega
  rw [hD2]; simp only [List.append_assoc];rw [List.take_append,e3,List.take_of_length_le (by rw [e3]; omega),List.take_append_of_le_length (by rw [hdl]; omega),List.take_of_length_le (l:=xs.drop (i * 32)) (by rw [hdl]; omega),e2,List.append_assoc]
 have hcpA:∀ (W:World),W.heap=w.heap.push (.cells ROW 31)→∀ ty dc,(Builtin.copy_ #[22,22] ty #[.slice (some ⟨w.heap.size,i * 32,none⟩) (c+1 - i) dc,.slice (some ⟨vb,0,none⟩) 1 vc]).run Tryz.prog W=.ok (goInt 1) (W.setRow w.heap.size D1):=fun W hW ty dc=>by
  have hm:Nat.min 1 (c+1 - i)=1:=by simp only [Nat.min_def]; split <;> omega
  have hN:W.heap[w.heap.size]? = some (.cells ROW 31 (0,0)):=by rw [hW,Array.getElem?_push_size]
  have hV1:W.heap[vb]? = some (.cells V 31 (0,0)):=by rw [hW,Array.getElem?_push_lt hvw]; rw [← hV,Array.getElem?_eq_getElem hvw]
  have e:=z12s (P:=Tryz.prog) W 22 22 ty 31 w.heap.size (i * 32) (c+1 - i) dc ⟨vb,0,none⟩ 1 vc ROW 31 ys u22 hsz hN (by rw [hm,hyl])
   (fun j v hj=>by
    rw [Addr.add_lit,Nat.zero_add]
    have:=hyg j v hj
    rw [Array.getElem?_toList] at this
    unfold World.cell?; rw [hV1]; exact this) (by rw [hyl,hRs]; omega) h1y
  rw [hm,← hD1] at e; exact e
 have hcpB:∀ (W W0:World),W0.heap=w.heap.push (.cells ROW 31)→W.heap=(W0.setRow w.heap.size D1).heap→∀ ty dc sc,(Builtin.copy_ #[22,22] ty #[.slice (some ⟨w.heap.size,(i+1) * 32,none⟩) (c - i) dc,.slice (some ⟨b,i * 32,none⟩) (c - i) sc]).run Tryz.prog W=.ok (goInt ((c - i:Nat):Int)) (W.setRow w.heap.size D2):=fun W W0 hW0 hW ty dc sc=>by
  have hm:Nat.min (c - i) (c - i)=c - i:=Nat.min_self _;have hN:W.heap[w.heap.size]? = some (.cells D1 31 (0,0)):=by rw [hW]; exact setRow_heap W0 w.heap.size ROW D1 31 (0,0) (by rw [hW0,Array.getElem?_push_size])
  have hB1:W.heap[b]? = some (.cells C 31 (0,0)):=by
   rw [hW,setRow_other W0 w.heap.size b D1 (by omega),hW0,Array.getElem?_push_lt hbw,← hC,Array.getElem?_eq_getElem hbw]
  have e:=z12s (P:=Tryz.prog) W 22 22 ty 31 w.heap.size ((i+1) * 32) (c - i) dc ⟨b,i * 32,none⟩ (c - i) sc D1 31 (xs.drop (i * 32)) u22 hsz hN (by rw [hm,hdl])
   (fun j v hj=>by
    rw [Addr.add_lit]
    have:=hxg _ v (by rwa [List.getElem?_drop] at hj)
    rw [Array.getElem?_toList] at this
    unfold World.cell?; rw [hB1]; exact this) (by rw [hdl,hD1s]; omega) (fun v hv=>h1x v (List.mem_of_mem_drop hv))
  rw [hm,← hD2] at e; exact e
 have hz1:¬ ((1:Int)=0):=by decide
 have hz2:¬ ((i:Int)=(c:Int)):=by omega
 have hz3:(c:Int)<(c:Int)+1:=by omega
 have hw1:IntKind.i64.wrap ((i:Int)+1)=(i:Int)+1:=by rw [IntKind.wrap_i64]; omega
 have hb1:(0:Int)≤(i:Int)+1:=by omega
 have hin:i≤c:=by omega
 have htn:((i:Int)+1).toNat=i+1:=by omega
 have hGi:¬ (G=i):=by omega
 have hGim:¬ (G=i+1):=by omega
 have hci:¬ (c=i):=by omega
 have hb3:(i:Int)≤(c:Int):=by omega
 have hE1:((w.alloc (.cells ROW 31)).drew).heap=w.heap.push (.cells ROW 31):=rfl;have hF1:(((w.alloc (.cells ROW 31)).drew.setRow w.heap.size D1).drew).heap=(((w.alloc (.cells ROW 31)).drew).setRow w.heap.size D1).heap:=rfl
 clear hROW hold hG hRt hD1 hD2 hxs hys hC hV h1x h1y hdl hxl hyl hcc hxg hyg hi0 hz0 hzs hzb hkk hnc hroom
 go_enter Tryz.func101,Tryz.ntmps101
 go_wp2_with (first
  | (at_builtin; refine Lib.wpList_append_run _ rfl _ _ _ _ rfl _ _ rfl rfl _ _ (hrz _) ?_)
  | (at_builtin; refine zld _ rfl _ _ 22 22 rfl _ _ rfl rfl (hcpA _ hE1 _ _) ?_))
 go_region_law (refine zoz rfl _ _ 22 22 rfl (.slice (some ⟨w.heap.size,(i+1) * 32,none⟩) (c - i) (G - (i+1))) (.slice (some ⟨b,i * 32,none⟩) (c - i) (c - i)) (by simp [Act.eval,Act.put]) (by simp [Act.eval,Act.put]) (hcpB _ _ hE1 hF1 3 (G - (i+1)) (c - i)) ?_)
 go_wp2
 go_ret
 refine ⟨G,rfl,hGn,hGm,D2,?_,⟨rfl,rfl,rfl,?_, fun k hk _=>?_⟩,hD2s,hfin⟩
 ·exact setRow_heap _ w.heap.size D1 D2 31 (0,0) (setRow_heap ((w.alloc (.cells ROW 31)).drew) w.heap.size ROW D1 31 (0,0) (by rw [hE1,Array.getElem?_push_size]))
 ·rw [setRow_size]; show _≤((w.alloc (.cells ROW 31)).drew.setRow w.heap.size D1).heap.size; rw [setRow_size,hE1,Array.size_push]; omega
 ·rw [setRow_other _ w.heap.size k D2 (by omega)]; show ((w.alloc (.cells ROW 31)).drew.setRow w.heap.size D1).heap[k]? = _;rw [setRow_other _ w.heap.size k D1 (by omega),hE1,Array.getElem?_push_lt hk,Array.getElem?_eq_getElem hk]
set_option maxHeartbeats 4000000 in
set_option maxRecDepth 100000 in
theorem z15n (p0 p1:Value) (h0:w.ownsRow 0 31 32 p0 n xs) (h1:w.ownsRow 0 31 32 p1 1 ys) (hn:n≤1000000) (h1y:∀ v∈ys,v.oneCell'=true) :
  Calls Tryz.prog 101 #[p0,.int .i64 n,p1] w fun e w'=>∃ v',e=.returned v'∧w'.ownsRow 0 31 32 v' (n+1) (xs++ys)∧w.grownBy w' p0.ownBlock∧∀ b,v'.ownBlock=some b→p0.ownBlock=some b∨w.heap.size≤b:=by
 have u22:Tryz.prog.underlying 22=some (.slice 31):=Tryz.underlying22;obtain ⟨p,c,rfl⟩:=z42 h0;obtain ⟨q,d,rfl⟩:=z42 h1;obtain ⟨p',c',w',hrun,ho,hg,hs⟩:=zk3 (P:=Tryz.prog) (rt:=22) (w:=w) u22 zzg (by simp [Value.cells]) (by decide) h0 (Rd.of_own h1) h1y (by omega) (by omega) (Nat.zero_le _);have hz1:¬ ((1:Int)=0):=by decide
 have hnc:n≤c:=by
  rcases h0.2 with ⟨e,rfl⟩ | ⟨g,cap,cur,e,_,_,h,_⟩
  ·omega
  ·simp only [Value.slice.injEq] at e; omega
 have hc63:c≤9223372036854775807:=by
  rcases h0.2 with ⟨e,rfl⟩ | ⟨g,cap,cur,e,_,_,_,h,_⟩
  ·simp only [Value.slice.injEq] at e; omega
  ·simp only [Value.slice.injEq] at e; unfold maxLen at h; omega
 have hin:n≤n:=Nat.le_refl _;have hp0:p=none→n=0∧c=0:=fun e=>by
  rcases h0.2 with ⟨e',rfl⟩ | ⟨g,cap,cur,e',_⟩
  ·simp only [Value.slice.injEq] at e'; omega
  ·rw [e] at e'; simp at e'
 clear h0 h1 h1y
 go_enter Tryz.func101,Tryz.ntmps101
 cases p with
 | none =>
  obtain ⟨rfl,rfl⟩:=hp0 rfl
  clear hp0
  go_wp2_with (at_builtin; refine Lib.wpList_append_run _ rfl _ _ _ _ rfl _ _ rfl rfl _ _ hrun ?_)
  go_ret
  exact ⟨_,rfl,ho,hg,hs⟩
 | some a =>
  clear hp0
  obtain ⟨ab,ao,asp⟩:=a
  go_wp2_with (at_builtin; refine Lib.wpList_append_run _ rfl _ _ _ _ rfl _ _ rfl rfl _ _ hrun ?_)
  all_goals (go_ret; exact ⟨_,rfl,ho,hg,hs⟩)
end
end
section
open Go Go.RowKit
theorem relB {S S':Blk} {w w':World}:∀ {l:List UInt8} {cs:List Value},z7t u8R S w cs l→z7t u8R S' w' cs l
 | [],cs,h=>h
 | x::l,cs,h=>by
  obtain ⟨c,d,rfl,h1,h2⟩:=h;exact ⟨c,d,rfl,h1,relB h2⟩
theorem relD {S S':Blk} {w w':World}:∀ {l:List V3} {cs:List Value},z7t (z3b 32 u8R) S w cs l→z7t (z3b 32 u8R) S' w' cs l
 | [],cs,h=>h
 | x::l,cs,h=>by
  obtain ⟨c,d,rfl,h1,h2⟩:=h;exact ⟨c,d,rfl,relB h1,relD h2⟩
def insF (c0:List V3) (i:Int) (c1:List V3):Option (List V3) :=
 chk (0≤i∧i.toNat≤c0.length∧c0.length≤1000000∧c1.length=1) >>= fun _=>some (c0.take i.toNat++c1++c0.drop i.toNat)
theorem z14n (p0 p1:Value) (n i:Nat) (xs ys:List Value) (w:World) (hi:i≤n) (h0:w.ownsRow 0 31 32 p0 n xs) (h1:w.ownsRow 0 31 32 p1 1 ys) (hsep:∀ b,p0.ownBlock=some b→p1.ownBlock≠some b) (hn:n≤1000000)
  (h1x:∀ v∈xs,v.oneCell'=true) (h1y:∀ v∈ys,v.oneCell'=true) :
  Calls Tryz.prog 101 #[p0,.int .i64 i,p1] w fun e w'=>∃ v',e=.returned v'∧w'.ownsRow 0 31 32 v' (n+1) (xs.take (i * 32)++ys++xs.drop (i * 32))∧w.grownBy w' p0.ownBlock∧∀ b,v'.ownBlock=some b→p0.ownBlock=some b∨w.heap.size≤b:=by
 have hxl:=h0.1;by_cases hin:i=n
 ·subst hin;refine (z15n i xs ys w p0 p1 h0 h1 hn h1y).mono fun e w' ⟨v',a,b,c,d⟩=>⟨v',a,?_,c,d⟩;rw [List.take_of_length_le (by omega),List.drop_eq_nil_of_le (by omega),List.append_nil];exact b
 ·rcases h0.2 with ⟨rfl,rfl⟩ | ⟨b,c,C,rfl,-,hC,hnc,hcm,hCs,hxs⟩
  ·omega
  rcases h1.2 with ⟨rfl,e⟩ | ⟨vb,vc,V,rfl,-,hV,-,-,hVs,hys⟩
  ·omega
  have hvb:vb≠b:=fun e=>hsep b rfl (by rw [e]; rfl);have hyl:ys.length=32:=by have:=h1.1; omega
  have hlen:(xs.take (i * 32)++ys++xs.drop (i * 32)).length=(n+1) * 32:=by
   simp only [List.length_append,List.length_take,List.length_drop,hyl]; omega
  by_cases hroom:n+1≤c
  ·refine (zyz b n c i vb vc xs ys C V w (by omega) hroom (by unfold maxLen at hcm; omega) hvb hC hV hCs hxs (by simpa using hys) hyl h1x h1y).mono fun e w' ⟨a,D,a2,a3,a4⟩=>⟨_,a,?_,?_, fun b' hb'=>.inl hb'⟩
   ·refine ⟨hlen,.inr ⟨b,c,D,rfl,Nat.zero_le _,?_,hroom,hcm,a3.trans hCs,a4⟩⟩;rw [a2]; exact setRow_heap w.drew b C D 31 (0,0) hC
   ·rw [a2];refine ⟨rfl,rfl,rfl,?_, fun k hk hne=>?_⟩
    ·rw [setRow_size]; exact Nat.le_refl _
    ·rw [setRow_other w.drew b k D (fun e=>hne (by rw [e]; rfl))]; rfl
  ·refine (z12j b n c i vb vc xs ys C V w (by omega) hnc (by omega) hn hvb hC hV hCs hxs (by simpa using hys) hyl h1x h1y).mono fun e w' ⟨G,a,g1,g2,D,a1,a2,a3,a4⟩=>⟨_,a,?_,?_, fun b' hb'=>.inr ?_⟩
   ·exact ⟨hlen,.inr ⟨w.heap.size,G,D,rfl,Nat.zero_le _,a1,g1,g2,a3,a4⟩⟩
   ·exact ⟨a2.os,a2.tape,a2.output,a2.size, fun k hk _=>a2.block k hk (by simp)⟩
   ·simp only [Value.ownBlock,Option.some.injEq] at hb'; omega
theorem z15q (p0 p1:Value) (c0 c1:List V3) (i:Int):z1o Tryz.prog 101 [.val p0,.rd z0c i,.val p1] [(1,some (p0,.list (z3b 32 u8R) 31 c0)),(2,some (p1,.list (z3b 32 u8R) 31 c1))] (insF c0 i c1)
  (fun r nv=>⟨[.val (nv 0)],[(100,some (nv 0,.list (z3b 32 u8R) 31 r))]⟩):=by
 intro r hr H vs w hvs hres;have hb:(0≤i∧i.toNat≤c0.length∧c0.length≤1000000∧c1.length=1)∧r=c0.take i.toNat++c1++c0.drop i.toNat:=by
  unfold insF chk at hr
  split at hr
  ·rename_i h; simp at hr; exact ⟨h, by rw [← hr,List.append_assoc]⟩
  ·simp at hr
 obtain ⟨⟨hi0,hi1,hn,hc1⟩,rfl⟩:=hb
 match vs,hvs with
 | [v0,v1,v2],hvs =>
 obtain ⟨h0,h1,h2,_⟩:=hvs;have e0:v0=p0:=h0.1;have e2:v2=p1:=h2.1;have e1:v1=.int .i64 i:=z4n h1;subst e0; subst e2; subst e1;obtain ⟨j,rfl⟩:∃ j:Nat,i=(j:Int):=⟨i.toNat, by omega⟩
 simp only [Int.toNat_natCast] at hi1 ⊢;obtain ⟨xs,x1,x2⟩:=z98 (hres.conts 1 v0 _ rfl);obtain ⟨ys,y1,y2⟩:=z98 (hres.conts 2 v2 _ rfl);rw [hc1] at y1;have hsep:∀ b,v0.ownBlock=some b→v2.ownBlock≠some b:=fun b hb hb2=>by
  obtain ⟨p,c,rfl⟩:=z42 x1;obtain ⟨q,d,rfl⟩:=z42 y1;exact hres.excl 1 _ _ 2 _ _ rfl rfl (by decide) b (by rw [z9p]; exact hb) (by rw [z9p]; exact hb2)
 refine (z14n v0 v2 c0.length j xs ys w hi1 x1 y1 hsep hn x2.one y2.one).mono fun e w' ⟨v',he,hw,hg,hs⟩=>?_;have only:∀ r v c (q:z51),lr [(100,some (v',q))] r=some (v,c)→r=100∧v=v'∧c=q:=fun r v c q h=>by
  rw [z1f] at h
  split at h
  ·rename_i e; cases h; exact ⟨e.symm,rfl,rfl⟩
  ·simp [lr,lk] at h
 have hlen:(c0.take j++c1++c0.drop j).length=c0.length+1:=by
  simp only [List.length_append,List.length_take,List.length_drop,hc1]; omega
 obtain ⟨p',c',rfl⟩:=z42 hw;refine ⟨fun _=>.slice p' (c0.length+1) c',[.slice p' (c0.length+1) c'],he,⟨⟨rfl,rfl⟩,trivial⟩, fun r v c h=>?_, fun r v c r' v2' c2' h h' hne=>?_, fun r v c h b hb=>?_,hg.os,hg.tape,hg.output,hg.size, fun k hk=>?_⟩
 ·obtain ⟨rfl,rfl,rfl⟩:=only _ _ _ _ h;refine zn4 (B:=0) (xs:=xs.take (j * 32)++ys++xs.drop (j * 32)) (by rw [hlen]; exact hw) ?_;exact ((relD (x2.take j)).append (relD y2)).append (relD (x2.drop j))
 ·exact absurd ((only _ _ _ _ h).1.trans (only _ _ _ _ h').1.symm) hne
 ·obtain ⟨rfl,rfl,rfl⟩:=only _ _ _ _ h;rw [z9p] at hb;rcases hs b hb with h | h
  ·exact .inr ⟨1,_,_,rfl, by obtain ⟨p,c,rfl⟩:=z42 x1; rw [z9p]; exact h⟩
  ·exact .inl h
 ·refine hg.block k hk.1 fun e=>hk.2 ⟨1,_,_,rfl,?_⟩;obtain ⟨p,c,rfl⟩:=z42 x1; rw [z9p]; exact e.symm
end
section
open Go Go.RowKit
variable {ro:Option Nat}
section
variable {C:World→World→Prop} {P:Program} {Γ:Ctx} {l:z1l} {res:Res} {d:Tmp} {ty:TypeId} {pos:String} {after:Array Edge} {g:Option (Nat × Bool)}
theorem ldA {ws:List Nat} [LC C res ws] {t T:TypeId} {x:Operand} {v:Value} {es:List Ent} {n:Nat} (r:Nat) (hx:opE l x=some (.val (z05 v 0))) (hr:lr res r=some (v,.box T es)) (hn:z07 es n) (h1e:z1i es) (hT:zds P t true n) (hw:ws.contains r=false) :
  Run C P Γ l res ⟨some d,.load t x,ty,pos,after,g⟩ (.agg es):=fun a w ha=>by
 have h1:=(ha.vl hx).1;rcases ha.conts r v _ hr with h2 | ⟨b,o,h2,h3,b',vs,rfl,rfl,h4⟩
 ·exact h2.elim
 ·simp only [z4v,Option.some.injEq] at h2;subst h2;rw [zhi] at h1;refine ⟨.agg (z8x vs).toArray, fun w' hw'=>?_,vs,h4,rfl⟩;have hb':w'.heap[b']? = some (.cells (z8x vs).toArray T (0,0)):=(CW.at hw' ha hr rfl hw).trans h3
  have:=Bx.load (P:=P) (t:=t) (R:=z16a n) (x:=⟨z8x vs,hn _ _ _ h4,h1e _ _ _ h4⟩) (S:=fun _=>True) (a:=[]) (cs:=z8x vs) (dd:=[]) hb' (by simp) rfl hT
  simp only [List.length_nil] at this;simp [execOp,h1,Instr.loadAt,Instr.sureAddr,this];rfl
theorem ixBl {α β δ:Type} {n:Nat} {R:Rep δ} {L:List δ} {i0:Int} {x0:δ} {b:Vector α n} {y:α} {k:IntKind} {f:β→Int} {j:β} {x z':Operand} {T e E:TypeId} {z v:Value} {by_ sz q:Nat} (r:Nat) (h0:idx L i0=some x0) (hx:opE l x=some (.val (z05 v q))) (hr:lr res r=some (v,.list R E L)) (hj:opE l z'=some (.rd (zar k f) j)) (hy:z7n b (f j)=some y) (hT:P.underlying T=some (.array n e)) (hE:TI P e z sz by_) :
  Run C P Γ l res ⟨some d,.indexAddr T x z',ty,pos,after,g⟩ (.val (z05 v (q+(f j).toNat * sz))):=fun a w ha=>by
 have h1:=(ha.vl hx).1;obtain ⟨k1,k3⟩:=zmv hy;obtain ⟨_,k5,k4⟩:=z5k h0;have hj':a.eval z'=.int k ((f j).toNat:Int):=by rw [z4n (ha.vl hj)]; congr 1; omega
 rcases ha.conts r v _ hr with ⟨_,h2⟩ | ⟨b',o,h2,h3,bb,cap,C',rfl,rfl,_⟩
 ·rw [h2] at k4; simp at k4
 ·have e1:z05 (.slice (some ⟨bb,0,none⟩) L.length cap) q=.pointer (some ⟨bb,q,none⟩):=rfl;have e2:z05 (.slice (some ⟨bb,0,none⟩) L.length cap) (q+(f j).toNat * sz)=.pointer (some ⟨bb,q+(f j).toNat * sz,none⟩):=rfl;rw [e1] at h1;rw [e2];exact ⟨_, fun w' _=>zdn hT hE h1 hj' rfl k3 rfl,rfl,rfl⟩
end
section
variable {ρ:Type} {P:Program} {Γ:Ctx} {l0 l:z1l} {res0 res:Res} {ws:List Nat} {N:ρ→Exit→Act→World→Prop} {fuel:Nat} {listed listed':Array Bool} {m:Option ρ} {os:List Oper} {op:Op} {ty:TypeId} {pos:String} {after:Array Edge} {g:Option (Nat × Bool)}
end
theorem z16s {es:List Ent} {n:Nat} (hn:z07 es n) (h1:z1i es):AggE (.agg es) n:=fun S w v h=>by
 obtain ⟨vs,h2,rfl⟩:=h;exact ⟨z8x vs,rfl,hn _ _ _ h2,h1 _ _ _ h2⟩
section
variable {ρ:Type} {P:Program} {Γ:Ctx} {l:z1l} {res:Res} {m:Option ρ} {Q:ρ→Exit→Act→World→Prop} {e:Exit}
theorem eGat {es:List Ent} {T:TypeId} {v:Value} (r:Nat) (hr:lr res r=some (v,.box T es)) (k:GE (Sta Γ l ((r,some (v,.box T [.agg es]))::res)) e Q m):GE (Sta Γ l res) e Q m:=fun a w ha=>k a w (ha.recont r hr fun h=>by
 rcases h with h | ⟨b,o,h1,h2,b',vs,rfl,rfl,h3⟩
 ·exact h.elim
 ·exact .inr ⟨b,_,h1,h2,b',[.agg (z8x vs).toArray],rfl, by simp [z8x,Value.cells],⟨vs,h3,rfl⟩,trivial⟩)
theorem eCA {t:Tmp} {T T':TypeId} {v:Value} {es:List Ent} {n:Nat} {rs:List ResultVar} {es':List Ent} (r:Nat) (h:lk l t=some (.val (z05 v 0))) (hr:lr res r=some (v,.box T' [.agg es])) (hn:z07 es n) (h1:z1i es) (hT:zds P T true n) (k:zu2 P l res rs es'):zu2 P l res (.cell t T::rs) (.agg es::es') :=
 ⟨⟨r,v,T',h,hr,.inr (.inr ⟨n,z16s hn h1,hT⟩)⟩,k⟩
end
section
variable {ρ:Type} {P:Program} {Γ:Ctx} {l0 l:z1l} {res0 res:Res} {ws:List Nat} {N:ρ→Exit→Act→World→Prop} {fuel:Nat} {listed listed':Array Bool} {m:Option ρ} {os:List Oper} {op:Op} {d:Tmp} {ty:TypeId} {pos:String} {after:Array Edge} {g:Option (Nat × Bool)}
end
def zin (res:Res) (qs:List Nat):List Ent→List Ent→Prop
 | [],[]=>True
 | e::es,e'::es'=>(e=e'∨∃ (α:Type) (R:Rep α) (T:TypeId) (v:Value) (b:List α) (r:Nat),e=.val v∧e'=.rd (z02 R) b∧lr res r=some (v,.list R T b)∧qs.contains r=true)∧zin res qs es es'
 | _,_=>False
theorem pB0 {res:Res} {qs:List Nat}:zin res qs [] []:=trivial
theorem pBo {res:Res} {qs:List Nat} {α:Type} {R:Rep α} {T:TypeId} {v:Value} {b:List α} {es es':List Ent} (r:Nat) (h:lr res r=some (v,.list R T b)) (hq:qs.contains r=true) (k:zin res qs es es'):zin res qs (.val v::es) (.rd (z02 R) b::es'):=⟨.inr ⟨_,R,T,v,b,r,rfl,rfl,h,hq⟩,k⟩
def ArgB (res:Res) (qs:List Nat) (e p:Ent):Prop:=(∀ S w v,e.holds S w v→p.holds S w v)∨(∃ (α:Type) (R:Rep α) (x:α) (es es':List Ent),e=.agg es∧p=.rd R x∧Sp R x es'∧zin res qs es es')∨zin res qs [e] [p]
def zl8 (l:z1l) (res:Res) (qs:List Nat):List Operand→List Ent→Prop
 | [],[]=>True
 | o::os,p::ps=>(∃ e,opE l o=some e∧ArgB res qs e p)∧zl8 l res qs os ps
 | _,_=>False
theorem aB0 {l:z1l} {res:Res} {qs:List Nat}:zl8 l res qs [] []:=trivial
theorem aBq {l:z1l} {res:Res} {qs:List Nat} {o:Operand} {os:List Operand} {p:Ent} {ps:List Ent} (h:opE l o=some p) (k:zl8 l res qs os ps):zl8 l res qs (o::os) (p::ps):=⟨⟨p,h,.inl fun _ _ _ h=>h⟩,k⟩
theorem aBs {l:z1l} {res:Res} {qs:List Nat} {o:Operand} {os:List Operand} {α:Type} {R:Rep α} {x:α} {es es':List Ent} {ps:List Ent} (h:opE l o=some (.agg es)) (hs:Sp R x es') (hp:zin res qs es es') (k:zl8 l res qs os ps):zl8 l res qs (o::os) (.rd R x::ps):=⟨⟨_,h,.inr (.inl ⟨_,R,x,es,es',rfl,rfl,hs,hp⟩)⟩,k⟩
theorem aBo {l:z1l} {res:Res} {qs:List Nat} {o:Operand} {os:List Operand} {α:Type} {R:Rep α} {T:TypeId} {v:Value} {b:List α} {ps:List Ent} (r:Nat) (h:opE l o=some (.val v)) (hr:lr res r=some (v,.list R T b)) (hq:qs.contains r=true) (k:zl8 l res qs os ps):zl8 l res qs (o::os) (.rd (z02 R) b::ps):=⟨⟨_,h,.inr (.inr (pBo r hr hq pB0))⟩,k⟩
def CF (q:Res):Prop:=∀ r v c,lr q r=some (v,c)→∀ S S' w u,c.holds S w u→c.holds S' w u
theorem cf0:CF []:=fun r v c h=>by simp [lr,lk] at h
section
variable {ρ:Type} {P:Program} {Γ:Ctx} {l:z1l} {res:Res} {m:Option ρ} {os rest:List Oper} {N:ρ→Exit→Act→World→Prop} {d:Tmp} {ty:TypeId} {pos:String} {after:Array Edge} {g:Option (Nat × Bool)}
theorem zin.get {a:Act} {w:World} {S:Blk} {qs:List Nat} (ha:Sta Γ l res a w) (hk:zax (Shr Γ.H res w) S w w) (hb:∀ r v c,lr res r=some (v,c)→qs.contains r=true→∀ b,z4v v=some b→S b) :
  ∀ {es es':List Ent} {vs:List Value},zin res qs es es'→z30 (Shr Γ.H res w) w es vs→z30 S w es' vs
 | [],[],[],_,_=>trivial
 | e::es,e'::es',v::vs,⟨h1,h2⟩,⟨h3,h4⟩=>by
  refine ⟨?_,zin.get ha hk hb h2 h4⟩;rcases h1 with rfl | ⟨α,R,T,u,b,r,rfl,rfl,hr,hq⟩
  ·exact e.mono hk h3
  ·obtain ⟨rfl,-⟩:=h3;obtain ⟨xs,k3,k4⟩:=z98 (ha.conts r _ _ hr);obtain ⟨p,c,rfl⟩:=z42 k3;exact ⟨_,⟨p,c,xs,rfl,Rd.of_own k3,k4.mono hk, fun _ bb hbb=>hb r _ _ hr hq bb (by rw [z9p,zg4]; exact hbb)⟩,rfl⟩
 | [],[],_::_,_,h=>h.elim
 | [],_::_,_,h,_=>h.elim
 | _::_,[],_,h,_=>h.elim
 | _::_,_::_,[],_,h=>h.elim
theorem zl8.get {a:Act} {w:World} {S:Blk} {qs:List Nat} (ha:Sta Γ l res a w) (hk:zax (Shr Γ.H res w) S w w) (hb:∀ r v c,lr res r=some (v,c)→qs.contains r=true→∀ b,z4v v=some b→S b) :
  ∀ {os:List Operand} {ps:List Ent},zl8 l res qs os ps→z30 S w ps (os.map a.eval)
 | [],[],_=>trivial
 | o::os,p::ps,⟨⟨e,h1,h2⟩,h3⟩=>by
  refine ⟨?_,zl8.get ha hk hb h3⟩;have h4:=ha.vl h1;rcases h2 with h2 | ⟨α,R,x,es,es',rfl,rfl,hs,hp⟩ | hp
  rotate_right
  ·exact (hp.get (vs:=[a.eval o]) ha hk hb ⟨h4,trivial⟩).1
  ·exact p.mono hk (h2 _ _ _ h4)
  ·obtain ⟨vs,k1,k2⟩:=h4;have k3:=hp.get ha hk hb k1;refine ⟨z8x vs,(hs.2 S w _).2 ⟨vs,k3,rfl⟩,?_⟩;rw [k2]; unfold Rep.val; rw [hs.1]; rfl
 | [],_::_,h=>h.elim
 | _::_,[],h=>h.elim
theorem z15r {σ:Type} {f:FuncId} {F:Func} {b:Code} {args:List Operand} {ats:Array TypeId} {pin:List Ent} {m1:Option σ} {q:σ→(Nat→Value)→zny} {kk:σ→Option ρ} (qs:List Nat) (mp:List (Nat × Nat)) (hg:Grd os l ⟨some d,.call ⟨.value (.func f),args.toArray,ats⟩,ty,pos,after,g⟩ true) (hn:Nat.blt d Γ.n=true)
  (hF:P.funcs[f]? = some F) (hB:F.body=some b) (hnm:(F.name == "runtime.NumGoroutine")=false) (hS:z1o P f pin [] m1 q) (hA:zl8 l res qs args pin) (hf:∀ s nv,∀ e∈(q s nv).ret,e.flat) (hc:∀ s nv,CF (q s nv).res)
  (k:∀ s nv,GL P os (Sta Γ ((d,zks (q s nv).ret)::l) (aft [] mp (q s nv).res res)) rest N (kk s)) :
  GL P os (Sta Γ l res) (⟨some d,.call ⟨.value (.func f),args.toArray,ats⟩,ty,pos,after,g⟩::rest) N (m1 >>= kk):=fun a w ha r hm=>by
 cases hm1:m1 with
 | none=>rw [hm1] at hm; cases hm
 | some s =>
  rw [hm1] at hm;refine wpList_step fun K hK=>?_;rw [if_pos (hg.wanted ha)];have hrun:(execOp a.eval ⟨some d,.call ⟨.value (.func f),args.toArray,ats⟩,ty,pos,after,g⟩).run P w=.ok (.enter f (args.map a.eval).toArray) w:=by
   have e0:a.eval (.func f)=.func (.func f) #[] #[]:=rfl;simp [execOp,resolve,e0,Deferred.ofValue,invoke,zd4 hF hB hnm]
  unfold Oper.wp; rw [hrun];simp only [Oper.upon];have no:∀ r v c,lr ([]:Res) r=some (v,c)→False:=fun r v c h=>by simp [lr,lk] at h
  have hst:zax (Shr Γ.H res w) (Shr (fun b=>Γ.H b∨∃ r v c,lr res r=some (v,c)∧qs.contains r=false∧z4v v=some b) [] w) w w:=fun b hb =>
   ⟨⟨hb.1, fun r v c h=>(no r v c h).elim, fun h=>by
    rcases h with h | ⟨r,v,c,h1,_,h2⟩
    ·exact hb.2.2 h
    ·exact hb.2.1 r v c h1 h2⟩,rfl⟩
  have hok:zn8 (fun b=>Γ.H b∨∃ r v c,lr res r=some (v,c)∧qs.contains r=false∧z4v v=some b) [] w:=⟨fun r v c h=>(no r v c h).elim, fun r v c _ _ _ h=>(no r v c h).elim, fun b hb=>by
   refine ⟨?_, fun ⟨r,v,c,h,_⟩=>no r v c h⟩;rcases hb with h | ⟨r,v,c,h,_,h2⟩
   ·exact ha.old_lt (ha.hid b h)
   ·exact (ha.conts r v c h).lt h2⟩
  have hbq:∀ r v c,lr res r=some (v,c)→qs.contains r=true→∀ b,z4v v=some b→Shr (fun b=>Γ.H b∨∃ r v c,lr res r=some (v,c)∧qs.contains r=false∧z4v v=some b) [] w b:=fun r v c h hq b hb =>
   ⟨(ha.conts r v c h).lt hb, fun r v c h=>(no r v c h).elim, fun hH=>by
    rcases hH with hH | ⟨r',v',c',h1,h0,h2⟩
    ·exact ha.own r v c h b hb (ha.hid b hH)
    ·have hne:r≠r':=fun e=>by subst e; rw [hq] at h0; cases h0
     exact ha.excl r v c r' v' c' h h1 hne b hb h2⟩
  refine (hS s hm1 _ _ w (zl8.get ha hst hbq hA) hok).mono fun e w' hR=>?_;obtain ⟨nv,vs,rfl,hp⟩:=hR;have hH:∀ b,(fun b=>Γ.H b∨∃ r v c,lr res r=some (v,c)∧([]:List Nat).contains r=false∧z4v v=some b) b↔Γ.H b∨∃ r v c,lr res r=some (v,c)∧([]:List Nat).contains r=false∧z4v v=some b:=fun _=>Iff.rfl;obtain ⟨⟨h3,_⟩,h4,_⟩:=ha.called (mp:=mp) (ns:=[]) rN hH (⟨z169 (hf s nv) hp.ret, fun r v c h=>hc s nv r v c h _ _ _ _ (hp.conts r v c h),hp.excl,hp.own,hp.keep⟩:zyp _ [] (q s nv) w w' vs)
  exact hK _ _ (k s nv _ _ (h3.put hn h4) r hm)
end
end
section
open Go Go.RowKit
set_option maxRecDepth 100000
def z92 (a0:UInt32):Option (Int) :=
 if a0==0 then
  some 2
 else
  if decide (500000003≤a0.toUInt64) then
   some 2
  else
   some 0
theorem ze8 (a0:UInt32):z1o Tryz.prog 75 [.rd z0o a0] [] (z92 a0) (fun r nv=>⟨[.rd z0c r],[]⟩):=by
 refine z29 10 Tryz.func75 Z Z Z fun H w=>?_;refine gSR<|Zb Z<|z0t<|gSR<|Zm Z<|Zq (W.eql Z Z)<|Zm Z<|z19 5 Z (fun h1=>?_) (fun h1=>?_)
 ·refine lKn 4 Z h1<|Zk Z<|Zk Z<|Zk Z<|Zq (pkT Z Z)<|Zn<|zhl Z<|gSR<|Zb Z<|z0j<|z0v<|Ze [] [] Z
 ·refine lKn 4 Z h1<|z17 Zx Z Z (mv Z)<|z17 Zx Z Z (W.toU Z tu48 tu49)<|z17 Zx Z Z (U.geq Z Z)<|Zq (pkF Z Z)<|Zj Z (fun h2=>?_) (fun h2=>?_)
  ·refine gKn 8 Z h2<|gSR<|Zb Z<|z0j<|z0v<|Ze [] [] Z
  ·refine gKn 8 Z h2<|Zt<|gSR<|Zb Z<|z0j<|Ze [] [] Z
def zee (a0:z08):Option (z08) :=
 some ({ a0 with Sig:=(⟨0,0⟩:z09) })
theorem zk1 (a0:z08):z1o Tryz.prog 76 [.rd z03 a0] [] (zee a0) (fun r nv=>⟨[.rd z03 r],[]⟩):=by
 refine z29 6 Tryz.func76 Z Z Z fun H w=>?_;refine gSR<|Eb Z (bx 1 Z) fun v1=>Eb Z (z4i 2 z5t (ZrE.rd (R:=z0o) (x:=0) (Zr.num Z) (ZrE.nilS (ZrE.rd (R:=z2a) (x:=0) (Zr.num Z) (ZrE.rd (R:=z0d) (x:=(⟨0,[],(⟨0,0,0,[]⟩:z06)⟩:z0f)) zmk (ZrE.rd (R:=z0e) (x:=(⟨0,0⟩:z09)) zlr ZrE.nil Z) Z) Z)) Z)) fun v2=>Zn<|gSR<|Zq (bld (x':=(⟨0,0⟩:z09)) [(0,1),(1,1)] Tryz.underlying55 zll Z zlr Z (Bld.done Z))<|Zq (faB 1 Z Z Tryz.underlying57 Z (by exact zll))<|Es (sto 1 Z Z (fP (z2g _)) Z zll)<|Zn<|gSR<|Zq (ld 1 Z Z fH z9t Z)<|z9m aZ [.rd z0o 0,.rd (z02 aZ) [],.rd z2a 0,.rd z0d (⟨0,[],(⟨0,0,0,[]⟩:z06)⟩:z0f),.rd z0e (⟨0,0⟩:z09)] 2 [.rd z0o 0] [.rd z2a 0,.rd z0d (⟨0,[],(⟨0,0,0,[]⟩:z06)⟩:z0f),.rd z0e (⟨0,0⟩:z09)] Z Z Z<|zbs (R:=z03) (⟨0,[],0,(⟨0,[],(⟨0,0,0,[]⟩:z06)⟩:z0f),(⟨0,0⟩:z09)⟩:z08) 2 Z (Sp.via (Sp.prod (Sp.prod (Sp.prod (Sp.prod (Sp.prod Sp.unit))))))<|Es (sto 2 Z Z fH Z z5t)<|Zn<|z0j<|zb4 [] [] Z (eC 2 Z Z z9t<|eN) (rN)
def zb6 (a0:UInt32) (a1:List UInt8):Option (UInt32) :=
 z7x a0 >>= fun r2 =>
 app 1 [110] r2 >>= fun x4 =>
 app 1 x4 a1 >>= fun x7 =>
 z84 x7 >>= fun r10 =>
 some (((r10 % 500000002).toUInt32)+1) >>= fun y12 =>
 some y12
theorem ziw (a0:UInt32) (a1:List UInt8):z1o Tryz.prog 116 [.rd z0o a0,.rd (z02 u8R) a1] [] (zb6 a0 a1) (fun r nv=>⟨[.rd z0o r],[]⟩):=by
 refine z29 17 Tryz.func116 Z Z Z fun H w=>?_;refine gSR<|Zb Z<|gSR<|Ef Z (lit (R:=u8R) ([110]:List UInt8) 1 (pP Z Z<|pN) Z tu74 ti5 Z Z) fun v1=>Zm Z<|Zc [] [(100,2)] Tryz.func147 Z (zbk _) fun r2 n3=>z0m fun x4 h5=>Ef Z (apn 1 Z Z Z (.own 2 Z) h5 tu74 ti5 Z Z Z) fun v6=>Zb Z<|gSR<|Zm Z<|Zm Z<|z0m fun x7 h8=>Ef Z (apn 1 Z Z Z .rd h8 tu74 ti5 Z Z Z) fun v9=>zf0 1 [12] Z (fS Z<|fN)<|Zc [] [] Tryz.func148 Z (zdk _) fun r10 n11=>Zq (U.rem Z Z (by decide))<|Zq (U.toW Z tu49 tu48)<|Zq (W.add Z Z)<|Za Z<|z1x 4 Z fun y12=>Zn<|z0j<|Ze [] [] Z
def zai (a0:UInt32) (a1:UInt32):Option (UInt32) :=
 some (((a0.toUInt64 * a1.toUInt64) % 500000003).toUInt32) >>= fun y1 =>
 some y1
theorem zia (a0:UInt32) (a1:UInt32):z1o Tryz.prog 118 [.rd z0o a0,.rd z0o a1] [] (zai a0 a1) (fun r nv=>⟨[.rd z0o r],[]⟩):=by
 refine z29 12 Tryz.func118 Z Z Z fun H w=>?_;refine gSR<|Zb Z<|gSR<|Zm Z<|Zq (W.toU Z tu48 tu49)<|Zm Z<|Zq (W.toU Z tu48 tu49)<|Zq (U.mul Z Z)<|Zq (U.rem Z Z (by decide))<|Zq (U.toW Z tu49 tu48)<|Za Z<|z1x 4 Z fun y1=>Zn<|z0j<|Ze [] [] Z
def zcq (a0:UInt32) (a1:UInt32):Option (UInt32) :=
 some (((a0.toUInt64+a1.toUInt64) % 500000003).toUInt32) >>= fun y1 =>
 some y1
theorem zky (a0:UInt32) (a1:UInt32):z1o Tryz.prog 117 [.rd z0o a0,.rd z0o a1] [] (zcq a0 a1) (fun r nv=>⟨[.rd z0o r],[]⟩):=by
 refine z29 12 Tryz.func117 Z Z Z fun H w=>?_;refine gSR<|Zb Z<|gSR<|Zm Z<|Zq (W.toU Z tu48 tu49)<|Zm Z<|Zq (W.toU Z tu48 tu49)<|Zq (U.add Z Z)<|Zq (U.rem Z Z (by decide))<|Zq (U.toW Z tu49 tu48)<|Za Z<|z1x 4 Z fun y1=>Zn<|z0j<|Ze [] [] Z
def zac (a0:UInt32) (a1:List UInt8):Option (z09) :=
 zb6 a0 a1 >>= fun r2 =>
 z5n r2 >>= fun r4 =>
 z5n a0 >>= fun r6 =>
 z5d r4 r6 a1 >>= fun r8 =>
 zai r8 a0 >>= fun r10 =>
 zcq r2 r10 >>= fun r12 =>
 some (⟨r8,r12⟩:z09)
theorem zic (a0:UInt32) (a1:List UInt8):z1o Tryz.prog 78 [.rd z0o a0,.rd (z02 u8R) a1] [] (zac a0 a1) (fun r nv=>⟨[.rd z0e r],[]⟩):=by
 refine z29 23 Tryz.func78 Z Z Z fun H w=>?_;refine gSR<|Eb Z (z4i 1 zll (.zr (R:=z0e) (x:=(⟨0,0⟩:z09)) zlr)) fun v1=>Zn<|gSR<|Zm Z<|Zm Z<|Zc [] [] Tryz.func116 Z (ziw _ _) fun r2 n3=>Zb Z<|gSR<|Zm Z<|Zc [] [] Tryz.func77 Z (zab _) fun r4 n5=>Zm Z<|Zc [] [] Tryz.func77 Z (zab _) fun r6 n7=>Zm Z<|Zc [] [] Tryz.func109 Z (zbr _ _ _) fun r8 n9=>Zb Z<|gSR<|Zm Z<|Zm Z<|Zm Z<|Zm Z<|Zc [] [] Tryz.func118 Z (zia _ _) fun r10 n11=>Zc [] [] Tryz.func117 Z (zky _ _) fun r12 n13=>Zq (bld (x':=(⟨r8,r12⟩:z09)) [(0,1),(1,1)] Tryz.underlying55 zll Z zlr Z (Bld.cons (z4w _) Z Z<|Bld.cons (z6r _) Z Z<|Bld.done Z))<|Es (sto 1 Z Z fH Z zll)<|Zn<|z0j<|zb4 [] [] Z (eC 1 Z Z ty55<|eN) (rN)
def z49 (a0:UInt32) (a1:z08):Option (z08 × Int) :=
 z92 a0 >>= fun r3 =>
 if r3 != 0 then
  z92 a0 >>= fun r6 =>
  some ((⟨0,[],0,(⟨0,[],(⟨0,0,0,[]⟩:z06)⟩:z0f),(⟨0,0⟩:z09)⟩:z08),r6)
 else
  zee a1 >>= fun r8 =>
  z9u r8 >>= fun r10 =>
  z5n a0 >>= fun r13 =>
  z4f ({ r10 with Author:=r13 }) >>= fun r15 =>
  if r15 != 0 then
   z4f ({ r10 with Author:=r13 }) >>= fun r18 =>
   some ((⟨0,[],0,(⟨0,[],(⟨0,0,0,[]⟩:z06)⟩:z0f),(⟨0,0⟩:z09)⟩:z08),r18)
  else
   z60 ({ r10 with Author:=r13 }) >>= fun r20 =>
   zac a0 r20 >>= fun r22 =>
   some ({ { r10 with Author:=r13 } with Sig:=r22 },0)
theorem zk8 (a0:UInt32) (a1:z08):z1o Tryz.prog 42 [.rd z0o a0,.rd z03 a1] [] (z49 a0 a1) (fun r nv=>⟨[.rd z03 r.1,.rd z0c r.2],[]⟩):=by
 refine z29 31 Tryz.func42 Z Z Z fun H w=>?_;refine gSR<|Eb Z (bx 1 Z) fun v1=>Eb Z (z4i 2 z5t (ZrE.rd (R:=z0o) (x:=0) (Zr.num Z) (ZrE.nilS (ZrE.rd (R:=z2a) (x:=0) (Zr.num Z) (ZrE.rd (R:=z0d) (x:=(⟨0,[],(⟨0,0,0,[]⟩:z06)⟩:z0f)) zmk (ZrE.rd (R:=z0e) (x:=(⟨0,0⟩:z09)) zlr ZrE.nil Z) Z) Z)) Z)) fun v2=>Zb Z<|z0t<|gSR<|Zm Z<|Zc [] [] Tryz.func75 Z (ze8 _) fun r3 n4=>Zq (I.neq Z Z)<|Zj Z (fun h5=>?_) (fun h5=>?_)
 ·refine gSR<|Zq (zlv [(0,1),(1,1),(2,1),(3,6),(9,2)] Tryz.underlying57 z5t (ZrE.rd (R:=z0o) (x:=0) (Zr.num Z) (ZrE.nilS (ZrE.rd (R:=z2a) (x:=0) (Zr.num Z) (ZrE.rd (R:=z0d) (x:=(⟨0,[],(⟨0,0,0,[]⟩:z06)⟩:z0f)) zmk (ZrE.rd (R:=z0e) (x:=(⟨0,0⟩:z09)) zlr ZrE.nil Z) Z) Z)) Z) Z (zfm.done Z))<|Zm Z<|Zc [] [] Tryz.func75 Z (ze8 _) fun r6 n7=>Es (zkr 2 Z Z (z07.cast (z07.cons z16 (z07.cons z04 (z07.cons z16 (z07.cons z16 (z07.cons z16 z07.nil))))) Z) Z (z1i.cons z86 (z1i.cons z0i (z1i.cons z86 (z1i.cons z86 (z1i.cons z86 z1i.nil))))) (z07.cast (z07.cons z16 (z07.cons z04 (z07.cons z16 (z07.cons z16 (z07.cons z16 z07.nil))))) Z) z5t)<|Zb Z<|z0j<|z0v<|zgs aZ [.rd z0o 0,.rd (z02 aZ) [],.rd z2a 0,.rd z0d (⟨0,[],(⟨0,0,0,[]⟩:z06)⟩:z0f),.rd z0e (⟨0,0⟩:z09)] 2 [.rd z0o 0] [.rd z2a 0,.rd z0d (⟨0,[],(⟨0,0,0,[]⟩:z06)⟩:z0f),.rd z0e (⟨0,0⟩:z09)] Z Z Z<|zoi (R:=z03) (⟨0,[],0,(⟨0,[],(⟨0,0,0,[]⟩:z06)⟩:z0f),(⟨0,0⟩:z09)⟩:z08) 2 Z (Sp.via (Sp.prod (Sp.prod (Sp.prod (Sp.prod (Sp.prod Sp.unit))))))<|zb4 [] [] Z (eC 2 Z Z z9t<|eE Z<|eN) (rN)
 ·refine Zt<|gSR<|Zq (ld 1 Z Z fH z9t Z)<|Zc [] [] Tryz.func76 Z (zk1 _) fun r8 n9=>Zc [] [] Tryz.func23 Z (zby _) fun r10 n11=>Eb Z (z4i 3 z5t (ZrE.rd (R:=z0o) (x:=0) (Zr.num Z) (ZrE.nilS (ZrE.rd (R:=z2a) (x:=0) (Zr.num Z) (ZrE.rd (R:=z0d) (x:=(⟨0,[],(⟨0,0,0,[]⟩:z06)⟩:z0f)) zmk (ZrE.rd (R:=z0e) (x:=(⟨0,0⟩:z09)) zlr ZrE.nil Z) Z) Z)) Z)) fun v12=>z9m aZ [.rd z0o 0,.rd (z02 aZ) [],.rd z2a 0,.rd z0d (⟨0,[],(⟨0,0,0,[]⟩:z06)⟩:z0f),.rd z0e (⟨0,0⟩:z09)] 3 [.rd z0o 0] [.rd z2a 0,.rd z0d (⟨0,[],(⟨0,0,0,[]⟩:z06)⟩:z0f),.rd z0e (⟨0,0⟩:z09)] Z Z Z<|zbs (R:=z03) (⟨0,[],0,(⟨0,[],(⟨0,0,0,[]⟩:z06)⟩:z0f),(⟨0,0⟩:z09)⟩:z08) 3 Z (Sp.via (Sp.prod (Sp.prod (Sp.prod (Sp.prod (Sp.prod Sp.unit))))))<|Es (sto 3 Z Z fH Z z5t)<|Zn<|gSR<|Zm Z<|Zc [] [] Tryz.func77 Z (zab _) fun r13 n14=>Zq (faB 3 Z Z Tryz.underlying57 Z (by exact z61))<|Es (sto 3 Z Z (fP (z2z _)) Z z61)<|Zn<|z0t<|gSR<|Zq (ld 3 Z Z fH z9t Z)<|Zc [] [] Tryz.func34 Z (z8n _) fun r15 n16=>Zq (I.neq Z Z)<|Zj Z (fun h17=>?_) (fun h17=>?_)
  ·refine gSR<|Zq (zlv [(0,1),(1,1),(2,1),(3,6),(9,2)] Tryz.underlying57 z5t (ZrE.rd (R:=z0o) (x:=0) (Zr.num Z) (ZrE.nilS (ZrE.rd (R:=z2a) (x:=0) (Zr.num Z) (ZrE.rd (R:=z0d) (x:=(⟨0,[],(⟨0,0,0,[]⟩:z06)⟩:z0f)) zmk (ZrE.rd (R:=z0e) (x:=(⟨0,0⟩:z09)) zlr ZrE.nil Z) Z) Z)) Z) Z (zfm.done Z))<|Zq (ld 3 Z Z fH z9t Z)<|Zc [] [] Tryz.func34 Z (z8n _) fun r18 n19=>Es (zkr 2 Z Z (z07.cast (z07.cons z16 (z07.cons z04 (z07.cons z16 (z07.cons z16 (z07.cons z16 z07.nil))))) Z) Z (z1i.cons z86 (z1i.cons z0i (z1i.cons z86 (z1i.cons z86 (z1i.cons z86 z1i.nil))))) (z07.cast (z07.cons z16 (z07.cons z04 (z07.cons z16 (z07.cons z16 (z07.cons z16 z07.nil))))) Z) z5t)<|Zb Z<|z0j<|z0v<|zgs aZ [.rd z0o 0,.rd (z02 aZ) [],.rd z2a 0,.rd z0d (⟨0,[],(⟨0,0,0,[]⟩:z06)⟩:z0f),.rd z0e (⟨0,0⟩:z09)] 2 [.rd z0o 0] [.rd z2a 0,.rd z0d (⟨0,[],(⟨0,0,0,[]⟩:z06)⟩:z0f),.rd z0e (⟨0,0⟩:z09)] Z Z Z<|zoi (R:=z03) (⟨0,[],0,(⟨0,[],(⟨0,0,0,[]⟩:z06)⟩:z0f),(⟨0,0⟩:z09)⟩:z08) 2 Z (Sp.via (Sp.prod (Sp.prod (Sp.prod (Sp.prod (Sp.prod Sp.unit))))))<|zb4 [] [] Z (eC 2 Z Z z9t<|eE Z<|eN) (rN)
  ·refine Zt<|gSR<|Zm Z<|Zq (ld 3 Z Z fH z9t Z)<|Zc [] [(100,4)] Tryz.func69 Z (zbz _) fun r20 n21=>zf0 4 [27] Z (fS Z<|fN)<|Zc [] [] Tryz.func78 Z (zic _ _) fun r22 n23=>Zq (faB 3 Z Z Tryz.underlying57 Z (by exact zll))<|Es (sto 3 Z Z (fP (z2g _)) Z zll)<|Zn<|gSR<|Zq (ld 3 Z Z fH z9t Z)<|z9m aZ [.rd z0o 0,.rd (z02 aZ) [],.rd z2a 0,.rd z0d (⟨0,[],(⟨0,0,0,[]⟩:z06)⟩:z0f),.rd z0e (⟨0,0⟩:z09)] 2 [.rd z0o 0] [.rd z2a 0,.rd z0d (⟨0,[],(⟨0,0,0,[]⟩:z06)⟩:z0f),.rd z0e (⟨0,0⟩:z09)] Z Z Z<|zbs (R:=z03) (⟨0,[],0,(⟨0,[],(⟨0,0,0,[]⟩:z06)⟩:z0f),(⟨0,0⟩:z09)⟩:z08) 2 Z (Sp.via (Sp.prod (Sp.prod (Sp.prod (Sp.prod (Sp.prod Sp.unit))))))<|Es (sto 2 Z Z fH Z z5t)<|Zb Z<|z0j<|zb4 [] [] Z (eC 2 Z Z z9t<|eE Z<|eN) (rN)
def z3c (a0:UInt64) (a1:List V3):Option (z08) :=
 z49 5 (⟨0,a1,a0,(⟨1,[],(⟨0,0,0,[]⟩:z06)⟩:z0f),(⟨0,0⟩:z09)⟩:z08) >>= fun r2 =>
 some r2.1
theorem z91 (a0:UInt64) (a1:List V3):z1o Tryz.prog 22 [.rd z2a a0,.rd (z02 aZ) a1] [] (z3c a0 a1) (fun r nv=>⟨[.rd z03 r],[]⟩):=by
 refine z29 16 Tryz.func22 Z Z Z fun H w=>?_;refine gSR<|Eb Z (z4i 1 z5t (ZrE.rd (R:=z0o) (x:=0) (Zr.num Z) (ZrE.nilS (ZrE.rd (R:=z2a) (x:=0) (Zr.num Z) (ZrE.rd (R:=z0d) (x:=(⟨0,[],(⟨0,0,0,[]⟩:z06)⟩:z0f)) zmk (ZrE.rd (R:=z0e) (x:=(⟨0,0⟩:z09)) zlr ZrE.nil Z) Z) Z)) Z)) fun v1=>Zn<|gSR<|Zm Z<|Zm Z<|Zq (bld (x':=(⟨1,[],(⟨0,0,0,[]⟩:z06)⟩:z0f)) [(0,1),(1,1),(2,4)] Tryz.underlying53 zph Z zmk Z (Bld.cons (z3n _) Z Z<|Bld.done Z))<|Zq (bld (x':=(⟨0,a1,a0,(⟨1,[],(⟨0,0,0,[]⟩:z06)⟩:z0f),(⟨0,0⟩:z09)⟩:z08)) [(0,1),(1,1),(2,1),(3,6),(9,2)] Tryz.underlying57 z5t Z zr57 Z (Bld.cons (z0z _) Z Z<|Bld.cons (z4a _) Z Z<|Bld.cons (z2h _) Z Z<|Bld.done Z))<|Zc [] [] Tryz.func42 Z (zk8 _ _) fun r2 n3=>Zm Z<|Zq (ext Z Z)<|Zq (ext Z Z)<|Eb Z (z4i 2 z5t (ZrE.rd (R:=z0o) (x:=0) (Zr.num Z) (ZrE.nilS (ZrE.rd (R:=z2a) (x:=0) (Zr.num Z) (ZrE.rd (R:=z0d) (x:=(⟨0,[],(⟨0,0,0,[]⟩:z06)⟩:z0f)) zmk (ZrE.rd (R:=z0e) (x:=(⟨0,0⟩:z09)) zlr ZrE.nil Z) Z) Z)) Z)) fun v4=>z9m aZ [.rd z0o 0,.rd (z02 aZ) [],.rd z2a 0,.rd z0d (⟨0,[],(⟨0,0,0,[]⟩:z06)⟩:z0f),.rd z0e (⟨0,0⟩:z09)] 2 [.rd z0o 0] [.rd z2a 0,.rd z0d (⟨0,[],(⟨0,0,0,[]⟩:z06)⟩:z0f),.rd z0e (⟨0,0⟩:z09)] Z Z Z<|zbs (R:=z03) (⟨0,[],0,(⟨0,[],(⟨0,0,0,[]⟩:z06)⟩:z0f),(⟨0,0⟩:z09)⟩:z08) 2 Z (Sp.via (Sp.prod (Sp.prod (Sp.prod (Sp.prod (Sp.prod Sp.unit))))))<|Es (sto 2 Z Z fH Z z5t)<|Zb Z<|gSR<|Zq (ld 2 Z Z fH z9t Z)<|z9m aZ [.rd z0o 0,.rd (z02 aZ) [],.rd z2a 0,.rd z0d (⟨0,[],(⟨0,0,0,[]⟩:z06)⟩:z0f),.rd z0e (⟨0,0⟩:z09)] 1 [.rd z0o 0] [.rd z2a 0,.rd z0d (⟨0,[],(⟨0,0,0,[]⟩:z06)⟩:z0f),.rd z0e (⟨0,0⟩:z09)] Z Z Z<|zbs (R:=z03) (⟨0,[],0,(⟨0,[],(⟨0,0,0,[]⟩:z06)⟩:z0f),(⟨0,0⟩:z09)⟩:z08) 1 Z (Sp.via (Sp.prod (Sp.prod (Sp.prod (Sp.prod (Sp.prod Sp.unit))))))<|Es (sto 1 Z Z fH Z z5t)<|Zn<|z0j<|zb4 [] [] Z (eC 1 Z Z z9t<|eN) (rN)
def z6v  : Option ((List z08)) :=
 z3c 1 [] >>= fun r1 =>
 z3p r1 >>= fun r4 =>
 z3c 2 [r4] >>= fun r7 =>
 z3p r7 >>= fun r10 =>
 z3c 3 [r10] >>= fun r13 =>
 some [r1,r7,r13]
theorem zd3  : z1o Tryz.prog 5 [] [] (z6v) (fun r nv=>⟨[.val (nv 0)],[(100,some (nv 0,.list z03 57 r))]⟩):=by
 refine z29 15 Tryz.func5 Z Z Z fun H w=>?_;refine gSR<|Zb Z<|gSR<|call [] [] Z Tryz.func22 Z Z (z91 _ _) (aQ Z<|aNil Z<|aN) rN fun r1 n2=>Eb Z (z4i 1 z5t (ZrE.rd (R:=z0o) (x:=0) (Zr.num Z) (ZrE.nilS (ZrE.rd (R:=z2a) (x:=0) (Zr.num Z) (ZrE.rd (R:=z0d) (x:=(⟨0,[],(⟨0,0,0,[]⟩:z06)⟩:z0f)) zmk (ZrE.rd (R:=z0e) (x:=(⟨0,0⟩:z09)) zlr ZrE.nil Z) Z) Z)) Z)) fun v3=>z9m aZ [.rd z0o 0,.rd (z02 aZ) [],.rd z2a 0,.rd z0d (⟨0,[],(⟨0,0,0,[]⟩:z06)⟩:z0f),.rd z0e (⟨0,0⟩:z09)] 1 [.rd z0o 0] [.rd z2a 0,.rd z0d (⟨0,[],(⟨0,0,0,[]⟩:z06)⟩:z0f),.rd z0e (⟨0,0⟩:z09)] Z Z Z<|zbs (R:=z03) (⟨0,[],0,(⟨0,[],(⟨0,0,0,[]⟩:z06)⟩:z0f),(⟨0,0⟩:z09)⟩:z08) 1 Z (Sp.via (Sp.prod (Sp.prod (Sp.prod (Sp.prod (Sp.prod Sp.unit))))))<|Es (sto 1 Z Z fH Z z5t)<|Zn<|gSR<|Zq (ld 1 Z Z fH z9t Z)<|Zc [] [] Tryz.func18 Z (z4e _) fun r4 n5=>Ef Z (lit (R:=aZ) ([r4]:List V3) 2 (pP Z Z<|pN) Z tu22 z1z Z Z) fun v6=>zf0 2 [6] Z (fS Z<|fN)<|Zc [] [] Tryz.func22 Z (z91 _ _) fun r7 n8=>Eb Z (z4i 3 z5t (ZrE.rd (R:=z0o) (x:=0) (Zr.num Z) (ZrE.nilS (ZrE.rd (R:=z2a) (x:=0) (Zr.num Z) (ZrE.rd (R:=z0d) (x:=(⟨0,[],(⟨0,0,0,[]⟩:z06)⟩:z0f)) zmk (ZrE.rd (R:=z0e) (x:=(⟨0,0⟩:z09)) zlr ZrE.nil Z) Z) Z)) Z)) fun v9=>z9m aZ [.rd z0o 0,.rd (z02 aZ) [],.rd z2a 0,.rd z0d (⟨0,[],(⟨0,0,0,[]⟩:z06)⟩:z0f),.rd z0e (⟨0,0⟩:z09)] 3 [.rd z0o 0] [.rd z2a 0,.rd z0d (⟨0,[],(⟨0,0,0,[]⟩:z06)⟩:z0f),.rd z0e (⟨0,0⟩:z09)] Z Z Z<|zbs (R:=z03) (⟨0,[],0,(⟨0,[],(⟨0,0,0,[]⟩:z06)⟩:z0f),(⟨0,0⟩:z09)⟩:z08) 3 Z (Sp.via (Sp.prod (Sp.prod (Sp.prod (Sp.prod (Sp.prod Sp.unit))))))<|Es (sto 3 Z Z fH Z z5t)<|Zn<|z0t<|z8s [16,22] mixed Z Z<|hTk 0 Z Z (ld 1 Z Z fH z9t Z)<|hTk 1 Z Z (ld 3 Z Z fH z9t Z)<|hTk 2 Z Z (ld 3 Z Z fH z9t Z)<|zlu 3 [] [] Z (by kernel_rfl) Z (gd0 Z) Z Tryz.func18 Z Z (z4e _) (Y1 Z) rN Z fun r10 n11=>Zo 4 Z Z Z (lit (R:=aZ) ([r10]:List V3) 16 (pP Z Z<|pN) Z tu22 z1z Z Z) fun v12=>zuq 16 [12] Z (fS Z<|fN)<|zlu 5 [] [] Z (by kernel_rfl) Z (gd0 Z) Z Tryz.func22 Z Z (z91 _ _) (Y2 Z Z) rN Z fun r13 n14=>Zo 6 Z Z Z (lit (R:=z03) ([r1,r7,r13]:List z08) 22 (pP Z Z<|pP Z Z<|pP Z Z<|pN) Z tu23 z5t Z Z) fun v15=>Zf 7 Z Z z2t (asg Z)<|z54 (by kernel_rfl)<|z0n<|z0j<|Ze [v15] [22] Z
def za7 (a0:z00) (a1:V3) (s7:Int):Option (Sum Int Int) :=
 if decide (s7<(a0.IDs.length:Int)) then
  idx a0.IDs s7 >>= fun x9 =>
  z9c x9 a1 >>= fun r11 =>
  if decide (r11<0) then
   some (.inr (w64 (s7+1)))
  else
   some (.inl s7)
 else
  some (.inl s7)
def z9d (a0:z00) (a1:V3) (a2:z08):Option (z00) :=
 (iter (za7 a0 a1) 0) >>= fun s6 =>
 cut a0.IDs 0 s6 >>= fun x14 =>
 app 32 ([]:List V3) x14 >>= fun x16 =>
 app 32 x16 [a1] >>= fun x18 =>
 cut a0.IDs s6 (a0.IDs.length:Int) >>= fun x20 =>
 app 32 x18 x20 >>= fun x22 =>
 cut a0.Ops 0 s6 >>= fun x25 =>
 app 112 ([]:List z08) x25 >>= fun x27 =>
 app 112 x27 [a2] >>= fun x29 =>
 cut a0.Ops s6 (a0.Ops.length:Int) >>= fun x31 =>
 app 112 x29 x31 >>= fun x33 =>
 z83 (⟨x22,x33⟩:z00) >>= fun r36 =>
 some r36
set_option maxHeartbeats 4000000 in
theorem zl4 (a0:z00) (a1:V3) (a2:z08):z1o Tryz.prog 20 [.rd z01 a0,.rd aZ a1,.rd z03 a2] [] (z9d a0 a1 a2) (fun r nv=>⟨[.rd z01 r],[]⟩):=by
 refine z29 59 Tryz.func20 Z Z Z fun H w=>?_;refine gSR<|Eb Z (bx 1 Z) fun v1=>Eb Z (bx 2 Z) fun v2=>Eb Z (bx 3 Z) fun v3=>Eb Z (z4i 4 z3v (ZrE.nilS (ZrE.nilS ZrE.nil))) fun v4=>Zn<|gSR<|Zq (zlv [(0,1),(1,1)] Tryz.underlying25 z3v (ZrE.nilS (ZrE.nilS ZrE.nil)) Z (zfm.done Z))<|Eb Z (z4i 5 z3v (ZrE.nilS (ZrE.nilS ZrE.nil))) fun v5=>Es (zkr 5 Z Z (z07.cast (z07.cons z04 (z07.cons z04 z07.nil)) Z) Z (z1i.cons z0i (z1i.cons z0i z1i.nil)) (z07.cast (z07.cons z04 (z07.cons z04 z07.nil)) Z) z3v)<|Zn<|gSR<|Zb Z<|z8d (fun (s6:Int) aa ww=>Sta (ctx 59 H [] w) [(3,.val (z05 v1 0)),(4,.val (z05 v2 0)),(5,.val (z05 v3 0)),(6,.val (z05 v4 0)),(7,.val (z05 v5 0)),(8,.rd z0c s6)] [(1,some (v1,.box 25 [.rd z01 a0])),(2,some (v2,.box 31 [.rd aZ a1])),(3,some (v3,.box 57 [.rd z03 a2])),(4,some (v4,.box 25 [.val (.slice none 0 0),.val (.slice none 0 0)])),(5,some (v5,.box 25 [.val (.slice none 0 0),.val (.slice none 0 0)]))] aa ww) ?_ (fun s6=>?_)
 ·refine z24 (fun (s7:Int) aa ww=>Sta (ctx 59 H [] w) [(3,.val (z05 v1 0)),(4,.val (z05 v2 0)),(5,.val (z05 v3 0)),(6,.val (z05 v4 0)),(7,.val (z05 v5 0)),(8,.rd z0c s7)] [(1,some (v1,.box 25 [.rd z01 a0])),(2,some (v2,.box 31 [.rd aZ a1])),(3,some (v3,.box 57 [.rd z03 a2])),(4,some (v4,.box 25 [.val (.slice none 0 0),.val (.slice none 0 0)])),(5,some (v5,.box 25 [.val (.slice none 0 0),.val (.slice none 0 0)]))] aa ww) (fun aa ww h=>Zu h [1,2,3,4,5]) (fun s7=>?_)
  refine z0t<|z0t<|z8s [] mixed Z Z<|hTk 0 Z Z (mv Z)<|hTk 1 Z Z (faB 1 Z Z Tryz.underlying25 Z (by exact z6b))<|hTk 2 Z Z (ld 1 Z Z (fP (z0b _)) z93 Z)<|hTk 3 Z Z (z3h Z .rd Z tu22)<|hTk 4 Z Z (I.lss Z Z)<|hTk 5 Z Z (mv Z)<|hIf 15 Z Z (fun h8=>?_) (fun h8=>?_)
  ·refine hKn 14 Z Z h8<|Zg 6 Z Z (faB 1 Z Z Tryz.underlying25 Z (by exact z6b))<|Zg 7 Z Z (ld 1 Z Z (fP (z0b _)) z93 Z)<|Zg 8 Z Z (mv Z)<|z5o fun x9 h10=>Zg 9 Z Z (ixR Z Z h10 tu22 z1z Z)<|Zg 10 Z Z (ldR Z z3t)<|Zg 11 Z Z (ld 2 Z Z fH z3t Z)<|z41 12 [] [] Z (by kernel_rfl) Z Zx Z Tryz.func38 Z Z (zfl _ _) (Y2 Z Z) rN Z (fun _ _=>z2s) fun r11 n12=>Zg 13 Z Z (I.lss Z Z)<|hTk 14 Z Z (pkT Z Z)<|z54 (by kernel_rfl)<|z0n<|gIf Z Z (fun h13=>?_) (fun h13=>?_)
   ·refine gKn 23 Z h13<|Zt<|z4m<|z2b<|Zm Z<|Zq (I.add Z Z)<|Za Z<|z1n<|z3a<|z1j (fun aa ww h=>Zu h [1,2,3,4,5])
   ·refine gKn 23 Z h13<|z1w<|z0w<|z0y<|z3g (fun aa ww h=>Zu h [1,2,3,4,5])
  ·refine hKn 14 Z Z h8<|hSk 6 Z Z<|hSk 7 Z Z<|hSk 8 Z Z<|hSk 9 Z Z<|hSk 10 Z Z<|hSk 11 Z Z<|hSk 12 Z Z<|hSk 13 Z Z<|hTk 14 Z Z (pkF Z Z)<|z54 (by kernel_rfl)<|z0n<|zgf Z<|z1w<|z0w<|z0y<|z3g (fun aa ww h=>Zu h [1,2,3,4,5])
 ·refine z0t<|zps [(3,.val (z05 v1 0)),(4,.val (z05 v2 0)),(5,.val (z05 v3 0)),(6,.val (z05 v4 0)),(7,.val (z05 v5 0)),(8,.rd z0c s6)] [(1,some (v1,.box 25 [.rd z01 a0])),(2,some (v2,.box 31 [.rd aZ a1])),(3,some (v3,.box 57 [.rd z03 a2])),(4,some (v4,.box 25 [.val (.slice none 0 0),.val (.slice none 0 0)])),(5,some (v5,.box 25 [.val (.slice none 0 0),.val (.slice none 0 0)]))] [1,2,3,4,5] (Zs Z Z Z Z<|sS Z<|sS Z<|sN) (Zi Z<|Zi Z<|Zi Z<|Zi Z<|Zi Z<|rN)<|z43 fun x14 h15=>z43 fun x16 h17=>z43 fun x18 h19=>z43 fun x20 h21=>z43 fun x22 h23=>gOr [] [⟨54,none,[(0,some ([1], fun nv=>((nv 1),.list aZ 31 ([]:List V3)))),(5,some ([2], fun nv=>((nv 2),.list aZ 31 x16))),(8,some ([4], fun nv=>((nv 4),.list aZ 31 x18))),(13,some ([5], fun nv=>((nv 5),.list aZ 31 x22)))]⟩,⟨1,some ([], fun nv=>(v1,.box 25 [.rd z01 a0])),[]⟩,⟨2,some ([], fun nv=>(v2,.box 31 [.rd aZ a1])),[]⟩,⟨55,none,[(7,none)]⟩,⟨5,some ([], fun nv=>(v5,.box 25 [.val (.slice none 0 0),.val (.slice none 0 0)])),[(15,some ([5], fun nv=>(v5,.box 25 [.val (nv 5),.val (.slice none 0 0)])))]⟩] [⟨some (27,[1], fun nv=>.val (nv 1)),[(0,0,true)],[1],[]⟩,pk 28 (.val (z05 v1 (0+0))) [(1,0,false)],pk 29 (.rd (z02 aZ) a0.IDs) [(1,0,false)],pd 30 (.rd z0c s6),pd 31 (.rd (z02 aZ) x14),⟨some (32,[2], fun nv=>.val (nv 2)),[(0,1,true)],[2],[]⟩,pk 33 (.rd aZ a1) [(2,0,false)],⟨some (34,[], fun nv=>.rd (z02 aZ) [a1]),[(3,0,true)],[3],[]⟩,⟨some (35,[4], fun nv=>.val (nv 4)),[(0,2,true)],[4],[]⟩,pk 36 (.val (z05 v1 (0+0))) [(1,0,false)],pk 37 (.rd (z02 aZ) a0.IDs) [(1,0,false)],pd 38 (.rd z0c s6),pd 39 (.rd (z02 aZ) x20),⟨some (40,[5], fun nv=>.val (nv 5)),[(0,3,true)],[5],[]⟩,pk 41 (.val (z05 v5 (0+0))) [(4,0,false)],⟨none,[(0,4,false),(4,0,true)],[],[]⟩] mixed (oC (oEf 54 1 (fun nv E=>lit (R:=aZ) (([]:List V3):List V3) 54 (pN) Z tu22 z1z Z Z))<|oC (oRn (fun nv E=>faB 1 Z Z Tryz.underlying25 Z (by exact z6b)))<|oC (oRn (fun nv E=>ld 1 Z Z (fP (z0b _)) z93 Z))<|oC (oRn (fun nv E=>mv Z))<|oC (oRn (fun nv E=>cut' Z .no (.to Z) h15 tu22 z1z))<|oC (oEf 54 2 (fun nv E=>apn 54 Z Z Z .rd h17 tu22 z1z Z Z Z))<|oC (oRn (fun nv E=>ld 2 Z Z fH z3t Z))<|oC (oFz (A1:=fun nv=>[(55,some ((nv 3),.list aZ 31 [a1]))]) 55 3 (oEf 55 3 (fun nv E=>lit (R:=aZ) ([a1]:List V3) 55 (pP Z Z<|pN) Z tu22 z1z Z Z)))<|oC (oEf 54 4 (fun nv E=>apn 54 Z Z Z .rd h19 tu22 z1z Z Z Z))<|oC (oRn (fun nv E=>faB 1 Z Z Tryz.underlying25 Z (by exact z6b)))<|oC (oRn (fun nv E=>ld 1 Z Z (fP (z0b _)) z93 Z))<|oC (oRn (fun nv E=>mv Z))<|oC (oRn (fun nv E=>cut' Z (.to Z) .no h21 tu22 z1z))<|oC (oEf 54 5 (fun nv E=>apn 54 Z Z Z .rd h23 tu22 z1z Z Z Z))<|oC (oRn (fun nv E=>faB 5 Z Z Tryz.underlying25 Z (by exact z6b)))<|oC (oEs 5 (fun nv E=>zmf 5 Z Z (z9e.cast (z9e.here z04) Z) Z z0i z04 z6b))<|oN) fun n24=>z0n<|z0t<|zps [(3,.val (z05 v1 0)),(5,.val (z05 v3 0)),(6,.val (z05 v4 0)),(7,.val (z05 v5 0)),(8,.rd z0c s6)] [(1,some (v1,.box 25 [.rd z01 a0])),(2,some (v2,.box 31 [.rd aZ a1])),(3,some (v3,.box 57 [.rd z03 a2])),(4,some (v4,.box 25 [.val (.slice none 0 0),.val (.slice none 0 0)])),(5,some (v5,.box 25 [.val (n24 5),.val (.slice none 0 0)])),(54,some ((n24 5),.list aZ 31 x22))] [1,2,3,4,5,54] (Zs Z Z Z Z<|sS Z<|sN) (Zi Z<|Zi Z<|Zi Z<|Zi Z<|Zi Z<|Zi Z<|rN)<|z43 fun x25 h26=>z43 fun x27 h28=>z43 fun x29 h30=>z43 fun x31 h32=>z43 fun x33 h34=>gOr [] [⟨56,none,[(0,some ([1], fun nv=>((nv 1),.list z03 57 ([]:List z08)))),(5,some ([2], fun nv=>((nv 2),.list z03 57 x27))),(8,some ([4], fun nv=>((nv 4),.list z03 57 x29))),(13,some ([5], fun nv=>((nv 5),.list z03 57 x33)))]⟩,⟨1,some ([], fun nv=>(v1,.box 25 [.rd z01 a0])),[]⟩,⟨3,some ([], fun nv=>(v3,.box 57 [.rd z03 a2])),[]⟩,⟨57,none,[(7,none)]⟩,⟨5,some ([], fun nv=>(v5,.box 25 [.val (n24 5),.val (.slice none 0 0)])),[(15,some ([5], fun nv=>(v5,.box 25 [.val (n24 5),.val (nv 5)])))]⟩] [⟨some (42,[1], fun nv=>.val (nv 1)),[(0,0,true)],[1],[]⟩,pk 43 (.val (z05 v1 (0+1))) [(1,0,false)],pk 44 (.rd (z02 z03) a0.Ops) [(1,0,false)],pd 45 (.rd z0c s6),pd 46 (.rd (z02 z03) x25),⟨some (47,[2], fun nv=>.val (nv 2)),[(0,1,true)],[2],[]⟩,pk 48 (.rd z03 a2) [(2,0,false)],⟨some (49,[], fun nv=>.rd (z02 z03) [a2]),[(3,0,true)],[3],[]⟩,⟨some (50,[4], fun nv=>.val (nv 4)),[(0,2,true)],[4],[]⟩,pk 51 (.val (z05 v1 (0+1))) [(1,0,false)],pk 52 (.rd (z02 z03) a0.Ops) [(1,0,false)],pd 53 (.rd z0c s6),pd 54 (.rd (z02 z03) x31),⟨some (55,[5], fun nv=>.val (nv 5)),[(0,3,true)],[5],[]⟩,pk 56 (.val (z05 v5 (0+1))) [(4,0,false)],⟨none,[(4,0,true),(0,4,false)],[],[]⟩] mixed (oC (oEf 56 1 (fun nv E=>lit (R:=z03) (([]:List z08):List z08) 56 (pN) Z tu23 z5t Z Z))<|oC (oRn (fun nv E=>faB 1 Z Z Tryz.underlying25 Z (by exact zas)))<|oC (oRn (fun nv E=>ld 1 Z Z (fP (z0a _)) zf4 Z))<|oC (oRn (fun nv E=>mv Z))<|oC (oRn (fun nv E=>cut' Z .no (.to Z) h26 tu23 z5t))<|oC (oEf 56 2 (fun nv E=>apn 56 Z Z Z .rd h28 tu23 z5t Z Z Z))<|oC (oRn (fun nv E=>ld 3 Z Z fH z9t Z))<|oC (oFz (A1:=fun nv=>[(57,some ((nv 3),.list z03 57 [a2]))]) 57 3 (oEf 57 3 (fun nv E=>lit (R:=z03) ([a2]:List z08) 57 (pP Z Z<|pN) Z tu23 z5t Z Z)))<|oC (oEf 56 4 (fun nv E=>apn 56 Z Z Z .rd h30 tu23 z5t Z Z Z))<|oC (oRn (fun nv E=>faB 1 Z Z Tryz.underlying25 Z (by exact zas)))<|oC (oRn (fun nv E=>ld 1 Z Z (fP (z0a _)) zf4 Z))<|oC (oRn (fun nv E=>mv Z))<|oC (oRn (fun nv E=>cut' Z (.to Z) .no h32 tu23 z5t))<|oC (oEf 56 5 (fun nv E=>apn 56 Z Z Z .rd h34 tu23 z5t Z Z Z))<|oC (oRn (fun nv E=>faB 5 Z Z Tryz.underlying25 Z (by exact zas)))<|oC (oEs 5 (fun nv E=>zmf 5 Z Z (z9e.cast (z9e.next z04 (z9e.here z04)) Z) Z z0i z04 zas))<|oN) fun n35=>z0n<|gSR<|zt3 [.rd (z02 aZ) x22,.val (n35 5)] 5 54 [] [.val (n35 5)] Z Z Z Z Z<|zt3 [.rd (z02 aZ) x22,.rd (z02 z03) x33] 5 56 [.rd (z02 aZ) x22] [] Z Z Z Z Z<|zbs (R:=z01) (⟨x22,x33⟩:z00) 5 Z (Sp.via (Sp.prod (Sp.prod Sp.unit)))<|Zq (ld 5 Z Z fH z3k Z)<|Zc [] [] Tryz.func6 Z (zkg _) fun r36 n37=>z9m aZ [.rd (z02 aZ) [],.val (.slice none 0 0)] 4 [] [.val (.slice none 0 0)] Z Z Z<|z9m z03 [.rd (z02 aZ) [],.rd (z02 z03) []] 4 [.rd (z02 aZ) []] [] Z Z Z<|zbs (R:=z01) (⟨[],[]⟩:z00) 4 Z (Sp.via (Sp.prod (Sp.prod Sp.unit)))<|Es (sto 4 Z Z fH Z z3v)<|Zn<|z0j<|zb4 [] [] Z (eC 4 Z Z z3k<|eN) (rN)
def z96 (a0:List z08) (s4:Int):Option (Sum (Sum (z00 × Int) Unit) Int) :=
 if decide (s4<(a0.length:Int)) then
  idx a0 s4 >>= fun x6 =>
  z5p x6 >>= fun r8 =>
  if r8 != 0 then
   idx a0 s4 >>= fun x11 =>
   z5p x11 >>= fun r13 =>
   some (.inl (.inl ((⟨[],[]⟩:z00),r13)))
  else
   some (.inr (w64 (s4+1)))
 else
  some (.inl (.inr ()))
def z8z (a0:List z08) (s17:(List V3) × (List z08) × Int):Option (Sum (Sum (z00 × Int) ((List V3) × (List z08))) ((List V3) × (List z08) × Int)) :=
 if decide (s17.2.2<(a0.length:Int)) then
  idx a0 s17.2.2 >>= fun x19 =>
  z3p x19 >>= fun r21 =>
  z5l s17.1 r21 >>= fun r24 =>
  if decide (0≤r24) then
   some (.inl (.inl ((⟨[],[]⟩:z00),14)))
  else
   idx a0 s17.2.2 >>= fun x27 =>
   z9d (⟨s17.1,s17.2.1⟩:z00) r21 x27 >>= fun r29 =>
   some (w64 (s17.2.2+1)) >>= fun y31 =>
   some (.inr (r29.IDs,r29.Ops,y31))
 else
  some (.inl (.inr (s17.1,s17.2.1)))
def z4o (a0:List z08):Option (z00 × Int) :=
 if decide (60<(a0.length:Int)) then
  some ((⟨[],[]⟩:z00),4)
 else
  z5u (iter (z96 a0) 0) fun s3 =>
  z5u (iter (z8z a0) ([],[],0)) fun s16 =>
  z6j (⟨s16.1,s16.2⟩:z00) >>= fun r32 =>
  if r32 != 0 then
   z6j (⟨s16.1,s16.2⟩:z00) >>= fun r35 =>
   some ((⟨[],[]⟩:z00),r35)
  else
   some ((⟨s16.1,s16.2⟩:z00),0)
theorem zb9 (a0:List z08):z1o Tryz.prog 4 [.rd (z02 z03) a0] [] (z4o a0) (fun r nv=>⟨[.rd z01 r.1,.rd z0c r.2],[]⟩):=by
 refine z29 61 Tryz.func4 Z Z Z fun H w=>?_;refine gSR<|Eb Z (z4i 1 z3v (ZrE.nilS (ZrE.nilS ZrE.nil))) fun v1=>Zb Z<|z0t<|gSR<|Zm Z<|Zq (z3h Z .rd Z tu23)<|Zq (I.gtr Z Z)<|Zj Z (fun h2=>?_) (fun h2=>?_)
 ·refine gSR<|Zq (zlv [(0,1),(1,1)] Tryz.underlying25 z3v (ZrE.nilS (ZrE.nilS ZrE.nil)) Z (zfm.done Z))<|Es (zkr 1 Z Z (z07.cast (z07.cons z04 (z07.cons z04 z07.nil)) Z) Z (z1i.cons z0i (z1i.cons z0i z1i.nil)) (z07.cast (z07.cons z04 (z07.cons z04 z07.nil)) Z) z3v)<|Zb Z<|z0j<|z0v<|zgs aZ [.rd (z02 aZ) [],.val (.slice none 0 0)] 1 [] [.val (.slice none 0 0)] Z Z Z<|zgs z03 [.rd (z02 aZ) [],.rd (z02 z03) []] 1 [.rd (z02 aZ) []] [] Z Z Z<|zoi (R:=z01) (⟨[],[]⟩:z00) 1 Z (Sp.via (Sp.prod (Sp.prod Sp.unit)))<|zb4 [] [] Z (eC 1 Z Z z3k<|eE Z<|eN) (rN)
 ·refine Zt<|z8g (fun (s3:Unit) aa ww=>Sta (ctx 61 H [] w) [(0,.rd (z02 z03) a0),(2,.val (z05 v1 0))] [(1,some (v1,.box 25 [.val (.slice none 0 0),.val (.slice none 0 0)]))] aa ww) ?_ (fun s3=>?_)
  ·refine gSR<|Zb Z<|z24 (fun (s4:Int) aa ww=>Sta (ctx 61 H [] w) [(0,.rd (z02 z03) a0),(2,.val (z05 v1 0)),(4,.rd z0c s4)] [(1,some (v1,.box 25 [.val (.slice none 0 0),.val (.slice none 0 0)]))] aa ww) (fun aa ww h=>Zu h [1]) (fun s4=>?_);refine z0t<|gSR<|Zm Z<|Zm Z<|Zq (z3h Z .rd Z tu23)<|Zq (I.lss Z Z)<|Zj Z (fun h5=>?_) (fun h5=>?_)
   ·refine Zt<|z0t<|z4m<|gSR<|Zm Z<|Zm Z<|z0m fun x6 h7=>Zq (ixR Z Z h7 tu23 z5t Z)<|Zq (ldR Z z9t)<|Zc [] [] Tryz.func17 Z (zan _) fun r8 n9=>Zq (I.neq Z Z)<|Zj Z (fun h10=>?_) (fun h10=>?_)
    ·refine gSR<|Zq (zlv [(0,1),(1,1)] Tryz.underlying25 z3v (ZrE.nilS (ZrE.nilS ZrE.nil)) Z (zfm.done Z))<|Zm Z<|Zm Z<|z0m fun x11 h12=>Zq (ixR Z Z h12 tu23 z5t Z)<|Zq (ldR Z z9t)<|Zc [] [] Tryz.func17 Z (zan _) fun r13 n14=>Es (zkr 1 Z Z (z07.cast (z07.cons z04 (z07.cons z04 z07.nil)) Z) Z (z1i.cons z0i (z1i.cons z0i z1i.nil)) (z07.cast (z07.cons z04 (z07.cons z04 z07.nil)) Z) z3v)<|Zb Z<|z0j<|z3w<|z0v<|z7m<|z7j<|zgs aZ [.rd (z02 aZ) [],.val (.slice none 0 0)] 1 [] [.val (.slice none 0 0)] Z Z Z<|zgs z03 [.rd (z02 aZ) [],.rd (z02 z03) []] 1 [.rd (z02 aZ) []] [] Z Z Z<|zoi (R:=z01) (⟨[],[]⟩:z00) 1 Z (Sp.via (Sp.prod (Sp.prod Sp.unit)))<|zb4 [] [] Z (eC 1 Z Z z3k<|eE Z<|eN) (rN)
    ·refine z2p<|z3a<|z0n<|z2b<|Zm Z<|Zq (I.add Z Z)<|Za Z<|z1n<|z1j (fun aa ww h=>Zu h [1])
   ·refine z1w<|z0w<|z0y<|z7p (fun aa ww h=>Zu h [1])
  ·refine gSR<|Eb Z (z4i 2 z3v (ZrE.nilS (ZrE.nilS ZrE.nil))) fun v15=>Zn<|z8g (fun (s16:(List V3) × (List z08)) aa ww=>Sta (ctx 61 H [] w) [(2,.val (z05 v1 0)),(5,.val (z05 v15 0))] [(1,some (v1,.box 25 [.val (.slice none 0 0),.val (.slice none 0 0)])),(2,some (v15,.box 25 [.rd (z02 aZ) s16.1,.rd (z02 z03) s16.2]))] aa ww) ?_ (fun s16=>?_)
   ·refine gSR<|Zb Z<|gPnl aZ [.rd (z02 aZ) [],.val (.slice none 0 0)] 2 [] [.val (.slice none 0 0)] Z Z Z<|gPnl z03 [.rd (z02 aZ) [],.rd (z02 z03) []] 2 [.rd (z02 aZ) []] [] Z Z Z<|z24 (fun (s17:(List V3) × (List z08) × Int) aa ww=>Sta (ctx 61 H [] w) [(0,.rd (z02 z03) a0),(2,.val (z05 v1 0)),(5,.val (z05 v15 0)),(6,.rd z0c s17.2.2)] [(1,some (v1,.box 25 [.val (.slice none 0 0),.val (.slice none 0 0)])),(2,some (v15,.box 25 [.rd (z02 aZ) s17.1,.rd (z02 z03) s17.2.1]))] aa ww) (fun aa ww h=>Zu h [1,2]) (fun s17=>?_)
    refine z0t<|gSR<|Zm Z<|Zm Z<|Zq (z3h Z .rd Z tu23)<|Zq (I.lss Z Z)<|Zj Z (fun h18=>?_) (fun h18=>?_)
    ·refine Zt<|z0t<|z4m<|gSR<|Zm Z<|Zm Z<|z0m fun x19 h20=>Zq (ixR Z Z h20 tu23 z5t Z)<|Zq (ldR Z z9t)<|Zc [] [] Tryz.func18 Z (z4e _) fun r21 n22=>Eb Z (z4i 3 z1z (.zr (R:=aZ) (x:=(Vector.replicate 32 0)) zef)) fun v23=>Es (sto 3 Z Z fH Z z1z)<|Zn<|z0t<|gSR<|Zq (faB 2 Z Z Tryz.underlying25 Z (by exact z6b))<|Zq (ld 2 Z Z (Foc.cast fH Z) z93 Z)<|Zq (ld 3 Z Z fH z3t Z)<|Zc [] [] Tryz.func19 Z (zgm _ _) fun r24 n25=>Zq (I.geq Z Z)<|Zj Z (fun h26=>?_) (fun h26=>?_)
     ·refine gSR<|Zq (zlv [(0,1),(1,1)] Tryz.underlying25 z3v (ZrE.nilS (ZrE.nilS ZrE.nil)) Z (zfm.done Z))<|Es (zkr 1 Z Z (z07.cast (z07.cons z04 (z07.cons z04 z07.nil)) Z) Z (z1i.cons z0i (z1i.cons z0i z1i.nil)) (z07.cast (z07.cons z04 (z07.cons z04 z07.nil)) Z) z3v)<|Zb Z<|z0j<|z0v<|z3w<|z0v<|z7m<|z7j<|zgs aZ [.rd (z02 aZ) [],.val (.slice none 0 0)] 1 [] [.val (.slice none 0 0)] Z Z Z<|zgs z03 [.rd (z02 aZ) [],.rd (z02 z03) []] 1 [.rd (z02 aZ) []] [] Z Z Z<|zoi (R:=z01) (⟨[],[]⟩:z00) 1 Z (Sp.via (Sp.prod (Sp.prod Sp.unit)))<|zb4 [] [] Z (eC 1 Z Z z3k<|eE Z<|eN) (rN)
     ·refine Zt<|gJoi (R:=z01) (⟨s17.1,s17.2.1⟩:z00) 2 Z (Sp.via (Sp.prod (Sp.prod Sp.unit)))<|z8s [2] mixed Z Z<|hTk 1 Z Z (ld 3 Z Z fH z3t Z)<|hTk 2 Z Z (mv Z)<|hTk 3 Z Z (mv Z)<|z5o fun x27 h28=>hTk 4 Z Z (ixR Z Z h28 tu23 z5t Z)<|hTk 5 Z Z (ldR Z z9t)<|hRun 0 Z (by kernel_rfl) (gd0 Z) Z Z anyJ (ld 2 Z Z fH z3k Z)<|zlu 6 [] [] Z (by kernel_rfl) Z (gd0 Z) Z Tryz.func20 Z Z (zl4 _ _ _) (aQ Z<|aQ Z<|aQ Z<|aN) rN Z fun r29 n30=>Zp 7 Z Z Z Z Z (sto 2 Z Z fH Z z3v)<|z54 (by kernel_rfl)<|z3a<|z0n<|z2b<|Zm Z<|Zq (I.add Z Z)<|Za Z<|z1x 6 Z fun y31=>z1n<|eSpl (R:=z01) 2 Z (Sp.via (Sp.prod (Sp.prod Sp.unit)))<|z1j (fun aa ww h=>Zu h [1,2])
    ·refine z1w<|z0w<|z0y<|z7p (fun aa ww h=>Zu h [1,2])
   ·refine z0t<|gSR<|zbs (R:=z01) (⟨s16.1,s16.2⟩:z00) 2 Z (Sp.via (Sp.prod (Sp.prod Sp.unit)))<|Zq (ld 2 Z Z fH z3k Z)<|Zc [] [] Tryz.func21 Z (zbe _) fun r32 n33=>Zq (I.neq Z Z)<|Zj Z (fun h34=>?_) (fun h34=>?_)
    ·refine gSR<|Zq (zlv [(0,1),(1,1)] Tryz.underlying25 z3v (ZrE.nilS (ZrE.nilS ZrE.nil)) Z (zfm.done Z))<|Zq (ld 2 Z Z fH z3k Z)<|Zc [] [] Tryz.func21 Z (zbe _) fun r35 n36=>Es (zkr 1 Z Z (z07.cast (z07.cons z04 (z07.cons z04 z07.nil)) Z) Z (z1i.cons z0i (z1i.cons z0i z1i.nil)) (z07.cast (z07.cons z04 (z07.cons z04 z07.nil)) Z) z3v)<|Zb Z<|z0j<|z0v<|zgs aZ [.rd (z02 aZ) [],.val (.slice none 0 0)] 1 [] [.val (.slice none 0 0)] Z Z Z<|zgs z03 [.rd (z02 aZ) [],.rd (z02 z03) []] 1 [.rd (z02 aZ) []] [] Z Z Z<|zoi (R:=z01) (⟨[],[]⟩:z00) 1 Z (Sp.via (Sp.prod (Sp.prod Sp.unit)))<|zb4 [] [] Z (eC 1 Z Z z3k<|eE Z<|eN) (rN)
    ·refine Zt<|gSR<|Zq (ld 2 Z Z fH z3k Z)<|z9m aZ [.rd (z02 aZ) [],.val (.slice none 0 0)] 1 [] [.val (.slice none 0 0)] Z Z Z<|z9m z03 [.rd (z02 aZ) [],.rd (z02 z03) []] 1 [.rd (z02 aZ) []] [] Z Z Z<|zbs (R:=z01) (⟨[],[]⟩:z00) 1 Z (Sp.via (Sp.prod (Sp.prod Sp.unit)))<|Es (sto 1 Z Z fH Z z3v)<|Zb Z<|z0j<|zb4 [] [] Z (eC 1 Z Z z3k<|eE Z<|eN) (rN)
def z8l (a0:List z00) (s2:Int):Option (Sum (Sum Int Unit) Int) :=
 if decide (s2<(a0.length:Int)) then
  idx a0 s2 >>= fun x4 =>
  z11 x4 >>= fun r7 =>
  if r7 != 0 then
   some (.inl (.inl r7))
  else
   some (.inr (w64 (s2+1)))
 else
  some (.inl (.inr ()))
def zhv (a0:List z00):Option (Int) :=
 z5u (iter (z8l a0) 0) fun s1 =>
 some 0
theorem zqj (a0:List z00):z1o Tryz.prog 58 [.rd (z02 z01) a0] [zG1] (zhv a0) (fun r nv=>⟨[.rd z0c r],[(1001,some (.bool true,.glob 1 (z3b 64 z0o) z52))]⟩):=by
 refine z29 18 Tryz.func58 Z Z Z fun H w=>?_;refine gSR<|Zb Z<|z8g (fun (s1:Unit) aa ww=>Sta (ctx 18 H [zG1] w) [] [zG1] aa ww) ?_ (fun s1=>?_)
 ·refine gSR<|Zm Z<|Zq (z3h Z .rd Z Tryz.underlying135)<|Zm Z<|Zn<|z24 (fun (s2:Int) aa ww=>Sta (ctx 18 H [zG1] w) [(6,.rd (z02 z01) a0),(7,.rd z0c (a0.length:Int)),(8,.rd z0c s2)] [zG1] aa ww) (fun aa ww h=>Zu h [1001]) (fun s2=>?_);refine gSR<|Zq (I.lss Z Z)<|Zn<|z0t<|gIf Z Z (fun h3=>?_) (fun h3=>?_)
  ·refine Zt<|z0t<|z4m<|gSR<|z0m fun x4 h5=>Zq (ixR Z Z h5 Tryz.underlying135 z3v Z)<|Zq (ldR Z z3k)<|Eb Z (z4i 1100 z3v (ZrE.nilS (ZrE.nilS ZrE.nil))) fun v6=>z9m aZ [.rd (z02 aZ) [],.val (.slice none 0 0)] 1100 [] [.val (.slice none 0 0)] Z Z Z<|z9m z03 [.rd (z02 aZ) [],.rd (z02 z03) []] 1100 [.rd (z02 aZ) []] [] Z Z Z<|zbs (R:=z01) (⟨[],[]⟩:z00) 1100 Z (Sp.via (Sp.prod (Sp.prod Sp.unit)))<|Es (sto 1100 Z Z fH Z z3v)<|Zn<|gSR<|Zq (ld 1100 Z Z fH z3k Z)<|Zc [1001] [] Tryz.func43 Z (z9y _) fun r7 n8=>Zb Z<|gSR<|Zm Z<|Zq (I.neq Z Z)<|Zj Z (fun h9=>?_) (fun h9=>?_)
   ·refine gSR<|Zm Z<|Zb Z<|z0j<|z3w<|z0v<|z7m<|z7j<|Ze [] [1001] Z
   ·refine z2p<|z3a<|z0n<|z2b<|Zq (I.add Z Z)<|Zm Z<|z1n<|z1j (fun aa ww h=>Zu h [1001])
  ·refine z1w<|z0w<|z0y<|z7p (fun aa ww h=>Zu h [1001])
 ·refine gSR<|Zb Z<|z0j<|Ze [] [1001] Z
def z2d (a0:List V3) (a1:List V3) (s3:Int):Option (Sum (Sum Bool Unit) Int) :=
 if decide (s3<(a0.length:Int)) then
  idx a0 s3 >>= fun x5 =>
  idx a1 s3 >>= fun x7 =>
  if !decide (x5=x7) then
   some (.inl (.inl false))
  else
   some (.inr (w64 (s3+1)))
 else
  some (.inl (.inr ()))
def z4g (a0:List V3) (a1:List V3):Option (Bool) :=
 if (a0.length:Int) != (a1.length:Int) then
  some false
 else
  z5u (iter (z2d a0 a1) 0) fun s2 =>
  some true
theorem zdf (a0:List V3) (a1:List V3):z1o Tryz.prog 100 [.rd (z02 aZ) a0,.rd (z02 aZ) a1] [] (z4g a0 a1) (fun r nv=>⟨[.rd z0h r],[]⟩):=by
 refine z29 26 Tryz.func100 Z Z Z fun H w=>?_;refine gSR<|Zb Z<|z0t<|gSR<|Zm Z<|Zq (z3h Z .rd Z tu22)<|Zm Z<|Zq (z3h Z .rd Z tu22)<|Zq (I.neq Z Z)<|Zj Z (fun h1=>?_) (fun h1=>?_)
 ·refine gSR<|Zb Z<|z0j<|z0v<|Ze [] [] Z
 ·refine Zt<|z8g (fun (s2:Unit) aa ww=>Sta (ctx 26 H [] w) [] [] aa ww) ?_ (fun s2=>?_)
  ·refine gSR<|Zm Z<|Zq (z3h Z .rd Z tu22)<|Zm Z<|Zn<|z24 (fun (s3:Int) aa ww=>Sta (ctx 26 H [] w) [(0,.rd (z02 aZ) a0),(1,.rd (z02 aZ) a1),(12,.rd z0c (a0.length:Int)),(13,.rd z0c s3)] [] aa ww) (fun aa ww h=>Zu h []) (fun s3=>?_);refine gSR<|Zq (I.lss Z Z)<|Zn<|z0t<|gIf Z Z (fun h4=>?_) (fun h4=>?_)
   ·refine Zt<|z0t<|z4m<|gSR<|Zm Z<|Zb Z<|z0t<|zid mixed (by kernel_rfl)<|Rq Z (mv Z)<|Rq Z (mv Z)<|z8e fun x5 h6=>Rq Z (ixR Z Z h6 tu22 z1z Z)<|Rq Z (ldR Z z3t)<|Rq Z (mv Z)<|Rq Z (mv Z)<|z8e fun x7 h8=>Rq Z (ixR Z Z h8 tu22 z1z Z)<|Rq Z (ldR Z z3t)<|Rq Z (neA Z Z eq31 Z Z gq31)<|zss<|z0n<|gIf Z Z (fun h9=>?_) (fun h9=>?_)
    ·refine gSR<|Zb Z<|z0j<|z3w<|z0v<|z7m<|z7j<|Ze [] [] Z
    ·refine z2p<|z3a<|z0n<|z2b<|Zq (I.add Z Z)<|Zm Z<|z1n<|z1j (fun aa ww h=>Zu h [])
   ·refine z1w<|z0w<|z0y<|z7p (fun aa ww h=>Zu h [])
  ·refine gSR<|Zb Z<|z0j<|Ze [] [] Z
def zm6 (a0:z08) (a1:z08):Option (Bool) :=
 if a0.Author==a1.Author then
  if a0.Stamp==a1.Stamp then
   if decide (a0.Act=a1.Act) then
    if decide (a0.Sig=a1.Sig) then
     z4g a0.Preds a1.Preds >>= fun r7 =>
     some r7
    else
     some false
   else
    some false
  else
   some false
 else
  some false
theorem ztf (a0:z08) (a1:z08):z1o Tryz.prog 60 [.rd z03 a0,.rd z03 a1] [] (zm6 a0 a1) (fun r nv=>⟨[.rd z0h r],[]⟩):=by
 refine z29 38 Tryz.func60 Z Z Z fun H w=>?_;refine gSR<|Eb Z (bx 1 Z) fun v1=>Eb Z (bx 2 Z) fun v2=>Zb Z<|gSR<|Zq (faB 1 Z Z Tryz.underlying57 Z (by exact z61))<|Zq (ld 1 Z Z (fP (z2z _)) z9r Z)<|Zq (faB 2 Z Z Tryz.underlying57 Z (by exact z61))<|Zq (ld 2 Z Z (fP (z2z _)) z9r Z)<|Zq (W.eql Z Z)<|Zm Z<|z19 10 Z (fun h3=>?_) (fun h3=>?_)
 ·refine lKn 9 Z h3<|z17 Zx Z Z (faB 1 Z Z Tryz.underlying57 Z (by exact zqm))<|z17 Zx Z Z (ld 1 Z Z (fP (z4a _)) zpo Z)<|z17 Zx Z Z (faB 2 Z Z Tryz.underlying57 Z (by exact zqm))<|z17 Zx Z Z (ld 2 Z Z (fP (z4a _)) zpo Z)<|z17 Zx Z Z (U.eql Z Z)<|Zq (pkT Z Z)<|Zm Z<|z19 17 Z (fun h4=>?_) (fun h4=>?_)
  ·refine lKn 15 Z h4<|lKn 16 Z h4<|z17 Zx Z Z (faB 1 Z Z Tryz.underlying57 Z (by exact zph))<|z17 Zx Z Z (ld 1 Z Z (fP (z2h _)) ty53 Z)<|z17 Zx Z Z (faB 2 Z Z Tryz.underlying57 Z (by exact zph))<|z17 Zx Z Z (ld 2 Z Z (fP (z2h _)) ty53 Z)<|z17 Zx Z Z (eqA Z Z eq53 Z Z gq53)<|Zq (pkT Z Z)<|Zm Z<|z19 24 Z (fun h5=>?_) (fun h5=>?_)
   ·refine lKn 22 Z h5<|lKn 23 Z h5<|z17 Zx Z Z (faB 1 Z Z Tryz.underlying57 Z (by exact zll))<|z17 Zx Z Z (ld 1 Z Z (fP (z2g _)) ty55 Z)<|z17 Zx Z Z (faB 2 Z Z Tryz.underlying57 Z (by exact zll))<|z17 Zx Z Z (ld 2 Z Z (fP (z2g _)) ty55 Z)<|z17 Zx Z Z (eqA Z Z eq55 Z Z gq55)<|Zq (pkT Z Z)<|Zm Z<|z19 31 Z (fun h6=>?_) (fun h6=>?_)
    ·refine lKn 29 Z h6<|lKn 30 Z h6<|z17 Zx Z Z (faB 1 Z Z Tryz.underlying57 Z (by exact z6b))<|z17 Zx Z Z (ld 1 Z Z (fP (z0z _)) z93 Z)<|z17 Zx Z Z (faB 2 Z Z Tryz.underlying57 Z (by exact z6b))<|z17 Zx Z Z (ld 2 Z Z (fP (z0z _)) z93 Z)<|ze9 [] [] Zx Z Tryz.func100 Z Z (zdf _ _) (Y2 Z Z) rN fun r7 n8=>Zq (pkT Z Z)<|Zb Z<|z0j<|Ze [] [] Z
    ·refine lKn 29 Z h6<|lKn 30 Z h6<|Zk Z<|Zk Z<|Zk Z<|Zk Z<|Zk Z<|Zq (pkF Z Z)<|Zb Z<|z0j<|Ze [] [] Z
   ·refine lKn 22 Z h5<|lKn 23 Z h5<|Zk Z<|Zk Z<|Zk Z<|Zk Z<|Zk Z<|Zq (pkF Z Z)<|Zm Z<|Zk Z<|Zk Z<|Zk Z<|Zk Z<|Zk Z<|Zq (pkF Z Z)<|Zb Z<|z0j<|Ze [] [] Z
  ·refine lKn 15 Z h4<|lKn 16 Z h4<|Zk Z<|Zk Z<|Zk Z<|Zk Z<|Zk Z<|Zq (pkF Z Z)<|Zm Z<|Zk Z<|Zk Z<|Zk Z<|Zk Z<|Zk Z<|Zq (pkF Z Z)<|Zm Z<|Zk Z<|Zk Z<|Zk Z<|Zk Z<|Zk Z<|Zq (pkF Z Z)<|Zb Z<|z0j<|Ze [] [] Z
 ·refine lKn 9 Z h3<|Zk Z<|Zk Z<|Zk Z<|Zk Z<|Zk Z<|Zq (pkF Z Z)<|Zm Z<|Zk Z<|Zk Z<|Zk Z<|Zk Z<|Zk Z<|Zq (pkF Z Z)<|Zm Z<|Zk Z<|Zk Z<|Zk Z<|Zk Z<|Zk Z<|Zq (pkF Z Z)<|Zm Z<|Zk Z<|Zk Z<|Zk Z<|Zk Z<|Zk Z<|Zq (pkF Z Z)<|Zb Z<|z0j<|Ze [] [] Z
def zi0 (a0:z00) (a2:z08) (r5:Int × Bool) (r11:List V3) (s16:(List z08) × Int):Option (Sum ((List z08)) ((List z08) × Int)) :=
 if decide (s16.2<(r11.length:Int)) then
  some (decide (s16.2<r5.1)) >>= fun y19 =>
  if y19 then
   idx a0.Ops s16.2 >>= fun x21 =>
   zdm x21 >>= fun r23 =>
   app 112 s16.1 [r23] >>= fun x26 =>
   some (.inr (x26,w64 (s16.2+1)))
  else
   some (s16.2==r5.1) >>= fun y29 =>
   if y29 then
    zdm a2 >>= fun r31 =>
    app 112 s16.1 [r31] >>= fun x34 =>
    some (.inr (x34,w64 (s16.2+1)))
   else
    idx a0.Ops (w64 (s16.2 - 1)) >>= fun x37 =>
    zdm x37 >>= fun r39 =>
    app 112 s16.1 [r39] >>= fun x42 =>
    some (.inr (x42,w64 (s16.2+1)))
 else
  some (.inl s16.1)
def zhg (a0:z00) (a1:V3) (a2:z08):Option (z00 × Bool) :=
 zcs a0 a1 >>= fun r5 =>
 if r5.2 then
  some (a0,false)
 else
  z0p a0.IDs >>= fun r8 =>
  insF r8 r5.1 [a1] >>= fun r11 =>
  (iter (zi0 a0 a2 r5 r11) ([],0)) >>= fun s15 =>
  some ((⟨r11,s15⟩:z00),true)
set_option maxHeartbeats 4000000 in
theorem zpb (a0:z00) (a1:V3) (a2:z08):z1o Tryz.prog 62 [.rd z01 a0,.rd aZ a1,.rd z03 a2] [] (zhg a0 a1 a2) (fun r nv=>⟨[.rd z01 r.1,.rd z0h r.2],[]⟩):=by
 refine z29 74 Tryz.func62 Z Z Z fun H w=>?_;refine gSR<|Eb Z (bx 1 Z) fun v1=>Eb Z (bx 2 Z) fun v2=>Eb Z (bx 3 Z) fun v3=>Eb Z (z4i 4 z3v (ZrE.nilS (ZrE.nilS ZrE.nil))) fun v4=>Zb Z<|gSR<|Zq (ld 1 Z Z fH z3k Z)<|Zq (ld 2 Z Z fH z3t Z)<|Zc [] [] Tryz.func59 Z (zdw _ _) fun r5 n6=>Zm Z<|Zq (ext Z Z)<|Zq (ext Z Z)<|Za Z<|Zb Z<|z0t<|gSR<|Zm Z<|Zj Z (fun h7=>?_) (fun h7=>?_)
 ·refine gKn 17 Z h7<|gKn 9 Z h7<|gSR<|Zq (ld 1 Z Z fH z3k Z)<|z9m aZ [.rd (z02 aZ) [],.val (.slice none 0 0)] 4 [] [.val (.slice none 0 0)] Z Z Z<|z9m z03 [.rd (z02 aZ) [],.rd (z02 z03) []] 4 [.rd (z02 aZ) []] [] Z Z Z<|zbs (R:=z01) (⟨[],[]⟩:z00) 4 Z (Sp.via (Sp.prod (Sp.prod Sp.unit)))<|Es (sto 4 Z Z fH Z z3v)<|Zb Z<|z0j<|z0v<|zb4 [] [] Z (eC 4 Z Z z3k<|eE Z<|eN) (rN)
 ·refine gKn 17 Z h7<|gKn 9 Z h7<|Zt<|z0t<|zps [(3,.val (z05 v1 0)),(4,.val (z05 v2 0)),(5,.val (z05 v3 0)),(6,.val (z05 v4 0)),(8,.rd z0c r5.1)] [(1,some (v1,.box 25 [.rd z01 a0])),(2,some (v2,.box 31 [.rd aZ a1])),(3,some (v3,.box 57 [.rd z03 a2])),(4,some (v4,.box 25 [.val (.slice none 0 0),.val (.slice none 0 0)]))] [1,2,3,4] (Zs Z Z Z Z<|sS Z<|sN) (Zi Z<|Zi Z<|Zi Z<|Zi Z<|rN)<|z43 fun r8 h10=>z43 fun r11 h13=>gOr [] [⟨1,some ([], fun nv=>(v1,.box 25 [.rd z01 a0])),[]⟩,⟨5,none,[(2,some ([1], fun nv=>((nv 1),.list aZ 31 r8))),(6,none)]⟩,⟨2,some ([], fun nv=>(v2,.box 31 [.rd aZ a1])),[]⟩,⟨6,none,[(5,some ([2], fun nv=>((nv 2),.list aZ 31 [a1]))),(6,none)]⟩,⟨7,none,[(6,some ([3], fun nv=>((nv 3),.list aZ 31 r11)))]⟩,⟨8,none,[(8,some ([4], fun nv=>((nv 4),.box 25 [.val (.slice none 0 0),.val (.slice none 0 0)]))),(9,some ([3,4], fun nv=>((nv 4),.box 25 [.val (nv 3),.val (.slice none 0 0)])))]⟩] [pk 20 (.val (z05 v1 (0+0))) [(0,0,false)],pk 21 (.rd (z02 aZ) a0.IDs) [(0,0,false)],⟨some (22,[1], fun nv=>.val (nv 1)),[(1,0,true)],[1],[]⟩,pd 23 (.rd z0c r5.1),pk 24 (.rd aZ a1) [(2,0,false)],⟨some (25,[2], fun nv=>.val (nv 2)),[(3,0,true)],[2],[]⟩,⟨some (26,[3], fun nv=>.val (nv 3)),[(3,1,true),(1,1,true),(4,0,true)],[3],[]⟩,⟨some (27,[3], fun nv=>.agg [.val (nv 3),.val (.slice none 0 0)]),[],[],[]⟩,⟨some (10,[4], fun nv=>.val (z05 (nv 4) 0)),[(5,0,true)],[4],[]⟩,⟨none,[(5,1,true)],[],[]⟩] mixed (oC (oRn (fun nv E=>faB 1 Z Z Tryz.underlying25 Z (by exact z6b)))<|oC (oRn (fun nv E=>ld 1 Z Z (fP (z0b _)) z93 Z))<|oC (oCl [1] [] [(100,5)] h10 Tryz.func26 Z (fun nv=>(z1a _)) (fun nv=>(Y1 Z)) (fun nv E=>rN))<|oC (oRn (fun nv E=>mv Z))<|oC (oRn (fun nv E=>ld 2 Z Z fH z3t Z))<|oC (oEf 6 2 (fun nv E=>lit (R:=aZ) ([a1]:List V3) 6 (pP Z Z<|pN) Z tu22 z1z Z Z))<|oC (oCl [3] [5,6] [(100,7)] h13 Tryz.func101 Z (fun nv=>(z15q _ _ _ _ _)) (fun nv=>(aQ Z<|aQ Z<|aQ Z<|aN)) (fun nv E=>(Zi Z<|Zi Z<|rN)))<|oC (oRn (fun nv E=>zlv [(0,1),(1,1)] Tryz.underlying25 z3v (ZrE.nilS (ZrE.nilS ZrE.nil)) Z (zfm.cons Z Z z04 (z9e.cast (z9e.here z04) Z)<|zfm.done Z)))<|oC (oEb 8 4 (fun nv E=>z4i 8 z3v (ZrE.nilS (ZrE.nilS ZrE.nil))))<|oC (oEs 8 (fun nv E=>zkr 8 Z Z (z07.cast (z07.cons z04 (z07.cons z04 z07.nil)) Z) Z (z1i.cons z0i (z1i.cons z0i z1i.nil)) (z07.cast (z07.cons z04 (z07.cons z04 z07.nil)) Z) z3v))<|oN) fun n14=>z0n<|z8d (fun (s15:(List z08)) aa ww=>∃ nv:Nat→Value,Sta (ctx 74 H [] w) [(6,.val (z05 v4 0)),(10,.val (z05 (nv 0) 0))] [(4,some (v4,.box 25 [.val (.slice none 0 0),.val (.slice none 0 0)])),(7,some ((nv 1),.list aZ 31 r11)),(9,some ((nv 2),.list z03 57 s15)),(8,some ((nv 0),.box 25 [.val (nv 1),.val (nv 2)]))] aa ww) ?_ (fun s15=>?_)
  ·refine gSR<|Zq (faB 8 Z Z Tryz.underlying25 Z (by exact z6b))<|Zq (ldV 8 Z Z (At.cast At.here Z) sc22 Z)<|Zq (z3h Z (.own 7 Z) Z tu22)<|Zm Z<|Zn<|zuu z03 57 11<|z24 (fun (s16:(List z08) × Int) aa ww=>∃ nv:Nat→Value,Sta (ctx 74 H [] w) [(3,.val (z05 v1 0)),(5,.val (z05 v3 0)),(6,.val (z05 v4 0)),(8,.rd z0c r5.1),(10,.val (z05 (nv 0) 0)),(30,.rd z0c (r11.length:Int)),(31,.rd z0c s16.2)] [(1,some (v1,.box 25 [.rd z01 a0])),(3,some (v3,.box 57 [.rd z03 a2])),(4,some (v4,.box 25 [.val (.slice none 0 0),.val (.slice none 0 0)])),(7,some ((nv 1),.list aZ 31 r11)),(10,some ((nv 2),.list z03 57 s16.1)),(8,some ((nv 0),.box 25 [.val (nv 1),.val (nv 2)]))] aa ww) (fun aa ww h=>⟨nvl [(n14 4),(n14 3),(.slice none 0 0)],Zu h [1,3,4,7,11,8]⟩) (fun s16=>?_)
   refine gEx fun n17=>gSR<|Zq (I.lss Z Z)<|Zn<|z0t<|gIf Z Z (fun h18=>?_) (fun h18=>?_)
   ·refine Zt<|z0t<|z4m<|gSR<|Zm Z<|Zb Z<|z4m<|gSR<|Zm Z<|Zm Z<|Zq (I.lss Z Z)<|Za Z<|z1x 46 Z fun y19=>Zj Z (fun h20=>?_) (fun h20=>?_)
    ·refine zps [(3,.val (z05 v1 0)),(5,.val (z05 v3 0)),(6,.val (z05 v4 0)),(8,.rd z0c r5.1),(10,.val (z05 (n17 0) 0)),(30,.rd z0c (r11.length:Int)),(31,.rd z0c s16.2),(11,.rd z0c s16.2)] [(1,some (v1,.box 25 [.rd z01 a0])),(3,some (v3,.box 57 [.rd z03 a2])),(4,some (v4,.box 25 [.val (.slice none 0 0),.val (.slice none 0 0)])),(7,some ((n17 1),.list aZ 31 r11)),(10,some ((n17 2),.list z03 57 s16.1)),(8,some ((n17 0),.box 25 [.val (n17 1),.val (n17 2)]))] [1,3,4,7,10,8] (Zs Z Z Z Z<|Zs Z Z Z Z<|sN) (Zi Z<|Zi Z<|Zi Z<|Zi Z<|Zi Z<|Zi Z<|rN)<|z43 fun x21 h22=>z43 fun r23 h25=>z43 fun x26 h27=>gOr [] [⟨8,some ([], fun nv=>((n17 0),.box 25 [.val (n17 1),.val (n17 2)])),[(11,some ([2], fun nv=>((n17 0),.box 25 [.val (n17 1),.val (nv 2)])))]⟩,⟨1,some ([], fun nv=>(v1,.box 25 [.rd z01 a0])),[]⟩,⟨12,none,[(8,none)]⟩,⟨10,some ([], fun nv=>((n17 2),.list z03 57 s16.1)),[(9,some ([2], fun nv=>((nv 2),.list z03 57 x26)))]⟩] [pk 50 (.val (z05 (n17 0) (0+1))) [(0,0,false)],pk 51 (.val (n17 2)) [(0,0,false)],pk 52 (.val (z05 v1 (0+1))) [(1,0,false)],pk 53 (.rd (z02 z03) a0.Ops) [(1,0,false)],pd 54 (.rd z0c s16.2),pd 55 (.rp z03 x21),pd 56 (.rd z03 x21),pd 57 (.rd z03 r23),⟨some (58,[], fun nv=>.rd (z02 z03) [r23]),[(2,0,true)],[1],[]⟩,⟨some (59,[2], fun nv=>.val (nv 2)),[(3,0,true)],[2],[]⟩,pk 60 (.val (z05 (n17 0) (0+1))) [(0,0,false)],⟨none,[(3,1,false),(0,0,true)],[],[]⟩] mixed (oC (oRn (fun nv E=>faB 8 Z Z Tryz.underlying25 Z (by exact zas)))<|oC (oRn (fun nv E=>ldV 8 Z Z (At.cast (At.next z04 At.here) Z) sc23 Z))<|oC (oRn (fun nv E=>faB 1 Z Z Tryz.underlying25 Z (by exact zas)))<|oC (oRn (fun nv E=>ld 1 Z Z (fP (z0a _)) zf4 Z))<|oC (oRn (fun nv E=>mv Z))<|oC (oRn (fun nv E=>ixR Z Z h22 tu23 z5t Z))<|oC (oRn (fun nv E=>ldR Z z9t))<|oC (oCl [] [] [] h25 Tryz.func61 Z (fun nv=>(ze0 _)) (fun nv=>(Y1 Z)) (fun nv E=>rN))<|oC (oFz (A1:=fun nv=>[(12,some ((nv 1),.list z03 57 [r23]))]) 12 1 (oEf 12 1 (fun nv E=>lit (R:=z03) ([r23]:List z08) 12 (pP Z Z<|pN) Z tu23 z5t Z Z)))<|oC (oEf 10 2 (fun nv E=>apn 10 Z Z Z .rd h27 tu23 z5t Z Z Z))<|oC (oRn (fun nv E=>faB 8 Z Z Tryz.underlying25 Z (by exact zas)))<|oC (oEs 8 (fun nv E=>zmf 8 Z Z (z9e.cast (z9e.next z04 (z9e.here z04)) Z) Z z0i z04 zas))<|oN) fun n28=>z3a<|z3a<|z0n<|z2b<|Zq (I.add Z Z)<|Zm Z<|z1n<|z1j (fun aa ww h=>⟨nvl [(n17 0),(n17 1),(n28 2)],Zu h [1,3,4,7,10,8]⟩)
    ·refine gSR<|Zm Z<|Zm Z<|Zq (I.eql Z Z)<|Za Z<|z1x 61 Z fun y29=>Zj Z (fun h30=>?_) (fun h30=>?_)
     ·refine zps [(3,.val (z05 v1 0)),(5,.val (z05 v3 0)),(6,.val (z05 v4 0)),(8,.rd z0c r5.1),(10,.val (z05 (n17 0) 0)),(30,.rd z0c (r11.length:Int)),(31,.rd z0c s16.2)] [(1,some (v1,.box 25 [.rd z01 a0])),(3,some (v3,.box 57 [.rd z03 a2])),(4,some (v4,.box 25 [.val (.slice none 0 0),.val (.slice none 0 0)])),(7,some ((n17 1),.list aZ 31 r11)),(10,some ((n17 2),.list z03 57 s16.1)),(8,some ((n17 0),.box 25 [.val (n17 1),.val (n17 2)]))] [1,3,4,7,10,8] (Zs Z Z Z Z<|sS Z<|sS Z<|sS Z<|sN) (Zi Z<|Zi Z<|Zi Z<|Zi Z<|Zi Z<|Zi Z<|rN)<|z43 fun r31 h33=>z43 fun x34 h35=>gOr [] [⟨8,some ([], fun nv=>((n17 0),.box 25 [.val (n17 1),.val (n17 2)])),[(7,some ([2], fun nv=>((n17 0),.box 25 [.val (n17 1),.val (nv 2)])))]⟩,⟨3,some ([], fun nv=>(v3,.box 57 [.rd z03 a2])),[]⟩,⟨13,none,[(4,none)]⟩,⟨10,some ([], fun nv=>((n17 2),.list z03 57 s16.1)),[(5,some ([2], fun nv=>((nv 2),.list z03 57 x34)))]⟩] [pk 65 (.val (z05 (n17 0) (0+1))) [(0,0,false)],pk 66 (.val (n17 2)) [(0,0,false)],pk 67 (.rd z03 a2) [(1,0,false)],pd 68 (.rd z03 r31),⟨some (69,[], fun nv=>.rd (z02 z03) [r31]),[(2,0,true)],[1],[]⟩,⟨some (70,[2], fun nv=>.val (nv 2)),[(3,0,true)],[2],[]⟩,pk 71 (.val (z05 (n17 0) (0+1))) [(0,0,false)],⟨none,[(3,1,false),(0,0,true)],[],[]⟩] mixed (oC (oRn (fun nv E=>faB 8 Z Z Tryz.underlying25 Z (by exact zas)))<|oC (oRn (fun nv E=>ldV 8 Z Z (At.cast (At.next z04 At.here) Z) sc23 Z))<|oC (oRn (fun nv E=>ld 3 Z Z fH z9t Z))<|oC (oCl [] [] [] h33 Tryz.func61 Z (fun nv=>(ze0 _)) (fun nv=>(Y1 Z)) (fun nv E=>rN))<|oC (oFz (A1:=fun nv=>[(13,some ((nv 1),.list z03 57 [r31]))]) 13 1 (oEf 13 1 (fun nv E=>lit (R:=z03) ([r31]:List z08) 13 (pP Z Z<|pN) Z tu23 z5t Z Z)))<|oC (oEf 10 2 (fun nv E=>apn 10 Z Z Z .rd h35 tu23 z5t Z Z Z))<|oC (oRn (fun nv E=>faB 8 Z Z Tryz.underlying25 Z (by exact zas)))<|oC (oEs 8 (fun nv E=>zmf 8 Z Z (z9e.cast (z9e.next z04 (z9e.here z04)) Z) Z z0i z04 zas))<|oN) fun n36=>z3a<|z3a<|z0n<|z2b<|Zq (I.add Z Z)<|Zm Z<|z1n<|z1j (fun aa ww h=>⟨nvl [(n17 0),(n17 1),(n36 2)],Zu h [1,3,4,7,10,8]⟩)
     ·refine zps [(3,.val (z05 v1 0)),(5,.val (z05 v3 0)),(6,.val (z05 v4 0)),(8,.rd z0c r5.1),(10,.val (z05 (n17 0) 0)),(30,.rd z0c (r11.length:Int)),(31,.rd z0c s16.2),(11,.rd z0c s16.2)] [(1,some (v1,.box 25 [.rd z01 a0])),(3,some (v3,.box 57 [.rd z03 a2])),(4,some (v4,.box 25 [.val (.slice none 0 0),.val (.slice none 0 0)])),(7,some ((n17 1),.list aZ 31 r11)),(10,some ((n17 2),.list z03 57 s16.1)),(8,some ((n17 0),.box 25 [.val (n17 1),.val (n17 2)]))] [1,3,4,7,10,8] (Zs Z Z Z Z<|Zs Z Z Z Z<|sN) (Zi Z<|Zi Z<|Zi Z<|Zi Z<|Zi Z<|Zi Z<|rN)<|z43 fun x37 h38=>z43 fun r39 h41=>z43 fun x42 h43=>gOr [] [⟨8,some ([], fun nv=>((n17 0),.box 25 [.val (n17 1),.val (n17 2)])),[(12,some ([2], fun nv=>((n17 0),.box 25 [.val (n17 1),.val (nv 2)])))]⟩,⟨1,some ([], fun nv=>(v1,.box 25 [.rd z01 a0])),[]⟩,⟨14,none,[(9,none)]⟩,⟨10,some ([], fun nv=>((n17 2),.list z03 57 s16.1)),[(10,some ([2], fun nv=>((nv 2),.list z03 57 x42)))]⟩] [pk 34 (.val (z05 (n17 0) (0+1))) [(0,0,false)],pk 35 (.val (n17 2)) [(0,0,false)],pk 36 (.val (z05 v1 (0+1))) [(1,0,false)],pk 37 (.rd (z02 z03) a0.Ops) [(1,0,false)],pd 38 (.rd z0c s16.2),pd 39 (.rd z0c (w64 (s16.2 - 1))),pd 40 (.rp z03 x37),pd 41 (.rd z03 x37),pd 42 (.rd z03 r39),⟨some (43,[], fun nv=>.rd (z02 z03) [r39]),[(2,0,true)],[1],[]⟩,⟨some (44,[2], fun nv=>.val (nv 2)),[(3,0,true)],[2],[]⟩,pk 45 (.val (z05 (n17 0) (0+1))) [(0,0,false)],⟨none,[(3,1,false),(0,0,true)],[],[]⟩] mixed (oC (oRn (fun nv E=>faB 8 Z Z Tryz.underlying25 Z (by exact zas)))<|oC (oRn (fun nv E=>ldV 8 Z Z (At.cast (At.next z04 At.here) Z) sc23 Z))<|oC (oRn (fun nv E=>faB 1 Z Z Tryz.underlying25 Z (by exact zas)))<|oC (oRn (fun nv E=>ld 1 Z Z (fP (z0a _)) zf4 Z))<|oC (oRn (fun nv E=>mv Z))<|oC (oRn (fun nv E=>I.sub Z Z))<|oC (oRn (fun nv E=>ixR Z Z h38 tu23 z5t Z))<|oC (oRn (fun nv E=>ldR Z z9t))<|oC (oCl [] [] [] h41 Tryz.func61 Z (fun nv=>(ze0 _)) (fun nv=>(Y1 Z)) (fun nv E=>rN))<|oC (oFz (A1:=fun nv=>[(14,some ((nv 1),.list z03 57 [r39]))]) 14 1 (oEf 14 1 (fun nv E=>lit (R:=z03) ([r39]:List z08) 14 (pP Z Z<|pN) Z tu23 z5t Z Z)))<|oC (oEf 10 2 (fun nv E=>apn 10 Z Z Z .rd h43 tu23 z5t Z Z Z))<|oC (oRn (fun nv E=>faB 8 Z Z Tryz.underlying25 Z (by exact zas)))<|oC (oEs 8 (fun nv E=>zmf 8 Z Z (z9e.cast (z9e.next z04 (z9e.here z04)) Z) Z z0i z04 zas))<|oN) fun n44=>z3a<|z3a<|z0n<|z2b<|Zq (I.add Z Z)<|Zm Z<|z1n<|z1j (fun aa ww h=>⟨nvl [(n17 0),(n17 1),(n44 2)],Zu h [1,3,4,7,10,8]⟩)
   ·refine z1w<|z0w<|z0y<|z3g (fun aa ww h=>⟨nvl [(n17 0),(n17 1),(n17 2)],Zu h [4,7,10,8]⟩)
  ·refine gEx fun n45=>gSR<|zt3 [.rd (z02 aZ) r11,.val (n45 2)] 8 7 [] [.val (n45 2)] Z Z Z Z Z<|zt3 [.rd (z02 aZ) r11,.rd (z02 z03) s15] 8 9 [.rd (z02 aZ) r11] [] Z Z Z Z Z<|zbs (R:=z01) (⟨r11,s15⟩:z00) 8 Z (Sp.via (Sp.prod (Sp.prod Sp.unit)))<|Zq (ld 8 Z Z fH z3k Z)<|z9m aZ [.rd (z02 aZ) [],.val (.slice none 0 0)] 4 [] [.val (.slice none 0 0)] Z Z Z<|z9m z03 [.rd (z02 aZ) [],.rd (z02 z03) []] 4 [.rd (z02 aZ) []] [] Z Z Z<|zbs (R:=z01) (⟨[],[]⟩:z00) 4 Z (Sp.via (Sp.prod (Sp.prod Sp.unit)))<|Es (sto 4 Z Z fH Z z3v)<|Zb Z<|z0j<|zb4 [] [] Z (eC 4 Z Z z3k<|eE Z<|eN) (rN)
def z6p (a0:z00) (a1:z00) (s9:Int):Option (Sum (Sum (z00 × Int) Unit) Int) :=
 if decide (s9<(a1.IDs.length:Int)) then
  idx a1.IDs s9 >>= fun x11 =>
  zcs a0 x11 >>= fun r14 =>
  (if r14.2 then
   idx a0.Ops r14.1 >>= fun x18 =>
   idx a1.Ops s9 >>= fun x20 =>
   zm6 x18 x20 >>= fun r22 =>
   some (!r22)
  else
   some false) >>= fun s16 =>
  if s16 then
   some (.inl (.inl ((⟨[],[]⟩:z00),14)))
  else
   some (.inr (w64 (s9+1)))
 else
  some (.inl (.inr ()))
def zd9 (a0:z00) (s29:(List z08) × Int):Option (Sum ((List z08)) ((List z08) × Int)) :=
 if decide (s29.2<(a0.Ops.length:Int)) then
  idx a0.Ops s29.2 >>= fun x32 =>
  zdm x32 >>= fun r35 =>
  app 112 s29.1 [r35] >>= fun x38 =>
  some (.inr (x38,w64 (s29.2+1)))
 else
  some (.inl s29.1)
def zd2 (a1:z00) (s43:(List V3) × (List z08) × Int):Option (Sum ((List V3) × (List z08)) ((List V3) × (List z08) × Int)) :=
 if decide (s43.2.2<(a1.IDs.length:Int)) then
  idx a1.IDs s43.2.2 >>= fun x45 =>
  idx a1.Ops s43.2.2 >>= fun x48 =>
  zhg (⟨s43.1,s43.2.1⟩:z00) x45 x48 >>= fun r50 =>
  some (.inr (r50.1.IDs,r50.1.Ops,w64 (s43.2.2+1)))
 else
  some (.inl (s43.1,s43.2.1))
def z9v (a0:z00) (a1:z00):Option (z00 × Int) :=
 zhv [a0,a1] >>= fun r5 =>
 if r5 != 0 then
  some ((⟨[],[]⟩:z00),r5)
 else
  z5u (iter (z6p a0 a1) 0) fun s8 =>
  z0p a0.IDs >>= fun r25 =>
  (iter (zd9 a0) ([],0)) >>= fun s28 =>
  (iter (zd2 a1) (r25,s28,0)) >>= fun s42 =>
  if decide (60<(s42.2.length:Int)) then
   some ((⟨[],[]⟩:z00),4)
  else
   some ((⟨s42.1,s42.2⟩:z00),0)
end
section
open Go Go.RowKit
set_option maxRecDepth 100000
set_option maxHeartbeats 4000000 in
theorem zh2 (a0:z00) (a1:z00):z1o Tryz.prog 30 [.rd z01 a0,.rd z01 a1] [zG1] (z9v a0 a1) (fun r nv=>⟨[.rd z01 r.1,.rd z0c r.2],[(1001,some (.bool true,.glob 1 (z3b 64 z0o) z52))]⟩):=by
 refine z29 100 Tryz.func30 Z Z Z fun H w=>?_;refine gSR<|Eb Z (bx 1 Z) fun v1=>Eb Z (bx 2 Z) fun v2=>Eb Z (z4i 3 z3v (ZrE.nilS (ZrE.nilS ZrE.nil))) fun v3=>Zb Z<|z0t<|gSR<|Zq (ld 1 Z Z fH z3k Z)<|Zq (ld 2 Z Z fH z3k Z)<|Ef Z (lit (R:=z01) ([a0,a1]:List z00) 4 (pP Z Z<|pP Z Z<|pN) Z Tryz.underlying135 z3v Z Z) fun v4=>zf0 4 [18] Z (fS Z<|fN)<|Zc [1001] [] Tryz.func58 Z (zqj _) fun r5 n6=>Zb Z<|gSR<|Zm Z<|Zq (I.neq Z Z)<|Zj Z (fun h7=>?_) (fun h7=>?_)
 ·refine gSR<|Zq (zlv [(0,1),(1,1)] Tryz.underlying25 z3v (ZrE.nilS (ZrE.nilS ZrE.nil)) Z (zfm.done Z))<|Zm Z<|Es (zkr 3 Z Z (z07.cast (z07.cons z04 (z07.cons z04 z07.nil)) Z) Z (z1i.cons z0i (z1i.cons z0i z1i.nil)) (z07.cast (z07.cons z04 (z07.cons z04 z07.nil)) Z) z3v)<|Zb Z<|z0j<|z0v<|zgs aZ [.rd (z02 aZ) [],.val (.slice none 0 0)] 3 [] [.val (.slice none 0 0)] Z Z Z<|zgs z03 [.rd (z02 aZ) [],.rd (z02 z03) []] 3 [.rd (z02 aZ) []] [] Z Z Z<|zoi (R:=z01) (⟨[],[]⟩:z00) 3 Z (Sp.via (Sp.prod (Sp.prod Sp.unit)))<|zb4 [] [1001] Z (eC 3 Z Z z3k<|eE Z<|eN) (y1 Z)
 ·refine Zt<|z8g (fun (s8:Unit) aa ww=>Sta (ctx 100 H [zG1] w) [(2,.val (z05 v1 0)),(3,.val (z05 v2 0)),(4,.val (z05 v3 0))] [(1,some (v1,.box 25 [.rd z01 a0])),(2,some (v2,.box 25 [.rd z01 a1])),(3,some (v3,.box 25 [.val (.slice none 0 0),.val (.slice none 0 0)])),zG1] aa ww) ?_ (fun s8=>?_)
  ·refine gSR<|Zq (faB 2 Z Z Tryz.underlying25 Z (by exact z6b))<|Zq (ld 2 Z Z (fP (z0b _)) z93 Z)<|Zq (z3h Z .rd Z tu22)<|Zm Z<|Zn<|z24 (fun (s9:Int) aa ww=>Sta (ctx 100 H [zG1] w) [(2,.val (z05 v1 0)),(3,.val (z05 v2 0)),(4,.val (z05 v3 0)),(25,.rd (z02 aZ) a1.IDs),(26,.rd z0c (a1.IDs.length:Int)),(27,.rd z0c s9)] [(1,some (v1,.box 25 [.rd z01 a0])),(2,some (v2,.box 25 [.rd z01 a1])),(3,some (v3,.box 25 [.val (.slice none 0 0),.val (.slice none 0 0)])),zG1] aa ww) (fun aa ww h=>Zu h [1,2,3,1001]) (fun s9=>?_)
   refine gSR<|Zq (I.lss Z Z)<|Zn<|z0t<|gIf Z Z (fun h10=>?_) (fun h10=>?_)
   ·refine Zt<|z0t<|z4m<|gSR<|Zm Z<|z0m fun x11 h12=>Zq (ixR Z Z h12 tu22 z1z Z)<|Zq (ldR Z z3t)<|Eb Z (z4i 1100 z1z (.zr (R:=aZ) (x:=(Vector.replicate 32 0)) zef)) fun v13=>Za Z<|Es (sto 1100 Z Z fH Z z1z)<|Zn<|gSR<|Zq (ld 1 Z Z fH z3k Z)<|Zq (ld 1100 Z Z fH z3t Z)<|Zc [] [] Tryz.func59 Z (zdw _ _) fun r14 n15=>Zm Z<|Zq (ext Z Z)<|Zq (ext Z Z)<|Za Z<|Zb Z<|z8d (fun (s16:Bool) aa ww=>Sta (ctx 100 H [zG1] w) [(2,.val (z05 v1 0)),(3,.val (z05 v2 0)),(4,.val (z05 v3 0)),(25,.rd (z02 aZ) a1.IDs),(26,.rd z0c (a1.IDs.length:Int)),(27,.rd z0c s9),(52,.rd z0h s16)] [(1,some (v1,.box 25 [.rd z01 a0])),(2,some (v2,.box 25 [.rd z01 a1])),(3,some (v3,.box 25 [.val (.slice none 0 0),.val (.slice none 0 0)])),zG1] aa ww) ?_ (fun s16=>?_)
    ·refine z8s [] mixed Z Z<|hTk 0 Z Z (mv Z)<|hTk 1 Z Z (mv Z)<|hIf 39 Z Z (fun h17=>?_) (fun h17=>?_)
     ·refine hKn 37 Z Z h17<|hKn 10 Z Z h17<|hKn 38 Z Z h17<|Zg 2 Z Z (faB 1 Z Z Tryz.underlying25 Z (by exact zas))<|Zg 3 Z Z (ld 1 Z Z (fP (z0a _)) zf4 Z)<|Zg 4 Z Z (mv Z)<|z5o fun x18 h19=>Zg 5 Z Z (ixR Z Z h19 tu23 z5t Z)<|Zg 6 Z Z (ldR Z z9t)<|Zg 7 Z Z (faB 2 Z Z Tryz.underlying25 Z (by exact zas))<|Zg 8 Z Z (ld 2 Z Z (fP (z0a _)) zf4 Z)<|Zg 9 Z Z (mv Z)<|z5o fun x20 h21=>Zg 10 Z Z (ixR Z Z h21 tu23 z5t Z)<|Zg 11 Z Z (ldR Z z9t)<|z41 12 [] [] Z (by kernel_rfl) Z Zx Z Tryz.func60 Z Z (ztf _ _) (Y2 Z Z) rN Z (fun _ _=>zc8) fun r22 n23=>Zg 13 Z Z (zex Z)<|hTk 14 Z Z (pkT Z Z)<|z54 (by kernel_rfl)<|z3g (fun aa ww h=>Zu h [1,2,3,1001])
     ·refine hKn 37 Z Z h17<|hKn 10 Z Z h17<|hKn 38 Z Z h17<|hSk 2 Z Z<|hSk 3 Z Z<|hSk 4 Z Z<|hSk 5 Z Z<|hSk 6 Z Z<|hSk 7 Z Z<|hSk 8 Z Z<|hSk 9 Z Z<|hSk 10 Z Z<|hSk 11 Z Z<|hSk 12 Z Z<|hSk 13 Z Z<|hTk 14 Z Z (pkF Z Z)<|z54 (by kernel_rfl)<|z3g (fun aa ww h=>Zu h [1,2,3,1001])
    ·refine gIf Z Z (fun h24=>?_) (fun h24=>?_)
     ·refine gSR<|Zq (zlv [(0,1),(1,1)] Tryz.underlying25 z3v (ZrE.nilS (ZrE.nilS ZrE.nil)) Z (zfm.done Z))<|Es (zkr 3 Z Z (z07.cast (z07.cons z04 (z07.cons z04 z07.nil)) Z) Z (z1i.cons z0i (z1i.cons z0i z1i.nil)) (z07.cast (z07.cons z04 (z07.cons z04 z07.nil)) Z) z3v)<|Zb Z<|z0j<|z3w<|z0v<|z7m<|z7j<|zgs aZ [.rd (z02 aZ) [],.val (.slice none 0 0)] 3 [] [.val (.slice none 0 0)] Z Z Z<|zgs z03 [.rd (z02 aZ) [],.rd (z02 z03) []] 3 [.rd (z02 aZ) []] [] Z Z Z<|zoi (R:=z01) (⟨[],[]⟩:z00) 3 Z (Sp.via (Sp.prod (Sp.prod Sp.unit)))<|zb4 [] [1001] Z (eC 3 Z Z z3k<|eE Z<|eN) (y1 Z)
     ·refine z2p<|z3a<|z0n<|z2b<|Zq (I.add Z Z)<|Zm Z<|z1n<|z1j (fun aa ww h=>Zu h [1,2,3,1001])
   ·refine z1w<|z0w<|z0y<|z7p (fun aa ww h=>Zu h [1,2,3,1001])
  ·refine gSR<|Zq (faB 1 Z Z Tryz.underlying25 Z (by exact z6b))<|Zq (ld 1 Z Z (fP (z0b _)) z93 Z)<|Zc [] [(100,1149)] Tryz.func26 Z (z1a _) fun r25 n26=>Zq (zlv [(0,1),(1,1)] Tryz.underlying25 z3v (ZrE.nilS (ZrE.nilS ZrE.nil)) Z (zfm.cons Z Z z04 (z9e.cast (z9e.here z04) Z)<|zfm.done Z))<|Eb Z (z4i 1150 z3v (ZrE.nilS (ZrE.nilS ZrE.nil))) fun v27=>Es (zkr 1150 Z Z (z07.cast (z07.cons z04 (z07.cons z04 z07.nil)) Z) Z (z1i.cons z0i (z1i.cons z0i z1i.nil)) (z07.cast (z07.cons z04 (z07.cons z04 z07.nil)) Z) z3v)<|Zn<|z8d (fun (s28:(List z08)) aa ww=>∃ nv:Nat→Value,Sta (ctx 100 H [zG1] w) [(3,.val (z05 v2 0)),(4,.val (z05 v3 0)),(11,.val (z05 v27 0))] [(2,some (v2,.box 25 [.rd z01 a1])),(3,some (v3,.box 25 [.val (.slice none 0 0),.val (.slice none 0 0)])),(1149,some ((n26 0),.list aZ 31 r25)),(1152,some ((nv 0),.list z03 57 s28)),(1150,some (v27,.box 25 [.val (n26 0),.val (nv 0)])),zG1] aa ww) ?_ (fun s28=>?_)
   ·refine gSR<|Zq (faB 1 Z Z Tryz.underlying25 Z (by exact zas))<|Zq (ld 1 Z Z (fP (z0a _)) zf4 Z)<|Zq (z3h Z .rd Z tu23)<|Zm Z<|Zn<|zuu z03 57 1155<|z24 (fun (s29:(List z08) × Int) aa ww=>∃ nv:Nat→Value,Sta (ctx 100 H [zG1] w) [(3,.val (z05 v2 0)),(4,.val (z05 v3 0)),(11,.val (z05 v27 0)),(60,.rd (z02 z03) a0.Ops),(61,.rd z0c (a0.Ops.length:Int)),(62,.rd z0c s29.2)] [(2,some (v2,.box 25 [.rd z01 a1])),(3,some (v3,.box 25 [.val (.slice none 0 0),.val (.slice none 0 0)])),(1149,some ((n26 0),.list aZ 31 r25)),(1154,some ((nv 0),.list z03 57 s29.1)),(1150,some (v27,.box 25 [.val (n26 0),.val (nv 0)])),zG1] aa ww) (fun aa ww h=>⟨nvl [(.slice none 0 0)],Zu h [2,3,1149,1155,1150,1001]⟩) (fun s29=>?_)
    refine gEx fun n30=>gSR<|Zq (I.lss Z Z)<|Zn<|z0t<|gIf Z Z (fun h31=>?_) (fun h31=>?_)
    ·refine Zt<|z0t<|z4m<|gSR<|z0m fun x32 h33=>Zq (ixR Z Z h33 tu23 z5t Z)<|Zq (ldR Z z9t)<|Eb Z (z4i 1156 z5t (ZrE.rd (R:=z0o) (x:=0) (Zr.num Z) (ZrE.nilS (ZrE.rd (R:=z2a) (x:=0) (Zr.num Z) (ZrE.rd (R:=z0d) (x:=(⟨0,[],(⟨0,0,0,[]⟩:z06)⟩:z0f)) zmk (ZrE.rd (R:=z0e) (x:=(⟨0,0⟩:z09)) zlr ZrE.nil Z) Z) Z)) Z)) fun v34=>z9m aZ [.rd z0o 0,.rd (z02 aZ) [],.rd z2a 0,.rd z0d (⟨0,[],(⟨0,0,0,[]⟩:z06)⟩:z0f),.rd z0e (⟨0,0⟩:z09)] 1156 [.rd z0o 0] [.rd z2a 0,.rd z0d (⟨0,[],(⟨0,0,0,[]⟩:z06)⟩:z0f),.rd z0e (⟨0,0⟩:z09)] Z Z Z<|zbs (R:=z03) (⟨0,[],0,(⟨0,[],(⟨0,0,0,[]⟩:z06)⟩:z0f),(⟨0,0⟩:z09)⟩:z08) 1156 Z (Sp.via (Sp.prod (Sp.prod (Sp.prod (Sp.prod (Sp.prod Sp.unit))))))<|Es (sto 1156 Z Z fH Z z5t)<|Zn<|zps [(3,.val (z05 v2 0)),(4,.val (z05 v3 0)),(11,.val (z05 v27 0)),(60,.rd (z02 z03) a0.Ops),(61,.rd z0c (a0.Ops.length:Int)),(62,.rd z0c s29.2),(13,.val (z05 v34 0))] [(2,some (v2,.box 25 [.rd z01 a1])),(3,some (v3,.box 25 [.val (.slice none 0 0),.val (.slice none 0 0)])),(1149,some ((n26 0),.list aZ 31 r25)),(1154,some ((n30 0),.list z03 57 s29.1)),(1150,some (v27,.box 25 [.val (n26 0),.val (n30 0)])),zG1,(1156,some (v34,.box 57 [.rd z03 x32]))] [2,3,1149,1154,1150,1001,1156] (Zs Z Z Z Z<|sS Z<|sS Z<|sS Z<|sN) (Zi Z<|Zi Z<|Zi Z<|Zi Z<|Zi Z<|Zi Z<|Zi Z<|rN)<|z43 fun r35 h37=>z43 fun x38 h39=>gOr [] [⟨1150,some ([], fun nv=>(v27,.box 25 [.val (n26 0),.val (n30 0)])),[(7,some ([2], fun nv=>(v27,.box 25 [.val (n26 0),.val (nv 2)])))]⟩,⟨1156,some ([], fun nv=>(v34,.box 57 [.rd z03 x32])),[]⟩,⟨1157,none,[(4,none)]⟩,⟨1154,some ([], fun nv=>((n30 0),.list z03 57 s29.1)),[(5,some ([2], fun nv=>((nv 2),.list z03 57 x38)))]⟩] [pk 66 (.val (z05 v27 (0+1))) [(0,0,false)],pk 67 (.val (n30 0)) [(0,0,false)],pk 68 (.rd z03 x32) [(1,0,false)],pd 69 (.rd z03 r35),⟨some (70,[], fun nv=>.rd (z02 z03) [r35]),[(2,0,true)],[1],[]⟩,⟨some (71,[2], fun nv=>.val (nv 2)),[(3,0,true)],[2],[]⟩,pk 72 (.val (z05 v27 (0+1))) [(0,0,false)],⟨none,[(0,0,true),(3,1,false)],[],[]⟩] mixed (oC (oRn (fun nv E=>faB 1150 Z Z Tryz.underlying25 Z (by exact zas)))<|oC (oRn (fun nv E=>ldV 1150 Z Z (At.cast (At.next z04 At.here) Z) sc23 Z))<|oC (oRn (fun nv E=>ld 1156 Z Z fH z9t Z))<|oC (oCl [] [] [] h37 Tryz.func61 Z (fun nv=>(ze0 _)) (fun nv=>(Y1 Z)) (fun nv E=>rN))<|oC (oFz (A1:=fun nv=>[(1157,some ((nv 1),.list z03 57 [r35]))]) 1157 1 (oEf 1157 1 (fun nv E=>lit (R:=z03) ([r35]:List z08) 1157 (pP Z Z<|pN) Z tu23 z5t Z Z)))<|oC (oEf 1154 2 (fun nv E=>apn 1154 Z Z Z .rd h39 tu23 z5t Z Z Z))<|oC (oRn (fun nv E=>faB 1150 Z Z Tryz.underlying25 Z (by exact zas)))<|oC (oEs 1150 (fun nv E=>zmf 1150 Z Z (z9e.cast (z9e.next z04 (z9e.here z04)) Z) Z z0i z04 zas))<|oN) fun n40=>z3a<|z0n<|z2b<|Zq (I.add Z Z)<|Zm Z<|z1n<|z1j (fun aa ww h=>⟨nvl [(n40 2)],Zu h [2,3,1149,1154,1150,1001]⟩)
    ·refine z1w<|z0w<|z0y<|z3g (fun aa ww h=>⟨nvl [(n30 0)],Zu h [2,3,1149,1154,1150,1001]⟩)
   ·refine gEx fun n41=>z8d (fun (s42:(List V3) × (List z08)) aa ww=>Sta (ctx 100 H [zG1] w) [(4,.val (z05 v3 0)),(11,.val (z05 v27 0))] [(3,some (v3,.box 25 [.val (.slice none 0 0),.val (.slice none 0 0)])),(1150,some (v27,.box 25 [.rd (z02 aZ) s42.1,.rd (z02 z03) s42.2])),zG1] aa ww) ?_ (fun s42=>?_)
    ·refine gSR<|Zq (faB 2 Z Z Tryz.underlying25 Z (by exact z6b))<|Zq (ld 2 Z Z (fP (z0b _)) z93 Z)<|Zq (z3h Z .rd Z tu22)<|Zm Z<|Zn<|gPow [.rd (z02 aZ) r25,.val (n41 0)] 1150 1149 [] [.val (n41 0)] Z Z Z Z Z<|gPow [.rd (z02 aZ) r25,.rd (z02 z03) s28] 1150 1152 [.rd (z02 aZ) r25] [] Z Z Z Z Z<|z24 (fun (s43:(List V3) × (List z08) × Int) aa ww=>Sta (ctx 100 H [zG1] w) [(3,.val (z05 v2 0)),(4,.val (z05 v3 0)),(11,.val (z05 v27 0)),(75,.rd (z02 aZ) a1.IDs),(76,.rd z0c (a1.IDs.length:Int)),(77,.rd z0c s43.2.2)] [(2,some (v2,.box 25 [.rd z01 a1])),(3,some (v3,.box 25 [.val (.slice none 0 0),.val (.slice none 0 0)])),(1150,some (v27,.box 25 [.rd (z02 aZ) s43.1,.rd (z02 z03) s43.2.1])),zG1] aa ww) (fun aa ww h=>Zu h [2,3,1150,1001]) (fun s43=>?_)
     refine gSR<|Zq (I.lss Z Z)<|Zn<|z0t<|gIf Z Z (fun h44=>?_) (fun h44=>?_)
     ·refine Zt<|z0t<|z4m<|gSR<|Zm Z<|z0m fun x45 h46=>Zq (ixR Z Z h46 tu22 z1z Z)<|Zq (ldR Z z3t)<|Eb Z (z4i 1158 z1z (.zr (R:=aZ) (x:=(Vector.replicate 32 0)) zef)) fun v47=>Za Z<|Es (sto 1158 Z Z fH Z z1z)<|Zn<|gJoi (R:=z01) (⟨s43.1,s43.2.1⟩:z00) 1150 Z (Sp.via (Sp.prod (Sp.prod Sp.unit)))<|z8s [1150] mixed Z Z<|hTk 1 Z Z (ld 1158 Z Z fH z3t Z)<|hTk 2 Z Z (faB 2 Z Z Tryz.underlying25 Z (by exact zas))<|hTk 3 Z Z (ld 2 Z Z (fP (z0a _)) zf4 Z)<|hTk 4 Z Z (mv Z)<|z5o fun x48 h49=>hTk 5 Z Z (ixR Z Z h49 tu23 z5t Z)<|hTk 6 Z Z (ldR Z z9t)<|hRun 0 Z (by kernel_rfl) (gd0 Z) Z Z anyJ (ld 1150 Z Z fH z3k Z)<|zlu 7 [] [] Z (by kernel_rfl) Z (gd0 Z) Z Tryz.func62 Z Z (zpb _ _ _) (aQ Z<|aQ Z<|aQ Z<|aN) rN Z fun r50 n51=>zlt 8 Z (by kernel_rfl) (by kernel_rfl) (by kernel_rfl) (gd0 Z) Z Z (mv Z)<|zlt 9 Z (by kernel_rfl) (by kernel_rfl) (by kernel_rfl) (gd0 Z) Z Z (ext Z Z)<|Zf 10 Z Z zc8 (ext Z Z)<|Zp 11 Z Z Z Z Z (sto 1150 Z Z fH Z z3v)<|z54 (by kernel_rfl)<|z3a<|z0n<|z2b<|Zq (I.add Z Z)<|Zm Z<|z1n<|eSpl (R:=z01) 1150 Z (Sp.via (Sp.prod (Sp.prod Sp.unit)))<|z1j (fun aa ww h=>Zu h [2,3,1150,1001])
     ·refine z1w<|z0w<|z0y<|z3g (fun aa ww h=>Zu h [3,1150,1001])
    ·refine z0t<|gSR<|Zq (faB 1150 Z Z Tryz.underlying25 Z (by exact zas))<|Zq (ld 1150 Z Z (Foc.cast (Foc.next z16 fH) Z) zf4 Z)<|Zq (z3h Z .rd Z tu23)<|Zq (I.gtr Z Z)<|Zj Z (fun h52=>?_) (fun h52=>?_)
     ·refine gSR<|Zq (zlv [(0,1),(1,1)] Tryz.underlying25 z3v (ZrE.nilS (ZrE.nilS ZrE.nil)) Z (zfm.done Z))<|Es (zkr 3 Z Z (z07.cast (z07.cons z04 (z07.cons z04 z07.nil)) Z) Z (z1i.cons z0i (z1i.cons z0i z1i.nil)) (z07.cast (z07.cons z04 (z07.cons z04 z07.nil)) Z) z3v)<|Zb Z<|z0j<|z0v<|zgs aZ [.rd (z02 aZ) [],.val (.slice none 0 0)] 3 [] [.val (.slice none 0 0)] Z Z Z<|zgs z03 [.rd (z02 aZ) [],.rd (z02 z03) []] 3 [.rd (z02 aZ) []] [] Z Z Z<|zoi (R:=z01) (⟨[],[]⟩:z00) 3 Z (Sp.via (Sp.prod (Sp.prod Sp.unit)))<|zb4 [] [1001] Z (eC 3 Z Z z3k<|eE Z<|eN) (y1 Z)
     ·refine Zt<|gSR<|zbs (R:=z01) (⟨s42.1,s42.2⟩:z00) 1150 Z (Sp.via (Sp.prod (Sp.prod Sp.unit)))<|Zq (ld 1150 Z Z fH z3k Z)<|z9m aZ [.rd (z02 aZ) [],.val (.slice none 0 0)] 3 [] [.val (.slice none 0 0)] Z Z Z<|z9m z03 [.rd (z02 aZ) [],.rd (z02 z03) []] 3 [.rd (z02 aZ) []] [] Z Z Z<|zbs (R:=z01) (⟨[],[]⟩:z00) 3 Z (Sp.via (Sp.prod (Sp.prod Sp.unit)))<|Es (sto 3 Z Z fH Z z3v)<|Zb Z<|z0j<|zb4 [] [1001] Z (eC 3 Z Z z3k<|eE Z<|eN) (y1 Z)
def zkq (a0:V3) (c1_0:z00):Option (Bool) :=
 zcs c1_0 a0 >>= fun r2 =>
 some (!r2.2)
theorem zr9 (a0:V3) (p1_0:Value) (c1_0:z00):z1o Tryz.prog 103 [.rd aZ a0,.val (z05 p1_0 0)] [(1,some (p1_0,.box 25 [.rd z01 c1_0]))] (zkq a0 c1_0) (fun r nv=>⟨[.rd z0h r],[(1,some (p1_0,.box 25 [.rd z01 c1_0]))]⟩):=by
 refine z29 14 Tryz.func103 Z Z Z fun H w=>?_;refine gSR<|Eb Z (bx 2 Z) fun v1=>Zb Z<|gSR<|Zq (ld 1 Z Z fH z3k Z)<|Zq (ld 2 Z Z fH z3t Z)<|Zc [] [] Tryz.func59 Z (zdw _ _) fun r2 n3=>Zm Z<|Zq (ext Z Z)<|Zq (ext Z Z)<|Za Z<|Zb Z<|gSR<|Zm Z<|Zq (zex Z)<|Zb Z<|z0j<|Ze [] [1] Z
def z1e (a0:List V3) (c1_0:z00) (s2:Int):Option (Sum (Sum Int Unit) Int) :=
 if decide (s2<(a0.length:Int)) then
  idx a0 s2 >>= fun x4 =>
  zkq x4 c1_0 >>= fun r6 =>
  if r6 then
   some (.inl (.inl s2))
  else
   some (.inr (w64 (s2+1)))
 else
  some (.inl (.inr ()))
def z3d (a0:List V3) (c1_0:z00):Option (Int) :=
 z5u (iter (z1e a0 c1_0) 0) fun s1 =>
 some (-1)
theorem z8u (a0:List V3) (p1_0:Value) (c1_0:z00):z1o Tryz.prog 82 [.rd (z02 aZ) a0,.val (.func (.func 103) #[] #[z05 p1_0 0])] [(1,some (p1_0,.box 25 [.rd z01 c1_0]))] (z3d a0 c1_0) (fun r nv=>⟨[.rd z0c r],[(1,some (p1_0,.box 25 [.rd z01 c1_0]))]⟩):=by
 refine z29 19 Tryz.func82 Z Z Z fun H w=>?_;refine gSR<|Zb Z<|z8g (fun (s1:Unit) aa ww=>Sta (ctx 19 H [(1,some (p1_0,.box 25 [.rd z01 c1_0]))] w) [] [(1,some (p1_0,.box 25 [.rd z01 c1_0]))] aa ww) ?_ (fun s1=>?_)
 ·refine gSR<|Zm Z<|Zq (z3h Z .rd Z tu22)<|Zm Z<|Zn<|z24 (fun (s2:Int) aa ww=>Sta (ctx 19 H [(1,some (p1_0,.box 25 [.rd z01 c1_0]))] w) [(0,.rd (z02 aZ) a0),(1,.val (.func (.func 103) #[] #[z05 p1_0 0])),(7,.rd z0c (a0.length:Int)),(8,.rd z0c s2)] [(1,some (p1_0,.box 25 [.rd z01 c1_0]))] aa ww) (fun aa ww h=>Zu h [1]) (fun s2=>?_);refine gSR<|Zq (I.lss Z Z)<|Zn<|z0t<|gIf Z Z (fun h3=>?_) (fun h3=>?_)
  ·refine Zt<|z0t<|z4m<|gSR<|Zm Z<|Zb Z<|gSR<|Zm Z<|Zm Z<|Zm Z<|z0m fun x4 h5=>Zq (ixR Z Z h5 tu22 z1z Z)<|Zq (ldR Z z3t)<|zgt [1] [(1,1)] (gd0 Z) Z Z Tryz.func103 Z Z (zr9 _ _ _) (Y1 Z) (cQ 1 Z<|cN) (y1 Z) fun r6 n7=>Zj Z (fun h8=>?_) (fun h8=>?_)
   ·refine gSR<|Zm Z<|Zb Z<|z0j<|z3w<|z0v<|z7m<|z7j<|Ze [] [1] Z
   ·refine z2p<|z3a<|z0n<|z2b<|Zq (I.add Z Z)<|Zm Z<|z1n<|z1j (fun aa ww h=>Zu h [1])
  ·refine z1w<|z0w<|z0y<|z7p (fun aa ww h=>Zu h [1])
 ·refine gSR<|Zb Z<|z0j<|Ze [] [1] Z
def z23 (a0:List V3) (c1_0:z00):Option (Bool) :=
 z3d a0 c1_0 >>= fun r1 =>
 some (decide (0≤r1)) >>= fun y3 =>
 some y3
theorem z7q (a0:List V3) (p1_0:Value) (c1_0:z00):z1o Tryz.prog 91 [.rd (z02 aZ) a0,.val (.func (.func 103) #[] #[z05 p1_0 0])] [(1,some (p1_0,.box 25 [.rd z01 c1_0]))] (z23 a0 c1_0) (fun r nv=>⟨[.rd z0h r],[(1,some (p1_0,.box 25 [.rd z01 c1_0]))]⟩):=by
 refine z29 9 Tryz.func91 Z Z Z fun H w=>?_;refine gSR<|Zb Z<|gSR<|Zm Z<|Zm Z<|Zc [1] [(1,1)] Tryz.func82 Z (z8u _ _ _) fun r1 n2=>Zq (I.geq Z Z)<|Za Z<|z1x 4 Z fun y3=>Zn<|z0j<|Ze [] [1] Z
def znr (a0:z00) (a1:z08):Option (z00 × V3 × Int) :=
 z11 a0 >>= fun r5 =>
 (if r5==0 then
  zhd a1 >>= fun r9 =>
  some r9
 else
  some r5) >>= fun s7 =>
 if s7 != 0 then
  some ((⟨[],[]⟩:z00),(Vector.replicate 32 0),s7)
 else
  z10r a1 >>= fun r12 =>
  zhg a0 r12.1 a1 >>= fun r15 =>
  if !r15.2 then
   some ((⟨[],[]⟩:z00),(Vector.replicate 32 0),14)
  else
   z23 a1.Preds a0 >>= fun r19 =>
   if r19 then
    some ((⟨[],[]⟩:z00),(Vector.replicate 32 0),40)
   else
    some ((a0.Ops.length:Int)==60) >>= fun y22 =>
    if y22 then
     some ((⟨[],[]⟩:z00),(Vector.replicate 32 0),18)
    else
     some (r15.1,r12.1,0)
theorem zwl (a0:z00) (a1:z08):z1o Tryz.prog 64 [.rd z01 a0,.rd z03 a1] [zG1] (znr a0 a1) (fun r nv=>⟨[.rd z01 r.1,.rd aZ r.2.1,.rd z0c r.2.2],[(1001,some (.bool true,.glob 1 (z3b 64 z0o) z52))]⟩):=by
 refine z29 56 Tryz.func64 Z Z Z fun H w=>?_;refine gSR<|Eb Z (bx 1 Z) fun v1=>Eb Z (bx 2 Z) fun v2=>Eb Z (z4i 3 z3v (ZrE.nilS (ZrE.nilS ZrE.nil))) fun v3=>Eb Z (z4i 4 z1z (.zr (R:=aZ) (x:=(Vector.replicate 32 0)) zef)) fun v4=>Zb Z<|gSR<|Zq (ld 1 Z Z fH z3k Z)<|Zc [1001] [] Tryz.func43 Z (z9y _) fun r5 n6=>Zb Z<|z8d (fun (s7:Int) aa ww=>Sta (ctx 56 H [zG1] w) [(2,.val (z05 v1 0)),(3,.val (z05 v2 0)),(4,.val (z05 v3 0)),(5,.val (z05 v4 0)),(7,.rd z0c s7)] [(1,some (v1,.box 25 [.rd z01 a0])),(2,some (v2,.box 57 [.rd z03 a1])),(3,some (v3,.box 25 [.val (.slice none 0 0),.val (.slice none 0 0)])),(4,some (v4,.box 31 [.rd aZ (Vector.replicate 32 0)])),zG1] aa ww) ?_ (fun s7=>?_)
 ·refine gSR<|Zm Z<|Zq (I.eql Z Z)<|Zj Z (fun h8=>?_) (fun h8=>?_)
  ·refine z2b<|Zq (ld 2 Z Z fH z9t Z)<|Zc [1001] [] Tryz.func80 Z (zln _) fun r9 n10=>Za Z<|z1n<|z3g (fun aa ww h=>Zu h [1,2,3,4,1001])
  ·refine z2p<|z3g (fun aa ww h=>Zu h [1,2,3,4,1001])
 ·refine z0t<|gSR<|Zm Z<|Zq (I.neq Z Z)<|Zj Z (fun h11=>?_) (fun h11=>?_)
  ·refine gSR<|Zq (zlv [(0,1),(1,1)] Tryz.underlying25 z3v (ZrE.nilS (ZrE.nilS ZrE.nil)) Z (zfm.done Z))<|Zq (bldG (x':=((Vector.replicate 32 0):V3)) tu31 z1z zef ti5 (Bld.done Z))<|Zm Z<|Es (zkr 3 Z Z (z07.cast (z07.cons z04 (z07.cons z04 z07.nil)) Z) Z (z1i.cons z0i (z1i.cons z0i z1i.nil)) (z07.cast (z07.cons z04 (z07.cons z04 z07.nil)) Z) z3v)<|Es (sto 4 Z Z fH Z z1z)<|Zb Z<|z0j<|z0v<|zgs aZ [.rd (z02 aZ) [],.val (.slice none 0 0)] 3 [] [.val (.slice none 0 0)] Z Z Z<|zgs z03 [.rd (z02 aZ) [],.rd (z02 z03) []] 3 [.rd (z02 aZ) []] [] Z Z Z<|zoi (R:=z01) (⟨[],[]⟩:z00) 3 Z (Sp.via (Sp.prod (Sp.prod Sp.unit)))<|zb4 [] [1001] Z (eC 3 Z Z z3k<|eC 4 Z Z z3t<|eE Z<|eN) (y1 Z)
  ·refine Zt<|gSR<|Zq (ld 2 Z Z fH z9t Z)<|Zc [1001] [] Tryz.func79 Z (zvj _) fun r12 n13=>Zm Z<|Zq (ext Z Z)<|Zq (ext Z Z)<|Eb Z (z4i 1100 z1z (.zr (R:=aZ) (x:=(Vector.replicate 32 0)) zef)) fun v14=>Es (sto 1100 Z Z fH Z z1z)<|Zb Z<|gSR<|Zq (ld 1 Z Z fH z3k Z)<|Zq (ld 1100 Z Z fH z3t Z)<|Zq (ld 2 Z Z fH z9t Z)<|Zc [] [] Tryz.func62 Z (zpb _ _ _) fun r15 n16=>Zm Z<|Zq (ext Z Z)<|Zq (ext Z Z)<|Eb Z (z4i 1101 z3v (ZrE.nilS (ZrE.nilS ZrE.nil))) fun v17=>z9m aZ [.rd (z02 aZ) [],.val (.slice none 0 0)] 1101 [] [.val (.slice none 0 0)] Z Z Z<|z9m z03 [.rd (z02 aZ) [],.rd (z02 z03) []] 1101 [.rd (z02 aZ) []] [] Z Z Z<|zbs (R:=z01) (⟨[],[]⟩:z00) 1101 Z (Sp.via (Sp.prod (Sp.prod Sp.unit)))<|Es (sto 1101 Z Z fH Z z3v)<|Zb Z<|z0t<|z4m<|gSR<|Zm Z<|Zq (zex Z)<|Zb Z<|gIf Z Z (fun h18=>?_) (fun h18=>?_)
   ·refine gKn 37 Z h18<|gSR<|Zq (zlv [(0,1),(1,1)] Tryz.underlying25 z3v (ZrE.nilS (ZrE.nilS ZrE.nil)) Z (zfm.done Z))<|Zq (bldG (x':=((Vector.replicate 32 0):V3)) tu31 z1z zef ti5 (Bld.done Z))<|Es (zkr 3 Z Z (z07.cast (z07.cons z04 (z07.cons z04 z07.nil)) Z) Z (z1i.cons z0i (z1i.cons z0i z1i.nil)) (z07.cast (z07.cons z04 (z07.cons z04 z07.nil)) Z) z3v)<|Es (sto 4 Z Z fH Z z1z)<|Zb Z<|z0j<|z3w<|z0v<|zgs aZ [.rd (z02 aZ) [],.val (.slice none 0 0)] 3 [] [.val (.slice none 0 0)] Z Z Z<|zgs z03 [.rd (z02 aZ) [],.rd (z02 z03) []] 3 [.rd (z02 aZ) []] [] Z Z Z<|zoi (R:=z01) (⟨[],[]⟩:z00) 3 Z (Sp.via (Sp.prod (Sp.prod Sp.unit)))<|zb4 [] [1001] Z (eC 3 Z Z z3k<|eC 4 Z Z z3t<|eE Z<|eN) (y1 Z)
   ·refine gKn 37 Z h18<|gSR<|Zq (faB 2 Z Z Tryz.underlying57 Z (by exact z6b))<|Zq (ld 2 Z Z (fP (z0z _)) z93 Z)<|Zq (mkf mp0 (mp1 Z))<|Zc [1] [(1,1)] Tryz.func91 Z (z7q _ _ _) fun r19 n20=>Zb Z<|gIf Z Z (fun h21=>?_) (fun h21=>?_)
    ·refine gKn 44 Z h21<|gSR<|Zq (zlv [(0,1),(1,1)] Tryz.underlying25 z3v (ZrE.nilS (ZrE.nilS ZrE.nil)) Z (zfm.done Z))<|Zq (bldG (x':=((Vector.replicate 32 0):V3)) tu31 z1z zef ti5 (Bld.done Z))<|Es (zkr 3 Z Z (z07.cast (z07.cons z04 (z07.cons z04 z07.nil)) Z) Z (z1i.cons z0i (z1i.cons z0i z1i.nil)) (z07.cast (z07.cons z04 (z07.cons z04 z07.nil)) Z) z3v)<|Es (sto 4 Z Z fH Z z1z)<|Zb Z<|z0j<|z3w<|z0v<|zgs aZ [.rd (z02 aZ) [],.val (.slice none 0 0)] 3 [] [.val (.slice none 0 0)] Z Z Z<|zgs z03 [.rd (z02 aZ) [],.rd (z02 z03) []] 3 [.rd (z02 aZ) []] [] Z Z Z<|zoi (R:=z01) (⟨[],[]⟩:z00) 3 Z (Sp.via (Sp.prod (Sp.prod Sp.unit)))<|zb4 [] [1001] Z (eC 3 Z Z z3k<|eC 4 Z Z z3t<|eE Z<|eN) (y1 Z)
    ·refine gKn 44 Z h21<|gSR<|Zq (faB 1 Z Z Tryz.underlying25 Z (by exact zas))<|Zq (ld 1 Z Z (fP (z0a _)) zf4 Z)<|Zq (z3h Z .rd Z tu23)<|Zq (I.eql Z Z)<|Za Z<|z1x 47 Z fun y22=>Zj Z (fun h23=>?_) (fun h23=>?_)
     ·refine gSR<|Zq (zlv [(0,1),(1,1)] Tryz.underlying25 z3v (ZrE.nilS (ZrE.nilS ZrE.nil)) Z (zfm.done Z))<|Zq (bldG (x':=((Vector.replicate 32 0):V3)) tu31 z1z zef ti5 (Bld.done Z))<|Es (zkr 3 Z Z (z07.cast (z07.cons z04 (z07.cons z04 z07.nil)) Z) Z (z1i.cons z0i (z1i.cons z0i z1i.nil)) (z07.cast (z07.cons z04 (z07.cons z04 z07.nil)) Z) z3v)<|Es (sto 4 Z Z fH Z z1z)<|Zb Z<|z0j<|z3w<|z0v<|zgs aZ [.rd (z02 aZ) [],.val (.slice none 0 0)] 3 [] [.val (.slice none 0 0)] Z Z Z<|zgs z03 [.rd (z02 aZ) [],.rd (z02 z03) []] 3 [.rd (z02 aZ) []] [] Z Z Z<|zoi (R:=z01) (⟨[],[]⟩:z00) 3 Z (Sp.via (Sp.prod (Sp.prod Sp.unit)))<|zb4 [] [1001] Z (eC 3 Z Z z3k<|eC 4 Z Z z3t<|eE Z<|eN) (y1 Z)
     ·refine z2p<|z3a<|z0n<|z0t<|z8s [3,4] mixed Z Z<|hTk 0 Z Z (ld 1101 Z Z fH z3k Z)<|hTk 1 Z Z (ld 1100 Z Z fH z3t Z)<|hPnl aZ [.rd (z02 aZ) [],.val (.slice none 0 0)] 3 [] [.val (.slice none 0 0)] Z Z Z<|hPnl z03 [.rd (z02 aZ) [],.rd (z02 z03) []] 3 [.rd (z02 aZ) []] [] Z Z Z<|hJoi (R:=z01) (⟨[],[]⟩:z00) 3 Z (Sp.via (Sp.prod (Sp.prod Sp.unit)))<|Zp 2 Z Z Z Z Z (sto 3 Z Z fH Z z3v)<|Zp 3 Z Z Z Z Z (sto 4 Z Z fH Z z1z)<|hTk 4 Z Z (asg Z)<|z54 (by kernel_rfl)<|z0n<|z0j<|zb4 [] [1001] Z (eC 3 Z Z z3k<|eC 4 Z Z z3t<|eE Z<|eN) (y1 Z)
def z8t (a0:z00) (a1:z00) (r10:(List V3)) (s16:z00 × Int):Option (Sum z00 (z00 × Int)) :=
 if decide (s16.2<(r10.length:Int)) then
  idx r10 s16.2 >>= fun x18 =>
  z1h a1.IDs x18 >>= fun r21 =>
  if r21 then
   some (.inr (s16.1,w64 (s16.2+1)))
  else
   zjg a0 x18 >>= fun r24 =>
   znr s16.1 r24.1 >>= fun r27 =>
   some (.inr (r27.1,w64 (s16.2+1)))
 else
  some (.inl s16.1)
def za9 (a0:z00) (a1:z00):Option (z00 × Int) :=
 z7b a0 >>= fun r4 =>
 z7b a1 >>= fun r6 =>
 ze5 a1 r4.1 >>= fun r8 =>
 zck a0 r8 r6.1 >>= fun r10 =>
 z9v a1 (⟨[],[]⟩:z00) >>= fun r12 =>
 (iter (z8t a0 a1 r10) (r12.1,0)) >>= fun s15 =>
 zcx a0 r10 >>= fun r29 =>
 some (r29.length:Int) >>= fun y31 =>
 some (s15,y31)
theorem zgb (a0:z00) (a1:z00):z1o Tryz.prog 31 [.rd z01 a0,.rd z01 a1] [zG1] (za9 a0 a1) (fun r nv=>⟨[.rd z01 r.1,.rd z0c r.2],[(1001,some (.bool true,.glob 1 (z3b 64 z0o) z52))]⟩):=by
 refine z29 68 Tryz.func31 Z Z Z fun H w=>?_;refine gSR<|Eb Z (bx 1 Z) fun v1=>Eb Z (bx 2 Z) fun v2=>Eb Z (z4i 3 z3v (ZrE.nilS (ZrE.nilS ZrE.nil))) fun v3=>Zb Z<|gSR<|Zq (ld 1 Z Z fH z3k Z)<|Zc [1001] [(100,4)] Tryz.func63 Z (zfi _) fun r4 n5=>Zm Z<|Zq (ext Z Z)<|Zq (ext Z Z)<|Za Z<|Zb Z<|gSR<|Zq (ld 2 Z Z fH z3k Z)<|Zc [1001] [(100,5)] Tryz.func63 Z (zfi _) fun r6 n7=>Zm Z<|Zq (ext Z Z)<|Zq (ext Z Z)<|Za Z<|Zb Z<|z0t<|z8s [15,21,1001] mixed Z Z<|hTk 0 Z Z (ld 1 Z Z fH z3k Z)<|hTk 1 Z Z (ld 2 Z Z fH z3k Z)<|hTk 2 Z Z (mv Z)<|hTk 4 Z Z (mv Z)<|zuq 4 [20,6,29] Z (fS Z<|fS Z<|fS Z<|fN)<|z41 3 [] [(100,15)] Z (by kernel_rfl) Z (gd0 Z) Z Tryz.func25 Z Z (zii _ _) (Y2 Z Z) rN Z (fun _ _=>z2t) fun r8 n9=>zuq 15 [30] Z (fS Z<|fN)<|zuq 5 [25,8,31] Z (fS Z<|fS Z<|fS Z<|fN)<|z41 5 [1001] [(100,21)] Z (by kernel_rfl) Z (gd0 Z) Z Tryz.func28 Z Z (zg9 _ _ _) (aQ Z<|aQ Z<|aQ Z<|aN) (y1 Z) Z (fun _ _=>z2t) fun r10 n11=>Zf 6 Z Z z2t (asg Z)<|z54 (by kernel_rfl)<|z0n<|gSR<|Zq (ld 2 Z Z fH z3k Z)<|Zq (bld (x':=(⟨[],[]⟩:z00)) [(0,1),(1,1)] Tryz.underlying25 z3v Z zr25 Z (Bld.done Z))<|Zc [1001] [] Tryz.func30 Z (zh2 _ _) fun r12 n13=>Zm Z<|Zq (ext Z Z)<|Zq (ext Z Z)<|Eb Z (z4i 30 z3v (ZrE.nilS (ZrE.nilS ZrE.nil))) fun v14=>z9m aZ [.rd (z02 aZ) [],.val (.slice none 0 0)] 30 [] [.val (.slice none 0 0)] Z Z Z<|z9m z03 [.rd (z02 aZ) [],.rd (z02 z03) []] 30 [.rd (z02 aZ) []] [] Z Z Z<|zbs (R:=z01) (⟨[],[]⟩:z00) 30 Z (Sp.via (Sp.prod (Sp.prod Sp.unit)))<|Es (sto 30 Z Z fH Z z3v)<|Zb Z<|z8d (fun (s15:z00) aa ww=>Sta (ctx 68 H [zG1] w) [(2,.val (z05 v1 0)),(4,.val (z05 v3 0)),(10,.val (n11 0)),(11,.val (z05 v14 0))] [(1,some (v1,.box 25 [.rd z01 a0])),(3,some (v3,.box 25 [.val (.slice none 0 0),.val (.slice none 0 0)])),(21,some ((n11 0),.list aZ 31 r10)),(30,some (v14,.box 25 [.rd z01 s15])),zG1] aa ww) ?_ (fun s15=>?_)
 ·refine gSR<|Zm Z<|Zq (z3h Z (.own 21 Z) Z tu22)<|Zm Z<|Zn<|z24 (fun (s16:z00 × Int) aa ww=>Sta (ctx 68 H [zG1] w) [(2,.val (z05 v1 0)),(3,.val (z05 v2 0)),(4,.val (z05 v3 0)),(10,.val (n11 0)),(11,.val (z05 v14 0)),(39,.val (n11 0)),(40,.rd z0c (r10.length:Int)),(41,.rd z0c s16.2)] [(1,some (v1,.box 25 [.rd z01 a0])),(2,some (v2,.box 25 [.rd z01 a1])),(3,some (v3,.box 25 [.val (.slice none 0 0),.val (.slice none 0 0)])),(21,some ((n11 0),.list aZ 31 r10)),(30,some (v14,.box 25 [.rd z01 s16.1])),zG1] aa ww) (fun aa ww h=>Zu h [1,2,3,21,30,1001]) (fun s16=>?_)
  refine gSR<|Zq (I.lss Z Z)<|Zn<|z0t<|gIf Z Z (fun h17=>?_) (fun h17=>?_)
  ·refine Zt<|z0t<|z4m<|gSR<|z0m fun x18 h19=>Zq (ixO 21 Z Z Z h19 tu22 z1z)<|Zq (ld 21 Z Z (Foc.el h19) z3t Z)<|Eb Z (z4i 1100 z1z (.zr (R:=aZ) (x:=(Vector.replicate 32 0)) zef)) fun v20=>Es (sto 1100 Z Z fH Z z1z)<|Zn<|z0t<|gSR<|Zq (faB 2 Z Z Tryz.underlying25 Z (by exact z6b))<|Zq (ld 2 Z Z (fP (z0b _)) z93 Z)<|Zq (ld 1100 Z Z fH z3t Z)<|Zc [] [] Tryz.func46 Z (z2l _ _) fun r21 n22=>Zj Z (fun h23=>?_) (fun h23=>?_)
   ·refine z1w<|z0w<|z132<|z0n<|z2b<|Zq (I.add Z Z)<|Zm Z<|z1n<|z1j (fun aa ww h=>Zu h [1,2,3,21,30,1001])
   ·refine Zt<|gSR<|Zq (ld 1 Z Z fH z3k Z)<|Zq (ld 1100 Z Z fH z3t Z)<|Zc [1001] [] Tryz.func54 Z (zoy _ _) fun r24 n25=>Zm Z<|Zq (ext Z Z)<|Zq (ext Z Z)<|Eb Z (z4i 1101 z5t (ZrE.rd (R:=z0o) (x:=0) (Zr.num Z) (ZrE.nilS (ZrE.rd (R:=z2a) (x:=0) (Zr.num Z) (ZrE.rd (R:=z0d) (x:=(⟨0,[],(⟨0,0,0,[]⟩:z06)⟩:z0f)) zmk (ZrE.rd (R:=z0e) (x:=(⟨0,0⟩:z09)) zlr ZrE.nil Z) Z) Z)) Z)) fun v26=>z9m aZ [.rd z0o 0,.rd (z02 aZ) [],.rd z2a 0,.rd z0d (⟨0,[],(⟨0,0,0,[]⟩:z06)⟩:z0f),.rd z0e (⟨0,0⟩:z09)] 1101 [.rd z0o 0] [.rd z2a 0,.rd z0d (⟨0,[],(⟨0,0,0,[]⟩:z06)⟩:z0f),.rd z0e (⟨0,0⟩:z09)] Z Z Z<|zbs (R:=z03) (⟨0,[],0,(⟨0,[],(⟨0,0,0,[]⟩:z06)⟩:z0f),(⟨0,0⟩:z09)⟩:z08) 1101 Z (Sp.via (Sp.prod (Sp.prod (Sp.prod (Sp.prod (Sp.prod Sp.unit))))))<|Es (sto 1101 Z Z fH Z z5t)<|Zb Z<|z2b<|Zq (ld 30 Z Z fH z3k Z)<|Zq (ld 1101 Z Z fH z9t Z)<|Zc [1001] [] Tryz.func64 Z (zwl _ _) fun r27 n28=>Zm Z<|Zq (ext Z Z)<|Zq (ext Z Z)<|Zq (ext Z Z)<|Es (sto 30 Z Z fH Z z3v)<|z1n<|z3a<|z0n<|z2b<|Zq (I.add Z Z)<|Zm Z<|z1n<|z1j (fun aa ww h=>Zu h [1,2,3,21,30,1001])
  ·refine z1w<|z0w<|z0y<|z3g (fun aa ww h=>Zu h [1,3,21,30,1001])
 ·refine z0t<|z8s [3,1001,1111] mixed Z Z<|hTk 0 Z Z (ld 30 Z Z fH z3k Z)<|hTk 1 Z Z (ld 1 Z Z fH z3k Z)<|hTk 2 Z Z (mv Z)<|zuq 21 [10,65] Z (fS Z<|fS Z<|fN)<|z41 3 [1001] [(100,1111)] Z (by kernel_rfl) Z (gd0 Z) Z Tryz.func29 Z Z (zgw _ _) (Y2 Z Z) (y1 Z) Z (fun _ _=>z2t) fun r29 n30=>Zf 4 Z Z z2s (z3h Z (.own 1111 Z) Z Tryz.underlying37)<|hPnl aZ [.rd (z02 aZ) [],.val (.slice none 0 0)] 3 [] [.val (.slice none 0 0)] Z Z Z<|hPnl z03 [.rd (z02 aZ) [],.rd (z02 z03) []] 3 [.rd (z02 aZ) []] [] Z Z Z<|hJoi (R:=z01) (⟨[],[]⟩:z00) 3 Z (Sp.via (Sp.prod (Sp.prod Sp.unit)))<|Zp 5 Z Z Z Z Z (sto 3 Z Z fH Z z3v)<|hTk 6 Z Z (asg Z)<|zzr 5 Z Z fun y31=>z54 (by kernel_rfl)<|z0n<|z0j<|zb4 [] [1001] Z (eC 3 Z Z z3k<|eE Z<|eN) (y1 Z)
def z9a (a0:z00) (a1:z00):Option (z00 × Int × Int) :=
 z9v a0 a1 >>= fun r4 =>
 if r4.2 != 0 then
  some ((⟨[],[]⟩:z00),0,r4.2)
 else
  za9 a0 a1 >>= fun r8 =>
  some (r8.1,r8.2,0)
theorem zft (a0:z00) (a1:z00):z1o Tryz.prog 12 [.rd z01 a0,.rd z01 a1] [zG1] (z9a a0 a1) (fun r nv=>⟨[.rd z01 r.1,.rd z0c r.2.1,.rd z0c r.2.2],[(1001,some (.bool true,.glob 1 (z3b 64 z0o) z52))]⟩):=by
 refine z29 29 Tryz.func12 Z Z Z fun H w=>?_;refine gSR<|Eb Z (bx 1 Z) fun v1=>Eb Z (bx 2 Z) fun v2=>Eb Z (z4i 3 z3v (ZrE.nilS (ZrE.nilS ZrE.nil))) fun v3=>Za Z<|Zb Z<|z0t<|gSR<|Zq (ld 1 Z Z fH z3k Z)<|Zq (ld 2 Z Z fH z3k Z)<|Zc [1001] [] Tryz.func30 Z (zh2 _ _) fun r4 n5=>Zm Z<|Zq (ext Z Z)<|Zq (ext Z Z)<|Eb Z (z4i 4 z3v (ZrE.nilS (ZrE.nilS ZrE.nil))) fun v6=>z9m aZ [.rd (z02 aZ) [],.val (.slice none 0 0)] 4 [] [.val (.slice none 0 0)] Z Z Z<|z9m z03 [.rd (z02 aZ) [],.rd (z02 z03) []] 4 [.rd (z02 aZ) []] [] Z Z Z<|zbs (R:=z01) (⟨[],[]⟩:z00) 4 Z (Sp.via (Sp.prod (Sp.prod Sp.unit)))<|Es (sto 4 Z Z fH Z z3v)<|Zb Z<|gSR<|Zm Z<|Zq (I.neq Z Z)<|Zj Z (fun h7=>?_) (fun h7=>?_)
 ·refine gSR<|Zq (zlv [(0,1),(1,1)] Tryz.underlying25 z3v (ZrE.nilS (ZrE.nilS ZrE.nil)) Z (zfm.done Z))<|Zm Z<|Es (zkr 3 Z Z (z07.cast (z07.cons z04 (z07.cons z04 z07.nil)) Z) Z (z1i.cons z0i (z1i.cons z0i z1i.nil)) (z07.cast (z07.cons z04 (z07.cons z04 z07.nil)) Z) z3v)<|Za Z<|Zb Z<|z0j<|z0v<|zgs aZ [.rd (z02 aZ) [],.val (.slice none 0 0)] 3 [] [.val (.slice none 0 0)] Z Z Z<|zgs z03 [.rd (z02 aZ) [],.rd (z02 z03) []] 3 [.rd (z02 aZ) []] [] Z Z Z<|zoi (R:=z01) (⟨[],[]⟩:z00) 3 Z (Sp.via (Sp.prod (Sp.prod Sp.unit)))<|zb4 [] [1001] Z (eC 3 Z Z z3k<|eE Z<|eE Z<|eN) (y1 Z)
 ·refine Zt<|gSR<|Zq (ld 1 Z Z fH z3k Z)<|Zq (ld 2 Z Z fH z3k Z)<|Zc [1001] [] Tryz.func31 Z (zgb _ _) fun r8 n9=>Zm Z<|Zq (ext Z Z)<|Zq (ext Z Z)<|Eb Z (z4i 5 z3v (ZrE.nilS (ZrE.nilS ZrE.nil))) fun v10=>z9m aZ [.rd (z02 aZ) [],.val (.slice none 0 0)] 5 [] [.val (.slice none 0 0)] Z Z Z<|z9m z03 [.rd (z02 aZ) [],.rd (z02 z03) []] 5 [.rd (z02 aZ) []] [] Z Z Z<|zbs (R:=z01) (⟨[],[]⟩:z00) 5 Z (Sp.via (Sp.prod (Sp.prod Sp.unit)))<|Es (sto 5 Z Z fH Z z3v)<|Zb Z<|gSR<|Zq (ld 5 Z Z fH z3k Z)<|Zm Z<|z9m aZ [.rd (z02 aZ) [],.val (.slice none 0 0)] 3 [] [.val (.slice none 0 0)] Z Z Z<|z9m z03 [.rd (z02 aZ) [],.rd (z02 z03) []] 3 [.rd (z02 aZ) []] [] Z Z Z<|zbs (R:=z01) (⟨[],[]⟩:z00) 3 Z (Sp.via (Sp.prod (Sp.prod Sp.unit)))<|Es (sto 3 Z Z fH Z z3v)<|Za Z<|Zb Z<|z0j<|zb4 [] [1001] Z (eC 3 Z Z z3k<|eE Z<|eE Z<|eN) (y1 Z)
def z7h (a0:z00) (a1:z00):Option (z00 × z00 × Int × Int) :=
 z9v a0 a1 >>= fun r5 =>
 if r5.2 != 0 then
  some ((⟨[],[]⟩:z00),(⟨[],[]⟩:z00),0,r5.2)
 else
  za9 a0 a1 >>= fun r9 =>
  za9 a1 a0 >>= fun r11 =>
  some (w64 (r9.2+r11.2)) >>= fun y14 =>
  some (r11.1,r9.1,y14,0)
set_option maxHeartbeats 4000000 in
theorem zfc (a0:z00) (a1:z00):z1o Tryz.prog 13 [.rd z01 a0,.rd z01 a1] [zG1] (z7h a0 a1) (fun r nv=>⟨[.rd z01 r.1,.rd z01 r.2.1,.rd z0c r.2.2.1,.rd z0c r.2.2.2],[(1001,some (.bool true,.glob 1 (z3b 64 z0o) z52))]⟩):=by
 refine z29 40 Tryz.func13 Z Z Z fun H w=>?_;refine gSR<|Eb Z (bx 1 Z) fun v1=>Eb Z (bx 2 Z) fun v2=>Eb Z (z4i 3 z3v (ZrE.nilS (ZrE.nilS ZrE.nil))) fun v3=>Eb Z (z4i 4 z3v (ZrE.nilS (ZrE.nilS ZrE.nil))) fun v4=>Za Z<|Zb Z<|z0t<|gSR<|Zq (ld 1 Z Z fH z3k Z)<|Zq (ld 2 Z Z fH z3k Z)<|Zc [1001] [] Tryz.func30 Z (zh2 _ _) fun r5 n6=>Zm Z<|Zq (ext Z Z)<|Zq (ext Z Z)<|Eb Z (z4i 5 z3v (ZrE.nilS (ZrE.nilS ZrE.nil))) fun v7=>z9m aZ [.rd (z02 aZ) [],.val (.slice none 0 0)] 5 [] [.val (.slice none 0 0)] Z Z Z<|z9m z03 [.rd (z02 aZ) [],.rd (z02 z03) []] 5 [.rd (z02 aZ) []] [] Z Z Z<|zbs (R:=z01) (⟨[],[]⟩:z00) 5 Z (Sp.via (Sp.prod (Sp.prod Sp.unit)))<|Es (sto 5 Z Z fH Z z3v)<|Zb Z<|gSR<|Zm Z<|Zq (I.neq Z Z)<|Zj Z (fun h8=>?_) (fun h8=>?_)
 ·refine gSR<|Zq (zlv [(0,1),(1,1)] Tryz.underlying25 z3v (ZrE.nilS (ZrE.nilS ZrE.nil)) Z (zfm.done Z))<|Zq (zlv [(0,1),(1,1)] Tryz.underlying25 z3v (ZrE.nilS (ZrE.nilS ZrE.nil)) Z (zfm.done Z))<|Zm Z<|Es (zkr 3 Z Z (z07.cast (z07.cons z04 (z07.cons z04 z07.nil)) Z) Z (z1i.cons z0i (z1i.cons z0i z1i.nil)) (z07.cast (z07.cons z04 (z07.cons z04 z07.nil)) Z) z3v)<|Es (zkr 4 Z Z (z07.cast (z07.cons z04 (z07.cons z04 z07.nil)) Z) Z (z1i.cons z0i (z1i.cons z0i z1i.nil)) (z07.cast (z07.cons z04 (z07.cons z04 z07.nil)) Z) z3v)<|Za Z<|Zb Z<|z0j<|z0v<|zgs aZ [.rd (z02 aZ) [],.val (.slice none 0 0)] 3 [] [.val (.slice none 0 0)] Z Z Z<|zgs z03 [.rd (z02 aZ) [],.rd (z02 z03) []] 3 [.rd (z02 aZ) []] [] Z Z Z<|zoi (R:=z01) (⟨[],[]⟩:z00) 3 Z (Sp.via (Sp.prod (Sp.prod Sp.unit)))<|zgs aZ [.rd (z02 aZ) [],.val (.slice none 0 0)] 4 [] [.val (.slice none 0 0)] Z Z Z<|zgs z03 [.rd (z02 aZ) [],.rd (z02 z03) []] 4 [.rd (z02 aZ) []] [] Z Z Z<|zoi (R:=z01) (⟨[],[]⟩:z00) 4 Z (Sp.via (Sp.prod (Sp.prod Sp.unit)))<|zb4 [] [1001] Z (eC 3 Z Z z3k<|eC 4 Z Z z3k<|eE Z<|eE Z<|eN) (y1 Z)
 ·refine Zt<|gSR<|Zq (ld 1 Z Z fH z3k Z)<|Zq (ld 2 Z Z fH z3k Z)<|Zc [1001] [] Tryz.func31 Z (zgb _ _) fun r9 n10=>Zm Z<|Zq (ext Z Z)<|Zq (ext Z Z)<|z9m aZ [.rd (z02 aZ) [],.val (.slice none 0 0)] 4 [] [.val (.slice none 0 0)] Z Z Z<|z9m z03 [.rd (z02 aZ) [],.rd (z02 z03) []] 4 [.rd (z02 aZ) []] [] Z Z Z<|zbs (R:=z01) (⟨[],[]⟩:z00) 4 Z (Sp.via (Sp.prod (Sp.prod Sp.unit)))<|Es (sto 4 Z Z fH Z z3v)<|Zb Z<|gSR<|Zq (ld 2 Z Z fH z3k Z)<|Zq (ld 1 Z Z fH z3k Z)<|Zc [1001] [] Tryz.func31 Z (zgb _ _) fun r11 n12=>Zm Z<|Zq (ext Z Z)<|Zq (ext Z Z)<|z9m aZ [.rd (z02 aZ) [],.val (.slice none 0 0)] 3 [] [.val (.slice none 0 0)] Z Z Z<|z9m z03 [.rd (z02 aZ) [],.rd (z02 z03) []] 3 [.rd (z02 aZ) []] [] Z Z Z<|zbs (R:=z01) (⟨[],[]⟩:z00) 3 Z (Sp.via (Sp.prod (Sp.prod Sp.unit)))<|Es (sto 3 Z Z fH Z z3v)<|Zb Z<|z0t<|zps [(4,.val (z05 v3 0)),(5,.val (z05 v4 0)),(10,.rd z0c r9.2),(11,.rd z0c r11.2)] [zG1,(1,some (v1,.box 25 [.rd z01 a0])),(2,some (v2,.box 25 [.rd z01 a1])),(3,some (v3,.box 25 [.rd z01 r11.1])),(4,some (v4,.box 25 [.rd z01 r9.1])),(5,some (v7,.box 25 [.rd z01 r5.1]))] [1001,1,2,3,4,5] (Zs Z Z Z Z<|sN) (Zi Z<|Zi Z<|Zi Z<|Zi Z<|Zi Z<|Zi Z<|rN)<|gOr [] [⟨3,some ([], fun nv=>(v3,.box 25 [.rd z01 r11.1])),[]⟩,⟨4,some ([], fun nv=>(v4,.box 25 [.rd z01 r9.1])),[]⟩] [pk 35 (.rd z01 r11.1) [(0,0,false)],pk 36 (.rd z01 r9.1) [(1,0,false)],pd 37 (.rd z0c r9.2),pd 38 (.rd z0c r11.2),pd 39 (.rd z0c (w64 (r9.2+r11.2))),⟨none,[(0,0,false)],[],[]⟩,⟨none,[(1,0,false)],[],[]⟩,pd 6 (.rd z0c (w64 (r9.2+r11.2))),pd 7 (.rd z0c 0)] mixed (oC (oRn (fun nv E=>ld 3 Z Z fH z3k Z))<|oC (oRn (fun nv E=>ld 4 Z Z fH z3k Z))<|oC (oRn (fun nv E=>mv Z))<|oC (oRn (fun nv E=>mv Z))<|oC (oRn (fun nv E=>I.add Z Z))<|oC (oEs 3 (fun nv E=>sto 3 Z Z fH Z z3v))<|oC (oEs 4 (fun nv E=>sto 4 Z Z fH Z z3v))<|oC (oRn (fun nv E=>asg Z))<|oC (oRn (fun nv E=>asg Z))<|oN) fun n13=>z18e 6 Z fun y14=>z0n<|z0j<|zb4 [] [1001] Z (eC 3 Z Z z3k<|eC 4 Z Z z3k<|eE Z<|eE Z<|eN) (y1 Z)
def zb3  : Option (Bool) :=
 z6v >>= fun r1 =>
 z4o r1 >>= fun r3 =>
 cut r1 0 1 >>= fun x6 =>
 z4o x6 >>= fun r8 =>
 idx r1 0 >>= fun x11 =>
 z3p x11 >>= fun r13 =>
 idx r1 1 >>= fun x16 =>
 z3p x16 >>= fun r18 =>
 idx r1 2 >>= fun x21 =>
 z3p x21 >>= fun r23 =>
 idx r1 0 >>= fun x27 =>
 z3c 9 [r13] >>= fun r29 =>
 z4o [x27,r29] >>= fun r32 =>
 z4k r8.1 [r23] >>= fun r37 =>
 z7v r3.1 [r23] [r13] >>= fun r41 =>
 z3c 9 [r13] >>= fun r43 =>
 z3p r43 >>= fun r46 =>
 z7v r3.1 [r23] [r46] >>= fun r49 =>
 z7h r3.1 r8.1 >>= fun r53 =>
 (if r3.2 != 0 then
  some true
 else
  if r8.2 != 0 then
   some true
  else
   if r32.2 != 0 then
    some true
   else
    if r37.2 != 0 then
     some true
    else
     if r41.2 != 0 then
      some true
     else
      if r49.2 != 0 then
       some true
      else
       if r53.2.2.2 != 0 then
        some true
       else
        some ((r32.1.IDs.length:Int) != 2)) >>= fun s57 =>
 if s57 then
  some false
 else
  z4s r37.1 [r23] >>= fun r68 =>
  if r68 then
   z4s r41.1 [r18,r23] >>= fun r72 =>
   if r72 then
    z4s r49.1 [r13,r18,r23] >>= fun r76 =>
    if r76 then
     if r53.2.2.1==1 then
      z89 r53.1 r3.1 >>= fun r80 =>
      if r80 then
       z89 r53.2.1 r3.1 >>= fun r83 =>
       some r83
      else
       some false
     else
      some false
    else
     some false
   else
    some false
  else
   some false
end
section
open Go Go.RowKit
set_option maxRecDepth 100000
set_option maxHeartbeats 4000000 in
theorem zj4  : z1o Tryz.prog 14 [] [zG1] (zb3) (fun r nv=>⟨[.rd z0h r],[(1001,some (.bool true,.glob 1 (z3b 64 z0o) z52))]⟩):=by
 refine z29 157 Tryz.func14 Z Z Z fun H w=>?_;refine gSR<|Zb Z<|gSR<|Zc [] [(100,1)] Tryz.func5 Z (zd3) fun r1 n2=>Zb Z<|gSR<|Zm Z<|zf0 1 [21,1,23] Z (fS Z<|fS Z<|fS Z<|fN)<|Zc [] [] Tryz.func4 Z (zb9 _) fun r3 n4=>Zm Z<|Zq (ext Z Z)<|Zq (ext Z Z)<|Eb Z (z4i 2 z3v (ZrE.nilS (ZrE.nilS ZrE.nil))) fun v5=>z9m aZ [.rd (z02 aZ) [],.val (.slice none 0 0)] 2 [] [.val (.slice none 0 0)] Z Z Z<|z9m z03 [.rd (z02 aZ) [],.rd (z02 z03) []] 2 [.rd (z02 aZ) []] [] Z Z Z<|zbs (R:=z01) (⟨[],[]⟩:z00) 2 Z (Sp.via (Sp.prod (Sp.prod Sp.unit)))<|Es (sto 2 Z Z fH Z z3v)<|Zb Z<|gSR<|Zm Z<|z0m fun x6 h7=>Zq (cut' Z .no (.to Z) h7 tu23 z5t)<|Zc [] [] Tryz.func4 Z (zb9 _) fun r8 n9=>Zm Z<|Zq (ext Z Z)<|Zq (ext Z Z)<|Eb Z (z4i 3 z3v (ZrE.nilS (ZrE.nilS ZrE.nil))) fun v10=>z9m aZ [.rd (z02 aZ) [],.val (.slice none 0 0)] 3 [] [.val (.slice none 0 0)] Z Z Z<|z9m z03 [.rd (z02 aZ) [],.rd (z02 z03) []] 3 [.rd (z02 aZ) []] [] Z Z Z<|zbs (R:=z01) (⟨[],[]⟩:z00) 3 Z (Sp.via (Sp.prod (Sp.prod Sp.unit)))<|Es (sto 3 Z Z fH Z z3v)<|Zb Z<|z0t<|zps [(1,.rd (z02 z03) r1),(2,.val (z05 v5 0)),(3,.rd z0c r3.2),(4,.val (z05 v10 0)),(5,.rd z0c r8.2)] [zG1,(2,some (v5,.box 25 [.rd z01 r3.1])),(3,some (v10,.box 25 [.rd z01 r8.1]))] [1001,2,3] (Zs Z Z Z Z<|sS Z<|sN) (Zi Z<|Zi Z<|Zi Z<|rN)<|z43 fun x11 h12=>z43 fun r13 h15=>z43 fun x16 h17=>z43 fun r18 h20=>z43 fun x21 h22=>z43 fun r23 h25=>gOr [] [⟨4,none,[(12,some ([1], fun nv=>((nv 1),.box 31 [.rd aZ (Vector.replicate 32 0)]))),(15,some ([1], fun nv=>((nv 1),.box 31 [.rd aZ r13])))]⟩,⟨5,none,[(13,some ([2], fun nv=>((nv 2),.box 31 [.rd aZ (Vector.replicate 32 0)]))),(16,some ([2], fun nv=>((nv 2),.box 31 [.rd aZ r18])))]⟩,⟨6,none,[(14,some ([3], fun nv=>((nv 3),.box 31 [.rd aZ (Vector.replicate 32 0)]))),(17,some ([3], fun nv=>((nv 3),.box 31 [.rd aZ r23])))]⟩] [pd 33 (.rd (z02 z03) r1),pd 34 (.rp z03 x11),pd 35 (.rd z03 x11),pd 36 (.rd aZ r13),pd 37 (.rd (z02 z03) r1),pd 38 (.rp z03 x16),pd 39 (.rd z03 x16),pd 40 (.rd aZ r18),pd 41 (.rd (z02 z03) r1),pd 42 (.rp z03 x21),pd 43 (.rd z03 x21),pd 44 (.rd aZ r23),⟨some (6,[1], fun nv=>.val (z05 (nv 1) 0)),[(0,0,true)],[1],[]⟩,⟨some (7,[2], fun nv=>.val (z05 (nv 2) 0)),[(1,0,true)],[2],[]⟩,⟨some (8,[3], fun nv=>.val (z05 (nv 3) 0)),[(2,0,true)],[3],[]⟩,⟨none,[(0,1,true)],[],[]⟩,⟨none,[(1,1,true)],[],[]⟩,⟨none,[(2,1,true)],[],[]⟩] mixed (oC (oRn (fun nv E=>mv Z))<|oC (oRn (fun nv E=>ixR Z Z h12 tu23 z5t Z))<|oC (oRn (fun nv E=>ldR Z z9t))<|oC (oCl [] [] [] h15 Tryz.func18 Z (fun nv=>(z4e _)) (fun nv=>(Y1 Z)) (fun nv E=>rN))<|oC (oRn (fun nv E=>mv Z))<|oC (oRn (fun nv E=>ixR Z Z h17 tu23 z5t Z))<|oC (oRn (fun nv E=>ldR Z z9t))<|oC (oCl [] [] [] h20 Tryz.func18 Z (fun nv=>(z4e _)) (fun nv=>(Y1 Z)) (fun nv E=>rN))<|oC (oRn (fun nv E=>mv Z))<|oC (oRn (fun nv E=>ixR Z Z h22 tu23 z5t Z))<|oC (oRn (fun nv E=>ldR Z z9t))<|oC (oCl [] [] [] h25 Tryz.func18 Z (fun nv=>(z4e _)) (fun nv=>(Y1 Z)) (fun nv E=>rN))<|oC (oEb 4 1 (fun nv E=>z4i 4 z1z (.zr (R:=aZ) (x:=(Vector.replicate 32 0)) zef)))<|oC (oEb 5 2 (fun nv E=>z4i 5 z1z (.zr (R:=aZ) (x:=(Vector.replicate 32 0)) zef)))<|oC (oEb 6 3 (fun nv E=>z4i 6 z1z (.zr (R:=aZ) (x:=(Vector.replicate 32 0)) zef)))<|oC (oEs 4 (fun nv E=>sto 4 Z Z fH Z z1z))<|oC (oEs 5 (fun nv E=>sto 5 Z Z fH Z z1z))<|oC (oEs 6 (fun nv E=>sto 6 Z Z fH Z z1z))<|oN) fun n26=>z0n<|z0t<|zps [(1,.rd (z02 z03) r1),(2,.val (z05 v5 0)),(3,.rd z0c r3.2),(4,.val (z05 v10 0)),(5,.rd z0c r8.2),(6,.val (z05 (n26 1) 0)),(7,.val (z05 (n26 2) 0)),(8,.val (z05 (n26 3) 0))] [zG1,(2,some (v5,.box 25 [.rd z01 r3.1])),(3,some (v10,.box 25 [.rd z01 r8.1])),(4,some ((n26 1),.box 31 [.rd aZ r13])),(5,some ((n26 2),.box 31 [.rd aZ r18])),(6,some ((n26 3),.box 31 [.rd aZ r23]))] [1001,2,3,4,5,6] (Zs Z Z Z Z<|Zs Z Z Z Z<|sN) (Zi Z<|Zi Z<|Zi Z<|Zi Z<|Zi Z<|Zi Z<|rN)<|z43 fun x27 h28=>z43 fun r29 h31=>z43 fun r32 h34=>gOr [] [⟨4,some ([], fun nv=>((n26 1),.box 31 [.rd aZ r13])),[]⟩,⟨7,none,[(4,none)]⟩,⟨8,none,[(6,none)]⟩,⟨9,none,[(11,some ([3], fun nv=>((nv 3),.box 25 [.rd z01 (⟨[],[]⟩:z00)]))),(12,some ([3], fun nv=>((nv 3),.box 25 [.rd z01 r32.1])))]⟩] [pd 46 (.rd (z02 z03) r1),pd 47 (.rp z03 x27),pd 48 (.rd z03 x27),pk 49 (.rd aZ r13) [(0,0,false)],⟨some (50,[], fun nv=>.rd (z02 aZ) [r13]),[(1,0,true)],[1],[]⟩,pd 51 (.rd z03 r29),⟨some (52,[], fun nv=>.rd (z02 z03) [x27,r29]),[(2,0,true)],[2],[]⟩,pd 53 (.tup [.rd z01 r32.1,.rd z0c r32.2]),pd 45 (.tup [.rd z01 r32.1,.rd z0c r32.2]),pd 54 (.rd z01 r32.1),pd 55 (.rd z0c r32.2),⟨some (9,[3], fun nv=>.val (z05 (nv 3) 0)),[(3,0,true)],[3],[]⟩,⟨none,[(3,1,true)],[],[]⟩,pd 10 (.rd z0c r32.2)] mixed (oC (oRn (fun nv E=>mv Z))<|oC (oRn (fun nv E=>ixR Z Z h28 tu23 z5t Z))<|oC (oRn (fun nv E=>ldR Z z9t))<|oC (oRn (fun nv E=>ld 4 Z Z fH z3t Z))<|oC (oFz (A1:=fun nv=>[(7,some ((nv 1),.list aZ 31 [r13]))]) 7 1 (oEf 7 1 (fun nv E=>lit (R:=aZ) ([r13]:List V3) 7 (pP Z Z<|pN) Z tu22 z1z Z Z)))<|oC (oCl [] [] [] h31 Tryz.func22 Z (fun nv=>(z91 _ _)) (fun nv=>(Y2 Z Z)) (fun nv E=>rN))<|oC (oFz (A1:=fun nv=>[(8,some ((nv 2),.list z03 57 [x27,r29]))]) 8 2 (oEf 8 2 (fun nv E=>lit (R:=z03) ([x27,r29]:List z08) 8 (pP Z Z<|pP Z Z<|pN) Z tu23 z5t Z Z)))<|oC (oCl [] [] [] h34 Tryz.func4 Z (fun nv=>(zb9 _)) (fun nv=>(Y1 Z)) (fun nv E=>rN))<|oC (oRn (fun nv E=>mv Z))<|oC (oRn (fun nv E=>ext Z Z))<|oC (oRn (fun nv E=>ext Z Z))<|oC (oEb 9 3 (fun nv E=>z4i 9 z3v (.zr (R:=z01) (x:=(⟨[],[]⟩:z00)) zr25)))<|oC (oEs 9 (fun nv E=>sto 9 Z Z fH Z z3v))<|oC (oRn (fun nv E=>asg Z))<|oN) fun n35=>z0n<|gSR<|Zq (ld 3 Z Z fH z3k Z)<|Zq (ld 6 Z Z fH z3t Z)<|Ef Z (lit (R:=aZ) ([r23]:List V3) 10 (pP Z Z<|pN) Z tu22 z1z Z Z) fun v36=>zf0 10 [59] Z (fS Z<|fN)<|Zc [1001] [(100,11)] Tryz.func8 Z (zat _ _) fun r37 n38=>Zm Z<|Zq (ext Z Z)<|Zq (ext Z Z)<|Za Z<|Zb Z<|gSR<|Zq (ld 2 Z Z fH z3k Z)<|Zq (ld 6 Z Z fH z3t Z)<|Ef Z (lit (R:=aZ) ([r23]:List V3) 12 (pP Z Z<|pN) Z tu22 z1z Z Z) fun v39=>Zq (ld 4 Z Z fH z3t Z)<|Ef Z (lit (R:=aZ) ([r13]:List V3) 13 (pP Z Z<|pN) Z tu22 z1z Z Z) fun v40=>zf0 12 [66] Z (fS Z<|fN)<|zf0 13 [68] Z (fS Z<|fN)<|Zc [1001] [(100,14)] Tryz.func10 Z (zdp _ _ _) fun r41 n42=>Zm Z<|Zq (ext Z Z)<|Zq (ext Z Z)<|Za Z<|Zb Z<|z0t<|zps [(2,.val (z05 v5 0)),(3,.rd z0c r3.2),(4,.val (z05 v10 0)),(5,.rd z0c r8.2),(6,.val (z05 (n26 1) 0)),(7,.val (z05 (n26 2) 0)),(8,.val (z05 (n26 3) 0)),(9,.val (z05 (n35 3) 0)),(10,.rd z0c r32.2),(11,.val (n38 0)),(12,.rd z0c r37.2),(13,.val (n42 0)),(14,.rd z0c r41.2)] [zG1,(2,some (v5,.box 25 [.rd z01 r3.1])),(3,some (v10,.box 25 [.rd z01 r8.1])),(4,some ((n26 1),.box 31 [.rd aZ r13])),(5,some ((n26 2),.box 31 [.rd aZ r18])),(6,some ((n26 3),.box 31 [.rd aZ r23])),(9,some ((n35 3),.box 25 [.rd z01 r32.1])),(11,some ((n38 0),.list aZ 31 r37.1)),(14,some ((n42 0),.list aZ 31 r41.1))] [1001,2,3,4,5,6,9,11,14] (Zs Z Z Z Z<|Zs Z Z Z Z<|Zs Z Z Z Z<|sS Z<|sN) (Zi Z<|Zi Z<|Zi Z<|Zi Z<|Zi Z<|Zi Z<|Zi Z<|Zi Z<|Zi Z<|rN)<|z43 fun r43 h45=>z43 fun r46 h48=>z43 fun r49 h51=>gOr [] [⟨2,some ([], fun nv=>(v5,.box 25 [.rd z01 r3.1])),[]⟩,⟨6,some ([], fun nv=>((n26 3),.box 31 [.rd aZ r23])),[]⟩,⟨15,none,[(2,none)]⟩,⟨4,some ([], fun nv=>((n26 1),.box 31 [.rd aZ r13])),[]⟩,⟨16,none,[(4,none)]⟩,⟨17,none,[(7,none)]⟩,⟨1001,some ([], fun nv=>((.bool true),.glob 1 (z3b 64 z0o) z52)),[]⟩,⟨18,none,[(8,some ([4], fun nv=>((nv 4),.list aZ 31 r49.1)))]⟩] [pk 73 (.rd z01 r3.1) [(0,0,false)],pk 74 (.rd aZ r23) [(1,0,false)],⟨some (75,[], fun nv=>.rd (z02 aZ) [r23]),[(2,0,true)],[1],[]⟩,pk 76 (.rd aZ r13) [(3,0,false)],⟨some (77,[], fun nv=>.rd (z02 aZ) [r13]),[(4,0,true)],[2],[]⟩,pd 78 (.rd z03 r43),pd 79 (.rd aZ r46),⟨some (80,[], fun nv=>.rd (z02 aZ) [r46]),[(5,0,true)],[3],[]⟩,⟨some (81,[4], fun nv=>.tup [.val (nv 4),.rd z0c r49.2]),[(6,0,false),(7,0,true)],[4],[]⟩,⟨some (72,[4], fun nv=>.tup [.val (nv 4),.rd z0c r49.2]),[],[],[]⟩,⟨some (82,[4], fun nv=>.val (nv 4)),[],[],[]⟩,pd 83 (.rd z0c r49.2),⟨some (15,[4], fun nv=>.val (nv 4)),[],[],[]⟩,pd 16 (.rd z0c r49.2)] mixed (oC (oRn (fun nv E=>ld 2 Z Z fH z3k Z))<|oC (oRn (fun nv E=>ld 6 Z Z fH z3t Z))<|oC (oFz (A1:=fun nv=>[(15,some ((nv 1),.list aZ 31 [r23]))]) 15 1 (oEf 15 1 (fun nv E=>lit (R:=aZ) ([r23]:List V3) 15 (pP Z Z<|pN) Z tu22 z1z Z Z)))<|oC (oRn (fun nv E=>ld 4 Z Z fH z3t Z))<|oC (oFz (A1:=fun nv=>[(16,some ((nv 2),.list aZ 31 [r13]))]) 16 2 (oEf 16 2 (fun nv E=>lit (R:=aZ) ([r13]:List V3) 16 (pP Z Z<|pN) Z tu22 z1z Z Z)))<|oC (oCl [] [] [] h45 Tryz.func22 Z (fun nv=>(z91 _ _)) (fun nv=>(Y2 Z Z)) (fun nv E=>rN))<|oC (oCl [] [] [] h48 Tryz.func18 Z (fun nv=>(z4e _)) (fun nv=>(Y1 Z)) (fun nv E=>rN))<|oC (oFz (A1:=fun nv=>[(17,some ((nv 3),.list aZ 31 [r46]))]) 17 3 (oEf 17 3 (fun nv E=>lit (R:=aZ) ([r46]:List V3) 17 (pP Z Z<|pN) Z tu22 z1z Z Z)))<|oC (oCl [4] [1001] [(100,18)] h51 Tryz.func10 Z (fun nv=>(zdp _ _ _)) (fun nv=>(aQ Z<|aQ Z<|aQ Z<|aN)) (fun nv E=>(y1 Z)))<|oC (oRn (fun nv E=>mv Z))<|oC (oRn (fun nv E=>ext Z Z))<|oC (oRn (fun nv E=>ext Z Z))<|oC (oRn (fun nv E=>asg Z))<|oC (oRn (fun nv E=>asg Z))<|oN) fun n52=>z0n<|gSR<|Zq (ld 2 Z Z fH z3k Z)<|Zq (ld 3 Z Z fH z3k Z)<|Zc [1001] [] Tryz.func13 Z (zfc _ _) fun r53 n54=>Zm Z<|Zq (ext Z Z)<|Zq (ext Z Z)<|Zq (ext Z Z)<|Zq (ext Z Z)<|Eb Z (z4i 19 z3v (ZrE.nilS (ZrE.nilS ZrE.nil))) fun v55=>Eb Z (z4i 20 z3v (ZrE.nilS (ZrE.nilS ZrE.nil))) fun v56=>z9m aZ [.rd (z02 aZ) [],.val (.slice none 0 0)] 19 [] [.val (.slice none 0 0)] Z Z Z<|z9m z03 [.rd (z02 aZ) [],.rd (z02 z03) []] 19 [.rd (z02 aZ) []] [] Z Z Z<|zbs (R:=z01) (⟨[],[]⟩:z00) 19 Z (Sp.via (Sp.prod (Sp.prod Sp.unit)))<|Es (sto 19 Z Z fH Z z3v)<|z9m aZ [.rd (z02 aZ) [],.val (.slice none 0 0)] 20 [] [.val (.slice none 0 0)] Z Z Z<|z9m z03 [.rd (z02 aZ) [],.rd (z02 z03) []] 20 [.rd (z02 aZ) []] [] Z Z Z<|zbs (R:=z01) (⟨[],[]⟩:z00) 20 Z (Sp.via (Sp.prod (Sp.prod Sp.unit)))<|Es (sto 20 Z Z fH Z z3v)<|Za Z<|Zb Z<|z0t<|z8d (fun (s57:Bool) aa ww=>∃ nv:Nat→Value,Sta (ctx 157 H [zG1] w) [(2,.val (z05 v5 0)),(6,.val (z05 (nv 0) 0)),(7,.val (z05 (nv 1) 0)),(8,.val (z05 (nv 2) 0)),(11,.val (n38 0)),(13,.val (n42 0)),(15,.val (nv 3)),(17,.val (z05 v55 0)),(18,.val (z05 v56 0)),(19,.rd z0c r53.2.2.1),(123,.rd z0h s57)] [(2,some (v5,.box 25 [.rd z01 r3.1])),(4,some ((nv 0),.box 31 [.rd aZ r13])),(5,some ((nv 1),.box 31 [.rd aZ r18])),(6,some ((nv 2),.box 31 [.rd aZ r23])),(11,some ((n38 0),.list aZ 31 r37.1)),(14,some ((n42 0),.list aZ 31 r41.1)),(18,some ((nv 3),.list aZ 31 r49.1)),(19,some (v55,.box 25 [.rd z01 r53.1])),(20,some (v56,.box 25 [.rd z01 r53.2.1])),zG1] aa ww) ?_ (fun s57=>?_)
 ·refine z2b<|Zm Z<|Zq (I.neq Z Z)<|Zm Z<|z19 94 Z (fun h58=>?_) (fun h58=>?_)
  ·refine lKn 93 Z h58<|Zk Z<|Zk Z<|Zq (pkT Z Z)<|Zm Z<|Zk Z<|Zk Z<|Zq (pkT Z Z)<|Zm Z<|Zk Z<|Zk Z<|Zq (pkT Z Z)<|Zm Z<|Zk Z<|Zk Z<|Zq (pkT Z Z)<|Zm Z<|Zk Z<|Zk Z<|Zq (pkT Z Z)<|Zm Z<|Zk Z<|Zk Z<|Zq (pkT Z Z)<|Zm Z<|Zk Z<|Zk Z<|Zk Z<|Zk Z<|Zq (pkT Z Z)<|z1n<|z3g (fun aa ww h=>⟨nvl [(n26 1),(n26 2),(n26 3),(n52 4)],Zu h [2,4,5,6,11,14,18,19,20,1001]⟩)
  ·refine lKn 93 Z h58<|z17 Zx Z Z (mv Z)<|z17 Zx Z Z (I.neq Z Z)<|Zq (pkF Z Z)<|Zm Z<|z19 98 Z (fun h59=>?_) (fun h59=>?_)
   ·refine lKn 96 Z h59<|lKn 97 Z h59<|Zk Z<|Zk Z<|Zq (pkT Z Z)<|Zm Z<|Zk Z<|Zk Z<|Zq (pkT Z Z)<|Zm Z<|Zk Z<|Zk Z<|Zq (pkT Z Z)<|Zm Z<|Zk Z<|Zk Z<|Zq (pkT Z Z)<|Zm Z<|Zk Z<|Zk Z<|Zq (pkT Z Z)<|Zm Z<|Zk Z<|Zk Z<|Zk Z<|Zk Z<|Zq (pkT Z Z)<|z1n<|z3g (fun aa ww h=>⟨nvl [(n26 1),(n26 2),(n26 3),(n52 4)],Zu h [2,4,5,6,11,14,18,19,20,1001]⟩)
   ·refine lKn 96 Z h59<|lKn 97 Z h59<|z17 Zx Z Z (mv Z)<|z17 Zx Z Z (I.neq Z Z)<|Zq (pkF Z Z)<|Zm Z<|z19 102 Z (fun h60=>?_) (fun h60=>?_)
    ·refine lKn 100 Z h60<|lKn 101 Z h60<|Zk Z<|Zk Z<|Zq (pkT Z Z)<|Zm Z<|Zk Z<|Zk Z<|Zq (pkT Z Z)<|Zm Z<|Zk Z<|Zk Z<|Zq (pkT Z Z)<|Zm Z<|Zk Z<|Zk Z<|Zq (pkT Z Z)<|Zm Z<|Zk Z<|Zk Z<|Zk Z<|Zk Z<|Zq (pkT Z Z)<|z1n<|z3g (fun aa ww h=>⟨nvl [(n26 1),(n26 2),(n26 3),(n52 4)],Zu h [2,4,5,6,11,14,18,19,20,1001]⟩)
    ·refine lKn 100 Z h60<|lKn 101 Z h60<|z17 Zx Z Z (mv Z)<|z17 Zx Z Z (I.neq Z Z)<|Zq (pkF Z Z)<|Zm Z<|z19 106 Z (fun h61=>?_) (fun h61=>?_)
     ·refine lKn 104 Z h61<|lKn 105 Z h61<|Zk Z<|Zk Z<|Zq (pkT Z Z)<|Zm Z<|Zk Z<|Zk Z<|Zq (pkT Z Z)<|Zm Z<|Zk Z<|Zk Z<|Zq (pkT Z Z)<|Zm Z<|Zk Z<|Zk Z<|Zk Z<|Zk Z<|Zq (pkT Z Z)<|z1n<|z3g (fun aa ww h=>⟨nvl [(n26 1),(n26 2),(n26 3),(n52 4)],Zu h [2,4,5,6,11,14,18,19,20,1001]⟩)
     ·refine lKn 104 Z h61<|lKn 105 Z h61<|z17 Zx Z Z (mv Z)<|z17 Zx Z Z (I.neq Z Z)<|Zq (pkF Z Z)<|Zm Z<|z19 110 Z (fun h62=>?_) (fun h62=>?_)
      ·refine lKn 108 Z h62<|lKn 109 Z h62<|Zk Z<|Zk Z<|Zq (pkT Z Z)<|Zm Z<|Zk Z<|Zk Z<|Zq (pkT Z Z)<|Zm Z<|Zk Z<|Zk Z<|Zk Z<|Zk Z<|Zq (pkT Z Z)<|z1n<|z3g (fun aa ww h=>⟨nvl [(n26 1),(n26 2),(n26 3),(n52 4)],Zu h [2,4,5,6,11,14,18,19,20,1001]⟩)
      ·refine lKn 108 Z h62<|lKn 109 Z h62<|z17 Zx Z Z (mv Z)<|z17 Zx Z Z (I.neq Z Z)<|Zq (pkF Z Z)<|Zm Z<|z19 114 Z (fun h63=>?_) (fun h63=>?_)
       ·refine lKn 112 Z h63<|lKn 113 Z h63<|Zk Z<|Zk Z<|Zq (pkT Z Z)<|Zm Z<|Zk Z<|Zk Z<|Zk Z<|Zk Z<|Zq (pkT Z Z)<|z1n<|z3g (fun aa ww h=>⟨nvl [(n26 1),(n26 2),(n26 3),(n52 4)],Zu h [2,4,5,6,11,14,18,19,20,1001]⟩)
       ·refine lKn 112 Z h63<|lKn 113 Z h63<|z17 Zx Z Z (mv Z)<|z17 Zx Z Z (I.neq Z Z)<|Zq (pkF Z Z)<|Zm Z<|z19 118 Z (fun h64=>?_) (fun h64=>?_)
        ·refine lKn 116 Z h64<|lKn 117 Z h64<|Zk Z<|Zk Z<|Zk Z<|Zk Z<|Zq (pkT Z Z)<|z1n<|z3g (fun aa ww h=>⟨nvl [(n26 1),(n26 2),(n26 3),(n52 4)],Zu h [2,4,5,6,11,14,18,19,20,1001]⟩)
        ·refine lKn 116 Z h64<|lKn 117 Z h64<|z17 Zx Z Z (faB 9 Z Z Tryz.underlying25 Z (by exact z6b))<|z17 Zx Z Z (ld 9 Z Z (fP (z0b _)) z93 Z)<|z17 Zx Z Z (z3h Z .rd Z tu22)<|z17 Zx Z Z (I.neq Z Z)<|Zq (pkF Z Z)<|z1n<|z3g (fun aa ww h=>⟨nvl [(n26 1),(n26 2),(n26 3),(n52 4)],Zu h [2,4,5,6,11,14,18,19,20,1001]⟩)
 ·refine gEx fun n65=>gIf Z Z (fun h66=>?_) (fun h66=>?_)
  ·refine gSR<|Zb Z<|z0j<|z0v<|Ze [] [1001] Z
  ·refine Zt<|gSR<|Zm Z<|Zq (ld 6 Z Z fH z3t Z)<|Ef Z (lit (R:=aZ) ([r23]:List V3) 1100 (pP Z Z<|pN) Z tu22 z1z Z Z) fun v67=>zf0 11 [11,124] Z (fS Z<|fS Z<|fN)<|zf0 1100 [126] Z (fS Z<|fN)<|Zc [] [] Tryz.func15 Z (z75 _ _) fun r68 n69=>Zm Z<|z19 128 Z (fun h70=>?_) (fun h70=>?_)
   ·refine lKn 127 Z h70<|z17 Zx Z Z (mv Z)<|z17 Zx Z Z (ld 5 Z Z fH z3t Z)<|z17 Zx Z Z (ld 6 Z Z fH z3t Z)<|Efg Zx Z Z (lit (R:=aZ) ([r18,r23]:List V3) 1101 (pP Z Z<|pP Z Z<|pN) Z tu22 z1z Z Z) fun v71=>zf0 14 [13,129] Z (fS Z<|fS Z<|fN)<|zf0 1101 [132] Z (fS Z<|fN)<|ze9 [] [] Zx Z Tryz.func15 Z Z (z75 _ _) (Y2 Z Z) rN fun r72 n73=>Zq (pkT Z Z)<|Zm Z<|z19 135 Z (fun h74=>?_) (fun h74=>?_)
    ·refine lKn 133 Z h74<|lKn 134 Z h74<|z17 Zx Z Z (mv Z)<|z17 Zx Z Z (ld 4 Z Z fH z3t Z)<|z17 Zx Z Z (ld 5 Z Z fH z3t Z)<|z17 Zx Z Z (ld 6 Z Z fH z3t Z)<|Efg Zx Z Z (lit (R:=aZ) ([r13,r18,r23]:List V3) 1102 (pP Z Z<|pP Z Z<|pP Z Z<|pN) Z tu22 z1z Z Z) fun v75=>zf0 18 [15,136] Z (fS Z<|fS Z<|fN)<|zf0 1102 [140] Z (fS Z<|fN)<|ze9 [] [] Zx Z Tryz.func15 Z Z (z75 _ _) (Y2 Z Z) rN fun r76 n77=>Zq (pkT Z Z)<|Zm Z<|z19 143 Z (fun h78=>?_) (fun h78=>?_)
     ·refine lKn 141 Z h78<|lKn 142 Z h78<|z17 Zx Z Z (mv Z)<|z17 Zx Z Z (I.eql Z Z)<|Zq (pkT Z Z)<|Zm Z<|z19 147 Z (fun h79=>?_) (fun h79=>?_)
      ·refine lKn 145 Z h79<|lKn 146 Z h79<|z17 Zx Z Z (ld 19 Z Z fH z3k Z)<|z17 Zx Z Z (ld 2 Z Z fH z3k Z)<|ze9 [] [] Zx Z Tryz.func16 Z Z (zbv _ _) (Y2 Z Z) rN fun r80 n81=>Zq (pkT Z Z)<|Zm Z<|z19 152 Z (fun h82=>?_) (fun h82=>?_)
       ·refine lKn 150 Z h82<|lKn 151 Z h82<|z17 Zx Z Z (ld 20 Z Z fH z3k Z)<|z17 Zx Z Z (ld 2 Z Z fH z3k Z)<|ze9 [] [] Zx Z Tryz.func16 Z Z (zbv _ _) (Y2 Z Z) rN fun r83 n84=>Zq (pkT Z Z)<|Zb Z<|z0j<|Ze [] [1001] Z
       ·refine lKn 150 Z h82<|lKn 151 Z h82<|Zk Z<|Zk Z<|Zk Z<|Zq (pkF Z Z)<|Zb Z<|z0j<|Ze [] [1001] Z
      ·refine lKn 145 Z h79<|lKn 146 Z h79<|Zk Z<|Zk Z<|Zk Z<|Zq (pkF Z Z)<|Zm Z<|Zk Z<|Zk Z<|Zk Z<|Zq (pkF Z Z)<|Zb Z<|z0j<|Ze [] [1001] Z
     ·refine lKn 141 Z h78<|lKn 142 Z h78<|Zk Z<|Zk Z<|Zq (pkF Z Z)<|Zm Z<|Zk Z<|Zk Z<|Zk Z<|Zq (pkF Z Z)<|Zm Z<|Zk Z<|Zk Z<|Zk Z<|Zq (pkF Z Z)<|Zb Z<|z0j<|Ze [] [1001] Z
    ·refine lKn 133 Z h74<|lKn 134 Z h74<|Zk Z<|Zk Z<|Zk Z<|Zk Z<|Zk Z<|Zk Z<|Zq (pkF Z Z)<|Zm Z<|Zk Z<|Zk Z<|Zq (pkF Z Z)<|Zm Z<|Zk Z<|Zk Z<|Zk Z<|Zq (pkF Z Z)<|Zm Z<|Zk Z<|Zk Z<|Zk Z<|Zq (pkF Z Z)<|Zb Z<|z0j<|Ze [] [1001] Z
   ·refine lKn 127 Z h70<|Zk Z<|Zk Z<|Zk Z<|Zk Z<|Zk Z<|Zq (pkF Z Z)<|Zm Z<|Zk Z<|Zk Z<|Zk Z<|Zk Z<|Zk Z<|Zk Z<|Zq (pkF Z Z)<|Zm Z<|Zk Z<|Zk Z<|Zq (pkF Z Z)<|Zm Z<|Zk Z<|Zk Z<|Zk Z<|Zq (pkF Z Z)<|Zm Z<|Zk Z<|Zk Z<|Zk Z<|Zq (pkF Z Z)<|Zb Z<|z0j<|Ze [] [1001] Z
set_option maxHeartbeats 4000000 in
theorem zi4 (a0:z00):z1o Tryz.prog 6 [.rd z01 a0] [] (z83 a0) (fun r nv=>⟨[.agg [.val (nv 0),.val (nv 1)]],[(100,some (nv 0,.list aZ 31 r.IDs)),(101,some (nv 1,.list z03 57 r.Ops))]⟩):=by
 refine z29 29 Tryz.func6 Z Z Z fun H w=>?_;refine gSR<|Eb Z (bx 1 Z) fun v1=>Eb Z (z4i 2 z3v (ZrE.nilS (ZrE.nilS ZrE.nil))) fun v2=>Zn<|gSR<|Ef Z (lit (R:=aZ) (([]:List V3):List V3) 3 (pN) Z tu22 z1z Z Z) fun v3=>Zq (faB 1 Z Z Tryz.underlying25 Z (by exact z6b))<|Zq (ld 1 Z Z (fP (z0b _)) z93 Z)<|z0m fun x4 h5=>Ef Z (apn 3 Z Z Z .rd h5 tu22 z1z Z Z Z) fun v6=>Zq (zlv [(0,1),(1,1)] Tryz.underlying25 z3v (ZrE.nilS (ZrE.nilS ZrE.nil)) Z (zfm.cons Z Z z04 (z9e.cast (z9e.here z04) Z)<|zfm.done Z))<|Eb Z (z4i 4 z3v (ZrE.nilS (ZrE.nilS ZrE.nil))) fun v7=>Es (zkr 4 Z Z (z07.cast (z07.cons z04 (z07.cons z04 z07.nil)) Z) Z (z1i.cons z0i (z1i.cons z0i z1i.nil)) (z07.cast (z07.cons z04 (z07.cons z04 z07.nil)) Z) z3v)<|Zn<|z8d (fun (s8:(List z08)) aa ww=>∃ nv:Nat→Value,Sta (ctx 29 H [] w) [(2,.val (z05 v2 0)),(3,.val (z05 v7 0))] [(2,some (v2,.box 25 [.val (.slice none 0 0),.val (.slice none 0 0)])),(3,some (v6,.list aZ 31 x4)),(5,some ((nv 0),.list z03 57 s8)),(4,some (v7,.box 25 [.val v6,.val (nv 0)]))] aa ww) ?_ (fun s8=>?_)
 ·refine gSR<|Zb Z<|zuu z03 57 7<|z24 (fun (s9:(List z08) × Int) aa ww=>∃ nv:Nat→Value,Sta (ctx 29 H [] w) [(1,.val (z05 v1 0)),(2,.val (z05 v2 0)),(3,.val (z05 v7 0)),(4,.rd z0c s9.2)] [(1,some (v1,.box 25 [.rd z01 a0])),(2,some (v2,.box 25 [.val (.slice none 0 0),.val (.slice none 0 0)])),(3,some (v6,.list aZ 31 x4)),(6,some ((nv 0),.list z03 57 s9.1)),(4,some (v7,.box 25 [.val v6,.val (nv 0)]))] aa ww) (fun aa ww h=>⟨nvl [(.slice none 0 0)],Zu h [1,2,3,7,4]⟩) (fun s9=>?_)
  refine gEx fun n10=>z0t<|gSR<|Zm Z<|Zq (faB 1 Z Z Tryz.underlying25 Z (by exact zas))<|Zq (ld 1 Z Z (fP (z0a _)) zf4 Z)<|Zq (z3h Z .rd Z tu23)<|Zq (I.lss Z Z)<|Zj Z (fun h11=>?_) (fun h11=>?_)
  ·refine Zt<|z0t<|z4m<|zps [(1,.val (z05 v1 0)),(2,.val (z05 v2 0)),(3,.val (z05 v7 0)),(4,.rd z0c s9.2)] [(1,some (v1,.box 25 [.rd z01 a0])),(2,some (v2,.box 25 [.val (.slice none 0 0),.val (.slice none 0 0)])),(3,some (v6,.list aZ 31 x4)),(6,some ((n10 0),.list z03 57 s9.1)),(4,some (v7,.box 25 [.val v6,.val (n10 0)]))] [1,2,3,6,4] (Zs Z Z Z Z<|sN) (Zi Z<|Zi Z<|Zi Z<|Zi Z<|Zi Z<|rN)<|z43 fun x12 h13=>z43 fun r14 h16=>z43 fun x17 h18=>gOr [] [⟨4,some ([], fun nv=>(v7,.box 25 [.val v6,.val (n10 0)])),[(11,some ([2], fun nv=>(v7,.box 25 [.val v6,.val (nv 2)])))]⟩,⟨1,some ([], fun nv=>(v1,.box 25 [.rd z01 a0])),[]⟩,⟨8,none,[(8,none)]⟩,⟨6,some ([], fun nv=>((n10 0),.list z03 57 s9.1)),[(9,some ([2], fun nv=>((nv 2),.list z03 57 x17)))]⟩] [pk 17 (.val (z05 v7 (0+1))) [(0,0,false)],pk 18 (.val (n10 0)) [(0,0,false)],pk 19 (.val (z05 v1 (0+1))) [(1,0,false)],pk 20 (.rd (z02 z03) a0.Ops) [(1,0,false)],pd 21 (.rd z0c s9.2),pd 22 (.rp z03 x12),pd 23 (.rd z03 x12),pd 24 (.rd z03 r14),⟨some (25,[], fun nv=>.rd (z02 z03) [r14]),[(2,0,true)],[1],[]⟩,⟨some (26,[2], fun nv=>.val (nv 2)),[(3,0,true)],[2],[]⟩,pk 27 (.val (z05 v7 (0+1))) [(0,0,false)],⟨none,[(3,1,false),(0,0,true)],[],[]⟩] mixed (oC (oRn (fun nv E=>faB 4 Z Z Tryz.underlying25 Z (by exact zas)))<|oC (oRn (fun nv E=>ldV 4 Z Z (At.cast (At.next z04 At.here) Z) sc23 Z))<|oC (oRn (fun nv E=>faB 1 Z Z Tryz.underlying25 Z (by exact zas)))<|oC (oRn (fun nv E=>ld 1 Z Z (fP (z0a _)) zf4 Z))<|oC (oRn (fun nv E=>mv Z))<|oC (oRn (fun nv E=>ixR Z Z h13 tu23 z5t Z))<|oC (oRn (fun nv E=>ldR Z z9t))<|oC (oCl [] [] [] h16 Tryz.func23 Z (fun nv=>(zby _)) (fun nv=>(Y1 Z)) (fun nv E=>rN))<|oC (oFz (A1:=fun nv=>[(8,some ((nv 1),.list z03 57 [r14]))]) 8 1 (oEf 8 1 (fun nv E=>lit (R:=z03) ([r14]:List z08) 8 (pP Z Z<|pN) Z tu23 z5t Z Z)))<|oC (oEf 6 2 (fun nv E=>apn 6 Z Z Z .rd h18 tu23 z5t Z Z Z))<|oC (oRn (fun nv E=>faB 4 Z Z Tryz.underlying25 Z (by exact zas)))<|oC (oEs 4 (fun nv E=>zmf 4 Z Z (z9e.cast (z9e.next z04 (z9e.here z04)) Z) Z z0i z04 zas))<|oN) fun n19=>z3a<|z0n<|z2b<|Zm Z<|Zq (I.add Z Z)<|Za Z<|z1x 4 Z fun y20=>z1n<|z1j (fun aa ww h=>⟨nvl [(n19 2)],Zu h [1,2,3,6,4]⟩)
  ·refine z1w<|z0w<|z0y<|z3g (fun aa ww h=>⟨nvl [(n10 0)],Zu h [2,3,6,4]⟩)
 ·refine gEx fun n21=>gSR<|Zq (ldA 4 Z Z (z07.cast (z07.cons z04 (z07.cons z04 z07.nil)) Z) (z1i.cons z0i (z1i.cons z0i z1i.nil)) z3k Z)<|Es (zkr 2 Z Z (z07.cast (z07.cons z04 (z07.cons z04 z07.nil)) Z) Z (z1i.cons z0i (z1i.cons z0i z1i.nil)) (z07.cast (z07.cons z04 (z07.cons z04 z07.nil)) Z) z3v)<|Zn<|z0j<|eGat 2 Z<|zb4 [v6,(n21 0)] [3,5] Z (eCA 2 Z Z (z07.cast (z07.cons z04 (z07.cons z04 z07.nil)) Z) (z1i.cons z0i (z1i.cons z0i z1i.nil)) z3k<|eN) (Zi Z<|Zi Z<|rN)
def za0  : Option (Bool) :=
 z6v >>= fun r1 =>
 z4o r1 >>= fun r3 =>
 if r3.2 != 0 then
  some false
 else
  z83 r3.1 >>= fun r7 =>
  idx r7.IDs 0 >>= fun x10 =>
  z7n x10 0 >>= fun x12 =>
  idx r7.IDs 0 >>= fun x14 =>
  z7n x14 0 >>= fun x16 =>
  mkn 32 (Vector.replicate 32 0) 61 >>= fun x18 =>
  z2y (⟨r7.IDs.set (0:Int).toNat (zf3 x14 0 (x12+1)),r7.Ops⟩:z00) >>= fun r21 =>
  z4k (⟨r7.IDs.set (0:Int).toNat (zf3 x14 0 (x12+1)),r7.Ops⟩:z00) x18 >>= fun r23 =>
  z4k r3.1 x18 >>= fun r25 =>
  z9w r3.1 x18 >>= fun r27 =>
  z7v r3.1 x18 [] >>= fun r29 =>
  z7v r3.1 [] x18 >>= fun r31 =>
  zbc r3.1 [] x18 >>= fun r33 =>
  z9a (⟨r7.IDs.set (0:Int).toNat (zf3 x14 0 (x12+1)),r7.Ops⟩:z00) r3.1 >>= fun r35 =>
  z9a r3.1 (⟨r7.IDs.set (0:Int).toNat (zf3 x14 0 (x12+1)),r7.Ops⟩:z00) >>= fun r38 =>
  z7h r3.1 (⟨r7.IDs.set (0:Int).toNat (zf3 x14 0 (x12+1)),r7.Ops⟩:z00) >>= fun r41 =>
  z4k r3.1 [] >>= fun r45 =>
  zbc r3.1 [] [] >>= fun r47 =>
  z4k r3.1 (List.replicate 60 ((Vector.replicate 32 0))) >>= fun r50 =>
  z9w r3.1 r3.1.IDs >>= fun r52 =>
  z9a r3.1 (⟨[],[]⟩:z00) >>= fun r54 =>
  (zb3 >>= fun r58 =>
  if r58 then
   if r21 != 0 then
    if r23.2==r21 then
     if r25.2==4 then
      if r27.2==4 then
       if r29.2==4 then
        if r31.2==4 then
         if r33.2==4 then
          if r35.2.2==r21 then
           if r38.2.2==r21 then
            some (r41.2.2.2==r21) >>= fun y70 =>
            some y70
           else
            some false
          else
           some false
         else
          some false
        else
         some false
       else
        some false
      else
       some false
     else
      some false
    else
     some false
   else
    some false
  else
   some false) >>= fun s57 =>
  if s57 then
   if r45.2==0 then
    if (r45.1.length:Int)==0 then
     if r47.2==0 then
      if (r47.1.length:Int)==0 then
       if r50.2==0 then
        mkn 32 (Vector.replicate 32 0) 1 >>= fun x77 =>
        z4s r50.1 x77 >>= fun r80 =>
        if r80 then
         if r52.2==0 then
          z4s r52.1 r3.1.IDs >>= fun r84 =>
          if r84 then
           if r54.2.2==0 then
            if r54.2.1==1 then
             z89 r54.1 r3.1 >>= fun r89 =>
             some r89
            else
             some false
           else
            some false
          else
           some false
         else
          some false
        else
         some false
       else
        some false
      else
       some false
     else
      some false
    else
     some false
   else
    some false
  else
   some false
theorem zfa  : z1o Tryz.prog 3 [] [zG1] (za0) (fun r nv=>⟨[.rd z0h r],[(1001,some (.bool true,.glob 1 (z3b 64 z0o) z52))]⟩):=by
 refine z29 246 Tryz.func3 Z Z Z fun H w=>?_;refine gSR<|Zb Z<|gSR<|Zc [] [(100,1)] Tryz.func5 Z (zd3) fun r1 n2=>zf0 1 [41] Z (fS Z<|fN)<|Zc [] [] Tryz.func4 Z (zb9 _) fun r3 n4=>Zm Z<|Zq (ext Z Z)<|Zq (ext Z Z)<|Eb Z (z4i 2 z3v (ZrE.nilS (ZrE.nilS ZrE.nil))) fun v5=>z9m aZ [.rd (z02 aZ) [],.val (.slice none 0 0)] 2 [] [.val (.slice none 0 0)] Z Z Z<|z9m z03 [.rd (z02 aZ) [],.rd (z02 z03) []] 2 [.rd (z02 aZ) []] [] Z Z Z<|zbs (R:=z01) (⟨[],[]⟩:z00) 2 Z (Sp.via (Sp.prod (Sp.prod Sp.unit)))<|Es (sto 2 Z Z fH Z z3v)<|Zb Z<|z0t<|gSR<|Zm Z<|Zq (I.neq Z Z)<|Zj Z (fun h6=>?_) (fun h6=>?_)
 ·refine gSR<|Zb Z<|z0j<|z0v<|Ze [] [1001] Z
 ·refine Zt<|gSR<|Zq (ld 2 Z Z fH z3k Z)<|Zc [] [(100,3),(101,4)] Tryz.func6 Z (zi4 _) fun r7 n8=>Eb Z (z4i 5 z3v (ZrE.nilS (ZrE.nilS ZrE.nil))) fun v9=>Es (zkr 5 Z Z (z07.cast (z07.cons z04 (z07.cons z04 z07.nil)) Z) Z (z1i.cons z0i (z1i.cons z0i z1i.nil)) (z07.cast (z07.cons z04 (z07.cons z04 z07.nil)) Z) z3v)<|Zn<|z0t<|z8s [3] mixed Z Z<|hTk 0 Z Z (faB 5 Z Z Tryz.underlying25 Z (by exact z6b))<|hTk 1 Z Z (ldV 5 Z Z (At.cast At.here Z) sc22 Z)<|z5o fun x10 h11=>hTk 2 Z Z (ixO 3 Z Z Z h11 tu22 z1z)<|z5o fun x12 h13=>hTk 3 Z Z (ixBl 3 h11 Z Z Z h13 tu31 ti5)<|z5o fun x14 h15=>hTk 6 Z Z (ixO 3 Z Z Z h15 tu22 z1z)<|hRun 4 Z (by kernel_rfl) (gd0 Z) Z Z z2s (ld 3 Z Z ((Foc.el h11).part (.el h13)) ty5 Z)<|hTk 5 Z Z (B.add Z Z)<|z5o fun x16 h17=>hTk 7 Z Z (ixBl 3 h15 Z Z Z h17 tu31 ti5)<|Zp 8 Z Z Z Z Z (sto 3 Z Z ((Foc.el h15).part (.el h17)) Z ti5)<|z54 (by kernel_rfl)<|z0n<|gSR<|z0m fun x18 h19=>Ef Z (mks (R:=aZ) 36 Z Z h19 tu22 z1z zef Z) fun v20=>Zb Z<|gSR<|Zq (ldA 5 Z Z (z07.cast (z07.cons z04 (z07.cons z04 z07.nil)) Z) (z1i.cons z0i (z1i.cons z0i z1i.nil)) z3k Z)<|z15r [4,3] [] (gd0 Z) Z Tryz.func7 Z Z (zj2 _) (aBs (R:=z01) (x:=(⟨r7.IDs.set (0:Int).toNat (zf3 x14 0 (x12+1)),r7.Ops⟩:z00)) Z (Sp.via (Sp.prod (Sp.prod Sp.unit))) (pBo 3 Z Z (pBo 4 Z Z pB0))<|aB0) (fun _ _=>(flC z2s fl0)) (fun _ _=>cf0) fun r21 n22=>Zb Z<|gSR<|zt3 [.rd (z02 aZ) (r7.IDs.set (0:Int).toNat (zf3 x14 0 (x12+1))),.val (n8 1)] 5 3 [] [.val (n8 1)] Z Z Z Z Z<|zt3 [.rd (z02 aZ) (r7.IDs.set (0:Int).toNat (zf3 x14 0 (x12+1))),.rd (z02 z03) r7.Ops] 5 4 [.rd (z02 aZ) (r7.IDs.set (0:Int).toNat (zf3 x14 0 (x12+1)))] [] Z Z Z Z Z<|zbs (R:=z01) (⟨r7.IDs.set (0:Int).toNat (zf3 x14 0 (x12+1)),r7.Ops⟩:z00) 5 Z (Sp.via (Sp.prod (Sp.prod Sp.unit)))<|Zq (ld 5 Z Z fH z3k Z)<|Zm Z<|zf0 36 [57,4,62] Z (fS Z<|fS Z<|fS Z<|fN)<|Zc [1001] [(100,37)] Tryz.func8 Z (zat _ _) fun r23 n24=>Zm Z<|Zq (ext Z Z)<|Zq (ext Z Z)<|Za Z<|Zb Z<|gSR<|Zq (ld 2 Z Z fH z3k Z)<|Zm Z<|Zc [1001] [(100,38)] Tryz.func8 Z (zat _ _) fun r25 n26=>Zm Z<|Zq (ext Z Z)<|Zq (ext Z Z)<|Za Z<|Zb Z<|gSR<|Zq (ld 2 Z Z fH z3k Z)<|Zm Z<|Zc [1001] [(100,39)] Tryz.func9 Z (zie _ _) fun r27 n28=>Zm Z<|Zq (ext Z Z)<|Zq (ext Z Z)<|Za Z<|Zb Z<|gSR<|Zq (ld 2 Z Z fH z3k Z)<|Zm Z<|call [1001] [(100,40)] Z Tryz.func10 Z Z (zdp _ _ _) (aQ Z<|aQ Z<|aNil Z<|aN) (y1 Z) fun r29 n30=>Zm Z<|Zq (ext Z Z)<|Zq (ext Z Z)<|Za Z<|Zb Z<|gSR<|Zq (ld 2 Z Z fH z3k Z)<|Zm Z<|call [1001] [(100,41)] Z Tryz.func10 Z Z (zdp _ _ _) (aQ Z<|aNil Z<|aQ Z<|aN) (y1 Z) fun r31 n32=>Zm Z<|Zq (ext Z Z)<|Zq (ext Z Z)<|Za Z<|Zb Z<|gSR<|Zq (ld 2 Z Z fH z3k Z)<|Zm Z<|call [1001] [(100,42)] Z Tryz.func11 Z Z (zir _ _ _) (aQ Z<|aNil Z<|aQ Z<|aN) (y1 Z) fun r33 n34=>Zm Z<|Zq (ext Z Z)<|Zq (ext Z Z)<|Za Z<|Zb Z<|gSR<|Zq (ld 5 Z Z fH z3k Z)<|Zq (ld 2 Z Z fH z3k Z)<|Zc [1001] [] Tryz.func12 Z (zft _ _) fun r35 n36=>Zm Z<|Zq (ext Z Z)<|Zq (ext Z Z)<|Zq (ext Z Z)<|Eb Z (z4i 43 z3v (ZrE.nilS (ZrE.nilS ZrE.nil))) fun v37=>z9m aZ [.rd (z02 aZ) [],.val (.slice none 0 0)] 43 [] [.val (.slice none 0 0)] Z Z Z<|z9m z03 [.rd (z02 aZ) [],.rd (z02 z03) []] 43 [.rd (z02 aZ) []] [] Z Z Z<|zbs (R:=z01) (⟨[],[]⟩:z00) 43 Z (Sp.via (Sp.prod (Sp.prod Sp.unit)))<|Es (sto 43 Z Z fH Z z3v)<|Za Z<|Zb Z<|gSR<|Zq (ld 2 Z Z fH z3k Z)<|Zq (ld 5 Z Z fH z3k Z)<|Zc [1001] [] Tryz.func12 Z (zft _ _) fun r38 n39=>Zm Z<|Zq (ext Z Z)<|Zq (ext Z Z)<|Zq (ext Z Z)<|Eb Z (z4i 44 z3v (ZrE.nilS (ZrE.nilS ZrE.nil))) fun v40=>z9m aZ [.rd (z02 aZ) [],.val (.slice none 0 0)] 44 [] [.val (.slice none 0 0)] Z Z Z<|z9m z03 [.rd (z02 aZ) [],.rd (z02 z03) []] 44 [.rd (z02 aZ) []] [] Z Z Z<|zbs (R:=z01) (⟨[],[]⟩:z00) 44 Z (Sp.via (Sp.prod (Sp.prod Sp.unit)))<|Es (sto 44 Z Z fH Z z3v)<|Za Z<|Zb Z<|gSR<|Zq (ld 2 Z Z fH z3k Z)<|Zq (ld 5 Z Z fH z3k Z)<|Zc [1001] [] Tryz.func13 Z (zfc _ _) fun r41 n42=>Zm Z<|Zq (ext Z Z)<|Zq (ext Z Z)<|Zq (ext Z Z)<|Zq (ext Z Z)<|Eb Z (z4i 45 z3v (ZrE.nilS (ZrE.nilS ZrE.nil))) fun v43=>Eb Z (z4i 46 z3v (ZrE.nilS (ZrE.nilS ZrE.nil))) fun v44=>z9m aZ [.rd (z02 aZ) [],.val (.slice none 0 0)] 45 [] [.val (.slice none 0 0)] Z Z Z<|z9m z03 [.rd (z02 aZ) [],.rd (z02 z03) []] 45 [.rd (z02 aZ) []] [] Z Z Z<|zbs (R:=z01) (⟨[],[]⟩:z00) 45 Z (Sp.via (Sp.prod (Sp.prod Sp.unit)))<|Es (sto 45 Z Z fH Z z3v)<|z9m aZ [.rd (z02 aZ) [],.val (.slice none 0 0)] 46 [] [.val (.slice none 0 0)] Z Z Z<|z9m z03 [.rd (z02 aZ) [],.rd (z02 z03) []] 46 [.rd (z02 aZ) []] [] Z Z Z<|zbs (R:=z01) (⟨[],[]⟩:z00) 46 Z (Sp.via (Sp.prod (Sp.prod Sp.unit)))<|Es (sto 46 Z Z fH Z z3v)<|Za Z<|Zb Z<|gSR<|Zq (ld 2 Z Z fH z3k Z)<|call [1001] [(100,47)] Z Tryz.func8 Z Z (zat _ _) (aQ Z<|aNil Z<|aN) (y1 Z) fun r45 n46=>Zm Z<|Zq (ext Z Z)<|Zq (ext Z Z)<|Za Z<|Zb Z<|gSR<|Zq (ld 2 Z Z fH z3k Z)<|call [1001] [(100,48)] Z Tryz.func11 Z Z (zir _ _ _) (aQ Z<|aNil Z<|aNil Z<|aN) (y1 Z) fun r47 n48=>Zm Z<|Zq (ext Z Z)<|Zq (ext Z Z)<|Za Z<|Zb Z<|z0t<|z8s [52,55,1001] mixed Z Z<|hTk 0 Z Z (ld 2 Z Z fH z3k Z)<|Zo 1 Z Z Z (mks (R:=aZ) 52 Z Z (show mkn 32 (Vector.replicate 32 0) 60=some (List.replicate 60 ((Vector.replicate 32 0))) from if_pos (by decide)) tu22 z1z zef Z) fun v49=>zuq 52 [130] Z (fS Z<|fN)<|z41 2 [1001] [(100,55)] Z (by kernel_rfl) Z (gd0 Z) Z Tryz.func8 Z Z (zat _ _) (Y2 Z Z) (y1 Z) Z (fun _ _=>(z12q (flC z2t (flC z2s fl0)))) fun r50 n51=>hTk 3 Z Z (mv Z)<|hTk 4 Z Z (ext Z Z)<|hTk 5 Z Z (ext Z Z)<|Zf 6 Z Z z2t (asg Z)<|hTk 7 Z Z (asg Z)<|z54 (by kernel_rfl)<|z0n<|gSR<|Zq (ld 2 Z Z fH z3k Z)<|Zq (faB 2 Z Z Tryz.underlying25 Z (by exact z6b))<|Zq (ld 2 Z Z (fP (z0b _)) z93 Z)<|Zc [1001] [(100,76)] Tryz.func9 Z (zie _ _) fun r52 n53=>Zm Z<|Zq (ext Z Z)<|Zq (ext Z Z)<|Za Z<|Zb Z<|gSR<|Zq (ld 2 Z Z fH z3k Z)<|Zq (bld (x':=(⟨[],[]⟩:z00)) [(0,1),(1,1)] Tryz.underlying25 z3v Z zr25 Z (Bld.done Z))<|Zc [1001] [] Tryz.func12 Z (zft _ _) fun r54 n55=>Zm Z<|Zq (ext Z Z)<|Zq (ext Z Z)<|Zq (ext Z Z)<|Eb Z (z4i 77 z3v (ZrE.nilS (ZrE.nilS ZrE.nil))) fun v56=>z9m aZ [.rd (z02 aZ) [],.val (.slice none 0 0)] 77 [] [.val (.slice none 0 0)] Z Z Z<|z9m z03 [.rd (z02 aZ) [],.rd (z02 z03) []] 77 [.rd (z02 aZ) []] [] Z Z Z<|zbs (R:=z01) (⟨[],[]⟩:z00) 77 Z (Sp.via (Sp.prod (Sp.prod Sp.unit)))<|Es (sto 77 Z Z fH Z z3v)<|Za Z<|Zb Z<|z8d (fun (s57:Bool) aa ww=>Sta (ctx 246 H [zG1] w) [(1,.val (z05 v5 0)),(28,.val (n46 0)),(29,.rd z0c r45.2),(30,.val (n48 0)),(31,.rd z0c r47.2),(32,.val (n51 0)),(33,.rd z0c r50.2),(34,.val (n53 0)),(35,.rd z0c r52.2),(36,.val (z05 v56 0)),(37,.rd z0c r54.2.1),(38,.rd z0c r54.2.2),(39,.rd z0h s57)] [(2,some (v5,.box 25 [.rd z01 r3.1])),(47,some ((n46 0),.list aZ 31 r45.1)),(48,some ((n48 0),.list z21 96 r47.1)),(55,some ((n51 0),.list aZ 31 r50.1)),(76,some ((n53 0),.list aZ 31 r52.1)),(77,some (v56,.box 25 [.rd z01 r54.1])),zG1] aa ww) ?_ (fun s57=>?_)
  ·refine z2b<|Zm Z<|ze9 [1001] [] Zx Z Tryz.func14 Z Z (zj4) (aN) (y1 Z) fun r58 n59=>Zq (pkT Z Z)<|Zm Z<|z19 151 Z (fun h60=>?_) (fun h60=>?_)
   ·refine lKn 149 Z h60<|lKn 150 Z h60<|z17 Zx Z Z (mv Z)<|z17 Zx Z Z (I.neq Z Z)<|Zq (pkT Z Z)<|Zm Z<|z19 155 Z (fun h61=>?_) (fun h61=>?_)
    ·refine lKn 153 Z h61<|lKn 154 Z h61<|z17 Zx Z Z (mv Z)<|z17 Zx Z Z (mv Z)<|z17 Zx Z Z (I.eql Z Z)<|Zq (pkT Z Z)<|Zm Z<|z19 160 Z (fun h62=>?_) (fun h62=>?_)
     ·refine lKn 158 Z h62<|lKn 159 Z h62<|z17 Zx Z Z (mv Z)<|z17 Zx Z Z (I.eql Z Z)<|Zq (pkT Z Z)<|Zm Z<|z19 164 Z (fun h63=>?_) (fun h63=>?_)
      ·refine lKn 162 Z h63<|lKn 163 Z h63<|z17 Zx Z Z (mv Z)<|z17 Zx Z Z (I.eql Z Z)<|Zq (pkT Z Z)<|Zm Z<|z19 168 Z (fun h64=>?_) (fun h64=>?_)
       ·refine lKn 166 Z h64<|lKn 167 Z h64<|z17 Zx Z Z (mv Z)<|z17 Zx Z Z (I.eql Z Z)<|Zq (pkT Z Z)<|Zm Z<|z19 172 Z (fun h65=>?_) (fun h65=>?_)
        ·refine lKn 170 Z h65<|lKn 171 Z h65<|z17 Zx Z Z (mv Z)<|z17 Zx Z Z (I.eql Z Z)<|Zq (pkT Z Z)<|Zm Z<|z19 176 Z (fun h66=>?_) (fun h66=>?_)
         ·refine lKn 174 Z h66<|lKn 175 Z h66<|z17 Zx Z Z (mv Z)<|z17 Zx Z Z (I.eql Z Z)<|Zq (pkT Z Z)<|Zm Z<|z19 180 Z (fun h67=>?_) (fun h67=>?_)
          ·refine lKn 178 Z h67<|lKn 179 Z h67<|z17 Zx Z Z (mv Z)<|z17 Zx Z Z (mv Z)<|z17 Zx Z Z (I.eql Z Z)<|Zq (pkT Z Z)<|Zm Z<|z19 185 Z (fun h68=>?_) (fun h68=>?_)
           ·refine lKn 183 Z h68<|lKn 184 Z h68<|z17 Zx Z Z (mv Z)<|z17 Zx Z Z (mv Z)<|z17 Zx Z Z (I.eql Z Z)<|Zq (pkT Z Z)<|Zm Z<|z19 190 Z (fun h69=>?_) (fun h69=>?_)
            ·refine lKn 188 Z h69<|lKn 189 Z h69<|z17 Zx Z Z (mv Z)<|z17 Zx Z Z (mv Z)<|z17 Zx Z Z (I.eql Z Z)<|Zq (pkT Z Z)<|Za Z<|z1x 39 Z fun y70=>z1n<|z3g (fun aa ww h=>Zu h [2,47,48,55,76,77,1001])
            ·refine lKn 188 Z h69<|lKn 189 Z h69<|Zk Z<|Zk Z<|Zk Z<|Zq (pkF Z Z)<|Za Z<|z1n<|z3g (fun aa ww h=>Zu h [2,47,48,55,76,77,1001])
           ·refine lKn 183 Z h68<|lKn 184 Z h68<|Zk Z<|Zk Z<|Zk Z<|Zq (pkF Z Z)<|Zm Z<|Zk Z<|Zk Z<|Zk Z<|Zq (pkF Z Z)<|Za Z<|z1n<|z3g (fun aa ww h=>Zu h [2,47,48,55,76,77,1001])
          ·refine lKn 178 Z h67<|lKn 179 Z h67<|Zk Z<|Zk Z<|Zk Z<|Zq (pkF Z Z)<|Zm Z<|Zk Z<|Zk Z<|Zk Z<|Zq (pkF Z Z)<|Zm Z<|Zk Z<|Zk Z<|Zk Z<|Zq (pkF Z Z)<|Za Z<|z1n<|z3g (fun aa ww h=>Zu h [2,47,48,55,76,77,1001])
         ·refine lKn 174 Z h66<|lKn 175 Z h66<|Zk Z<|Zk Z<|Zq (pkF Z Z)<|Zm Z<|Zk Z<|Zk Z<|Zk Z<|Zq (pkF Z Z)<|Zm Z<|Zk Z<|Zk Z<|Zk Z<|Zq (pkF Z Z)<|Zm Z<|Zk Z<|Zk Z<|Zk Z<|Zq (pkF Z Z)<|Za Z<|z1n<|z3g (fun aa ww h=>Zu h [2,47,48,55,76,77,1001])
        ·refine lKn 170 Z h65<|lKn 171 Z h65<|Zk Z<|Zk Z<|Zq (pkF Z Z)<|Zm Z<|Zk Z<|Zk Z<|Zq (pkF Z Z)<|Zm Z<|Zk Z<|Zk Z<|Zk Z<|Zq (pkF Z Z)<|Zm Z<|Zk Z<|Zk Z<|Zk Z<|Zq (pkF Z Z)<|Zm Z<|Zk Z<|Zk Z<|Zk Z<|Zq (pkF Z Z)<|Za Z<|z1n<|z3g (fun aa ww h=>Zu h [2,47,48,55,76,77,1001])
       ·refine lKn 166 Z h64<|lKn 167 Z h64<|Zk Z<|Zk Z<|Zq (pkF Z Z)<|Zm Z<|Zk Z<|Zk Z<|Zq (pkF Z Z)<|Zm Z<|Zk Z<|Zk Z<|Zq (pkF Z Z)<|Zm Z<|Zk Z<|Zk Z<|Zk Z<|Zq (pkF Z Z)<|Zm Z<|Zk Z<|Zk Z<|Zk Z<|Zq (pkF Z Z)<|Zm Z<|Zk Z<|Zk Z<|Zk Z<|Zq (pkF Z Z)<|Za Z<|z1n<|z3g (fun aa ww h=>Zu h [2,47,48,55,76,77,1001])
      ·refine lKn 162 Z h63<|lKn 163 Z h63<|Zk Z<|Zk Z<|Zq (pkF Z Z)<|Zm Z<|Zk Z<|Zk Z<|Zq (pkF Z Z)<|Zm Z<|Zk Z<|Zk Z<|Zq (pkF Z Z)<|Zm Z<|Zk Z<|Zk Z<|Zq (pkF Z Z)<|Zm Z<|Zk Z<|Zk Z<|Zk Z<|Zq (pkF Z Z)<|Zm Z<|Zk Z<|Zk Z<|Zk Z<|Zq (pkF Z Z)<|Zm Z<|Zk Z<|Zk Z<|Zk Z<|Zq (pkF Z Z)<|Za Z<|z1n<|z3g (fun aa ww h=>Zu h [2,47,48,55,76,77,1001])
     ·refine lKn 158 Z h62<|lKn 159 Z h62<|Zk Z<|Zk Z<|Zq (pkF Z Z)<|Zm Z<|Zk Z<|Zk Z<|Zq (pkF Z Z)<|Zm Z<|Zk Z<|Zk Z<|Zq (pkF Z Z)<|Zm Z<|Zk Z<|Zk Z<|Zq (pkF Z Z)<|Zm Z<|Zk Z<|Zk Z<|Zq (pkF Z Z)<|Zm Z<|Zk Z<|Zk Z<|Zk Z<|Zq (pkF Z Z)<|Zm Z<|Zk Z<|Zk Z<|Zk Z<|Zq (pkF Z Z)<|Zm Z<|Zk Z<|Zk Z<|Zk Z<|Zq (pkF Z Z)<|Za Z<|z1n<|z3g (fun aa ww h=>Zu h [2,47,48,55,76,77,1001])
    ·refine lKn 153 Z h61<|lKn 154 Z h61<|Zk Z<|Zk Z<|Zk Z<|Zq (pkF Z Z)<|Zm Z<|Zk Z<|Zk Z<|Zq (pkF Z Z)<|Zm Z<|Zk Z<|Zk Z<|Zq (pkF Z Z)<|Zm Z<|Zk Z<|Zk Z<|Zq (pkF Z Z)<|Zm Z<|Zk Z<|Zk Z<|Zq (pkF Z Z)<|Zm Z<|Zk Z<|Zk Z<|Zq (pkF Z Z)<|Zm Z<|Zk Z<|Zk Z<|Zk Z<|Zq (pkF Z Z)<|Zm Z<|Zk Z<|Zk Z<|Zk Z<|Zq (pkF Z Z)<|Zm Z<|Zk Z<|Zk Z<|Zk Z<|Zq (pkF Z Z)<|Za Z<|z1n<|z3g (fun aa ww h=>Zu h [2,47,48,55,76,77,1001])
   ·refine lKn 149 Z h60<|lKn 150 Z h60<|Zk Z<|Zk Z<|Zq (pkF Z Z)<|Zm Z<|Zk Z<|Zk Z<|Zk Z<|Zq (pkF Z Z)<|Zm Z<|Zk Z<|Zk Z<|Zq (pkF Z Z)<|Zm Z<|Zk Z<|Zk Z<|Zq (pkF Z Z)<|Zm Z<|Zk Z<|Zk Z<|Zq (pkF Z Z)<|Zm Z<|Zk Z<|Zk Z<|Zq (pkF Z Z)<|Zm Z<|Zk Z<|Zk Z<|Zq (pkF Z Z)<|Zm Z<|Zk Z<|Zk Z<|Zk Z<|Zq (pkF Z Z)<|Zm Z<|Zk Z<|Zk Z<|Zk Z<|Zq (pkF Z Z)<|Zm Z<|Zk Z<|Zk Z<|Zk Z<|Zq (pkF Z Z)<|Za Z<|z1n<|z3g (fun aa ww h=>Zu h [2,47,48,55,76,77,1001])
  ·refine gSR<|Zm Z<|Zm Z<|z19 196 Z (fun h71=>?_) (fun h71=>?_)
   ·refine lKn 39 Z h71<|lKn 195 Z h71<|z17 Zx Z Z (mv Z)<|z17 Zx Z Z (I.eql Z Z)<|Zq (pkT Z Z)<|Zm Z<|z19 200 Z (fun h72=>?_) (fun h72=>?_)
    ·refine lKn 198 Z h72<|lKn 199 Z h72<|z17 Zx Z Z (mv Z)<|z17 Zx Z Z (z3h Z (.own 47 Z) Z tu22)<|z17 Zx Z Z (I.eql Z Z)<|Zq (pkT Z Z)<|Zm Z<|z19 205 Z (fun h73=>?_) (fun h73=>?_)
     ·refine lKn 203 Z h73<|lKn 204 Z h73<|z17 Zx Z Z (mv Z)<|z17 Zx Z Z (I.eql Z Z)<|Zq (pkT Z Z)<|Zm Z<|z19 209 Z (fun h74=>?_) (fun h74=>?_)
      ·refine lKn 207 Z h74<|lKn 208 Z h74<|z17 Zx Z Z (mv Z)<|z17 Zx Z Z (z3h Z (.own 48 Z) Z Tryz.underlying37)<|z17 Zx Z Z (I.eql Z Z)<|Zq (pkT Z Z)<|Zm Z<|z19 214 Z (fun h75=>?_) (fun h75=>?_)
       ·refine lKn 212 Z h75<|lKn 213 Z h75<|z17 Zx Z Z (mv Z)<|z17 Zx Z Z (I.eql Z Z)<|Zq (pkT Z Z)<|Zm Z<|z19 218 Z (fun h76=>?_) (fun h76=>?_)
        ·refine lKn 216 Z h76<|lKn 217 Z h76<|z17 Zx Z Z (mv Z)<|z0m fun x77 h78=>Efg Zx Z Z (mks (R:=aZ) 1100 Z Z h78 tu22 z1z zef Z) fun v79=>z15r [55,1100] [] Zx Z Tryz.func15 Z Z (z75 _ _) (aBo 55 Z Z Z<|aBo 1100 Z Z Z<|aB0) (fun _ _=>(flC zc8 fl0)) (fun _ _=>cf0) fun r80 n81=>Zq (pkT Z Z)<|Zm Z<|z19 223 Z (fun h82=>?_) (fun h82=>?_)
         ·refine lKn 221 Z h82<|lKn 222 Z h82<|z17 Zx Z Z (mv Z)<|z17 Zx Z Z (I.eql Z Z)<|Zq (pkT Z Z)<|Zm Z<|z19 227 Z (fun h83=>?_) (fun h83=>?_)
          ·refine lKn 225 Z h83<|lKn 226 Z h83<|z17 Zx Z Z (mv Z)<|z17 Zx Z Z (faB 2 Z Z Tryz.underlying25 Z (by exact z6b))<|z17 Zx Z Z (ld 2 Z Z (fP (z0b _)) z93 Z)<|z15r [76] [] Zx Z Tryz.func15 Z Z (z75 _ _) (aBo 76 Z Z Z<|aBq Z<|aB0) (fun _ _=>(flC zc8 fl0)) (fun _ _=>cf0) fun r84 n85=>Zq (pkT Z Z)<|Zm Z<|z19 233 Z (fun h86=>?_) (fun h86=>?_)
           ·refine lKn 231 Z h86<|lKn 232 Z h86<|z17 Zx Z Z (mv Z)<|z17 Zx Z Z (I.eql Z Z)<|Zq (pkT Z Z)<|Zm Z<|z19 237 Z (fun h87=>?_) (fun h87=>?_)
            ·refine lKn 235 Z h87<|lKn 236 Z h87<|z17 Zx Z Z (mv Z)<|z17 Zx Z Z (I.eql Z Z)<|Zq (pkT Z Z)<|Zm Z<|z19 241 Z (fun h88=>?_) (fun h88=>?_)
             ·refine lKn 239 Z h88<|lKn 240 Z h88<|z17 Zx Z Z (ld 77 Z Z fH z3k Z)<|z17 Zx Z Z (ld 2 Z Z fH z3k Z)<|ze9 [] [] Zx Z Tryz.func16 Z Z (zbv _ _) (Y2 Z Z) rN fun r89 n90=>Zq (pkT Z Z)<|Zb Z<|z0j<|Ze [] [1001] Z
             ·refine lKn 239 Z h88<|lKn 240 Z h88<|Zk Z<|Zk Z<|Zk Z<|Zq (pkF Z Z)<|Zb Z<|z0j<|Ze [] [1001] Z
            ·refine lKn 235 Z h87<|lKn 236 Z h87<|Zk Z<|Zk Z<|Zq (pkF Z Z)<|Zm Z<|Zk Z<|Zk Z<|Zk Z<|Zq (pkF Z Z)<|Zb Z<|z0j<|Ze [] [1001] Z
           ·refine lKn 231 Z h86<|lKn 232 Z h86<|Zk Z<|Zk Z<|Zq (pkF Z Z)<|Zm Z<|Zk Z<|Zk Z<|Zq (pkF Z Z)<|Zm Z<|Zk Z<|Zk Z<|Zk Z<|Zq (pkF Z Z)<|Zb Z<|z0j<|Ze [] [1001] Z
          ·refine lKn 225 Z h83<|lKn 226 Z h83<|Zk Z<|Zk Z<|Zk Z<|Zk Z<|Zq (pkF Z Z)<|Zm Z<|Zk Z<|Zk Z<|Zq (pkF Z Z)<|Zm Z<|Zk Z<|Zk Z<|Zq (pkF Z Z)<|Zm Z<|Zk Z<|Zk Z<|Zk Z<|Zq (pkF Z Z)<|Zb Z<|z0j<|Ze [] [1001] Z
         ·refine lKn 221 Z h82<|lKn 222 Z h82<|Zk Z<|Zk Z<|Zq (pkF Z Z)<|Zm Z<|Zk Z<|Zk Z<|Zk Z<|Zk Z<|Zq (pkF Z Z)<|Zm Z<|Zk Z<|Zk Z<|Zq (pkF Z Z)<|Zm Z<|Zk Z<|Zk Z<|Zq (pkF Z Z)<|Zm Z<|Zk Z<|Zk Z<|Zk Z<|Zq (pkF Z Z)<|Zb Z<|z0j<|Ze [] [1001] Z
        ·refine lKn 216 Z h76<|lKn 217 Z h76<|Zk Z<|Zk Z<|Zk Z<|Zq (pkF Z Z)<|Zm Z<|Zk Z<|Zk Z<|Zq (pkF Z Z)<|Zm Z<|Zk Z<|Zk Z<|Zk Z<|Zk Z<|Zq (pkF Z Z)<|Zm Z<|Zk Z<|Zk Z<|Zq (pkF Z Z)<|Zm Z<|Zk Z<|Zk Z<|Zq (pkF Z Z)<|Zm Z<|Zk Z<|Zk Z<|Zk Z<|Zq (pkF Z Z)<|Zb Z<|z0j<|Ze [] [1001] Z
       ·refine lKn 212 Z h75<|lKn 213 Z h75<|Zk Z<|Zk Z<|Zq (pkF Z Z)<|Zm Z<|Zk Z<|Zk Z<|Zk Z<|Zq (pkF Z Z)<|Zm Z<|Zk Z<|Zk Z<|Zq (pkF Z Z)<|Zm Z<|Zk Z<|Zk Z<|Zk Z<|Zk Z<|Zq (pkF Z Z)<|Zm Z<|Zk Z<|Zk Z<|Zq (pkF Z Z)<|Zm Z<|Zk Z<|Zk Z<|Zq (pkF Z Z)<|Zm Z<|Zk Z<|Zk Z<|Zk Z<|Zq (pkF Z Z)<|Zb Z<|z0j<|Ze [] [1001] Z
      ·refine lKn 207 Z h74<|lKn 208 Z h74<|Zk Z<|Zk Z<|Zk Z<|Zq (pkF Z Z)<|Zm Z<|Zk Z<|Zk Z<|Zq (pkF Z Z)<|Zm Z<|Zk Z<|Zk Z<|Zk Z<|Zq (pkF Z Z)<|Zm Z<|Zk Z<|Zk Z<|Zq (pkF Z Z)<|Zm Z<|Zk Z<|Zk Z<|Zk Z<|Zk Z<|Zq (pkF Z Z)<|Zm Z<|Zk Z<|Zk Z<|Zq (pkF Z Z)<|Zm Z<|Zk Z<|Zk Z<|Zq (pkF Z Z)<|Zm Z<|Zk Z<|Zk Z<|Zk Z<|Zq (pkF Z Z)<|Zb Z<|z0j<|Ze [] [1001] Z
     ·refine lKn 203 Z h73<|lKn 204 Z h73<|Zk Z<|Zk Z<|Zq (pkF Z Z)<|Zm Z<|Zk Z<|Zk Z<|Zk Z<|Zq (pkF Z Z)<|Zm Z<|Zk Z<|Zk Z<|Zq (pkF Z Z)<|Zm Z<|Zk Z<|Zk Z<|Zk Z<|Zq (pkF Z Z)<|Zm Z<|Zk Z<|Zk Z<|Zq (pkF Z Z)<|Zm Z<|Zk Z<|Zk Z<|Zk Z<|Zk Z<|Zq (pkF Z Z)<|Zm Z<|Zk Z<|Zk Z<|Zq (pkF Z Z)<|Zm Z<|Zk Z<|Zk Z<|Zq (pkF Z Z)<|Zm Z<|Zk Z<|Zk Z<|Zk Z<|Zq (pkF Z Z)<|Zb Z<|z0j<|Ze [] [1001] Z
    ·refine lKn 198 Z h72<|lKn 199 Z h72<|Zk Z<|Zk Z<|Zk Z<|Zq (pkF Z Z)<|Zm Z<|Zk Z<|Zk Z<|Zq (pkF Z Z)<|Zm Z<|Zk Z<|Zk Z<|Zk Z<|Zq (pkF Z Z)<|Zm Z<|Zk Z<|Zk Z<|Zq (pkF Z Z)<|Zm Z<|Zk Z<|Zk Z<|Zk Z<|Zq (pkF Z Z)<|Zm Z<|Zk Z<|Zk Z<|Zq (pkF Z Z)<|Zm Z<|Zk Z<|Zk Z<|Zk Z<|Zk Z<|Zq (pkF Z Z)<|Zm Z<|Zk Z<|Zk Z<|Zq (pkF Z Z)<|Zm Z<|Zk Z<|Zk Z<|Zq (pkF Z Z)<|Zm Z<|Zk Z<|Zk Z<|Zk Z<|Zq (pkF Z Z)<|Zb Z<|z0j<|Ze [] [1001] Z
   ·refine lKn 39 Z h71<|lKn 195 Z h71<|Zk Z<|Zk Z<|Zq (pkF Z Z)<|Zm Z<|Zk Z<|Zk Z<|Zk Z<|Zq (pkF Z Z)<|Zm Z<|Zk Z<|Zk Z<|Zq (pkF Z Z)<|Zm Z<|Zk Z<|Zk Z<|Zk Z<|Zq (pkF Z Z)<|Zm Z<|Zk Z<|Zk Z<|Zq (pkF Z Z)<|Zm Z<|Zk Z<|Zk Z<|Zk Z<|Zq (pkF Z Z)<|Zm Z<|Zk Z<|Zk Z<|Zq (pkF Z Z)<|Zm Z<|Zk Z<|Zk Z<|Zk Z<|Zk Z<|Zq (pkF Z Z)<|Zm Z<|Zk Z<|Zk Z<|Zq (pkF Z Z)<|Zm Z<|Zk Z<|Zk Z<|Zq (pkF Z Z)<|Zm Z<|Zk Z<|Zk Z<|Zk Z<|Zq (pkF Z Z)<|Zb Z<|z0j<|Ze [] [1001] Z
end
section
open Go
section
variable {α:Type}
theorem zh7 {l:List α} {i:Nat} (d:α) (h:i<l.length):idx l (i:Int)=some (l.getD i d):=by rw [z0g h]; simp [h]
theorem z10i {n:Nat} {v:Vector α n} {i:Int}:z7n v i=idx v.toList i:=rfl
theorem z13i {n:Nat} {v:Vector α n} {i:Nat} {x:α}:(zf3 v (i:Int) x).toList=v.toList.set i x:=by
 unfold zf3; simp
theorem z11k {l:List α} {i j:Nat} {x d:α} (h:i<l.length):(l.set i x).getD j d=if i=j then x else l.getD j d:=by
 simp only [List.getD_eq_getElem?_getD,List.getElem?_set];by_cases e:i=j
 ·subst e; simp [h]
 ·simp [e]
theorem zrw {l:List α} {n i:Nat} {d:α} (h:i<n):(l.take n).getD i d=l.getD i d:=by
 simp [List.getD_eq_getElem?_getD,List.getElem?_take,h]
theorem zpk {l:List α} {n:Nat} {x:α} (h:n<l.length):(l.set n x).take (n+1)=l.take n++[x]:=by
 rw [List.take_add_one,List.getElem?_set_self h,List.take_set_of_le (Nat.le_refl _)]; rfl
end
theorem zt1 (a:UInt32) (n:Nat):(zqi a n).toNat=a.toNat * 2 ^ (min n 32) % 4294967296:=by unfold zqi; simp
theorem zfv (a:UInt32) (n:Nat):(z4h a n).toNat=a.toNat / 2 ^ (min n 32):=by
 unfold z4h;have h1:=UInt32.toNat_lt a;have h2:a.toNat / 2 ^ (min n 32)≤a.toNat:=Nat.div_le_self _ _
 simp; omega
def tr (x:UInt32) (n:Nat):UInt32:=z4h x n ||| zqi x (32 - n)
theorem zev (x:UInt32) (n:Nat) (h:n≤32):z2q x (n:Int)=some (tr x n):=by
 unfold z2q;rw [z3i (by omega),z18 (by omega) (by omega),z3i (by omega)];simp only [bS];unfold tr;rw [show ((32:Int) - (n:Int)).toNat=32 - n by omega,Int.toNat_natCast]
theorem znk (x:UInt32) (n:Nat) (h:1≤n) (h2:n≤31):z1v x (-(n:Int))=some (tr x n):=by
 have key:∀ n:Fin 32,1≤n.val→(UInt64.ofInt (-(n.val:Int)) &&& 31)=UInt64.ofNat (32 - n.val):=by decide +kernel
 have k2:∀ n:Fin 32,1≤n.val→(UInt64.ofNat (32 - n.val)).toNat=32 - n.val∧(32 - UInt64.ofNat (32 - n.val)).toNat=n.val:=by decide +kernel
 unfold z1v;rw [key ⟨n, by omega⟩ h];simp only [bS];rw [(k2 ⟨n, by omega⟩ h).1,(k2 ⟨n, by omega⟩ h).2];unfold tr;rw [UInt32.or_comm]
theorem z13k (x:UInt32) (a b c:Nat) (ha:1≤a∧a≤31) (hb:1≤b∧b≤31) (hc:1≤c∧c≤31):zf6 x (a:Int) (b:Int) (c:Int)=some ((tr x a ^^^ tr x b) ^^^ tr x c):=by
 unfold zf6;rw [z18 (by omega) (by omega),z18 (by omega) (by omega),z18 (by omega) (by omega)];rw [show (0:Int) - (a:Int) = -(a:Int) by omega, show (0:Int) - (b:Int) = -(b:Int) by omega, show (0:Int) - (c:Int) = -(c:Int) by omega];rw [znk x a ha.1 ha.2,znk x b hb.1 hb.2,znk x c hc.1 hc.2];rfl
def sg0 (x:UInt32):UInt32:=(tr x 7 ^^^ tr x 18) ^^^ z4h x 3
def sg1 (x:UInt32):UInt32:=(tr x 17 ^^^ tr x 19) ^^^ z4h x 10
def word (b:List UInt8) (k:Nat):UInt32:=(((b.getD (4 * k) 0).toUInt32 * 256+(b.getD (4 * k+1) 0).toUInt32) * 256+(b.getD (4 * k+2) 0).toUInt32) * 256+(b.getD (4 * k+3) 0).toUInt32
def zte (l:List UInt32):List UInt32:=l++[((l.getD (l.length - 16) 0+l.getD (l.length - 7) 0)+sg0 (l.getD (l.length - 15) 0))+sg1 (l.getD (l.length - 2) 0)]
def z7i (b:List UInt8):Nat→List UInt32
 | 0=>(List.range 16).map (word b)
 | n+1=>zte (z7i b n)
theorem zfg (b:List UInt8):∀ n,(z7i b n).length=16+n
 | 0=>by simp [z7i]
 | n+1=>by simp [z7i,zte,zfg b n]; omega
theorem zug (l:List UInt32) (t:Nat) (h:l.length=t):zte l=l++[((l.getD (t - 16) 0+l.getD (t - 7) 0)+sg0 (l.getD (t - 15) 0))+sg1 (l.getD (t - 2) 0)]:=by subst h; rfl
theorem z12a (b:List UInt8) (hb:64≤b.length):iter (z5f b) ([],0)=some (z7i b 0):=by
 refine z2k (F:=z5f b) (b:=z7i b 0) 16 (fun i=>((List.range i).map (word b),(i:Int))) (fun i hi=>?_) ?_
 ·unfold z5f;rw [if_pos (by simp; omega)];simp only [];rw [z18 (x:=4 * (i:Int)) (by omega) (by omega),z18 (x:=4 * (i:Int)+1) (by omega) (by omega),z18 (x:=4 * (i:Int)+2) (by omega) (by omega),z18 (x:=4 * (i:Int)+3) (by omega) (by omega)];rw [show (4 * (i:Int))=((4 * i:Nat):Int) by omega, show (((4 * i:Nat):Int)+1)=((4 * i+1:Nat):Int) by omega, show (((4 * i:Nat):Int)+2)=((4 * i+2:Nat):Int) by omega, show (((4 * i:Nat):Int)+3)=((4 * i+3:Nat):Int) by omega]
  rw [zh7 0 (by omega),zh7 0 (by omega),zh7 0 (by omega),zh7 0 (by omega)];simp only [bS];rw [z1t (by simp; omega)];simp only [bS,z0r (show i<9223372036854775807 by omega)];rw [List.range_succ,List.map_append];rfl
 ·unfold z5f;rw [if_neg (by simp)];rfl
theorem z11e (b:List UInt8):iter (z5c) (z7i b 0,16)=some (z7i b 48):=by
 refine z2k (F:=z5c) (b:=z7i b 48) 48 (fun i=>(z7i b i,((16+i:Nat):Int))) (fun i hi=>?_) ?_
 ·have hl:=zfg b i;unfold z5c;rw [if_pos (by simp; omega)];simp only [];rw [z18 (x:=((16+i:Nat):Int) - 15) (by omega) (by omega),z18 (x:=((16+i:Nat):Int) - 2) (by omega) (by omega),z18 (x:=((16+i:Nat):Int) - 16) (by omega) (by omega),z18 (x:=((16+i:Nat):Int) - 7) (by omega) (by omega)];rw [show ((16+i:Nat):Int) - 15=((16+i - 15:Nat):Int) by omega, show ((16+i:Nat):Int) - 2=((16+i - 2:Nat):Int) by omega, show ((16+i:Nat):Int) - 16=((16+i - 16:Nat):Int) by omega, show ((16+i:Nat):Int) - 7=((16+i - 7:Nat):Int) by omega]
  rw [zh7 0 (by omega),zh7 0 (by omega),zh7 0 (by omega),zh7 0 (by omega)];simp only [bS];rw [show (7:Int)=((7:Nat):Int) from rfl, show (18:Int)=((18:Nat):Int) from rfl, show (17:Int)=((17:Nat):Int) from rfl, show (19:Int)=((19:Nat):Int) from rfl];rw [zev _ 7 (by omega),zev _ 18 (by omega),zev _ 17 (by omega),zev _ 19 (by omega)];simp only [bS];rw [z1t (by simp; omega)];simp only [bS,z0r (show 16+i<9223372036854775807 by omega)]
  rw [show z7i b (i+1)=zte (z7i b i) from rfl,zug _ (16+i) hl];rfl
 ·unfold z5c;rw [if_neg (by simp)]
theorem z180 (x:UInt32) (y:UInt8) (h:x.toNat<16777216):(zqi x 8) ||| y.toUInt32=x * 256+y.toUInt32:=by
 apply UInt32.toNat_inj.1
 have hy:=UInt8.toNat_lt y;rw [UInt32.toNat_or,zt1,UInt32.toNat_add,UInt32.toNat_mul];have e1:(y.toUInt32).toNat=y.toNat:=by simp
 have e2:(256:UInt32).toNat=256:=rfl;rw [e1,e2, show (2:Nat) ^ (min 8 32)=256 from rfl,Nat.mod_eq_of_lt (a:=x.toNat * 256) (by omega),Nat.mod_eq_of_lt (a:=x.toNat * 256+y.toNat) (by omega)]
 have:=Nat.shiftLeft_add_eq_or_of_lt (i:=8) (b:=y.toNat) (by simpa using hy) x.toNat
 rw [Nat.shiftLeft_eq, show (2:Nat) ^ 8=256 from rfl] at this;exact this.symm
def zm2 (b:List UInt8) (k:Nat):Nat→UInt32
 | 0=>0
 | m+1=>zm2 b k m * 256+(b.getD (4 * k+m) 0).toUInt32
theorem zve (b:List UInt8) (k:Nat):∀ m,m≤4→(zm2 b k m).toNat<256 ^ m
 | 0,_=>by simp [zm2]
 | m+1,h=>by
  have ih:=zve b k m (by omega);have hy:=UInt8.toNat_lt (b.getD (4 * k+m) 0);have hp:256 ^ m≤256 ^ 3:=Nat.pow_le_pow_right (by omega) (by omega);have e3:(256:Nat) ^ 3=16777216:=rfl;have ep:256 ^ (m+1)=256 ^ m * 256:=Nat.pow_succ ..;rw [zm2,UInt32.toNat_add,UInt32.toNat_mul,ep];have e1:((b.getD (4 * k+m) 0).toUInt32).toNat=(b.getD (4 * k+m) 0).toNat:=by simp
  have e2:(256:UInt32).toNat=256:=rfl;rw [e1,e2,Nat.mod_eq_of_lt (a:=(zm2 b k m).toNat * 256) (by omega),Nat.mod_eq_of_lt (by omega)];omega
theorem zwi (b:List UInt8) (k:Nat):zm2 b k 4=word b k:=by
 simp only [zm2,word,Nat.add_zero]
 simp
theorem zzw (b:List UInt8) (hb:b.length=64):∃ w,iter (z6x b) (Vector.replicate 64 0,0)=some w∧w.toList.take 16=z7i b 0:=by
 refine zap (F:=z6x b) 64 (fun i s=>s.2=(i:Int)∧∀ k,k<16→s.1.toList.getD k 0=zm2 b k (min 4 (i - 4 * k))) (fun w=>w.toList.take 16=z7i b 0) (fun i s hi hs=>?_) (fun s hs=>?_) (Vector.replicate 64 0,0) 0 (by omega) ⟨rfl, fun k hk=>?_⟩
 ·obtain ⟨w,j⟩:=s;obtain ⟨h1,h2⟩:=hs;simp only at h1 h2;subst h1;have hlw:w.toList.length=64:=by simp
  have hdiv:w64 (Int.tdiv (i:Int) 4)=((i / 4:Nat):Int):=by
   have:Int.tdiv (i:Int) 4=((i / 4:Nat):Int):=by
    rw [Int.tdiv_eq_ediv_of_nonneg (by omega)]; omega
   rw [this,z18 (by omega) (by omega)]
  refine ⟨(zf3 w ((i / 4:Nat):Int) (zm2 b (i / 4) (i % 4+1)),((i+1:Nat):Int)),?_,rfl, fun k hk=>?_⟩
  ·unfold z6x;rw [if_pos (by simp; omega)];simp only [hdiv,z10i];rw [zh7 0 (by omega)];simp only [bS];rw [zh7 0 (by omega)];simp only [bS,z0r (show i<9223372036854775807 by omega)];rw [h2 (i / 4) (by omega), show min 4 (i - 4 * (i / 4))=i % 4 by omega];have hlt:=zve b (i / 4) (i % 4) (by omega);have hp:256 ^ (i % 4)≤256 ^ 3:=Nat.pow_le_pow_right (by omega) (by omega);have e3:(256:Nat) ^ 3=16777216:=rfl
   rw [z180 _ _ (by omega)];have e4:zm2 b (i / 4) (i % 4+1)=zm2 b (i / 4) (i % 4) * 256+(b.getD i 0).toUInt32:=by
    show zm2 b (i / 4) (i % 4) * 256+(b.getD (4 * (i / 4)+i % 4) 0).toUInt32=_;rw [show 4 * (i / 4)+i % 4=i by omega]
   rw [e4]
  ·simp only [];rw [z13i,z11k (by omega)];by_cases hk2:i / 4=k
   ·subst hk2;rw [if_pos rfl, show min 4 (i+1 - 4 * (i / 4))=i % 4+1 by omega]
   ·rw [if_neg hk2,h2 k hk]
    congr 1; omega
 ·obtain ⟨w,j⟩:=s;obtain ⟨h1,h2⟩:=hs;simp only at h1 h2;subst h1;have hlw:w.toList.length=64:=by simp
  refine ⟨w,?_,?_⟩
  ·unfold z6x;rw [if_neg (by simp [hb])]
  ·apply List.ext_getElem
   ·simp [z7i]
   ·intro k k1 k2;have hk:k<16:=by simp [z7i] at k2; exact k2
    have:=h2 k hk
    rw [show min 4 (64 - 4 * k)=4 by omega,zwi] at this;have e:w.toList.getD k 0=w.toList[k]'(by omega):=by rw [List.getD_eq_getElem?_getD,List.getElem?_eq_getElem (by omega)]; rfl
    rw [e] at this;simp only [List.getElem_take,this,z7i,List.getElem_map,List.getElem_range]
 ·show (Vector.replicate 64 (0:UInt32)).toList.getD k 0=_;rw [show min 4 (0 - 4 * k)=0 by omega,Vector.toList_replicate,List.getD_eq_getElem?_getD,List.getElem?_replicate,if_pos (by omega)];rfl
theorem zw3 (v:Vector UInt32 64) (t:Nat) (h1:16≤t) (h2:t<64) (p q r s u:UInt32) (e1:z7n v ((t - 15:Nat):Int)=some p) (e2:z7n v ((t - 2:Nat):Int)=some q) (e3:z7n v ((t - 16:Nat):Int)=some r) (e4:z7n v ((t - 7:Nat):Int)=some s) (e5:z7n v (t:Int)=some u) :
  z56 (v,(t:Int))=some (.inr (zf3 v (t:Int) (((r+s)+sg0 p)+sg1 q),((t+1:Nat):Int))):=by
 have r1:=znk p 7 (by omega) (by omega);have r2:=znk p 18 (by omega) (by omega);have r3:=znk q 17 (by omega) (by omega);have r4:=znk q 19 (by omega) (by omega);have hw:=z0r (show t<9223372036854775807 by omega);have hd:decide ((t:Int)<64)=true:=by simp; omega
 have w1:w64 ((t:Int) - 15)=((t - 15:Nat):Int):=by rw [z18 (by omega) (by omega)]; omega
 have w2:w64 ((t:Int) - 2)=((t - 2:Nat):Int):=by rw [z18 (by omega) (by omega)]; omega
 have w3:w64 ((t:Int) - 16)=((t - 16:Nat):Int):=by rw [z18 (by omega) (by omega)]; omega
 have w4:w64 ((t:Int) - 7)=((t - 7:Nat):Int):=by rw [z18 (by omega) (by omega)]; omega
 unfold z56;rw [if_pos hd];simp only [];rw [w1,w2,w3,w4,hw,e1,e2,e3,e4,e5];simp only [bS];rw [show (-7:Int) = -((7:Nat):Int) from rfl, show (-18:Int) = -((18:Nat):Int) from rfl, show (-17:Int) = -((17:Nat):Int) from rfl, show (-19:Int) = -((19:Nat):Int) from rfl,r1,r2,r3,r4];simp only [bS];rfl
theorem zz5 (b:List UInt8) (w:Vector UInt32 64) (hw:w.toList.take 16=z7i b 0):∃ v,iter (z56) (w,16)=some v∧v.toList=z7i b 48:=by
 refine zap (F:=z56) 48 (fun i s=>s.2=((16+i:Nat):Int)∧s.1.toList.take (16+i)=z7i b i) (fun v=>v.toList=z7i b 48) (fun i s hi hs=>?_) (fun s hs=>?_) (w,16) 0 (by omega) ⟨rfl,hw⟩
 ·obtain ⟨w,j⟩:=s;obtain ⟨h1,h2⟩:=hs;simp only at h1 h2;subst h1;have hlw:w.toList.length=64:=by simp
  have hl:=zfg b i;have hg:∀ k,k<16+i→w.toList.getD k 0=(z7i b i).getD k 0:=fun k hk=>by rw [← h2,zrw hk]
  have hv:∀ k,k<16+i→z7n w (k:Int)=some ((z7i b i).getD k 0):=fun k hk=>by rw [z10i,zh7 0 (by omega),hg k hk]
  refine ⟨_,zw3 w (16+i) (by omega) (by omega) _ _ _ _ _ (hv _ (by omega)) (hv _ (by omega)) (hv _ (by omega)) (hv _ (by omega)) (z8o (by omega)),rfl,?_⟩;simp only [];rw [z13i, show 16+(i+1)=16+i+1 by omega,zpk (by omega),h2, show z7i b (i+1)=zte (z7i b i) from rfl,zug _ (16+i) hl]
 ·obtain ⟨w,j⟩:=s;obtain ⟨h1,h2⟩:=hs;simp only at h1 h2;subst h1;refine ⟨w,?_,?_⟩
  ·unfold z56;rw [if_neg (by simp)]
  ·rw [← h2,List.take_of_length_le (by simp)]
abbrev O8:=UInt32 × UInt32 × UInt32 × UInt32 × UInt32 × UInt32 × UInt32 × UInt32
def toV (s:O8):Vector UInt32 8:=#v[s.1,s.2.1,s.2.2.1,s.2.2.2.1,s.2.2.2.2.1,s.2.2.2.2.2.1,s.2.2.2.2.2.2.1,s.2.2.2.2.2.2.2]
def ofV (h:Vector UInt32 8):O8:=(h[0],h[1],h[2],h[3],h[4],h[5],h[6],h[7])
theorem z14u (h:Vector UInt32 8):toV (ofV h)=h:=by
 apply Vector.ext
 intro i hi;unfold toV ofV
 match i,hi with
 | 0,_=>rfl
 | 1,_=>rfl
 | 2,_=>rfl
 | 3,_=>rfl
 | 4,_=>rfl
 | 5,_=>rfl
 | 6,_=>rfl
 | 7,_=>rfl
def rnd1 (k w:UInt32) (s:O8):UInt32:=(((s.2.2.2.2.2.2.2+((tr s.2.2.2.2.1 6 ^^^ tr s.2.2.2.2.1 11) ^^^ tr s.2.2.2.2.1 25))+((s.2.2.2.2.1 &&& s.2.2.2.2.2.1) ^^^ ((~~~s.2.2.2.2.1) &&& s.2.2.2.2.2.2.1)))+k)+w
def rnd2 (s:O8):UInt32:=((tr s.1 2 ^^^ tr s.1 13) ^^^ tr s.1 22)+(((s.1 &&& s.2.1) ^^^ (s.1 &&& s.2.2.1)) ^^^ (s.2.1 &&& s.2.2.1))
def rnd (k w:UInt32) (s:O8):O8:=(rnd1 k w s+rnd2 s,s.1,s.2.1,s.2.2.1,s.2.2.2.1+rnd1 k w s,s.2.2.2.2.1,s.2.2.2.2.2.1,s.2.2.2.2.2.2.1)
def zv7 (K W:List UInt32) (s:O8):Nat→O8
 | 0=>s
 | n+1=>rnd (K.getD n 0) (W.getD n 0) (zv7 K W s n)
theorem zzl:zak=some z52.toList:=rfl
theorem zqe:z52.toList.length=64:=by simp
theorem zz9 (w:Vector UInt32 64) (a b c d e f g z:UInt32) (i:Nat) (hi:i<64) (k u:UInt32) (hk:z7n z52 (i:Int)=some k) (hu:z7n w (i:Int)=some u) :
  z5w w (a,b,c,d,e,f,g,z,(i:Int))=some (.inr (rnd1 k u (a,b,c,d,e,f,g,z)+rnd2 (a,b,c,d,e,f,g,z),a,b,c,d+rnd1 k u (a,b,c,d,e,f,g,z),e,f,g,((i+1:Nat):Int))):=by
 have m1:=z13k e 6 11 25 (by omega) (by omega) (by omega);have m2:=z13k a 2 13 22 (by omega) (by omega) (by omega);have hw:=z0r (show i<9223372036854775807 by omega);have hd:decide ((i:Int)<64)=true:=by simp; omega
 unfold z5w;rw [if_pos hd];simp only [];rw [hk,hu,hw];simp only [bS];rw [show (6:Int)=((6:Nat):Int) from rfl, show (11:Int)=((11:Nat):Int) from rfl, show (25:Int)=((25:Nat):Int) from rfl, show (2:Int)=((2:Nat):Int) from rfl, show (13:Int)=((13:Nat):Int) from rfl, show (22:Int)=((22:Nat):Int) from rfl,m1,m2];simp only [bS];rfl
theorem z11p (K W:List UInt32) (a b c d e f g z:UInt32) (i:Nat) (hi:i<64) (k u:UInt32) (hk:idx K (i:Int)=some k) (hu:idx W (i:Int)=some u) :
  z3j W K (#v[a,b,c,d,e,f,g,z],(i:Int))=some (.inr (#v[rnd1 k u (a,b,c,d,e,f,g,z)+rnd2 (a,b,c,d,e,f,g,z),a,b,c,d+rnd1 k u (a,b,c,d,e,f,g,z),e,f,g],((i+1:Nat):Int))):=by
 have t1:=zev e 6 (by omega);have t2:=zev e 11 (by omega);have t3:=zev e 25 (by omega);have t4:=zev a 2 (by omega);have t5:=zev a 13 (by omega);have t6:=zev a 22 (by omega);have hw:=z0r (show i<9223372036854775807 by omega);have hd:decide ((i:Int)<64)=true:=by simp; omega
 have v0:z7n #v[a,b,c,d,e,f,g,z] 0=some a:=rfl;have v1:z7n #v[a,b,c,d,e,f,g,z] 1=some b:=rfl;have v2:z7n #v[a,b,c,d,e,f,g,z] 2=some c:=rfl;have v3:z7n #v[a,b,c,d,e,f,g,z] 3=some d:=rfl;have v4:z7n #v[a,b,c,d,e,f,g,z] 4=some e:=rfl;have v5:z7n #v[a,b,c,d,e,f,g,z] 5=some f:=rfl;have v6:z7n #v[a,b,c,d,e,f,g,z] 6=some g:=rfl;have v7:z7n #v[a,b,c,d,e,f,g,z] 7=some z:=rfl;unfold z3j;rw [if_pos hd];simp only []
 rw [v0,v1,v2,v3,v4,v5,v6,v7,hk,hu,hw];simp only [bS];rw [show (6:Int)=((6:Nat):Int) from rfl, show (11:Int)=((11:Nat):Int) from rfl, show (25:Int)=((25:Nat):Int) from rfl, show (2:Int)=((2:Nat):Int) from rfl, show (13:Int)=((13:Nat):Int) from rfl, show (22:Int)=((22:Nat):Int) from rfl,t1,t2,t3,t4,t5,t6];simp only [bS];rfl
def zw7 (s:O8) (i:Int):UInt32 × UInt32 × UInt32 × UInt32 × UInt32 × UInt32 × UInt32 × UInt32 × Int:=match s with
 | (a,b,c,d,e,f,g,z)=>(a,b,c,d,e,f,g,z,i)
theorem zw4 (w:Vector UInt32 64) (s:O8) (i:Nat) (hi:i<64):z5w w (zw7 s (i:Int))=some (.inr (zw7 (rnd (z52.toList.getD i 0) (w.toList.getD i 0) s) ((i+1:Nat):Int))):=by
 obtain ⟨a,b,c,d,e,f,g,z⟩:=s;exact zz9 w a b c d e f g z i hi _ _ (zh7 0 (by rw [zqe]; exact hi)) (zh7 0 (by simp; exact hi))
theorem zw6 (w:Vector UInt32 64) (s:O8):iter (z5w w) (zw7 s 0)=some (zv7 z52.toList w.toList s 64):=by
 refine z2k (F:=z5w w) (b:=zv7 z52.toList w.toList s 64) 64 (fun i=>zw7 (zv7 z52.toList w.toList s i) (i:Int)) (fun i hi=>zw4 w _ i hi) ?_;generalize zv7 z52.toList w.toList s 64=q;obtain ⟨a,b,c,d,e,f,g,z⟩:=q;unfold zw7 z5w;rw [if_neg (by simp)]
theorem z100 (K W:List UInt32) (hk:K.length=64) (hW:W.length=64) (s:O8) (i:Nat) (hi:i<64):z3j W K (toV s,(i:Int))=some (.inr (toV (rnd (K.getD i 0) (W.getD i 0) s),((i+1:Nat):Int))):=by
 obtain ⟨a,b,c,d,e,f,g,z⟩:=s;exact z11p K W a b c d e f g z i hi _ _ (zh7 0 (by omega)) (zh7 0 (by omega))
theorem zxi (K W:List UInt32) (hk:K.length=64) (hW:W.length=64) (s:O8):iter (z3j W K) (toV s,0)=some (toV (zv7 K W s 64)):=by
 refine z2k (F:=z3j W K) (b:=toV (zv7 K W s 64)) 64 (fun i=>(toV (zv7 K W s i),(i:Int))) (fun i hi=>z100 K W hk hW _ i hi) ?_;generalize toV (zv7 K W s 64)=q;unfold z3j;rw [if_neg (by simp)]
theorem z15k (s:O8):zeb s=z1y (toV s):=by
 funext x
 obtain ⟨h,i⟩:=x;unfold zeb z1y;simp only [bS];show (if decide (i<8)=true then z7n (toV s) i >>= _ else _)=_
 split
 ·cases h1:z7n (toV s) i <;> cases h2:z7n h i <;> rfl
 ·rfl
def addV (h v:Vector UInt32 8):Vector UInt32 8:=(iter (z1y v) (h,0)).getD h
theorem zy0 (h v:Vector UInt32 8):iter (z1y v) (h,0)=some (addV h v):=by
 obtain ⟨r,h1,-⟩:=zap (F:=z1y v) 8 (fun i s=>s.2=(i:Int)) (fun _=>True) (fun i s hi hs=>by
  obtain ⟨u,j⟩:=s;simp only at hs;subst hs;unfold z1y;rw [if_pos (by simp; omega)];rw [z8o (show i<8 by omega),z8o (show i<8 by omega)];simp only [bS,z0r (show i<9223372036854775807 by omega)]
  exact ⟨_,rfl,rfl⟩) (fun s hs=>by
  obtain ⟨u,j⟩:=s;simp only at hs;subst hs;unfold z1y;rw [if_neg (by simp)]
  exact ⟨_,rfl,trivial⟩) (h,0) 0 (by omega) rfl
 unfold addV;rw [h1]; rfl
def gr (h:Vector UInt32 8) (b:List UInt8):Vector UInt32 8:=addV h (toV (zv7 z52.toList (z7i b 48) (ofV h) 64))
theorem z17z (h:Vector UInt32 8) (b:List UInt8) (hb:b.length=64):zaf h b=some (gr h b):=by
 unfold zaf;rw [z12a b (by omega)];simp only [bS];rw [z11e b];simp only [bS,zzl]
 have:=zxi z52.toList (z7i b 48) zqe (by rw [zfg]) (ofV h)
 rw [z14u] at this;rw [this];simp only [bS];rw [zy0];rfl
theorem z14r (h:Vector UInt32 8) (b:List UInt8) (hb:64≤b.length):zep h b=some (gr h (b.take 64)):=by
 unfold zep ze6;rw [show (64:Int)=((64:Nat):Int) from rfl, show (0:Int)=((0:Nat):Int) from rfl,zgg (by omega) hb];simp only [bS,List.drop_zero,Nat.sub_zero];obtain ⟨w,h1,h2⟩:=zzw (b.take 64) (by simp; omega);rw [show ((0:Nat):Int)=0 from rfl,h1];simp only [bS];obtain ⟨v,h3,h4⟩:=zz5 (b.take 64) w h2;rw [h3];simp only [bS];have hv:∀ i:Nat,(hi:i<8)→z7n h (i:Int)=some h[i]:=fun i hi=>z8o hi;rw [show z7n h 0=some h[0] from hv 0 (by omega), show z7n h 1=some h[1] from hv 1 (by omega), show z7n h 2=some h[2] from hv 2 (by omega), show z7n h 3=some h[3] from hv 3 (by omega), show z7n h 4=some h[4] from hv 4 (by omega), show z7n h 5=some h[5] from hv 5 (by omega), show z7n h 6=some h[6] from hv 6 (by omega), show z7n h 7=some h[7] from hv 7 (by omega)]
 simp only [bS]
 have:=zw6 v (ofV h)
 rw [show (h[0],h[1],h[2],h[3],h[4],h[5],h[6],h[7],(0:Int))=zw7 (ofV h) 0 from rfl,this];simp only [bS];rw [z15k,h4,zy0];rfl
end
section
open Go
def blk (h:Vector UInt32 8) (b:List UInt8):Vector UInt32 8:=if h64:64≤b.length then blk (gr h (b.take 64)) (b.drop 64) else h
termination_by b.length
decreasing_by simp; omega
theorem zr1 {h:Vector UInt32 8} {b:List UInt8} (hb:b.length<64):blk h b=h:=by rw [blk,dif_neg (by omega)]
theorem zrk {h:Vector UInt32 8} {b:List UInt8} (hb:64≤b.length):blk h b=blk (gr h (b.take 64)) (b.drop 64):=by rw [blk,dif_pos hb]
def lft (b:List UInt8):List UInt8:=b.drop (b.length / 64 * 64)
theorem z10e {b:List UInt8} (hb:b.length<64):lft b=b:=by unfold lft; rw [Nat.div_eq_of_lt hb]; simp
theorem zzb {b:List UInt8} (hb:64≤b.length):lft b=lft (b.drop 64):=by
 unfold lft;rw [List.drop_drop,List.length_drop]
 congr 1
 omega
theorem zxe (b:List UInt8):(lft b).length<64:=by unfold lft; simp; omega
theorem z13w (h:Vector UInt32 8):∀ (n:Nat) (a c:List UInt8),a.length=n→blk h (a++c)=blk (blk h a) (lft a++c)∧lft (a++c)=lft (lft a++c):=by
 intro n
 induction n using Nat.strongRecOn generalizing h with
 | _ n ih =>
  intro a c ha;by_cases h64:64≤a.length
  ·have e1:(a++c).take 64=a.take 64:=by rw [List.take_append_of_le_length h64]
   have e2:(a++c).drop 64=a.drop 64++c:=by rw [List.drop_append_of_le_length h64]
   have hl:64≤(a++c).length:=by simp; omega
   obtain ⟨i1,i2⟩:=ih (a.drop 64).length (by simp; omega) (gr h (a.take 64)) (a.drop 64) c rfl;rw [zrk hl,e1,e2,zrk h64,zzb h64,zzb hl,e2];exact ⟨i1,i2⟩
  ·rw [zr1 (b:=a) (by omega),z10e (b:=a) (by omega)];exact ⟨rfl,rfl⟩
theorem zza:∀ (n:Nat) (m:z2m) (r:List UInt8),r.length=n→iter zau (m,r)=some ({ m with Words:=blk m.Words r },lft r):=by
 intro n
 induction n using Nat.strongRecOn with
 | _ n ih =>
  intro m r hr;by_cases h64:64≤r.length
  ·have hs:zau (m,r)=some (.inr ({ m with Words:=gr m.Words (r.take 64) },r.drop 64)):=by
    unfold zau;rw [if_pos (by simp; omega)];simp only [];rw [z14r _ _ h64, show (64:Int)=((64:Nat):Int) from rfl,zgg h64 (Nat.le_refl _)];simp only [bS];rw [List.take_of_length_le (l:=r.drop 64) (by simp)]
   rw [z26 hs,ih (r.drop 64).length (by simp; omega) _ _ rfl,zrk h64,zzb h64]
  ·refine (z1u (b:=(m,r)) ?_).trans ?_
   ·unfold zau;rw [if_neg (by simp; omega)]
   ·rw [zr1 (by omega),z10e (by omega)]
theorem z15s (a b:List UInt8) (h:a.length+b.length≤1000000):z2f [a,b]=some (a++b):=by
 have l1:iter (z13 [a,b]) (0,0)=some ((a.length+b.length:Nat):Int):=by
  have s1:z13 [a,b] (0,0)=some (.inr ((a.length:Int),1)):=by
   unfold z13;rw [if_pos (by simp)];simp only [];rw [show idx [a,b] 0=some a from rfl];simp only [bS];rw [z18 (x:=(0:Int)+(a.length:Int)) (by omega) (by omega),z18 (x:=(0:Int)+1) (by omega) (by omega)];rw [if_neg (by simp)]
   simp
  have s2:z13 [a,b] ((a.length:Int),1)=some (.inr (((a.length+b.length:Nat):Int),2)):=by
   unfold z13;rw [if_pos (by simp)];simp only [];rw [show idx [a,b] 1=some b from rfl];simp only [bS];rw [z18 (x:=(a.length:Int)+(b.length:Int)) (by omega) (by omega),z18 (x:=(1:Int)+1) (by omega) (by omega)];rw [if_neg (by simp; omega)]
   simp
  have s3:z13 [a,b] (((a.length+b.length:Nat):Int),2)=some (.inl ((a.length+b.length:Nat):Int)):=by
   unfold z13;rw [if_neg (by simp)]
  rw [z26 s1,z26 s2,z1u s3]
 have gw:z3y ((a.length+b.length:Nat):Int)=some []:=by
  unfold z3y;rw [if_neg (by simp; omega)];rw [show ((([]:List UInt8).length:Nat):Int)=0 from rfl, show w64 ((0:Int) - 0)=0 by decide,Int.sub_zero,z18 (by omega) (by omega)];simp only [bS]
  split
  ·rw [zis (by omega) (by omega)];simp only [bS];rw [show (0:Int)=((0:Nat):Int) from rfl,zgg (Nat.le_refl _) (Nat.zero_le _)]
   simp
  ·rfl
 have l2:iter (z12 [a,b]) ([],0)=some (a++b):=by
  have s1:z12 [a,b] ([],0)=some (.inr (a,1)):=by
   unfold z12;rw [if_pos (by simp)];simp only [];rw [show idx [a,b] 0=some a from rfl,z18 (x:=(0:Int)+1) (by omega) (by omega)];simp only [bS];rw [z1t (by simp; omega)]
   simp
  have s2:z12 [a,b] (a,1)=some (.inr (a++b,2)):=by
   unfold z12;rw [if_pos (by simp)];simp only [];rw [show idx [a,b] 1=some b from rfl,z18 (x:=(1:Int)+1) (by omega) (by omega)];simp only [bS];rw [z1t (by simp; omega)]
   simp
  have s3:z12 [a,b] (a++b,2)=some (.inl (a++b)):=by
   unfold z12;rw [if_neg (by simp)]
  rw [z26 s1,z26 s2,z1u s3]
 unfold z2f;rw [l1];simp only [bS];rw [gw];simp only [bS];rw [l2];simp only [bS]
theorem z15h (m:z2m) (b:List UInt8) (h:m.Rest.length+b.length≤1000000):zch m b=some ⟨blk m.Words (m.Rest++b),lft (m.Rest++b),w64 (m.N+(b.length:Int))⟩:=by
 unfold zch;rw [z15s _ _ h];simp only [bS];rw [zza _ _ _ rfl];simp only [bS];unfold z9h
 have:=zxe (m.Rest++b)
 rw [z1t (by simp; omega)];simp only [bS,List.nil_append]
def H0:Vector UInt32 8:=#v[1779033703,3144134277,1013904242,2773480762,1359893119,2600822924,528734635,1541459225]
def zx2 (a:List UInt8):z2m:=⟨blk H0 a,lft a,(a.length:Int)⟩
theorem z11t:zeh=some (zx2 []):=by
 unfold zeh zx2;rw [zr1 (by simp),z10e (by simp)];rfl
theorem zs3 (a b:List UInt8) (h:a.length+b.length≤500000):zch (zx2 a) b=some (zx2 (a++b)):=by
 have hl:=zxe a;rw [z15h (zx2 a) b (by show (lft a).length+b.length≤1000000; omega)];obtain ⟨h1,h2⟩:=z13w H0 _ a b rfl;unfold zx2;rw [h1,h2,z18 (by simp; omega) (by simp; omega)]
 simp
theorem zw5 (b:List UInt8) (hb:b.length≤1000000):∀ (n:Nat) (h:Vector UInt32 8) (i:Nat),(b.drop i).length=n→i≤b.length→iter (z5g b) (h,(i:Int))=some (blk h (b.drop i)):=by
 intro n
 induction n using Nat.strongRecOn with
 | _ n ih =>
  intro h i hn hi;have hw:w64 ((i:Int)+64)=((i+64:Nat):Int):=by rw [z18 (by omega) (by omega)]; omega
  simp only [List.length_drop] at hn;by_cases h64:i+64≤b.length
  ·have hs:z5g b (h,(i:Int))=some (.inr (gr h ((b.drop i).take 64),((i+64:Nat):Int))):=by
    unfold z5g;simp only [hw];rw [if_pos (by simp; omega),zgg (by omega) h64];simp only [bS];rw [show i+64 - i=64 by omega,z17z _ _ (by simp; omega)];simp only [bS]
   rw [z26 hs,ih (b.drop (i+64)).length (by simp; omega) _ _ rfl h64,zrk (b:=b.drop i) (by simp; omega),List.drop_drop]
  ·refine (z1u (b:=h) ?_).trans ?_
   ·unfold z5g;simp only [hw];rw [if_neg (by simp; omega)]
   ·rw [zr1 (by simp; omega)]
theorem zya (h:Vector UInt32 8) (b:List UInt8) (hb:b.length≤1000000):zaa h b=some (blk h b):=by
 unfold zaa
 have:=zw5 b hb _ h 0 rfl (by omega)
 rw [show (0:Int)=((0:Nat):Int) from rfl,this];simp only [bS,List.drop_zero]
def zrs (n:Nat):Nat:=(119 - n % 64) % 64
def z9z (n:Nat):List UInt8:=(List.range 8).map fun i=>(z8f (UInt64.ofNat n * 8) (56 - 8 * i)).toUInt8
def tl (n:Nat):List UInt8:=([128]++List.replicate (zrs n) 0)++z9z n
theorem zs5 (n:Nat):UInt64.ofInt (n:Int)=UInt64.ofNat n:=by
 apply UInt64.toNat_inj.1
 unfold UInt64.ofInt;simp only [UInt64.toNat_ofNat'];omega
theorem zyw (n:Nat) (x:List UInt8) (hx:x.length≤100):iter (zbw (UInt64.ofNat n * 8)) (x,56)=some (x++z9z n):=by
 rw [show (x,(56:Int))=(x++(z9z n).take 0,56 - 8 * ((0:Nat):Int)) by simp];refine z2k (F:=zbw (UInt64.ofNat n * 8)) (b:=x++z9z n) 8 (fun i=>(x++(z9z n).take i,56 - 8 * (i:Int))) (fun i hi=>?_) ?_
 ·have hl:(z9z n).length=8:=by simp [z9z]
  unfold zbw;rw [if_pos (by simp; omega)];simp only [];rw [z3i (by omega),z18 (by omega) (by omega)];simp only [bS];rw [z1t (by simp; omega)];simp only [bS];rw [List.take_add_one,List.getElem?_eq_getElem (by omega)];simp only [Option.toList_some,List.append_assoc];rw [show (56 - 8 * (i:Int)).toNat=56 - 8 * i by omega, show (56 - 8 * (i:Int) - 8)=56 - 8 * ((i+1:Nat):Int) by omega];simp [z9z]
 ·have hl:(z9z n).length=8:=by simp [z9z]
  unfold zbw;rw [if_neg (by simp),List.take_of_length_le (by omega)]
theorem zzz (n:Nat) (x:List UInt8) (hx:x.length≤100):iter (z6y (n:Int)) (x,7)=some (x++z9z n):=by
 rw [show (x,(7:Int))=(x++(z9z n).take 0,7 - ((0:Nat):Int)) by simp];refine z2k (F:=z6y (n:Int)) (b:=x++z9z n) 8 (fun i=>(x++(z9z n).take i,7 - (i:Int))) (fun i hi=>?_) ?_
 ·have hl:(z9z n).length=8:=by simp [z9z]
  unfold z6y;rw [if_pos (by simp; omega)];simp only [];rw [z18 (x:=8 * (7 - (i:Int))) (by omega) (by omega),z3i (by omega),z18 (by omega) (by omega)];simp only [bS];rw [z1t (by simp; omega)];simp only [bS];rw [List.take_add_one,List.getElem?_eq_getElem (by omega)];simp only [Option.toList_some,List.append_assoc];rw [show (8 * (7 - (i:Int))).toNat=56 - 8 * i by omega, show (7 - (i:Int) - 1)=7 - ((i+1:Nat):Int) by omega]
  rw [zs5];simp [z9z,UInt64.mul_comm]
 ·have hl:(z9z n).length=8:=by simp [z9z]
  unfold z6y;rw [if_neg (by simp),List.take_of_length_le (by omega)]
theorem z101 (n:Nat) (hn:n≤1000000):iter (z6z (n:Int)) [128]=some ([128]++List.replicate (zrs n) 0):=by
 refine z2k (F:=z6z (n:Int)) (b:=[128]++List.replicate (zrs n) 0) (zrs n) (fun i=>[128]++List.replicate i 0) (fun i hi=>?_) ?_
 ·have hz:zrs n<64:=Nat.mod_lt _ (by omega);have hl:(([128]++List.replicate i 0:List UInt8).length:Int)=((1+i:Nat):Int):=by simp; omega
  unfold z6z;rw [hl,z18 (x:=(n:Int)+((1+i:Nat):Int)) (by omega) (by omega),z18 (by omega) (by omega)];have ht:Int.tmod ((n:Int)+((1+i:Nat):Int)+8) 64=(((n+9+i) % 64:Nat):Int):=by
   rw [Int.tmod_eq_emod_of_nonneg (by omega)]; omega
  rw [ht,if_pos]
  ·rw [z1t (by simp; omega)];simp only [bS];rw [List.replicate_succ',List.append_assoc]
  ·simp only [bne_iff_ne,ne_eq];unfold zrs at hi;omega
 ·have hl:(([128]++List.replicate (zrs n) 0:List UInt8).length:Int)=((1+zrs n:Nat):Int):=by simp; omega
  have hz:zrs n<64:=Nat.mod_lt _ (by omega);unfold z6z;rw [hl,z18 (x:=(n:Int)+((1+zrs n:Nat):Int)) (by omega) (by omega),z18 (by omega) (by omega)];have ht:Int.tmod ((n:Int)+((1+zrs n:Nat):Int)+8) 64=0:=by
   rw [Int.tmod_eq_emod_of_nonneg (by omega)];unfold zrs;omega
  rw [ht,if_neg (by simp)]
theorem z12k (n:Nat) (hn:n≤1000000):zc9 (n:Int)=some (tl n):=by
 have hz:zrs n<64:=Nat.mod_lt _ (by omega);unfold zc9;rw [z101 n hn];simp only [bS];rw [zzz n _ (by simp; omega)];simp only [bS];rfl
def wr (h:Vector UInt32 8):V3:=Vector.ofFn fun i=>(z4h (h[i.val / 4]'(by omega)) (24 - 8 * (i.val % 4))).toUInt8
theorem zwq (h:Vector UInt32 8):z9o h=some (wr h):=by
 have:∃ r,iter (z4u h) (Vector.replicate 32 0,0)=some r∧r=wr h:=by
  refine zap (F:=z4u h) 32 (fun i s=>s.2=(i:Int)∧∀ k (hk:k<32),k<i→s.1[k]=(wr h)[k]) (fun r=>r=wr h) (fun i s hi hs=>?_) (fun s hs=>?_) (Vector.replicate 32 0,0) 0 (by omega) ⟨rfl, fun k hk h0=>by omega⟩
  ·obtain ⟨v,j⟩:=s;obtain ⟨h1,h2⟩:=hs;simp only at h1 h2;subst h1;have hd:w64 (Int.tdiv (i:Int) 4)=((i / 4:Nat):Int):=by
    have:Int.tdiv (i:Int) 4=((i / 4:Nat):Int):=by rw [Int.tdiv_eq_ediv_of_nonneg (by omega)]; omega
    rw [this,z18 (by omega) (by omega)]
   have hm:w64 (8 * (Int.tmod (i:Int) 4))=((8 * (i % 4):Nat):Int):=by
    have:Int.tmod (i:Int) 4=((i % 4:Nat):Int):=by rw [Int.tmod_eq_emod_of_nonneg (by omega)]; omega
    rw [this,z18 (by omega) (by omega)]; omega
   have hs:w64 (24 - ((8 * (i % 4):Nat):Int))=((24 - 8 * (i % 4):Nat):Int):=by rw [z18 (by omega) (by omega)]; omega
   refine ⟨(zf3 v (i:Int) ((z4h (h[i / 4]'(by omega)) (24 - 8 * (i % 4))).toUInt8),((i+1:Nat):Int)),?_,rfl, fun k hk hk2=>?_⟩
   ·unfold z4u;rw [if_pos (by simp; omega)];simp only [];rw [hd,hm,hs,z8o (show i / 4<8 by omega),z3i (by omega),z8o hi,z0r (show i<9223372036854775807 by omega)];simp only [bS,Int.toNat_natCast]
   ·simp only [];rw [zg7 hk,Int.toNat_natCast];by_cases e:i=k
    ·subst e;rw [if_pos rfl];simp [wr]
    ·rw [if_neg e]; exact h2 k hk (by omega)
  ·obtain ⟨v,j⟩:=s;obtain ⟨h1,h2⟩:=hs;simp only at h1 h2;subst h1;refine ⟨v,?_,?_⟩
   ·unfold z4u;rw [if_neg (by simp)]
   ·exact Vector.ext fun k hk=>h2 k hk hk
 obtain ⟨r,h1,rfl⟩:=this;unfold z9o;rw [h1];simp only [bS]
theorem zr4 (m:z2m):iter (za3 m) (Vector.replicate 32 0,0)=some (wr m.Words):=by
 have:∃ r,iter (za3 m) (Vector.replicate 32 0,0)=some r∧r=wr m.Words:=by
  refine zap (F:=za3 m) 8 (fun i s=>s.2=(i:Int)∧∀ k (hk:k<32),k<4 * i→s.1[k]=(wr m.Words)[k]) (fun r=>r=wr m.Words) (fun i s hi hs=>?_) (fun s hs=>?_) (Vector.replicate 32 0,0) 0 (by omega) ⟨rfl, fun k hk h0=>by omega⟩
  ·obtain ⟨v,j⟩:=s;obtain ⟨h1,h2⟩:=hs;simp only at h1 h2;subst h1;have e0:w64 (4 * (i:Int))=((4 * i:Nat):Int):=by rw [z18 (by omega) (by omega)]; omega
   have e1:w64 (((4 * i:Nat):Int)+1)=((4 * i+1:Nat):Int):=by rw [z18 (by omega) (by omega)]; omega
   have e2:w64 (((4 * i:Nat):Int)+2)=((4 * i+2:Nat):Int):=by rw [z18 (by omega) (by omega)]; omega
   have e3:w64 (((4 * i:Nat):Int)+3)=((4 * i+3:Nat):Int):=by rw [z18 (by omega) (by omega)]; omega
   refine ⟨(zf3 (zf3 (zf3 (zf3 v ((4 * i:Nat):Int) (z4h m.Words[i] 24).toUInt8) ((4 * i+1:Nat):Int) (z4h m.Words[i] 16).toUInt8) ((4 * i+2:Nat):Int) (z4h m.Words[i] 8).toUInt8) ((4 * i+3:Nat):Int) m.Words[i].toUInt8,((i+1:Nat):Int)),?_,rfl, fun k hk hk2=>?_⟩
   ·unfold za3;rw [if_pos (by simp; omega)];simp only [];rw [e0,e1,e2,e3,z8o hi,z8o (show 4 * i<32 by omega),z0r (show i<9223372036854775807 by omega)];simp only [bS];rw [z8o (show 4 * i+1<32 by omega),z8o (show 4 * i+2<32 by omega),z8o (show 4 * i+3<32 by omega)];simp only [bS]
   ·simp only [];rw [zg7 hk,zg7 hk,zg7 hk,zg7 hk];simp only [Int.toNat_natCast];have hw:(wr m.Words)[k]=(z4h (m.Words[k / 4]'(by omega)) (24 - 8 * (k % 4))).toUInt8:=by simp [wr]
    have s0:∀ x:UInt32,z4h x 0=x:=fun x=>by
     apply UInt32.toNat_inj.1; rw [zfv]; simp
    by_cases c3:4 * i+3=k
    ·subst c3;rw [if_pos rfl,hw];have a1:(4 * i+3) / 4=i:=by omega
     have a2:24 - 8 * ((4 * i+3) % 4)=0:=by omega
     simp only [a1,a2,s0]
    ·rw [if_neg c3];by_cases c2:4 * i+2=k
     ·subst c2;rw [if_pos rfl,hw];have a1:(4 * i+2) / 4=i:=by omega
      have a2:24 - 8 * ((4 * i+2) % 4)=8:=by omega
      simp only [a1,a2]
     ·rw [if_neg c2];by_cases c1:4 * i+1=k
      ·subst c1;rw [if_pos rfl,hw];have a1:(4 * i+1) / 4=i:=by omega
       have a2:24 - 8 * ((4 * i+1) % 4)=16:=by omega
       simp only [a1,a2]
      ·rw [if_neg c1];by_cases c0:4 * i=k
       ·subst c0;rw [if_pos rfl,hw];have a1:(4 * i) / 4=i:=by omega
        have a2:24 - 8 * ((4 * i) % 4)=24:=by omega
        simp only [a1,a2]
       ·rw [if_neg c0];exact h2 k hk (by omega)
  ·obtain ⟨v,j⟩:=s;obtain ⟨h1,h2⟩:=hs;simp only at h1 h2;subst h1;refine ⟨v,?_,?_⟩
   ·unfold za3;rw [if_neg (by simp)]
   ·exact Vector.ext fun k hk=>h2 k hk (by omega)
 obtain ⟨r,h1,rfl⟩:=this;exact h1
def sha (b:List UInt8):V3:=wr (blk H0 (b++tl b.length))
theorem z179 (a:List UInt8) (h:a.length≤300000):zho (zx2 a)=some (sha a):=by
 have hz:zrs a.length<64:=Nat.mod_lt _ (by omega);unfold zho;rw [show (zx2 a).N=((a.length:Nat):Int) from rfl,zs5];simp only [bS];have ht:Int.tmod (w64 (119 - Int.tmod ((a.length:Nat):Int) 64)) 64=((zrs a.length:Nat):Int):=by
  have e1:Int.tmod ((a.length:Nat):Int) 64=((a.length % 64:Nat):Int):=by rw [Int.tmod_eq_emod_of_nonneg (by omega)]; omega
  rw [e1,z18 (by omega) (by omega),Int.tmod_eq_emod_of_nonneg (by omega)];unfold zrs;omega
 rw [ht];have hap:appz 1 ([128]:List UInt8) 0 ((zrs a.length:Nat):Int)=some ([128]++List.replicate (zrs a.length) 0):=by
  unfold appz;rw [if_pos ⟨by omega, by simp; omega⟩,Int.toNat_natCast]
 rw [hap];simp only [bS];rw [zyw _ _ (by simp; omega)];simp only [bS];have htl:(tl a.length).length≤200:=by simp [tl,z9z]; omega
 rw [show ([128]++List.replicate (zrs a.length) 0)++z9z a.length=tl a.length from rfl,zs3 a _ (by omega)];simp only [bS];rw [zr4];simp only [bS];rfl
theorem z162 (b:List UInt8) (h:b.length≤300000):zc2 b=some (sha b):=by
 have hz:zrs b.length<64:=Nat.mod_lt _ (by omega);have htl:(tl b.length).length≤200:=by simp [tl,z9z]; omega
 unfold zc2 zdg;simp only [bS];rw [z1t (by simp; omega)];simp only [bS,List.nil_append];rw [z12k _ (by omega)];simp only [bS];rw [z1t (by simp; omega)];simp only [bS];rw [zya _ _ (by simp; omega)];simp only [bS];rw [zwq];simp only [bS];rfl
end
end Go.Proofs.YtcneilabmjkdlaaGreatDoor
