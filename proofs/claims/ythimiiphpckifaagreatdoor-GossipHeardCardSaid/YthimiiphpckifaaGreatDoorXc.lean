import Derived.Test.YthimiiphpckifaaGreatDoorXb
set_option linter.unusedSimpArgs false
set_option linter.unusedVariables false
namespace Go.Proofs.YthimiiphpckifaaGreatDoor
section
open Go Go.RowKit
set_option maxRecDepth 100000
def zem (a0:List UInt8) (a1:List UInt8):Option (Int) :=
 some (Lib.compareBytes a0 a1) >>= fun y1 =>
 some y1
theorem zkk (a0:List UInt8) (a1:List UInt8):z1w Tryz.prog 98 [.rd (z02 u8R) a0,.rd (z02 u8R) a1] [] (zem a0 a1) (fun r nv=>⟨[.rd z07 r],[]⟩):=by
 refine z2l 8 Tryz.func98 Z Z Z fun H w=>?_
 refine gSR<|Zb Z<|gSR<|Zm Z<|Zm Z<|Zq (cmpB Z Z Tryz.func133 Z Z (by kernel_rfl) (by kernel_rfl))<|Za Z<|z2d 4 Z fun y1=>Zn<|z0g<|Ze [] [] Z
def z8j (a0:V3) (a1:V3):Option (Int) :=
 zem a0.toList a1.toList >>= fun r3 =>
 some r3
theorem zai (a0:V3) (a1:V3):z1w Tryz.prog 69 [.rd aZ a0,.rd aZ a1] [] (z8j a0 a1) (fun r nv=>⟨[.rd z07 r],[]⟩):=by
 refine z2l 8 Tryz.func69 Z Z Z fun H w=>?_
 refine gSR<|Eb Z (bx 1 Z) fun v1=>Eb Z (bx 2 Z) fun v2=>Zb Z<|z0m<|z185 1 2 Z Z<|z185 2 3 Z Z<|z5v [] mixed Z Z<|hTk 0 Z Z (cutV Z tu94 ti5 Z Z Z)<|hTk 1 Z Z (cutV Z tu94 ti5 Z Z Z)<|z3i 2 [] [] Z (by kernel_rfl) Z (gd0 Z) Z Tryz.func98 Z Z (zkk _ _) (Y2 Z Z) rN Z (fun _ _=>z34) fun r3 n4=>hTk 3 Z Z (asg Z)<|z3f (by kernel_rfl)<|z0j<|z0g<|Ze [] [] Z
def z0n (a0:List V3):Option ((List V3)) :=
 app 32 ([]:List V3) a0 >>= fun x3 =>
 some x3
theorem z16 (a0:List V3):z1w Tryz.prog 61 [.rd (z02 aZ) a0] [] (z0n a0) (fun r nv=>⟨[.val (nv 0)],[(100,some (nv 0,.list aZ 94 r))]⟩):=by
 refine z2l 8 Tryz.func61 Z Z Z fun H w=>?_
 refine gSR<|Zb Z<|z0m<|gSR<|Zm Z<|z150 Z Z .rd Z tu46 (fun h1=>?_) ?_
 ·
  subst h1
  refine Zn<|zcu Z<|gSR<|Zb Z<|z0g<|z0l<|zje aZ 94 1<|Ze [(.slice none 0 0)] [1] Z
 ·
  refine Zn<|zbi Z<|Zt<|gSR<|Ef Z (lit (R:=aZ) (([]:List V3):List V3) 2 (pN) Z tu46 z5i Z Z) fun v2=>Zm Z<|z0w fun x3 h4=>Ef Z (apn 2 Z Z Z .rd h4 tu46 z5i Z Z Z) fun v5=>Zb Z<|z0g<|Ze [v5] [2] Z
def z3w (a0:UInt64) (a1:List UInt32) (s2:UInt64 × Int):Option (Sum UInt64 (UInt64 × Int)) :=
 if decide (s2.2<(a1.length:Int)) then
  idx a1 s2.2 >>= fun x4 =>
  chk (a0≠0) >>= fun u6 =>
  some ((s2.1 * x4.toUInt64) % a0) >>= fun y8 =>
  some (.inr (y8,w64 (s2.2+1)))
 else
  some (.inl s2.1)
def zah (a0:UInt64) (a1:List UInt32):Option (UInt32) :=
 (iter (z3w a0 a1) (1,0)) >>= fun s1 =>
 some s1.toUInt32
theorem zd9 (a0:UInt64) (a1:List UInt32):z1w Tryz.prog 118 [.rd z1u a0,.rd (z02 z0r) a1] [] (zah a0 a1) (fun r nv=>⟨[.rd z0r r],[]⟩):=by
 refine z2l 23 Tryz.func118 Z Z Z fun H w=>?_
 refine gSR<|Zb Z<|gSR<|Zb Z<|z7x (fun (s1:UInt64) aa ww=>Sta (ctx 23 H [] w) [(5,.rd z1u s1)] [] aa ww) ?_ (fun s1=>?_)
 ·
  refine gSR<|Zm Z<|Zq (z2w Z .rd Z tu188)<|Zm Z<|Zn<|z1h (fun (s2:UInt64 × Int) aa ww=>Sta (ctx 23 H [] w) [(0,.rd z1u a0),(5,.rd z1u s2.1),(8,.rd (z02 z0r) a1),(9,.rd z07 (a1.length:Int)),(10,.rd z07 s2.2)] [] aa ww) (fun aa ww h=>Zu h []) (fun s2=>?_)
  refine gSR<|Zq (I.lss Z Z)<|Zn<|z0m<|gIf Z Z (fun h3=>?_) (fun h3=>?_)
  ·
   refine Zt<|z0m<|z43<|gSR<|z0w fun x4 h5=>Zq (ixR Z Z h5 tu188 z5e Z)<|Zq (ldR Z z7w)<|Zb Z<|z1y<|Zm Z<|Zm Z<|Zq (W.toU Z tu78 tu56)<|Zq (U.mul Z Z)<|Zm Z<|z0w fun u6 h7=>Zq (U.rem Z Z (z4z h7))<|Za Z<|z2d 5 Z fun y8=>z1k<|z2t<|z0j<|z1y<|Zq (I.add Z Z)<|Zm Z<|z1k<|z1a (fun aa ww h=>Zu h [])
  ·
   refine z1f<|z0u<|z0v<|z40 (fun aa ww h=>Zu h [])
 ·
  refine gSR<|Zm Z<|Zq (U.toW Z tu56 tu78)<|Zb Z<|z0g<|Ze [] [] Z
def zh9 (c0_0:UInt32):Option (UInt32) :=
 zah 1000000007 [c0_0,c0_0] >>= fun r2 =>
 some r2
theorem zni (p0_0:Value) (c0_0:UInt32):z1w Tryz.prog 144 [.val (z09 p0_0 0)] [(1,some (p0_0,.box 78 [.rd z0r c0_0]))] (zh9 c0_0) (fun r nv=>⟨[],[(1,some (p0_0,.box 78 [.rd z0r r]))]⟩):=by
 refine z2l 5 Tryz.func144 Z Z Z fun H w=>?_
 refine z1y<|Zq (ld 1 Z Z fH z7w Z)<|Zq (ld 1 Z Z fH z7w Z)<|Ef Z (lit (R:=z0r) ([c0_0,c0_0]:List UInt32) 2 (pP Z Z<|pP Z Z<|pN) Z tu188 z5e Z Z) fun v1=>zc6 2 [3] Z (fS Z<|fN)<|Zc [] [] Tryz.func118 Z (zd9 _ _) fun r2 n3=>Es (sto 1 Z Z fH Z z5e)<|z1k<|Ze [] [1] Z
def zb6 (a0:UInt32) (a1:UInt64) (s3:UInt32 × Int):Option (Sum UInt32 (UInt32 × Int)) :=
 if decide (s3.2<64) then
  zh9 s3.1 >>= fun r5 =>
  chk (0≤w64 (63 - s3.2)) >>= fun u7 =>
  if ((z79 a1 ((w64 (63 - s3.2):Int).toNat)) &&& 1)==1 then
   zah 1000000007 [r5,a0] >>= fun r11 =>
   some (.inr (r11,w64 (s3.2+1)))
  else
   some (.inr (r5,w64 (s3.2+1)))
 else
  some (.inl s3.1)
def zdt (a0:UInt32) (a1:UInt64):Option (UInt32) :=
 (iter (zb6 a0 a1) (1,0)) >>= fun s2 =>
 some s2
theorem zfj (a0:UInt32) (a1:UInt64):z1w Tryz.prog 107 [.rd z0r a0,.rd z1u a1] [] (zdt a0 a1) (fun r nv=>⟨[.rd z0r r],[]⟩):=by
 refine z2l 26 Tryz.func107 Z Z Z fun H w=>?_
 refine gSR<|Zb Z<|gSR<|Eb Z (z5w 1 z5e (.zr (R:=z0r) (x:=0) (Zr.num Z))) fun v1=>Es (sto 1 Z Z fH Z z5e)<|Zn<|gSR<|Zq (mkf mp0 (mp1 Z))<|Zb Z<|z7x (fun (s2:UInt32) aa ww=>Sta (ctx 26 H [] w) [(5,.val (z09 v1 0))] [(1,some (v1,.box 78 [.rd z0r s2]))] aa ww) ?_ (fun s2=>?_)
 ·
  refine gSR<|Zm Z<|Zn<|z1h (fun (s3:UInt32 × Int) aa ww=>Sta (ctx 26 H [] w) [(0,.rd z0r a0),(1,.rd z1u a1),(5,.val (z09 v1 0)),(6,.val (.func (.func 144) #[] #[z09 v1 0])),(9,.rd z07 s3.2)] [(1,some (v1,.box 78 [.rd z0r s3.1]))] aa ww) (fun aa ww h=>Zu h [1]) (fun s3=>?_)
  refine gSR<|Zq (I.lss Z Z)<|Zn<|z0m<|gIf Z Z (fun h4=>?_) (fun h4=>?_)
  ·
   refine Zt<|z0m<|z43<|gSR<|Zm Z<|Zb Z<|gSR<|Zm Z<|zwk [1] [(1,1)] (gd0 Z) Z Z Tryz.func144 Z Z (zni _ _) (aN) (cQ 1 Z<|cN) (y1 Z) fun r5 n6=>Zn<|gSR<|Zm Z<|Zm Z<|Zq (I.sub Z Z)<|z0w fun u7 h8=>Zq (U.shr Z Z (z4z h8))<|Zq (U.and Z Z)<|Zq (U.eql Z Z)<|Zj Z (fun h9=>?_) (fun h9=>?_)
   ·
    refine z1y<|Zq (ld 1 Z Z fH z7w Z)<|Zm Z<|Ef Z (lit (R:=z0r) ([r5,a0]:List UInt32) 2 (pP Z Z<|pP Z Z<|pN) Z tu188 z5e Z Z) fun v10=>zc6 2 [22] Z (fS Z<|fN)<|Zc [] [] Tryz.func118 Z (zd9 _ _) fun r11 n12=>Es (sto 1 Z Z fH Z z5e)<|z1k<|z2t<|z0j<|z1y<|Zq (I.add Z Z)<|Zm Z<|z1k<|z1a (fun aa ww h=>Zu h [1])
   ·
    refine z24<|z2t<|z0j<|z1y<|Zq (I.add Z Z)<|Zm Z<|z1k<|z1a (fun aa ww h=>Zu h [1])
  ·
   refine z1f<|z0u<|z0v<|z40 (fun aa ww h=>Zu h [1])
 ·
  refine gSR<|Zq (ld 1 Z Z fH z7w Z)<|Zb Z<|z0g<|Ze [] [] Z
def zgk (a0:UInt32):Option (Bool) :=
 if decide (0<a0) then
  if decide (a0<1000000007) then
   zdt a0 500000003 >>= fun r3 =>
   some (r3==1)
  else
   some false
 else
  some false
theorem zhi (a0:UInt32):z1w Tryz.prog 110 [.rd z0r a0] [] (zgk a0) (fun r nv=>⟨[.rd z0p r],[]⟩):=by
 refine z2l 14 Tryz.func110 Z Z Z fun H w=>?_
 refine gSR<|Zb Z<|gSR<|Zm Z<|Zq (W.gtr Z Z)<|Zm Z<|z15 5 Z (fun h1=>?_) (fun h1=>?_)
 ·
  refine lKn 4 Z h1<|z0y Zx Z Z (mv Z)<|z0y Zx Z Z (W.lss Z Z)<|Zq (pkT Z Z)<|Zm Z<|z15 9 Z (fun h2=>?_) (fun h2=>?_)
  ·
   refine lKn 7 Z h2<|lKn 8 Z h2<|z0y Zx Z Z (mv Z)<|zdo [] [] Zx Z Tryz.func107 Z Z (zfj _ _) (Y2 Z Z) rN fun r3 n4=>z0y Zx Z Z (W.eql Z Z)<|Zq (pkT Z Z)<|Zb Z<|z0g<|Ze [] [] Z
  ·
   refine lKn 7 Z h2<|lKn 8 Z h2<|Zk Z<|Zk Z<|Zk Z<|Zq (pkF Z Z)<|Zb Z<|z0g<|Ze [] [] Z
 ·
  refine lKn 4 Z h1<|Zk Z<|Zk Z<|Zq (pkF Z Z)<|Zm Z<|Zk Z<|Zk Z<|Zk Z<|Zq (pkF Z Z)<|Zb Z<|z0g<|Ze [] [] Z
def zkz (a0:Int):Option (Bool) :=
 if decide (a0<33) then
  some true
 else
  some (decide (126<a0)) >>= fun y2 =>
  some y2
theorem zt9 (a0:Int):z1w Tryz.prog 176 [.rd i32R a0] [] (zkz a0) (fun r nv=>⟨[.rd z0p r],[]⟩):=by
 refine z2l 9 Tryz.func176 Z Z Z fun H w=>?_
 refine gSR<|Zb Z<|gSR<|Zm Z<|Zq (J.lss Z Z)<|Zm Z<|z15 5 Z (fun h1=>?_) (fun h1=>?_)
 ·
  refine lKn 4 Z h1<|Zk Z<|Zk Z<|Zq (pkT Z Z)<|Zb Z<|z0g<|Ze [] [] Z
 ·
  refine lKn 4 Z h1<|z0y Zx Z Z (mv Z)<|z0y Zx Z Z (J.gtr Z Z)<|Zq (pkF Z Z)<|Za Z<|z2d 2 Z fun y2=>Zn<|z0g<|Ze [] [] Z
def z21 (a0:List UInt8) (a2:Bool) (s3:Nat):Option (Sum (Sum Int Unit) Nat) :=
 if s3<(a0).length then
  some ((z8v a0 s3).1:Int) >>= fun y5 =>
  zkz y5 >>= fun r6 =>
  if r6==a2 then
   some (.inl (.inl (s3:Int)))
  else
   some (.inr (s3+(z8v a0 s3).2))
 else
  some (.inl (.inr ()))
def z5z (a0:List UInt8) (a2:Bool):Option (Int) :=
 z3g (iter (z21 a0 a2) 0) fun s1 =>
 some (-1)
theorem zbt (a0:List UInt8) (a2:Bool):z1w Tryz.prog 193 [.rd zjt a0,.val (.func (.func 176) #[] #[]),.rd z0p a2] [] (z5z a0 a2) (fun r nv=>⟨[.rd z07 r],[]⟩):=by
 refine z2l 21 Tryz.func193 Z Z Z fun H w=>?_
 refine gSR<|Zb Z<|z42 (fun (s1:Unit) aa ww=>Sta (ctx 21 H [] w) [] [] aa ww) ?_ (fun s1=>?_)
 ·
  refine gSR<|Zm Z<|Ef Z (rng 1 Z tu9) fun v2=>Zn<|z1h (fun (s3:Nat) aa ww=>Sta (ctx 21 H [] w) [(1,.val (.func (.func 176) #[] #[])),(2,.rd z0p a2),(10,.val v2)] [(1,some (v2,.iter a0 s3))] aa ww) (fun aa ww h=>Zu h [1]) (fun s3=>?_)
  refine gSR<|z17s 1 Z Z Z (fun h4=>?_) (fun h4=>?_)
  ·
   refine Zq (ext Z Z)<|Zn<|z0m<|zcu Z<|Zt<|z43<|gSR<|Zq (ext Z Z)<|Zq (ext Z Z)<|Za Z<|Za Z<|z2d 8 Z fun y5=>Zn<|gSR<|Zm Z<|Zm Z<|zwk [] [] (gd0 Z) Z Z Tryz.func176 Z Z (zt9 _) (Y1 Z) (cN) rN fun r6 n7=>Zm Z<|Zq (eqB Tryz.underlying4 Z Z)<|Zj Z (fun h8=>?_) (fun h8=>?_)
   ·
    refine gSR<|Zm Z<|Zb Z<|z0g<|z2j<|z3e<|z2z<|Ze [] [] Z
   ·
    refine z24<|z2t<|z1a (fun aa ww h=>Zu h [1])
  ·
   refine Zq (ext Z Z)<|Zn<|z0m<|zbi Z<|z1f<|z0u<|z0v<|z3k (fun aa ww h=>Zu h [])
 ·
  refine gSR<|Zb Z<|z0g<|Ze [] [] Z
def z64 (a0:List UInt8):Option (Int) :=
 z5z a0 true >>= fun r1 =>
 some r1
theorem zbo (a0:List UInt8):z1w Tryz.prog 175 [.rd zjt a0,.val (.func (.func 176) #[] #[])] [] (z64 a0) (fun r nv=>⟨[.rd z07 r],[]⟩):=by
 refine z2l 8 Tryz.func175 Z Z Z fun H w=>?_
 refine gSR<|Zb Z<|gSR<|Zm Z<|Zm Z<|Zc [] [] Tryz.func193 Z (zbt _ _) fun r1 n2=>Zb Z<|z0g<|Ze [] [] Z
def zqz (a0:List UInt8):Option (Bool) :=
 if decide (1≤(a0.length:Int)) then
  if decide ((a0.length:Int)≤20) then
   z64 a0 >>= fun r3 =>
   some (decide (r3<0)) >>= fun y5 =>
   some y5
  else
   some false
 else
  some false
theorem zr0 (a0:List UInt8):z1w Tryz.prog 145 [.rd zjt a0] [] (zqz a0) (fun r nv=>⟨[.rd z0p r],[]⟩):=by
 refine z2l 16 Tryz.func145 Z Z Z fun H w=>?_
 refine gSR<|Zb Z<|gSR<|Zm Z<|Zq (lenT Z Z tu9)<|Zq (I.geq Z Z)<|Zm Z<|z15 6 Z (fun h1=>?_) (fun h1=>?_)
 ·
  refine lKn 5 Z h1<|z0y Zx Z Z (mv Z)<|z0y Zx Z Z (lenT Z Z tu9)<|z0y Zx Z Z (I.leq Z Z)<|Zq (pkT Z Z)<|Zm Z<|z15 11 Z (fun h2=>?_) (fun h2=>?_)
  ·
   refine lKn 9 Z h2<|lKn 10 Z h2<|z0y Zx Z Z (mv Z)<|zdo [] [] Zx Z Tryz.func175 Z Z (zbo _) (Y2 Z Z) rN fun r3 n4=>z0y Zx Z Z (I.lss Z Z)<|Zq (pkT Z Z)<|Za Z<|z2d 2 Z fun y5=>Zn<|z0g<|Ze [] [] Z
  ·
   refine lKn 9 Z h2<|lKn 10 Z h2<|Zk Z<|Zk Z<|Zk Z<|Zq (pkF Z Z)<|Zb Z<|z0g<|Ze [] [] Z
 ·
  refine lKn 5 Z h1<|Zk Z<|Zk Z<|Zk Z<|Zq (pkF Z Z)<|Zm Z<|Zk Z<|Zk Z<|Zk Z<|Zq (pkF Z Z)<|Zb Z<|z0g<|Ze [] [] Z
def zfs (a0:Int):Option (z05) :=
 some (⟨1,a0,0,[]⟩:z05)
theorem zlz (a0:Int):z1w Tryz.prog 148 [.rd z07 a0] [] (zfs a0) (fun r nv=>⟨[.rd z1o r],[]⟩):=by
 refine z2l 5 Tryz.func148 Z Z Z fun H w=>?_
 refine gSR<|Eb Z (z5w 1 zjo (.zr (R:=z1o) (x:=(⟨0,0,0,[]⟩:z05)) zwz)) fun v1=>Zn<|gSR<|Zm Z<|Zq (bld (x':=(⟨1,a0,0,[]⟩:z05)) [(0,1),(1,1),(2,1),(3,1)] Tryz.underlying80 zjo Z zwz Z (Bld.cons (z2v _) Z Z<|Bld.cons (z65 _) Z Z<|Bld.done Z))<|Es (sto 1 Z Z fH Z zjo)<|Zn<|z0g<|zap [] [] Z (eC 1 Z Z zsy<|eN) (rN)
def zek (a0:UInt64):Option (Int × UInt64) :=
 some (andI (w64 ((z79 a0 52).toNat:Int)) 2047) >>= fun y1 =>
 some (a0 &&& 4503599627370495) >>= fun y2 =>
 some (y1,y2)
theorem zn4 (a0:UInt64):z1w Tryz.prog 198 [.rd z1u a0] [] (zek a0) (fun r nv=>⟨[.rd z07 r.1,.rd z1u r.2],[]⟩):=by
 refine z2l 10 Tryz.func198 Z Z Z fun H w=>?_
 refine gSR<|Za Z<|Zb Z<|gSR<|Zm Z<|Zq (U.shr Z Z (Int.natCast_nonneg _))<|Zq (U.toI Z tu56 tu3)<|Zq (I.and Z Z)<|Zm Z<|Zq (U.and Z Z)<|Za Z<|z2d 2 Z fun y1=>Za Z<|z2d 3 Z fun y2=>Zn<|z0g<|Ze [] [] Z
def ze8 (a0:UInt64):Option (UInt8) :=
 zek a0 >>= fun r1 =>
 (if r1.1==2047 then
  some (r1.2 != 0)
 else
  some false) >>= fun s3 =>
 if s3 then
  some 5
 else
  if r1.1==2047 then
   some 4
  else
   if r1.1 != 0 then
    some 3
   else
    if r1.2 != 0 then
     some 2
    else
     some 1
theorem zn9 (a0:UInt64):z1w Tryz.prog 194 [.rd z1u a0] [] (ze8 a0) (fun r nv=>⟨[.rd u8R r],[]⟩):=by
 refine z2l 26 Tryz.func194 Z Z Z fun H w=>?_
 refine gSR<|Zb Z<|gSR<|Zm Z<|Zc [] [] Tryz.func198 Z (zn4 _) fun r1 n2=>Zm Z<|Zq (ext Z Z)<|Zq (ext Z Z)<|Za Z<|Zb Z<|z0m<|z43<|z7x (fun (s3:Bool) aa ww=>Sta (ctx 26 H [] w) [(3,.rd z07 r1.1),(4,.rd z1u r1.2),(10,.rd z0p s3)] [] aa ww) ?_ (fun s3=>?_)
 ·
  refine z1y<|Zm Z<|Zq (I.eql Z Z)<|Zm Z<|z15 13 Z (fun h4=>?_) (fun h4=>?_)
  ·
   refine lKn 12 Z h4<|z0y Zx Z Z (mv Z)<|z0y Zx Z Z (U.neq Z Z)<|Zq (pkT Z Z)<|Za Z<|z1k<|z40 (fun aa ww h=>Zu h [])
  ·
   refine lKn 12 Z h4<|Zk Z<|Zk Z<|Zq (pkF Z Z)<|Za Z<|z1k<|z40 (fun aa ww h=>Zu h [])
 ·
  refine gIf Z Z (fun h5=>?_) (fun h5=>?_)
  ·
   refine gSR<|Zb Z<|z0g<|z2j<|z0l<|Ze [] [] Z
  ·
   refine gSR<|Zm Z<|Zq (I.eql Z Z)<|Zb Z<|gIf Z Z (fun h6=>?_) (fun h6=>?_)
   ·
    refine gKn 19 Z h6<|gSR<|Zb Z<|z0g<|z2j<|z0l<|Ze [] [] Z
   ·
    refine gKn 19 Z h6<|gSR<|Zm Z<|Zq (I.neq Z Z)<|Zb Z<|gIf Z Z (fun h7=>?_) (fun h7=>?_)
    ·
     refine gKn 22 Z h7<|gSR<|Zb Z<|z0g<|z2j<|z0l<|Ze [] [] Z
    ·
     refine gKn 22 Z h7<|gSR<|Zm Z<|Zq (U.neq Z Z)<|Zb Z<|gIf Z Z (fun h8=>?_) (fun h8=>?_)
     ·
      refine gKn 25 Z h8<|gSR<|Zb Z<|z0g<|z2j<|z0l<|Ze [] [] Z
     ·
      refine gKn 25 Z h8<|z24<|z2t<|z0j<|gSR<|Zb Z<|z0g<|Ze [] [] Z
def zel (a0:UInt64):Option (UInt64) :=
 ze8 a0 >>= fun r1 =>
 if r1==5 then
  some 9221120237041090560
 else
  some a0
theorem znc (a0:UInt64):z1w Tryz.prog 178 [.rd z1u a0] [] (zel a0) (fun r nv=>⟨[.rd z1u r],[]⟩):=by
 refine z2l 7 Tryz.func178 Z Z Z fun H w=>?_
 refine gSR<|Zb Z<|z0m<|gSR<|Zm Z<|Zc [] [] Tryz.func194 Z (zn9 _) fun r1 n2=>Zq (B.eql Z Z)<|Zj Z (fun h3=>?_) (fun h3=>?_)
 ·
  refine gSR<|Zb Z<|z0g<|z0l<|Ze [] [] Z
 ·
  refine Zt<|gSR<|Zm Z<|Zb Z<|z0g<|Ze [] [] Z
def zeo (a0:UInt64):Option (z05) :=
 zel a0 >>= fun r2 =>
 some (⟨2,0,r2,[]⟩:z05)
theorem zn5 (a0:UInt64):z1w Tryz.prog 149 [.rd z1u a0] [] (zeo a0) (fun r nv=>⟨[.rd z1o r],[]⟩):=by
 refine z2l 6 Tryz.func149 Z Z Z fun H w=>?_
 refine gSR<|Eb Z (z5w 1 zjo (.zr (R:=z1o) (x:=(⟨0,0,0,[]⟩:z05)) zwz)) fun v1=>Zn<|gSR<|Zm Z<|Zc [] [] Tryz.func178 Z (znc _) fun r2 n3=>Zq (bld (x':=(⟨2,0,r2,[]⟩:z05)) [(0,1),(1,1),(2,1),(3,1)] Tryz.underlying80 zjo Z zwz Z (Bld.cons (z2v _) Z Z<|Bld.cons (z3v _) Z Z<|Bld.done Z))<|Es (sto 1 Z Z fH Z zjo)<|Zn<|z0g<|zap [] [] Z (eC 1 Z Z zsy<|eN) (rN)
def zda (a0:Int):Option (Bool) :=
 if decide (a0<32) then
  some true
 else
  some (decide (126<a0)) >>= fun y2 =>
  some y2
theorem zmo (a0:Int):z1w Tryz.prog 179 [.rd i32R a0] [] (zda a0) (fun r nv=>⟨[.rd z0p r],[]⟩):=by
 refine z2l 9 Tryz.func179 Z Z Z fun H w=>?_
 refine gSR<|Zb Z<|gSR<|Zm Z<|Zq (J.lss Z Z)<|Zm Z<|z15 5 Z (fun h1=>?_) (fun h1=>?_)
 ·
  refine lKn 4 Z h1<|Zk Z<|Zk Z<|Zq (pkT Z Z)<|Zb Z<|z0g<|Ze [] [] Z
 ·
  refine lKn 4 Z h1<|z0y Zx Z Z (mv Z)<|z0y Zx Z Z (J.gtr Z Z)<|Zq (pkF Z Z)<|Za Z<|z2d 2 Z fun y2=>Zn<|z0g<|Ze [] [] Z
def z1i (a0:List UInt8) (a2:Bool) (s3:Nat):Option (Sum (Sum Int Unit) Nat) :=
 if s3<(a0).length then
  some ((z8v a0 s3).1:Int) >>= fun y5 =>
  zda y5 >>= fun r6 =>
  if r6==a2 then
   some (.inl (.inl (s3:Int)))
  else
   some (.inr (s3+(z8v a0 s3).2))
 else
  some (.inl (.inr ()))
def z4v (a0:List UInt8) (a2:Bool):Option (Int) :=
 z3g (iter (z1i a0 a2) 0) fun s1 =>
 some (-1)
theorem zaa (a0:List UInt8) (a2:Bool):z1w Tryz.prog 193 [.rd zjt a0,.val (.func (.func 179) #[] #[]),.rd z0p a2] [] (z4v a0 a2) (fun r nv=>⟨[.rd z07 r],[]⟩):=by
 refine z2l 21 Tryz.func193 Z Z Z fun H w=>?_
 refine gSR<|Zb Z<|z42 (fun (s1:Unit) aa ww=>Sta (ctx 21 H [] w) [] [] aa ww) ?_ (fun s1=>?_)
 ·
  refine gSR<|Zm Z<|Ef Z (rng 1 Z tu9) fun v2=>Zn<|z1h (fun (s3:Nat) aa ww=>Sta (ctx 21 H [] w) [(1,.val (.func (.func 179) #[] #[])),(2,.rd z0p a2),(10,.val v2)] [(1,some (v2,.iter a0 s3))] aa ww) (fun aa ww h=>Zu h [1]) (fun s3=>?_)
  refine gSR<|z17s 1 Z Z Z (fun h4=>?_) (fun h4=>?_)
  ·
   refine Zq (ext Z Z)<|Zn<|z0m<|zcu Z<|Zt<|z43<|gSR<|Zq (ext Z Z)<|Zq (ext Z Z)<|Za Z<|Za Z<|z2d 8 Z fun y5=>Zn<|gSR<|Zm Z<|Zm Z<|zwk [] [] (gd0 Z) Z Z Tryz.func179 Z Z (zmo _) (Y1 Z) (cN) rN fun r6 n7=>Zm Z<|Zq (eqB Tryz.underlying4 Z Z)<|Zj Z (fun h8=>?_) (fun h8=>?_)
   ·
    refine gSR<|Zm Z<|Zb Z<|z0g<|z2j<|z3e<|z2z<|Ze [] [] Z
   ·
    refine z24<|z2t<|z1a (fun aa ww h=>Zu h [1])
  ·
   refine Zq (ext Z Z)<|Zn<|z0m<|zbi Z<|z1f<|z0u<|z0v<|z3k (fun aa ww h=>Zu h [])
 ·
  refine gSR<|Zb Z<|z0g<|Ze [] [] Z
def z4r (a0:List UInt8):Option (Int) :=
 z4v a0 true >>= fun r1 =>
 some r1
theorem za5 (a0:List UInt8):z1w Tryz.prog 175 [.rd zjt a0,.val (.func (.func 179) #[] #[])] [] (z4r a0) (fun r nv=>⟨[.rd z07 r],[]⟩):=by
 refine z2l 8 Tryz.func175 Z Z Z fun H w=>?_
 refine gSR<|Zb Z<|gSR<|Zm Z<|Zm Z<|Zc [] [] Tryz.func193 Z (zaa _ _) fun r1 n2=>Zb Z<|z0g<|Ze [] [] Z
def zgj (a0:List UInt8):Option (z05 × Int) :=
 if decide (30<(a0.length:Int)) then
  some ((⟨0,0,0,[]⟩:z05),4)
 else
  z4r a0 >>= fun r3 =>
  if decide (0≤r3) then
   some ((⟨0,0,0,[]⟩:z05),8)
  else
   some ((⟨3,0,0,a0⟩:z05),0)
theorem zpa (a0:List UInt8):z1w Tryz.prog 150 [.rd zjt a0] [] (zgj a0) (fun r nv=>⟨[.rd z1o r.1,.rd z07 r.2],[]⟩):=by
 refine z2l 14 Tryz.func150 Z Z Z fun H w=>?_
 refine gSR<|Eb Z (z5w 1 zjo (.zr (R:=z1o) (x:=(⟨0,0,0,[]⟩:z05)) zwz)) fun v1=>Zb Z<|z0m<|gSR<|Zm Z<|Zq (lenT Z Z tu9)<|Zq (I.gtr Z Z)<|Zj Z (fun h2=>?_) (fun h2=>?_)
 ·
  refine gSR<|Zq (bld (x':=(⟨0,0,0,[]⟩:z05)) [(0,1),(1,1),(2,1),(3,1)] Tryz.underlying80 zjo Z zwz Z (Bld.done Z))<|Es (sto 1 Z Z fH Z zjo)<|Zb Z<|z0g<|z0l<|zap [] [] Z (eC 1 Z Z zsy<|eE Z<|eN) (rN)
 ·
  refine Zt<|z0m<|gSR<|Zm Z<|Zc [] [] Tryz.func175 Z (za5 _) fun r3 n4=>Zq (I.geq Z Z)<|Zj Z (fun h5=>?_) (fun h5=>?_)
  ·
   refine gSR<|Zq (bld (x':=(⟨0,0,0,[]⟩:z05)) [(0,1),(1,1),(2,1),(3,1)] Tryz.underlying80 zjo Z zwz Z (Bld.done Z))<|Es (sto 1 Z Z fH Z zjo)<|Zb Z<|z0g<|z0l<|zap [] [] Z (eC 1 Z Z zsy<|eE Z<|eN) (rN)
  ·
   refine Zt<|gSR<|Zm Z<|Zq (bld (x':=(⟨3,0,0,a0⟩:z05)) [(0,1),(1,1),(2,1),(3,1)] Tryz.underlying80 zjo Z zwz Z (Bld.cons (z2v _) Z Z<|Bld.cons (z3d _) Z Z<|Bld.done Z))<|Es (sto 1 Z Z fH Z zjo)<|Zb Z<|z0g<|zap [] [] Z (eC 1 Z Z zsy<|eE Z<|eN) (rN)
def zcs (a0:z05):Option (Int) :=
 (if a0.Kind==1 then
  zfs a0.Num >>= fun r5 =>
  some r5
 else
  if a0.Kind==2 then
   zeo a0.Bits >>= fun r8 =>
   some r8
  else
   if a0.Kind==3 then
    zgj a0.Text >>= fun r11 =>
    some r11.1
   else
    some (⟨0,0,0,[]⟩:z05)) >>= fun s3 =>
 if !decide (a0=s3) then
  some 8
 else
  if a0.Kind==0 then
   some 8
  else
   some 0
theorem zh2 (a0:z05):z1w Tryz.prog 115 [.rd z1o a0] [] (zcs a0) (fun r nv=>⟨[.rd z07 r],[]⟩):=by
 refine z2l 32 Tryz.func115 Z Z Z fun H w=>?_
 refine gSR<|Eb Z (bx 1 Z) fun v1=>Zb Z<|gSR<|Eb Z (z5w 2 zjo (.zr (R:=z1o) (x:=(⟨0,0,0,[]⟩:z05)) zwz)) fun v2=>Zn<|z7x (fun (s3:z05) aa ww=>Sta (ctx 32 H [] w) [(1,.val (z09 v1 0)),(3,.val (z09 v2 0))] [(1,some (v1,.box 80 [.rd z1o a0])),(2,some (v2,.box 80 [.rd z1o s3]))] aa ww) ?_ (fun s3=>?_)
 ·
  refine gSR<|Zq (faB 1 Z Z Tryz.underlying80 Z (by exact ti5))<|Zq (ld 1 Z Z (fP (z2v _)) ty5 Z)<|Zn<|z43<|gSR<|Zq (B.eql Z Z)<|Zb Z<|gIf Z Z (fun h4=>?_) (fun h4=>?_)
  ·
   refine gKn 7 Z h4<|z1y<|Zq (faB 1 Z Z Tryz.underlying80 Z (by exact ti2))<|Zq (ld 1 Z Z (fP (z65 _)) ty2 Z)<|Zc [] [] Tryz.func148 Z (zlz _) fun r5 n6=>Es (sto 2 Z Z fH Z zjo)<|z1k<|z2t<|z40 (fun aa ww h=>Zu h [1,2])
  ·
   refine gKn 7 Z h4<|gSR<|Zq (B.eql Z Z)<|Zb Z<|gIf Z Z (fun h7=>?_) (fun h7=>?_)
   ·
    refine gKn 12 Z h7<|z1y<|Zq (faB 1 Z Z Tryz.underlying80 Z (by exact zlq))<|Zq (ld 1 Z Z (fP (z3v _)) znt Z)<|Zc [] [] Tryz.func149 Z (zn5 _) fun r8 n9=>Es (sto 2 Z Z fH Z zjo)<|z1k<|z2t<|z40 (fun aa ww h=>Zu h [1,2])
   ·
    refine gKn 12 Z h7<|gSR<|Zq (B.eql Z Z)<|Zb Z<|gIf Z Z (fun h10=>?_) (fun h10=>?_)
    ·
     refine gKn 17 Z h10<|z1y<|Zq (faB 1 Z Z Tryz.underlying80 Z (by exact ti9))<|Zq (ld 1 Z Z (fP (z3d _)) ty9 Z)<|Zc [] [] Tryz.func150 Z (zpa _) fun r11 n12=>Zm Z<|Zq (ext Z Z)<|Zq (ext Z Z)<|Es (sto 2 Z Z fH Z zjo)<|z1k<|z2t<|z40 (fun aa ww h=>Zu h [1,2])
    ·
     refine gKn 17 Z h10<|z24<|z2t<|z40 (fun aa ww h=>Zu h [1,2])
 ·
  refine z0m<|gSR<|Zq (ld 1 Z Z fH zsy Z)<|Zq (ld 2 Z Z fH zsy Z)<|Zq (neA Z Z eq80 Z Z gq80)<|Zm Z<|z15 27 Z (fun h13=>?_) (fun h13=>?_)
  ·
   refine lKn 26 Z h13<|Zk Z<|Zk Z<|Zk Z<|Zq (pkT Z Z)<|Zn<|zcu Z<|gSR<|Zb Z<|z0g<|z0l<|Ze [] [] Z
  ·
   refine lKn 26 Z h13<|z0y Zx Z Z (faB 1 Z Z Tryz.underlying80 Z (by exact ti5))<|z0y Zx Z Z (ld 1 Z Z (fP (z2v _)) ty5 Z)<|z0y Zx Z Z (B.eql Z Z)<|Zq (pkF Z Z)<|Zj Z (fun h14=>?_) (fun h14=>?_)
   ·
    refine gKn 30 Z h14<|gSR<|Zb Z<|z0g<|z0l<|Ze [] [] Z
   ·
    refine gKn 30 Z h14<|Zt<|gSR<|Zb Z<|z0g<|Ze [] [] Z
def zef (a0:z0f):Option (Int) :=
 if a0.Kind==1 then
  some (decide (a0=(⟨1,[],(⟨0,0,0,[]⟩:z05)⟩:z0f))) >>= fun y3 =>
  if !y3 then
   some 8
  else
   some 0
 else
  (if a0.Kind==2 then
   some true
  else
   some (a0.Kind==3)) >>= fun s5 =>
  if s5 then
   zqz a0.Key >>= fun r8 =>
   if r8 then
    some (decide (a0.Value=(⟨0,0,0,[]⟩:z05))) >>= fun y11 =>
    if !y11 then
     some 8
    else
     some 0
   else
    some 8
  else
   if a0.Kind==4 then
    zqz a0.Key >>= fun r14 =>
    if r14 then
     zcs a0.Value >>= fun r17 =>
     if !(r17==0) then
      some 8
     else
      some 0
    else
     some 8
   else
    some 8
theorem znh (a0:z0f):z1w Tryz.prog 111 [.rd z0q a0] [] (zef a0) (fun r nv=>⟨[.rd z07 r],[]⟩):=by
 refine z2l 36 Tryz.func111 Z Z Z fun H w=>?_
 refine gSR<|Eb Z (bx 1 Z) fun v1=>Zb Z<|gSR<|Zb Z<|z0m<|gSR<|Zq (faB 1 Z Z Tryz.underlying82 Z (by exact ti5))<|Zq (ld 1 Z Z (fP (z36 _)) ty5 Z)<|Zn<|z43<|gSR<|Zq (B.eql Z Z)<|Zb Z<|gIf Z Z (fun h2=>?_) (fun h2=>?_)
 ·
  refine gKn 7 Z h2<|z1y<|Zq (ld 1 Z Z fH ty82 Z)<|Zq (bld (x':=(⟨1,[],(⟨0,0,0,[]⟩:z05)⟩:z0f)) [(0,1),(1,1),(2,4)] Tryz.underlying82 zks Z zpr Z (Bld.cons (z36 _) Z Z<|Bld.done Z))<|Zq (eqA Z Z eq82 Z Z gq82)<|Za Z<|z2d 3 Z fun y3=>z1k<|z2t<|z0j<|z0m<|gSR<|Zm Z<|Zq (zct Z)<|Zj Z (fun h4=>?_) (fun h4=>?_)
  ·
   refine gSR<|Zb Z<|z0g<|z0l<|Ze [] [] Z
  ·
   refine Zt<|gSR<|Zb Z<|z0g<|Ze [] [] Z
 ·
  refine gKn 7 Z h2<|z7x (fun (s5:Bool) aa ww=>Sta (ctx 36 H [] w) [(1,.val (z09 v1 0)),(3,.rd z0p false),(5,.rd u8R a0.Kind),(11,.rd z0p s5)] [(1,some (v1,.box 82 [.rd z0q a0]))] aa ww) ?_ (fun s5=>?_)
  ·
   refine gSR<|Zq (B.eql Z Z)<|Zb Z<|gIf Z Z (fun h6=>?_) (fun h6=>?_)
   ·
    refine gKn 12 Z h6<|z24<|z40 (fun aa ww h=>Zu h [1])
   ·
    refine gKn 12 Z h6<|z1y<|Zq (B.eql Z Z)<|Za Z<|z1k<|z40 (fun aa ww h=>Zu h [1])
  ·
   refine gIf Z Z (fun h7=>?_) (fun h7=>?_)
   ·
    refine z1y<|Zq (faB 1 Z Z Tryz.underlying82 Z (by exact ti9))<|Zq (ld 1 Z Z (fP (z5g _)) ty9 Z)<|Zc [] [] Tryz.func145 Z (zr0 _) fun r8 n9=>Zm Z<|z15 17 Z (fun h10=>?_) (fun h10=>?_)
    ·
     refine lKn 16 Z h10<|z0y Zx Z Z (faB 1 Z Z Tryz.underlying82 Z (by exact zjo))<|z0y Zx Z Z (ld 1 Z Z (fP (z57 _)) zsy Z)<|z0y Zx Z Z (bld (x':=(⟨0,0,0,[]⟩:z05)) [(0,1),(1,1),(2,1),(3,1)] Tryz.underlying80 zjo Z zwz Z (Bld.done Z))<|z0y Zx Z Z (eqA Z Z eq80 Z Z gq80)<|Zq (pkT Z Z)<|Za Z<|z2d 3 Z fun y11=>z1k<|z2t<|z0j<|z0m<|gSR<|Zm Z<|Zq (zct Z)<|Zj Z (fun h12=>?_) (fun h12=>?_)
     ·
      refine gSR<|Zb Z<|z0g<|z0l<|Ze [] [] Z
     ·
      refine Zt<|gSR<|Zb Z<|z0g<|Ze [] [] Z
    ·
     refine lKn 16 Z h10<|Zk Z<|Zk Z<|Zk Z<|Zk Z<|Zq (pkF Z Z)<|Za Z<|z1k<|z2t<|z0j<|z0m<|gSR<|Zm Z<|Zq (zct Z)<|Zn<|zcu Z<|gSR<|Zb Z<|z0g<|z0l<|Ze [] [] Z
   ·
    refine gSR<|Zq (B.eql Z Z)<|Zb Z<|gIf Z Z (fun h13=>?_) (fun h13=>?_)
    ·
     refine gKn 24 Z h13<|z1y<|Zq (faB 1 Z Z Tryz.underlying82 Z (by exact ti9))<|Zq (ld 1 Z Z (fP (z5g _)) ty9 Z)<|Zc [] [] Tryz.func145 Z (zr0 _) fun r14 n15=>Zm Z<|z15 28 Z (fun h16=>?_) (fun h16=>?_)
     ·
      refine lKn 27 Z h16<|z0y Zx Z Z (faB 1 Z Z Tryz.underlying82 Z (by exact zjo))<|z0y Zx Z Z (ld 1 Z Z (fP (z57 _)) zsy Z)<|zdo [] [] Zx Z Tryz.func115 Z Z (zh2 _) (Y1 Z) rN fun r17 n18=>z0y Zx Z Z (I.eql Z Z)<|Zq (pkT Z Z)<|Za Z<|z1k<|z2t<|z0j<|z0m<|gSR<|Zm Z<|Zq (zct Z)<|Zj Z (fun h19=>?_) (fun h19=>?_)
      ·
       refine gSR<|Zb Z<|z0g<|z0l<|Ze [] [] Z
      ·
       refine Zt<|gSR<|Zb Z<|z0g<|Ze [] [] Z
     ·
      refine lKn 27 Z h16<|Zk Z<|Zk Z<|Zk Z<|Zk Z<|Zq (pkF Z Z)<|Za Z<|z1k<|z2t<|z0j<|z0m<|gSR<|Zm Z<|Zq (zct Z)<|Zn<|zcu Z<|gSR<|Zb Z<|z0g<|z0l<|Ze [] [] Z
    ·
     refine gKn 24 Z h13<|z24<|z2t<|z0j<|z0m<|gSR<|Zm Z<|Zq (zct Z)<|Zn<|zcu Z<|gSR<|Zb Z<|z0g<|z0l<|Ze [] [] Z
def z0x (a0:List V3) (s3:Int):Option (Sum (Sum Bool Unit) Int) :=
 if decide (0<s3) then
  idx a0 s3 >>= fun x5 =>
  idx a0 (w64 (s3 - 1)) >>= fun x7 =>
  z8j x5 x7 >>= fun r9 =>
  if decide (r9<0) then
   some (.inl (.inl false))
  else
   some (.inr (w64 (s3 - 1)))
 else
  some (.inl (.inr ()))
def z18 (a0:List V3):Option (Bool) :=
 z3g (some (w64 ((a0.length:Int) - 1)) >>= fun y2 =>
 iter (z0x a0) y2) fun s1 =>
 some true
theorem z6p (a0:List V3):z1w Tryz.prog 108 [.rd (z02 aZ) a0,.val (.func (.func 69) #[] #[])] [] (z18 a0) (fun r nv=>⟨[.rd z0p r],[]⟩):=by
 refine z2l 25 Tryz.func108 Z Z Z fun H w=>?_
 refine gSR<|Zb Z<|z42 (fun (s1:Unit) aa ww=>Sta (ctx 25 H [] w) [] [] aa ww) ?_ (fun s1=>?_)
 ·
  refine gSR<|Zm Z<|Zq (z2w Z .rd Z tu46)<|Zq (I.sub Z Z)<|Za Z<|z2d 5 Z fun y2=>Zn<|z1h (fun (s3:Int) aa ww=>Sta (ctx 25 H [] w) [(0,.rd (z02 aZ) a0),(1,.val (.func (.func 69) #[] #[])),(5,.rd z07 s3)] [] aa ww) (fun aa ww h=>Zu h []) (fun s3=>?_)
  refine z0m<|gSR<|Zm Z<|Zq (I.gtr Z Z)<|Zj Z (fun h4=>?_) (fun h4=>?_)
  ·
   refine Zt<|z0m<|z43<|z0m<|z5v [] mixed Z Z<|hTk 0 Z Z (mv Z)<|hTk 1 Z Z (mv Z)<|hTk 2 Z Z (mv Z)<|z3z fun x5 h6=>hTk 3 Z Z (ixR Z Z h6 tu46 z5i Z)<|hTk 4 Z Z (ldR Z z8z)<|hTk 5 Z Z (mv Z)<|hTk 6 Z Z (mv Z)<|hTk 7 Z Z (I.sub Z Z)<|z3z fun x7 h8=>hTk 8 Z Z (ixR Z Z h8 tu46 z5i Z)<|hTk 9 Z Z (ldR Z z8z)<|zth 10 [] [] Z (by kernel_rfl) Z (gd0 Z) Z Tryz.func69 Z Z Z (zai _ _) (Y2 Z Z) (cN) Z rN Z (fun _ _=>z34) fun r9 n10=>hTk 11 Z Z (I.lss Z Z)<|z3f (by kernel_rfl)<|z0j<|gIf Z Z (fun h11=>?_) (fun h11=>?_)
   ·
    refine gSR<|Zb Z<|z0g<|z2j<|z0l<|z3e<|z2z<|Ze [] [] Z
   ·
    refine z24<|z2t<|z0j<|z1y<|Zm Z<|Zq (I.sub Z Z)<|Za Z<|z1k<|z1a (fun aa ww h=>Zu h [])
  ·
   refine z1f<|z0u<|z0v<|z3k (fun aa ww h=>Zu h [])
 ·
  refine gSR<|Zb Z<|z0g<|Ze [] [] Z
def z2k (c0:List V3) (s3:Int) (s13:(List V3) × Int × Int):Option (Sum ((List V3) × Int) ((List V3) × Int × Int)) :=
 if decide (s13.2.2<((((c0.length:Int):Int).toNat - (s3:Int).toNat:Nat):Int)) then
  subi ((s3:Int).toNat) (((c0.length:Int):Int).toNat - (s3:Int).toNat) s13.2.2 >>= fun q15 =>
  idx s13.1 (q15:Int) >>= fun x17 =>
  subi ((s3:Int).toNat) (((c0.length:Int):Int).toNat - (s3:Int).toNat) (w64 (s13.2.2 - 1)) >>= fun q19 =>
  idx s13.1 (q19:Int) >>= fun x21 =>
  if !decide (x17=x21) then
   subi ((s3:Int).toNat) (((c0.length:Int):Int).toNat - (s3:Int).toNat) s13.2.2 >>= fun q24 =>
   idx s13.1 (q24:Int) >>= fun x26 =>
   idx s13.1 s13.2.1 >>= fun x28 =>
   some (w64 (s13.2.1+1)) >>= fun y30 =>
   some (w64 (s13.2.2+1)) >>= fun y31 =>
   some (.inr (s13.1.set (s13.2.1:Int).toNat x26,y30,y31))
  else
   some (w64 (s13.2.2+1)) >>= fun y32 =>
   some (.inr (s13.1,s13.2.1,y32))
 else
  some (.inl (s13.1,s13.2.1))
def z1g (c0:List V3) (s3:Int):Option (Sum (Sum ((List V3)) Unit) Int) :=
 if decide (s3<(c0.length:Int)) then
  idx c0 s3 >>= fun x5 =>
  idx c0 (w64 (s3 - 1)) >>= fun x7 =>
  if decide (x5=x7) then
   chk (0≤s3∧s3≤(c0.length:Int)∧(c0.length:Int)≤(c0.length:Int)) >>= fun u10 =>
   (iter (z2k c0 s3) (c0,s3,1)) >>= fun s12 =>
   chk (0≤s12.2∧s12.2≤(s12.1.length:Int)∧(s12.1.length:Int)≤(s12.1.length:Int)) >>= fun u33 =>
   chk ((s12.2:Int).toNat+(((s12.1.length:Int):Int).toNat - (s12.2:Int).toNat)≤s12.1.length) >>= fun u35 =>
   cut (clr s12.1 ((s12.2:Int).toNat) (((s12.1.length:Int):Int).toNat - (s12.2:Int).toNat) (Vector.replicate 32 0)) 0 s12.2 >>= fun x37 =>
   some (.inl (.inl x37))
  else
   some (.inr (w64 (s3+1)))
 else
  some (.inl (.inr ()))
def z30 (c0:List V3):Option ((List V3)) :=
 if decide ((c0.length:Int)<2) then
  some c0
 else
  z3g (iter (z1g c0) 1) fun s2 =>
  some c0
theorem zat (p0:Value) (c0:List V3):z1w Tryz.prog 109 [.val p0] [(1,some (p0,.list aZ 94 c0))] (z30 c0) (fun r nv=>⟨[.val (nv 0)],[(100,some (nv 0,.list aZ 94 r))]⟩):=by
 refine z2l 61 Tryz.func109 Z Z Z fun H w=>?_
 refine gSR<|Zb Z<|z0m<|gSR<|Zm Z<|Zq (z2w Z (.own 1 Z) Z tu46)<|Zq (I.lss Z Z)<|Zj Z (fun h1=>?_) (fun h1=>?_)
 ·
  refine gSR<|Zm Z<|Zb Z<|z0g<|z0l<|Ze [p0] [1] Z
 ·
  refine Zt<|z42 (fun (s2:Unit) aa ww=>Sta (ctx 61 H [(1,some (p0,.list aZ 94 c0))] w) [(0,.val p0)] [(1,some (p0,.list aZ 94 c0))] aa ww) ?_ (fun s2=>?_)
  ·
   refine gSR<|Zb Z<|z1h (fun (s3:Int) aa ww=>Sta (ctx 61 H [(1,some (p0,.list aZ 94 c0))] w) [(0,.val p0),(3,.rd z07 s3)] [(1,some (p0,.list aZ 94 c0))] aa ww) (fun aa ww h=>Zu h [1]) (fun s3=>?_)
   refine z0m<|gSR<|Zm Z<|Zm Z<|Zq (z2w Z (.own 1 Z) Z tu46)<|Zq (I.lss Z Z)<|Zj Z (fun h4=>?_) (fun h4=>?_)
   ·
    refine Zt<|z0m<|z43<|z0m<|zfa mixed (by kernel_rfl)<|Rq Z (mv Z)<|Rq Z (mv Z)<|z5h fun x5 h6=>Rq Z (ixO 1 Z Z Z h6 tu46 z5i)<|Rq Z (ld 1 Z Z (Foc.el h6) z8z Z)<|Rq Z (mv Z)<|Rq Z (mv Z)<|Rq Z (I.sub Z Z)<|z5h fun x7 h8=>Rq Z (ixO 1 Z Z Z h8 tu46 z5i)<|Rq Z (ld 1 Z Z (Foc.el h8) z8z Z)<|Rq Z (eqA Z Z eq94 Z Z gq94)<|zpu<|z0j<|gIf Z Z (fun h9=>?_) (fun h9=>?_)
    ·
     refine gSR<|Zm Z<|Zm Z<|z0w fun u10 h11=>Zq (z18h 1 Z Z (.to Z) .no (z4z h11) tu46 z5i)<|Zb Z<|z7x (fun (s12:(List V3) × Int) aa ww=>Sta (ctx 61 H [(1,some (p0,.list aZ 94 c0))] w) [(0,.val p0),(3,.rd z07 s12.2)] [(1,some (p0,.list aZ 94 s12.1))] aa ww) ?_ (fun s12=>?_)
     ·
      refine gSR<|Zb Z<|z1h (fun (s13:(List V3) × Int × Int) aa ww=>Sta (ctx 61 H [(1,some (p0,.list aZ 94 c0))] w) [(0,.val p0),(3,.rd z07 s13.2.1),(4,.sub aZ.sz p0 ((s3:Int).toNat) (((c0.length:Int):Int).toNat - (s3:Int).toNat)),(5,.rd z07 s13.2.2)] [(1,some (p0,.list aZ 94 s13.1))] aa ww) (fun aa ww h=>Zu h [1]) (fun s13=>?_)
      refine z0m<|gSR<|Zm Z<|Zm Z<|Zq (z197 Z Z tu46)<|Zq (I.lss Z Z)<|Zj Z (fun h14=>?_) (fun h14=>?_)
      ·
       refine Zt<|z0m<|z43<|z0m<|zfa mixed (by kernel_rfl)<|Rq Z (mv Z)<|Rq Z (mv Z)<|z5h fun q15 h16=>z5h fun x17 h18=>Rq Z (ixSu 1 Z Z Z h16 tu46 z5i)<|Rq Z (ld 1 Z Z (Foc.el h18) z8z Z)<|Rq Z (mv Z)<|Rq Z (mv Z)<|Rq Z (I.sub Z Z)<|z5h fun q19 h20=>z5h fun x21 h22=>Rq Z (ixSu 1 Z Z Z h20 tu46 z5i)<|Rq Z (ld 1 Z Z (Foc.el h22) z8z Z)<|Rq Z (neA Z Z eq94 Z Z gq94)<|zpu<|z0j<|gIf Z Z (fun h23=>?_) (fun h23=>?_)
       ·
        refine gSR<|Zm Z<|Zm Z<|Zm Z<|Zm Z<|z0w fun q24 h25=>z0w fun x26 h27=>Zq (ixSu 1 Z Z Z h25 tu46 z5i)<|Zq (ld 1 Z Z (Foc.el h27) z8z Z)<|z0w fun x28 h29=>Zq (ixO 1 Z Z Z h29 tu46 z5i)<|Es (sto 1 Z Z (Foc.el h29) Z z5i)<|Zn<|z1y<|Zm Z<|Zq (I.add Z Z)<|Za Z<|z2d 3 Z fun y30=>z1k<|z2t<|z0j<|z1y<|Zm Z<|Zq (I.add Z Z)<|Za Z<|z2d 5 Z fun y31=>z1k<|z1a (fun aa ww h=>Zu h [1])
       ·
        refine z24<|z2t<|z0j<|z1y<|Zm Z<|Zq (I.add Z Z)<|Za Z<|z2d 5 Z fun y32=>z1k<|z1a (fun aa ww h=>Zu h [1])
      ·
       refine z1f<|z0u<|z0v<|z40 (fun aa ww h=>Zu h [1])
     ·
      refine gSR<|Zm Z<|Zm Z<|z0w fun u33 h34=>Zq (z18h 1 Z Z (.to Z) .no (z4z h34) tu46 z5i)<|z0w fun u35 h36=>EsV (clrS 1 Z Z (z4z h36) Z tu46 z5i zku Z)<|Zn<|gSR<|Zm Z<|Zm Z<|z0w fun x37 h38=>Ef Z (cutO 1 Z Z Z h38 tu46 z5i) fun v39=>Zb Z<|z0g<|z2j<|z0l<|z3e<|z2z<|Ze [v39] [1] Z
    ·
     refine z24<|z2t<|z0j<|z1y<|Zm Z<|Zq (I.add Z Z)<|Za Z<|z1k<|z1a (fun aa ww h=>Zu h [1])
   ·
    refine z1f<|z0u<|z0v<|z3k (fun aa ww h=>Zu h [1])
  ·
   refine gSR<|Zm Z<|Zb Z<|z0g<|Ze [p0] [1] Z
def zeh (a0:z04):Option (Int) :=
 some (decide (4<(a0.Preds.length:Int))) >>= fun y2 =>
 if y2 then
  some 4
 else
  (z18 a0.Preds >>= fun r5 =>
  if !r5 then
   some true
  else
   z0n a0.Preds >>= fun r8 =>
   z30 r8 >>= fun r10 =>
   some ((r10.length:Int) != (a0.Preds.length:Int)) >>= fun y12 =>
   some y12) >>= fun s4 =>
  if s4 then
   some 32
  else
   (zgk a0.Author >>= fun r15 =>
   if !r15 then
    some true
   else
    if decide (1000000000000<a0.Stamp) then
     some true
    else
     some (decide (500000003≤(max a0.Sig.E a0.Sig.S))) >>= fun y19 =>
     some y19) >>= fun s14 =>
   if s14 then
    some 8
   else
    zef a0.Act >>= fun r21 =>
    some r21
theorem zht (a0:z04):z1w Tryz.prog 82 [.rd z03 a0] [] (zeh a0) (fun r nv=>⟨[.rd z07 r],[]⟩):=by
 refine z2l 47 Tryz.func82 Z Z Z fun H w=>?_
 refine gSR<|Eb Z (bx 1 Z) fun v1=>Zb Z<|z0m<|z43<|gSR<|Zq (faB 1 Z Z Tryz.underlying86 Z (by exact z8d))<|Zq (ld 1 Z Z (fP (z0z _)) z9w Z)<|Zq (z2w Z .rd Z tu46)<|Zq (I.gtr Z Z)<|Za Z<|z2d 3 Z fun y2=>Zj Z (fun h3=>?_) (fun h3=>?_)
 ·
  refine gSR<|Zb Z<|z0g<|z2j<|z0l<|Ze [] [] Z
 ·
  refine z7x (fun (s4:Bool) aa ww=>Sta (ctx 47 H [] w) [(1,.val (z09 v1 0)),(8,.rd z0p s4)] [(1,some (v1,.box 86 [.rd z03 a0]))] aa ww) ?_ (fun s4=>?_)
  ·
   refine z5v [23,26] mixed Z Z<|hTk 0 Z Z (faB 1 Z Z Tryz.underlying86 Z (by exact z8d))<|hTk 1 Z Z (ld 1 Z Z (fP (z0z _)) z9w Z)<|z3i 2 [] [] Z (by kernel_rfl) Z (gd0 Z) Z Tryz.func108 Z Z (z6p _) (Y2 Z Z) rN Z (fun _ _=>z6j) fun r5 n6=>hTk 3 Z Z (zct Z)<|hTk 4 Z Z (mv Z)<|hIf 13 Z Z (fun h7=>?_) (fun h7=>?_)
   ·
    refine hKn 12 Z Z h7<|hSk 5 Z Z<|hSk 6 Z Z<|hSk 7 Z Z<|hSk 8 Z Z<|hSk 9 Z Z<|hSk 10 Z Z<|hSk 11 Z Z<|hSk 12 Z Z<|hSk 13 Z Z<|hTk 14 Z Z (pkT Z Z)<|hTk 15 Z Z (asg Z)<|z3f (by kernel_rfl)<|z40 (fun aa ww h=>Zu h [1])
   ·
    refine hKn 12 Z Z h7<|Zg 5 Z Z (faB 1 Z Z Tryz.underlying86 Z (by exact z8d))<|Zg 6 Z Z (ld 1 Z Z (fP (z0z _)) z9w Z)<|Zg 10 Z Z (faB 1 Z Z Tryz.underlying86 Z (by exact z8d))<|Zg 11 Z Z (ld 1 Z Z (fP (z0z _)) z9w Z)<|Zg 12 Z Z (z2w Z .rd Z tu46)<|z3i 7 [] [(100,23)] Z (by kernel_rfl) Z Zx Z Tryz.func61 Z Z (z16 _) (Y1 Z) rN Z (fun _ _=>z31) fun r8 n9=>z3i 8 [23] [(100,26)] Z (by kernel_rfl) Z Zx Z Tryz.func109 Z Z (zat _ _) (Y1 Z) (y1 Z) Z (fun _ _=>z31) fun r10 n11=>zxd 9 Z (by kernel_rfl) (by kernel_rfl) (by kernel_rfl) Zx Z Z z34 (z2w Z (.own 26 Z) Z tu46)<|Zg 13 Z Z (I.neq Z Z)<|hTk 14 Z Z (pkF Z Z)<|hTk 15 Z Z (asg Z)<|zw2 8 Z Z fun y12=>z3f (by kernel_rfl)<|z40 (fun aa ww h=>Zu h [1])
  ·
   refine gIf Z Z (fun h13=>?_) (fun h13=>?_)
   ·
    refine gSR<|Zb Z<|z0g<|z2j<|z0l<|Ze [] [] Z
   ·
    refine z7x (fun (s14:Bool) aa ww=>Sta (ctx 47 H [] w) [(1,.val (z09 v1 0)),(24,.rd z0p s14)] [(1,some (v1,.box 86 [.rd z03 a0]))] aa ww) ?_ (fun s14=>?_)
    ·
     refine z1y<|Zq (faB 1 Z Z Tryz.underlying86 Z (by exact z5e))<|Zq (ld 1 Z Z (fP (z23 _)) z7w Z)<|Zc [] [] Tryz.func110 Z (zhi _) fun r15 n16=>Zq (zct Z)<|Zm Z<|z15 29 Z (fun h17=>?_) (fun h17=>?_)
     ·
      refine lKn 28 Z h17<|Zk Z<|Zk Z<|Zk Z<|Zq (pkT Z Z)<|Zm Z<|Zk Z<|Zk Z<|Zk Z<|Zk Z<|Zk Z<|Zk Z<|Zk Z<|Zk Z<|Zq (pkT Z Z)<|Za Z<|z1k<|z40 (fun aa ww h=>Zu h [1])
     ·
      refine lKn 28 Z h17<|z0y Zx Z Z (faB 1 Z Z Tryz.underlying86 Z (by exact zlq))<|z0y Zx Z Z (ld 1 Z Z (fP (z2r _)) znt Z)<|z0y Zx Z Z (U.gtr Z Z)<|Zq (pkF Z Z)<|Zm Z<|z15 34 Z (fun h18=>?_) (fun h18=>?_)
      ·
       refine lKn 32 Z h18<|lKn 33 Z h18<|Zk Z<|Zk Z<|Zk Z<|Zk Z<|Zk Z<|Zk Z<|Zk Z<|Zk Z<|Zq (pkT Z Z)<|Za Z<|z1k<|z40 (fun aa ww h=>Zu h [1])
      ·
       refine lKn 32 Z h18<|lKn 33 Z h18<|z0y Zx Z Z (faB 1 Z Z Tryz.underlying86 Z (by exact zjr))<|z0y Zx Z Z (faB 1 Z Z Tryz.underlying84 Z (by exact z5e))<|z0y Zx Z Z (ld 1 Z Z ((fP (z1x _)).part (z4w _)) z7w Z)<|z0y Zx Z Z (faB 1 Z Z Tryz.underlying86 Z (by exact zjr))<|z0y Zx Z Z (faB 1 Z Z Tryz.underlying84 Z (by exact z5e))<|z0y Zx Z Z (ld 1 Z Z ((fP (z1x _)).part (z6f _)) z7w Z)<|z0y Zx Z Z (W.max Z Z)<|z0y Zx Z Z (W.geq Z Z)<|Zq (pkF Z Z)<|Za Z<|z2d 24 Z fun y19=>z1k<|z40 (fun aa ww h=>Zu h [1])
    ·
     refine gIf Z Z (fun h20=>?_) (fun h20=>?_)
     ·
      refine gSR<|Zb Z<|z0g<|z2j<|z0l<|Ze [] [] Z
     ·
      refine z24<|z2t<|z0j<|gSR<|Zq (faB 1 Z Z Tryz.underlying86 Z (by exact zks))<|Zq (ld 1 Z Z (fP (z1e _)) ty82 Z)<|Zc [] [] Tryz.func111 Z (znh _) fun r21 n22=>Zb Z<|z0g<|Ze [] [] Z
def zc2 (a0:V3) (c1_0:Int) (c2_0:List V3):Option (Bool × Int) :=
 if decide ((w64 (c1_0+1))<(c2_0.length:Int)) then
  idx c2_0 (w64 ((w64 (c1_0+1)) - 1)) >>= fun x3 =>
  idx c2_0 (w64 (c1_0+1)) >>= fun x5 =>
  z8j x3 x5 >>= fun r7 =>
  some (decide (0≤r7)) >>= fun y9 =>
  some (y9,w64 (c1_0+1))
 else
  some (false,w64 (c1_0+1))
theorem zkh (a0:V3) (p1_0:Value) (c1_0:Int) (p2_0:Value) (c2_0:List V3):z1w Tryz.prog 147 [.rd aZ a0,.val (z09 p1_0 0),.val (z09 p2_0 0)] [(1,some (p1_0,.box 3 [.rd z07 c1_0])),(2,some (p2_0,.box 46 [.rd (z02 aZ) c2_0]))] (zc2 a0 c1_0 c2_0) (fun r nv=>⟨[.rd z0p r.1],[(1,some (p1_0,.box 3 [.rd z07 r.2])),(2,some (p2_0,.box 46 [.rd (z02 aZ) c2_0]))]⟩):=by
 refine z2l 24 Tryz.func147 Z Z Z fun H w=>?_
 refine gSR<|Eb Z (bx 3 Z) fun v1=>Zb Z<|gSR<|Zq (ld 1 Z Z fH ty3 Z)<|Zq (I.add Z Z)<|Es (sto 1 Z Z fH Z ti3)<|Zn<|z0m<|z5v [] mixed Z Z<|hTk 0 Z Z (ld 1 Z Z fH ty3 Z)<|hTk 1 Z Z (ld 2 Z Z fH z9w Z)<|hTk 2 Z Z (z2w Z .rd Z tu46)<|hTk 3 Z Z (I.lss Z Z)<|hTk 4 Z Z (mv Z)<|hIf 11 Z Z (fun h2=>?_) (fun h2=>?_)
 ·
  refine hKn 10 Z Z h2<|Zg 5 Z Z (ld 2 Z Z fH z9w Z)<|Zg 6 Z Z (ld 1 Z Z fH ty3 Z)<|Zg 7 Z Z (I.sub Z Z)<|z3z fun x3 h4=>Zg 8 Z Z (ixR Z Z h4 tu46 z5i Z)<|Zg 9 Z Z (ldR Z z8z)<|Zg 10 Z Z (ld 2 Z Z fH z9w Z)<|Zg 11 Z Z (ld 1 Z Z fH ty3 Z)<|z3z fun x5 h6=>Zg 12 Z Z (ixR Z Z h6 tu46 z5i Z)<|Zg 13 Z Z (ldR Z z8z)<|z3i 14 [] [] Z (by kernel_rfl) Z Zx Z Tryz.func69 Z Z (zai _ _) (Y2 Z Z) rN Z (fun _ _=>z34) fun r7 n8=>Zg 15 Z Z (I.geq Z Z)<|hTk 16 Z Z (pkT Z Z)<|hTk 17 Z Z (asg Z)<|zw2 4 Z Z fun y9=>z3f (by kernel_rfl)<|z0j<|z0g<|Ze [] [1,2] Z
 ·
  refine hKn 10 Z Z h2<|hSk 5 Z Z<|hSk 6 Z Z<|hSk 7 Z Z<|hSk 8 Z Z<|hSk 9 Z Z<|hSk 10 Z Z<|hSk 11 Z Z<|hSk 12 Z Z<|hSk 13 Z Z<|hSk 14 Z Z<|hSk 15 Z Z<|hTk 16 Z Z (pkF Z Z)<|hTk 17 Z Z (asg Z)<|z3f (by kernel_rfl)<|z0j<|z0g<|Ze [] [1,2] Z
def z0t (a0:List V3) (c1_1:List V3) (s2:Int × Int):Option (Sum (Sum (Int × Int) Int) (Int × Int)) :=
 if decide (s2.2<(a0.length:Int)) then
  idx a0 s2.2 >>= fun x4 =>
  zc2 x4 s2.1 c1_1 >>= fun r6 =>
  if r6.1 then
   some (.inl (.inl (s2.2,r6.2)))
  else
   some (.inr (r6.2,w64 (s2.2+1)))
 else
  some (.inl (.inr s2.1))
def z2n (a0:List V3) (c1_0:Int) (c1_1:List V3):Option (Int × Int) :=
 z3g (iter (z0t a0 c1_1) (c1_0,0)) fun s1 =>
 some ((-1),s1)
theorem z6o (a0:List V3) (p1_0:Value) (c1_0:Int) (p1_1:Value) (c1_1:List V3):z1w Tryz.prog 177 [.rd (z02 aZ) a0,.val (.func (.func 147) #[] #[z09 p1_0 0,z09 p1_1 0])] [(1,some (p1_0,.box 3 [.rd z07 c1_0])),(2,some (p1_1,.box 46 [.rd (z02 aZ) c1_1]))] (z2n a0 c1_0 c1_1) (fun r nv=>⟨[.rd z07 r.1],[(1,some (p1_0,.box 3 [.rd z07 r.2])),(2,some (p1_1,.box 46 [.rd (z02 aZ) c1_1]))]⟩):=by
 refine z2l 19 Tryz.func177 Z Z Z fun H w=>?_
 refine gSR<|Zb Z<|z42 (fun (s1:Int) aa ww=>Sta (ctx 19 H [(1,some (p1_0,.box 3 [.rd z07 c1_0])),(2,some (p1_1,.box 46 [.rd (z02 aZ) c1_1]))] w) [] [(1,some (p1_0,.box 3 [.rd z07 s1])),(2,some (p1_1,.box 46 [.rd (z02 aZ) c1_1]))] aa ww) ?_ (fun s1=>?_)
 ·
  refine gSR<|Zm Z<|Zq (z2w Z .rd Z tu46)<|Zm Z<|Zn<|z1h (fun (s2:Int × Int) aa ww=>Sta (ctx 19 H [(1,some (p1_0,.box 3 [.rd z07 c1_0])),(2,some (p1_1,.box 46 [.rd (z02 aZ) c1_1]))] w) [(0,.rd (z02 aZ) a0),(1,.val (.func (.func 147) #[] #[z09 p1_0 0,z09 p1_1 0])),(7,.rd z07 (a0.length:Int)),(8,.rd z07 s2.2)] [(1,some (p1_0,.box 3 [.rd z07 s2.1])),(2,some (p1_1,.box 46 [.rd (z02 aZ) c1_1]))] aa ww) (fun aa ww h=>Zu h [1,2]) (fun s2=>?_)
  refine gSR<|Zq (I.lss Z Z)<|Zn<|z0m<|gIf Z Z (fun h3=>?_) (fun h3=>?_)
  ·
   refine Zt<|z0m<|z43<|gSR<|Zm Z<|Zb Z<|gSR<|Zm Z<|Zm Z<|Zm Z<|z0w fun x4 h5=>Zq (ixR Z Z h5 tu46 z5i Z)<|Zq (ldR Z z8z)<|zwk [1,2] [(1,1),(2,2)] (gd0 Z) Z Z Tryz.func147 Z Z (zkh _ _ _ _ _) (Y1 Z) (cQ 1 Z<|cQ 2 Z<|cN) (Zi Z<|Zi Z<|rN) fun r6 n7=>Zj Z (fun h8=>?_) (fun h8=>?_)
   ·
    refine gSR<|Zm Z<|Zb Z<|z0g<|z2j<|z0l<|z3e<|z2z<|Ze [] [1,2] Z
   ·
    refine z24<|z2t<|z0j<|z1y<|Zq (I.add Z Z)<|Zm Z<|z1k<|z1a (fun aa ww h=>Zu h [1,2])
  ·
   refine z1f<|z0u<|z0v<|z3k (fun aa ww h=>Zu h [1,2])
 ·
  refine gSR<|Zb Z<|z0g<|Ze [] [1,2] Z
def z29 (a0:List V3) (c1_0:Int) (c1_1:List V3):Option (Bool × Int) :=
 z2n a0 c1_0 c1_1 >>= fun r1 =>
 some (decide (0≤r1.1)) >>= fun y3 =>
 some (y3,r1.2)
theorem z5x (a0:List V3) (p1_0:Value) (c1_0:Int) (p1_1:Value) (c1_1:List V3):z1w Tryz.prog 146 [.rd (z02 aZ) a0,.val (.func (.func 147) #[] #[z09 p1_0 0,z09 p1_1 0])] [(1,some (p1_0,.box 3 [.rd z07 c1_0])),(2,some (p1_1,.box 46 [.rd (z02 aZ) c1_1]))] (z29 a0 c1_0 c1_1) (fun r nv=>⟨[.rd z0p r.1],[(1,some (p1_0,.box 3 [.rd z07 r.2])),(2,some (p1_1,.box 46 [.rd (z02 aZ) c1_1]))]⟩):=by
 refine z2l 9 Tryz.func146 Z Z Z fun H w=>?_
 refine gSR<|Zb Z<|gSR<|Zm Z<|Zm Z<|Zc [1,2] [(1,1),(2,2)] Tryz.func177 Z (z6o _ _ _ _ _) fun r1 n2=>Zq (I.geq Z Z)<|Za Z<|z2d 4 Z fun y3=>Zn<|z0g<|Ze [] [1,2] Z
def zec (a0:List V3):Option (Bool) :=
 z29 a0 0 a0 >>= fun r3 =>
 some (!r3.1)
theorem zne (a0:List V3):z1w Tryz.prog 112 [.rd (z02 aZ) a0] [] (zec a0) (fun r nv=>⟨[.rd z0p r],[]⟩):=by
 refine z2l 8 Tryz.func112 Z Z Z fun H w=>?_
 refine gSR<|Eb Z (bx 1 Z) fun v1=>Zb Z<|gSR<|Eb Z (z5w 2 ti3 (.zr (R:=z07) (x:=0) (Zr.num Z))) fun v2=>Es (sto 2 Z Z fH Z ti3)<|Zn<|gSR<|Zq (ld 1 Z Z fH z9w Z)<|Zq (mkf mp0 (mp2 Z Z))<|Zc [2,1] [(1,2),(2,1)] Tryz.func146 Z (z5x _ _ _ _ _) fun r3 n4=>Zq (zct Z)<|Zb Z<|z0g<|Ze [] [] Z
def za1 (a0:UInt64):Option (Int) :=
 (if decide (4294967296≤a0) then
  some (z79 a0 32,32)
 else
  some (a0,0)) >>= fun s1 =>
 (if decide (65536≤s1.1) then
  some (z79 s1.1 16) >>= fun y5 =>
  some (w64 (s1.2+16)) >>= fun y6 =>
  some (y5,y6)
 else
  some (s1.1,s1.2)) >>= fun s3 =>
 (if decide (256≤s3.1) then
  some (w64 (s3.2+8)) >>= fun y9 =>
  some (z79 s3.1 8,y9)
 else
  some (s3.1,s3.2)) >>= fun s7 =>
 idx ([0,1,2,2,3,3,3,3,4,4,4,4,4,4,4,4,5,5,5,5,5,5,5,5,5,5,5,5,5,5,5,5,6,6,6,6,6,6,6,6,6,6,6,6,6,6,6,6,6,6,6,6,6,6,6,6,6,6,6,6,6,6,6,6,7,7,7,7,7,7,7,7,7,7,7,7,7,7,7,7,7,7,7,7,7,7,7,7,7,7,7,7,7,7,7,7,7,7,7,7,7,7,7,7,7,7,7,7,7,7,7,7,7,7,7,7,7,7,7,7,7,7,7,7,7,7,7,7,8,8,8,8,8,8,8,8,8,8,8,8,8,8,8,8,8,8,8,8,8,8,8,8,8,8,8,8,8,8,8,8,8,8,8,8,8,8,8,8,8,8,8,8,8,8,8,8,8,8,8,8,8,8,8,8,8,8,8,8,8,8,8,8,8,8,8,8,8,8,8,8,8,8,8,8,8,8,8,8,8,8,8,8,8,8,8,8,8,8,8,8,8,8,8,8,8,8,8,8,8,8,8,8,8,8,8,8,8,8,8,8,8,8,8,8,8,8,8,8,8,8,8,8,8,8,8,8]:List UInt8) (s7.1.toUInt8.toNat:Int) >>= fun x10 =>
 some (w64 (s7.2+(x10.toNat:Int))) >>= fun y12 =>
 some y12
theorem zik (a0:UInt64):z1w Tryz.prog 114 [.rd z1u a0] [] (za1 a0) (fun r nv=>⟨[.rd z07 r],[]⟩):=by
 refine z2l 25 Tryz.func114 Z Z Z fun H w=>?_
 refine gSR<|Zb Z<|z7x (fun (s1:UInt64 × Int) aa ww=>Sta (ctx 25 H [] w) [(0,.rd z1u s1.1),(2,.rd z07 s1.2)] [] aa ww) ?_ (fun s1=>?_)
 ·
  refine gSR<|Zm Z<|Zq (U.geq Z Z)<|Zj Z (fun h2=>?_) (fun h2=>?_)
  ·
   refine gSR<|Zm Z<|Zq (U.shr Z Z (Int.natCast_nonneg _))<|Zb Z<|z1y<|Za Z<|z1k<|z40 (fun aa ww h=>Zu h [])
  ·
   refine z24<|z40 (fun aa ww h=>Zu h [])
 ·
  refine z7x (fun (s3:UInt64 × Int) aa ww=>Sta (ctx 25 H [] w) [(0,.rd z1u s3.1),(2,.rd z07 s3.2)] [] aa ww) ?_ (fun s3=>?_)
  ·
   refine gSR<|Zm Z<|Zq (U.geq Z Z)<|Zj Z (fun h4=>?_) (fun h4=>?_)
   ·
    refine gSR<|Zm Z<|Zq (U.shr Z Z (Int.natCast_nonneg _))<|Za Z<|z2d 0 Z fun y5=>Zn<|z1y<|Zm Z<|Zq (I.add Z Z)<|Za Z<|z2d 2 Z fun y6=>z1k<|z40 (fun aa ww h=>Zu h [])
   ·
    refine z24<|z40 (fun aa ww h=>Zu h [])
  ·
   refine z7x (fun (s7:UInt64 × Int) aa ww=>Sta (ctx 25 H [] w) [(0,.rd z1u s7.1),(2,.rd z07 s7.2)] [] aa ww) ?_ (fun s7=>?_)
   ·
    refine gSR<|Zm Z<|Zq (U.geq Z Z)<|Zj Z (fun h8=>?_) (fun h8=>?_)
    ·
     refine gSR<|Zm Z<|Zq (U.shr Z Z (Int.natCast_nonneg _))<|Zb Z<|z1y<|Zm Z<|Zq (I.add Z Z)<|Za Z<|z2d 2 Z fun y9=>z1k<|z40 (fun aa ww h=>Zu h [])
    ·
     refine z24<|z40 (fun aa ww h=>Zu h [])
   ·
    refine gSR<|Zm Z<|Zm Z<|Zq (U.toB Z tu56 tu5)<|z0w fun x10 h11=>Zq (idxT Z Z tu9 (z5u h11).1 (z5u h11).2.1)<|Zq (B.toI Z tu5 tu3)<|Zq (I.add Z Z)<|Za Z<|z2d 2 Z fun y12=>Zn<|z0g<|Ze [] [] Z
def zb3 (a0:UInt64) (y5:Int) (s12:(List UInt8) × Int):Option (Sum ((List UInt8)) ((List UInt8) × Int)) :=
 if decide (s12.2<y5) then
  chk (0≤w64 (8 * s12.2)) >>= fun u14 =>
  idx s12.1 (w64 (y5 - s12.2)) >>= fun x16 =>
  some (.inr (s12.1.set (w64 (y5 - s12.2):Int).toNat ((z79 a0 ((w64 (8 * s12.2):Int).toNat)).toUInt8),w64 (s12.2+1)))
 else
  some (.inl s12.1)
def z6t (a0:UInt64):Option ((List UInt8)) :=
 if decide (a0≤247) then
  some [a0.toUInt8]
 else
  za1 a0 >>= fun r3 =>
  some (w64 (Int.tdiv (w64 (r3+7)) 8)) >>= fun y5 =>
  mkn 1 0 (w64 (y5+1)) >>= fun x6 =>
  idx x6 0 >>= fun x9 =>
  (iter (zb3 a0 y5) (x6.set (0:Int).toNat (UInt8.ofInt (w64 (247+y5))),0)) >>= fun s11 =>
  some s11
theorem z6q (a0:UInt64):z1w Tryz.prog 85 [.rd z1u a0] [] (z6t a0) (fun r nv=>⟨[.val (nv 0)],[(100,some (nv 0,.list u8R 5 r))]⟩):=by
 refine z2l 39 Tryz.func85 Z Z Z fun H w=>?_
 refine gSR<|Zb Z<|z0m<|gSR<|Zm Z<|Zq (U.leq Z Z)<|Zj Z (fun h1=>?_) (fun h1=>?_)
 ·
  refine gSR<|Zm Z<|Zq (U.toB Z tu56 tu5)<|Ef Z (lit (R:=u8R) ([a0.toUInt8]:List UInt8) 1 (pP Z Z<|pN) Z tu109 ti5 Z Z) fun v2=>Zb Z<|z0g<|z0l<|Ze [v2] [1] Z
 ·
  refine Zt<|gSR<|Zm Z<|Zc [] [] Tryz.func114 Z (zik _) fun r3 n4=>Zq (I.add Z Z)<|Zq (I.quo Z Z (by decide))<|Za Z<|z2d 3 Z fun y5=>Zn<|gSR<|Zm Z<|Zq (I.add Z Z)<|z0w fun x6 h7=>Ef Z (mks (R:=u8R) 2 Z Z h7 tu109 ti5 (Zr.num Z) Z) fun v8=>Zb Z<|gSR<|Zm Z<|Zm Z<|Zq (I.add Z Z)<|Zq (I.toB Z tu3 tu5)<|z0w fun x9 h10=>Zq (ixO 2 Z Z Z h10 tu109 ti5)<|Es (sto 2 Z Z (Foc.el h10) Z ti5)<|Zn<|z7x (fun (s11:(List UInt8)) aa ww=>Sta (ctx 39 H [] w) [(4,.val v8)] [(2,some (v8,.list u8R 5 s11))] aa ww) ?_ (fun s11=>?_)
  ·
   refine gSR<|Zm Z<|Zm Z<|Zn<|z1h (fun (s12:(List UInt8) × Int) aa ww=>Sta (ctx 39 H [] w) [(0,.rd z1u a0),(3,.rd z07 y5),(4,.val v8),(23,.rd z07 y5),(24,.rd z07 s12.2)] [(2,some (v8,.list u8R 5 s12.1))] aa ww) (fun aa ww h=>Zu h [2]) (fun s12=>?_)
   refine gSR<|Zq (I.lss Z Z)<|Zn<|z0m<|gIf Z Z (fun h13=>?_) (fun h13=>?_)
   ·
    refine Zt<|z0m<|z43<|gSR<|Zm Z<|Zb Z<|z1y<|Zm Z<|Zm Z<|Zm Z<|Zq (I.sub Z Z)<|Zm Z<|Zm Z<|Zq (I.mul Z Z)<|z0w fun u14 h15=>Zq (U.shr Z Z (z4z h15))<|Zq (U.toB Z tu56 tu5)<|z0w fun x16 h17=>Zq (ixO 2 Z Z Z h17 tu109 ti5)<|Es (sto 2 Z Z (Foc.el h17) Z ti5)<|z1k<|z2t<|z0j<|z1y<|Zq (I.add Z Z)<|Zm Z<|z1k<|z1a (fun aa ww h=>Zu h [2])
   ·
    refine z1f<|z0u<|z0v<|z40 (fun aa ww h=>Zu h [2])
  ·
   refine gSR<|Zm Z<|Zb Z<|z0g<|Ze [v8] [2] Z
def zci (a0:List V3) (s8:(List UInt8) × Int):Option (Sum ((List UInt8)) ((List UInt8) × Int)) :=
 if decide (s8.2<(a0.length:Int)) then
  idx a0 s8.2 >>= fun x11 =>
  app 1 s8.1 x11.toList >>= fun x14 =>
  some (.inr (x14,w64 (s8.2+1)))
 else
  some (.inl s8.1)
def zl9 (a0:List V3):Option ((List UInt8) × Int) :=
 if decide (60<(a0.length:Int)) then
  some ([],4)
 else
  zec a0 >>= fun r2 =>
  if !r2 then
   some ([],32)
  else
   z6t (UInt64.ofInt (a0.length:Int)) >>= fun r5 =>
   (iter (zci a0) (r5,0)) >>= fun s7 =>
   some (s7,0)
theorem zsj (a0:List V3):z1w Tryz.prog 83 [.rd (z02 aZ) a0] [] (zl9 a0) (fun r nv=>⟨[.val (nv 0),.rd z07 r.2],[(100,some (nv 0,.list u8R 5 r.1))]⟩):=by
 refine z2l 28 Tryz.func83 Z Z Z fun H w=>?_
 refine gSR<|Za Z<|Zb Z<|z0m<|gSR<|Zm Z<|Zq (z2w Z .rd Z tu46)<|Zq (I.gtr Z Z)<|Zj Z (fun h1=>?_) (fun h1=>?_)
 ·
  refine gSR<|Za Z<|Zb Z<|z0g<|z0l<|zje u8R 5 1<|Ze [(.slice none 0 0)] [1] Z
 ·
  refine Zt<|z0m<|gSR<|Zm Z<|Zc [] [] Tryz.func112 Z (zne _) fun r2 n3=>Zq (zct Z)<|Zj Z (fun h4=>?_) (fun h4=>?_)
  ·
   refine gSR<|Za Z<|Zb Z<|z0g<|z0l<|zje u8R 5 2<|Ze [(.slice none 0 0)] [2] Z
  ·
   refine Zt<|gSR<|Zm Z<|Zq (z2w Z .rd Z tu46)<|Zq (I.toU Z tu3 tu56)<|Zc [] [(100,3)] Tryz.func85 Z (z6q _) fun r5 n6=>Zb Z<|z7x (fun (s7:(List UInt8)) aa ww=>∃ nv:Nat→Value,Sta (ctx 28 H [] w) [(4,.val (nv 0))] [(3,some ((nv 0),.list u8R 5 s7))] aa ww) ?_ (fun s7=>?_)
   ·
    refine gSR<|Zm Z<|Zq (z2w Z .rd Z tu46)<|Zm Z<|Zn<|z1h (fun (s8:(List UInt8) × Int) aa ww=>∃ nv:Nat→Value,Sta (ctx 28 H [] w) [(4,.val (nv 0)),(17,.rd (z02 aZ) a0),(18,.rd z07 (a0.length:Int)),(19,.rd z07 s8.2)] [(3,some ((nv 0),.list u8R 5 s8.1))] aa ww) (fun aa ww h=>⟨nvl [(n6 0)],Zu h [3]⟩) (fun s8=>?_)
    refine gEx fun n9=>gSR<|Zq (I.lss Z Z)<|Zn<|z0m<|gIf Z Z (fun h10=>?_) (fun h10=>?_)
    ·
     refine Zt<|z0m<|z43<|gSR<|z0w fun x11 h12=>Zq (ixR Z Z h12 tu46 z5i Z)<|Zq (ldR Z z8z)<|Eb Z (z5w 4 z5i (.zr (R:=aZ) (x:=(Vector.replicate 32 0)) zku)) fun v13=>Es (sto 4 Z Z fH Z z5i)<|Zn<|z1y<|Zm Z<|z171 4 6 Z Z<|Zq (cutV Z tu94 ti5 Z Z Z)<|z0w fun x14 h15=>Ef Z (apn 3 Z Z Z .rd h15 tu109 ti5 Z Z Z) fun v16=>Za Z<|z1k<|z2t<|z0j<|z1y<|Zq (I.add Z Z)<|Zm Z<|z1k<|z1a (fun aa ww h=>⟨nvl [v16],Zu h [3]⟩)
    ·
     refine z1f<|z0u<|z0v<|z40 (fun aa ww h=>⟨nvl [(n9 0)],Zu h [3]⟩)
   ·
    refine gEx fun n17=>gSR<|Zm Z<|Za Z<|Zb Z<|z0g<|Ze [(n17 0)] [3] Z
def z3u (a1:Int):Option ((List UInt8)) :=
 if decide (a1<0) then
  none
 else
  some (w64 (a1 - (w64 (0 - (([]:List UInt8).length:Int))))) >>= fun y2 =>
  if decide (0<y2) then
   mkn 2 0 y2 >>= fun x4 =>
   cut x4 0 (([]:List UInt8).length:Int) >>= fun x7 =>
   some x7
  else
   some []
end
section
open Go Go.RowKit
set_option maxRecDepth 100000
theorem ze5 (a1:Int):z1w Tryz.prog 113 [.val (.slice none 0 0),.rd z07 a1] [] (z3u a1) (fun r nv=>⟨[.val (nv 0)],[(100,some (nv 0,.list u8R 5 r))]⟩):=by
 refine z2l 27 Tryz.func113 Z Z Z fun H w=>?_
 refine gSR<|Zb Z<|z0m<|gSR<|Zm Z<|Zq (I.lss Z Z)<|Zj Z (fun h1=>?_) (fun h1=>?_)
 ·
  refine z17y
 ·
  refine Zt<|z0m<|gSR<|Zm Z<|Zm Z<|Zq (capN Z Z tu109)<|Zm Z<|z13g u8R 11 Z<|Zq (z2w Z .rd Z tu109)<|Zq (I.sub Z Z)<|Zq (I.sub Z Z)<|Za Z<|z2d 1 Z fun y2=>Zn<|gSR<|Zm Z<|Zq (I.gtr Z Z)<|Zj Z (fun h3=>?_) (fun h3=>?_)
  ·
   refine z1y<|Zm Z<|Zm Z<|Zq (capN Z Z tu109)<|Zq (cutN Z Z tu109 ti5)<|Zm Z<|z0w fun x4 h5=>Ef Z (apZ 1 Z Z h5 tu109 tu3 ti5 (Zr.num Z) Z) fun v6=>Zm Z<|z13g u8R 23 Z<|Zq (z2w Z .rd Z tu109)<|z0w fun x7 h8=>Ef Z (cutO 1 Z Z Z h8 tu109 ti5) fun v9=>Zb Z<|gSR<|Zm Z<|Zb Z<|z0g<|Ze [v9] [1] Z
  ·
   refine Zt<|gSR<|Zm Z<|Zb Z<|z0g<|zje u8R 5 2<|Ze [(.slice none 0 0)] [2] Z
def z10 (a0:List (List UInt8)) (s2:Int × Int):Option (Sum Int (Int × Int)) :=
 if decide (s2.2<(a0.length:Int)) then
  idx a0 s2.2 >>= fun x4 =>
  some (w64 (s2.1+(x4.length:Int))) >>= fun y6 =>
  if decide (y6<0) then
   none
  else
   some (.inr (y6,w64 (s2.2+1)))
 else
  some (.inl s2.1)
def z11 (a0:List (List UInt8)) (s11:(List UInt8) × Int):Option (Sum ((List UInt8)) ((List UInt8) × Int)) :=
 if decide (s11.2<(a0.length:Int)) then
  idx a0 s11.2 >>= fun x14 =>
  app 1 s11.1 x14 >>= fun x16 =>
  some (.inr (x16,w64 (s11.2+1)))
 else
  some (.inl s11.1)
def z27 (a0:List (List UInt8)):Option ((List UInt8)) :=
 (iter (z10 a0) (0,0)) >>= fun s1 =>
 z3u s1 >>= fun r8 =>
 (iter (z11 a0) (r8,0)) >>= fun s10 =>
 some s10
theorem z63 (a0:List (List UInt8)):z1w Tryz.prog 84 [.rd (z02 (z02 u8R)) a0] [] (z27 a0) (fun r nv=>⟨[.val (nv 0)],[(100,some (nv 0,.list u8R 5 r))]⟩):=by
 refine z2l 36 Tryz.func84 Z Z Z fun H w=>?_
 refine gSR<|Zb Z<|gSR<|Zb Z<|z7x (fun (s1:Int) aa ww=>Sta (ctx 36 H [] w) [(0,.rd (z02 (z02 u8R)) a0),(3,.rd z07 s1)] [] aa ww) ?_ (fun s1=>?_)
 ·
  refine gSR<|Zm Z<|Zq (z2w Z .rd Z tu154)<|Zm Z<|Zn<|z1h (fun (s2:Int × Int) aa ww=>Sta (ctx 36 H [] w) [(0,.rd (z02 (z02 u8R)) a0),(3,.rd z07 s2.1),(9,.rd (z02 (z02 u8R)) a0),(10,.rd z07 (a0.length:Int)),(11,.rd z07 s2.2)] [] aa ww) (fun aa ww h=>Zu h []) (fun s2=>?_)
  refine gSR<|Zq (I.lss Z Z)<|Zn<|z0m<|gIf Z Z (fun h3=>?_) (fun h3=>?_)
  ·
   refine Zt<|z0m<|z43<|gSR<|z0w fun x4 h5=>Zq (ixR Z Z h5 tu154 zi7 Z)<|Zq (ldR Z zzv)<|Zb Z<|gSR<|Zm Z<|Zm Z<|Zq (z2w Z .rd Z tu109)<|Zq (I.add Z Z)<|Za Z<|z2d 3 Z fun y6=>Zn<|gSR<|Zm Z<|Zq (I.lss Z Z)<|Zj Z (fun h7=>?_) (fun h7=>?_)
   ·
    refine z17y
   ·
    refine z24<|z2t<|z0j<|z1y<|Zq (I.add Z Z)<|Zm Z<|z1k<|z1a (fun aa ww h=>Zu h [])
  ·
   refine z1f<|z0u<|z0v<|z40 (fun aa ww h=>Zu h [])
 ·
  refine gSR<|Zm Z<|Zc [] [(100,1)] Tryz.func113 Z (ze5 _) fun r8 n9=>Zb Z<|z7x (fun (s10:(List UInt8)) aa ww=>∃ nv:Nat→Value,Sta (ctx 36 H [] w) [(6,.val (nv 0))] [(1,some ((nv 0),.list u8R 5 s10))] aa ww) ?_ (fun s10=>?_)
  ·
   refine gSR<|Zm Z<|Zq (z2w Z .rd Z tu154)<|Zm Z<|Zn<|z1h (fun (s11:(List UInt8) × Int) aa ww=>∃ nv:Nat→Value,Sta (ctx 36 H [] w) [(6,.val (nv 0)),(25,.rd (z02 (z02 u8R)) a0),(26,.rd z07 (a0.length:Int)),(27,.rd z07 s11.2)] [(1,some ((nv 0),.list u8R 5 s11.1))] aa ww) (fun aa ww h=>⟨nvl [(n9 0)],Zu h [1]⟩) (fun s11=>?_)
   refine gEx fun n12=>gSR<|Zq (I.lss Z Z)<|Zn<|z0m<|gIf Z Z (fun h13=>?_) (fun h13=>?_)
   ·
    refine Zt<|z0m<|z43<|gSR<|z0w fun x14 h15=>Zq (ixR Z Z h15 tu154 zi7 Z)<|Zq (ldR Z zzv)<|Zb Z<|z1y<|Zm Z<|Zm Z<|z0w fun x16 h17=>Ef Z (apn 1 Z Z Z .rd h17 tu109 ti5 Z Z Z) fun v18=>Za Z<|z1k<|z2t<|z0j<|z1y<|Zq (I.add Z Z)<|Zm Z<|z1k<|z1a (fun aa ww h=>⟨nvl [v18],Zu h [1]⟩)
   ·
    refine z1f<|z0u<|z0v<|z40 (fun aa ww h=>⟨nvl [(n12 0)],Zu h [1]⟩)
  ·
   refine gEx fun n19=>gSR<|Zm Z<|Zb Z<|z0g<|Ze [(n19 0)] [1] Z
def zc5 (a0:List UInt8):Option ((List UInt8) × Int) :=
 if decide (10000<(a0.length:Int)) then
  some ([],4)
 else
  z6t (UInt64.ofInt (a0.length:Int)) >>= fun r2 =>
  app 1 r2 a0 >>= fun x4 =>
  some (x4,0)
theorem zj6 (a0:List UInt8):z1w Tryz.prog 86 [.rd (z02 u8R) a0] [] (zc5 a0) (fun r nv=>⟨[.val (nv 0),.rd z07 r.2],[(100,some (nv 0,.list u8R 5 r.1))]⟩):=by
 refine z2l 13 Tryz.func86 Z Z Z fun H w=>?_
 refine gSR<|Za Z<|Zb Z<|z0m<|gSR<|Zm Z<|Zq (z2w Z .rd Z tu109)<|Zq (I.gtr Z Z)<|Zj Z (fun h1=>?_) (fun h1=>?_)
 ·
  refine gSR<|Za Z<|Zb Z<|z0g<|z0l<|zje u8R 5 1<|Ze [(.slice none 0 0)] [1] Z
 ·
  refine Zt<|gSR<|Zm Z<|Zq (z2w Z .rd Z tu109)<|Zq (I.toU Z tu3 tu56)<|Zc [] [(100,2)] Tryz.func85 Z (z6q _) fun r2 n3=>Zm Z<|z0w fun x4 h5=>Ef Z (apn 2 Z Z Z .rd h5 tu109 ti5 Z Z Z) fun v6=>Za Z<|Zb Z<|z0g<|Ze [v6] [2] Z
def zeq (a0:Int):Option ((List UInt8)) :=
 z6t ((zmn (UInt64.ofInt a0) 1) ^^^ (UInt64.ofInt (shrI a0 63))) >>= fun r1 =>
 some r1
theorem znf (a0:Int):z1w Tryz.prog 116 [.rd z07 a0] [] (zeq a0) (fun r nv=>⟨[.val (nv 0)],[(100,some (nv 0,.list u8R 5 r))]⟩):=by
 refine z2l 11 Tryz.func116 Z Z Z fun H w=>?_
 refine gSR<|Zb Z<|gSR<|Zm Z<|Zq (I.toU Z Tryz.underlying2 tu56)<|Zq (U.shl Z Z (Int.natCast_nonneg _))<|Zm Z<|Zq (I.shr Z Z (Int.natCast_nonneg _))<|Zq (I.toU Z Tryz.underlying2 tu56)<|Zq (U.xor Z Z)<|Zc [] [(100,1)] Tryz.func85 Z (z6q _) fun r1 n2=>Zb Z<|z0g<|Ze [(n2 0)] [1] Z
def z83 (a0:z05) (s14:(List UInt8) × Int):Option (Sum ((List UInt8)) ((List UInt8) × Int)) :=
 if decide (0≤s14.2) then
  chk (0≤s14.2) >>= fun u17 =>
  app 1 s14.1 [(z79 a0.Bits ((s14.2:Int).toNat)).toUInt8] >>= fun x20 =>
  some (w64 (s14.2 - 8)) >>= fun y23 =>
  some (.inr (x20,y23))
 else
  some (.inl s14.1)
def zd1 (a0:z05):Option ((List UInt8) × Int) :=
 zcs a0 >>= fun r2 =>
 if r2 != 0 then
  some ([],r2)
 else
  (if a0.Kind==1 then
   zeq a0.Num >>= fun r8 =>
   app 1 [a0.Kind] r8 >>= fun x10 =>
   some x10
  else
   if a0.Kind==2 then
    iter (z83 a0) ([a0.Kind],56)
   else
    if a0.Kind==3 then
     chk (a0.Text.length≤281474976710656) >>= fun u25 =>
     zc5 a0.Text >>= fun r27 =>
     app 1 [a0.Kind] r27.1 >>= fun x29 =>
     some x29
    else
     some [a0.Kind]) >>= fun s6 =>
  some (s6,0)
theorem zlx (a0:z05):z1w Tryz.prog 87 [.rd z1o a0] [] (zd1 a0) (fun r nv=>⟨[.val (nv 0),.rd z07 r.2],[(100,some (nv 0,.list u8R 5 r.1))]⟩):=by
 refine z2l 53 Tryz.func87 Z Z Z fun H w=>?_
 refine gSR<|Eb Z (bx 1 Z) fun v1=>Za Z<|Zb Z<|z0m<|gSR<|Zq (ld 1 Z Z fH zsy Z)<|Zc [] [] Tryz.func115 Z (zh2 _) fun r2 n3=>Zb Z<|gSR<|Zm Z<|Zq (I.neq Z Z)<|Zj Z (fun h4=>?_) (fun h4=>?_)
 ·
  refine gSR<|Zm Z<|Za Z<|Zb Z<|z0g<|z0l<|zje u8R 5 2<|Ze [(.slice none 0 0)] [2] Z
 ·
  refine Zt<|gSR<|Zq (faB 1 Z Z Tryz.underlying80 Z (by exact ti5))<|Zq (ld 1 Z Z (fP (z2v _)) ty5 Z)<|Ef Z (lit (R:=u8R) ([a0.Kind]:List UInt8) 3 (pP Z Z<|pN) Z tu109 ti5 Z Z) fun v5=>Zb Z<|z7x (fun (s6:(List UInt8)) aa ww=>∃ nv:Nat→Value,Sta (ctx 53 H [] w) [(5,.val (nv 0))] [(3,some ((nv 0),.list u8R 5 s6))] aa ww) ?_ (fun s6=>?_)
  ·
   refine gSR<|Zq (faB 1 Z Z Tryz.underlying80 Z (by exact ti5))<|Zq (ld 1 Z Z (fP (z2v _)) ty5 Z)<|Zn<|z43<|gSR<|Zq (B.eql Z Z)<|Zb Z<|gIf Z Z (fun h7=>?_) (fun h7=>?_)
   ·
    refine gKn 20 Z h7<|z1y<|Zm Z<|Zq (faB 1 Z Z Tryz.underlying80 Z (by exact ti2))<|Zq (ld 1 Z Z (fP (z65 _)) ty2 Z)<|Zc [] [(100,4)] Tryz.func116 Z (znf _) fun r8 n9=>z0w fun x10 h11=>Ef Z (apn 3 Z Z Z (.own 4 Z) h11 tu109 ti5 Z Z Z) fun v12=>Za Z<|z1k<|z2t<|z40 (fun aa ww h=>⟨nvl [v12],Zu h [3]⟩)
   ·
    refine gKn 20 Z h7<|gSR<|Zq (B.eql Z Z)<|Zb Z<|gIf Z Z (fun h13=>?_) (fun h13=>?_)
    ·
     refine gKn 27 Z h13<|gSR<|Zb Z<|z1h (fun (s14:(List UInt8) × Int) aa ww=>∃ nv:Nat→Value,Sta (ctx 53 H [] w) [(1,.val (z09 v1 0)),(5,.val (nv 0)),(6,.rd z07 s14.2)] [(1,some (v1,.box 80 [.rd z1o a0])),(3,some ((nv 0),.list u8R 5 s14.1))] aa ww) (fun aa ww h=>⟨nvl [v5],Zu h [1,3]⟩) (fun s14=>?_)
     refine gEx fun n15=>z0m<|gSR<|Zm Z<|Zq (I.geq Z Z)<|Zj Z (fun h16=>?_) (fun h16=>?_)
     ·
      refine Zt<|z0m<|z43<|z1y<|Zm Z<|Zq (faB 1 Z Z Tryz.underlying80 Z (by exact zlq))<|Zq (ld 1 Z Z (fP (z3v _)) znt Z)<|Zm Z<|z0w fun u17 h18=>Zq (U.shr Z Z (z4z h18))<|Zq (U.toB Z tu56 tu5)<|Ef Z (lit (R:=u8R) ([(z79 a0.Bits ((s14.2:Int).toNat)).toUInt8]:List UInt8) 5 (pP Z Z<|pN) Z tu109 ti5 Z Z) fun v19=>z0w fun x20 h21=>Ef Z (apn 3 Z Z Z (.own 5 Z) h21 tu109 ti5 Z Z Z) fun v22=>Za Z<|z1k<|z2t<|z0j<|z1y<|Zm Z<|Zq (I.sub Z Z)<|Za Z<|z2d 6 Z fun y23=>z1k<|z1a (fun aa ww h=>⟨nvl [v22],Zu h [1,3]⟩)
     ·
      refine z1f<|z0u<|z0v<|z2t<|z40 (fun aa ww h=>⟨nvl [(n15 0)],Zu h [3]⟩)
    ·
     refine gKn 27 Z h13<|gSR<|Zq (B.eql Z Z)<|Zb Z<|gIf Z Z (fun h24=>?_) (fun h24=>?_)
     ·
      refine gKn 41 Z h24<|gSR<|Zq (faB 1 Z Z Tryz.underlying80 Z (by exact ti9))<|Zq (ld 1 Z Z (fP (z3d _)) ty9 Z)<|z0w fun u25 h26=>z11o Z Z h26 tu9 tu109 tu5<|Zc [] [(100,6)] Tryz.func86 Z (zj6 _) fun r27 n28=>Zm Z<|Zq (ext Z Z)<|Zq (ext Z Z)<|Za Z<|Zb Z<|z1y<|Zm Z<|Zm Z<|z0w fun x29 h30=>Ef Z (apn 3 Z Z Z (.own 6 Z) h30 tu109 ti5 Z Z Z) fun v31=>Za Z<|z1k<|z2t<|z40 (fun aa ww h=>⟨nvl [v31],Zu h [3]⟩)
     ·
      refine gKn 41 Z h24<|z24<|z2t<|z40 (fun aa ww h=>⟨nvl [v5],Zu h [3]⟩)
  ·
   refine gEx fun n32=>gSR<|Zm Z<|Za Z<|Zb Z<|z0g<|Ze [(n32 0)] [3] Z
def zas (a0:z04):Option ((List UInt8) × Int) :=
 zeh ({ a0 with Sig:=(⟨0,0⟩:z0a) }) >>= fun r2 =>
 if r2 != 0 then
  some ([],r2)
 else
  zl9 (({ a0 with Sig:=(⟨0,0⟩:z0a) }).Preds) >>= fun r5 =>
  z6t ((({ a0 with Sig:=(⟨0,0⟩:z0a) }).Author).toUInt64) >>= fun r7 =>
  z6t (({ a0 with Sig:=(⟨0,0⟩:z0a) }).Stamp) >>= fun r10 =>
  z27 [[111],r7,r5.1,r10,[(({ a0 with Sig:=(⟨0,0⟩:z0a) }).Act).Kind]] >>= fun r13 =>
  if ((({ a0 with Sig:=(⟨0,0⟩:z0a) }).Act).Kind)==1 then
   some (r13,0)
  else
   chk (((({ a0 with Sig:=(⟨0,0⟩:z0a) }).Act).Key).length≤281474976710656) >>= fun u18 =>
   zc5 ((({ a0 with Sig:=(⟨0,0⟩:z0a) }).Act).Key) >>= fun r20 =>
   app 1 r13 r20.1 >>= fun x22 =>
   if ((({ a0 with Sig:=(⟨0,0⟩:z0a) }).Act).Kind)==4 then
    zd1 ((({ a0 with Sig:=(⟨0,0⟩:z0a) }).Act).Value) >>= fun r26 =>
    app 1 x22 r26.1 >>= fun x28 =>
    some (x28,0)
   else
    some (x22,0)
set_option maxHeartbeats 4000000 in
theorem zes (a0:z04):z1w Tryz.prog 62 [.rd z03 a0] [] (zas a0) (fun r nv=>⟨[.val (nv 0),.rd z07 r.2],[(100,some (nv 0,.list u8R 5 r.1))]⟩):=by
 refine z2l 71 Tryz.func62 Z Z Z fun H w=>?_
 refine gSR<|Eb Z (bx 1 Z) fun v1=>Za Z<|Zb Z<|gSR<|Zq (bld (x':=(⟨0,0⟩:z0a)) [(0,1),(1,1)] Tryz.underlying84 zjr Z zou Z (Bld.done Z))<|Zq (faB 1 Z Z Tryz.underlying86 Z (by exact zjr))<|Es (sto 1 Z Z (fP (z1x _)) Z zjr)<|Zn<|z0m<|gSR<|Zq (ld 1 Z Z fH zbe Z)<|Zc [] [] Tryz.func82 Z (zht _) fun r2 n3=>Zb Z<|gSR<|Zm Z<|Zq (I.neq Z Z)<|Zj Z (fun h4=>?_) (fun h4=>?_)
 ·
  refine gSR<|Zm Z<|Za Z<|Zb Z<|z0g<|z0l<|zje u8R 5 2<|Ze [(.slice none 0 0)] [2] Z
 ·
  refine Zt<|gSR<|Zq (faB 1 Z Z Tryz.underlying86 Z (by exact z8d))<|Zq (ld 1 Z Z (fP (z0z _)) z9w Z)<|Zc [] [(100,3)] Tryz.func83 Z (zsj _) fun r5 n6=>Zm Z<|Zq (ext Z Z)<|Zq (ext Z Z)<|Za Z<|Zb Z<|z0m<|gFrz 3 [23,5] Z (fS Z<|fS Z<|fN)<|gSub [(1,.val (z09 v1 0)),(5,.rd (z02 u8R) r5.1)] [(1,some (v1,.box 86 [.rd z03 ({ a0 with Sig:=(⟨0,0⟩:z0a) })]))] [1] (sS Z<|sS Z<|sN) (y1 Z)<|z95 fun r7 h9=>z95 fun r10 h12=>z95 fun r13 h15=>gOr [] [⟨4,none,[(0,none)]⟩,⟨1,some ([], fun nv=>(v1,.box 86 [.rd z03 ({ a0 with Sig:=(⟨0,0⟩:z0a) })])),[]⟩,⟨5,none,[(4,none)]⟩,⟨6,none,[(8,none)]⟩,⟨7,none,[(12,none)]⟩,⟨8,none,[(13,none)]⟩,⟨9,none,[(14,some ([6], fun nv=>((nv 6),.list u8R 5 r13)))]⟩] [⟨some (25,[], fun nv=>.rd (z02 u8R) [111]),[(0,0,true)],[1],[]⟩,pk 26 (.val (z09 v1 (0+0))) [(1,0,false)],pk 27 (.rd z0r (({ a0 with Sig:=(⟨0,0⟩:z0a) }).Author)) [(1,0,false)],pd 28 (.rd z1u ((({ a0 with Sig:=(⟨0,0⟩:z0a) }).Author).toUInt64)),⟨some (29,[], fun nv=>.rd (z02 u8R) r7),[(2,0,true)],[2],[]⟩,pd 30 (.rd (z02 u8R) r5.1),pk 31 (.val (z09 v1 (0+2))) [(1,0,false)],pk 32 (.rd z1u (({ a0 with Sig:=(⟨0,0⟩:z0a) }).Stamp)) [(1,0,false)],⟨some (33,[], fun nv=>.rd (z02 u8R) r10),[(3,0,true)],[3],[]⟩,pk 34 (.val (z09 v1 (0+3))) [(1,0,false)],pk 35 (.val (z09 v1 (0+3+0))) [(1,0,false)],pk 36 (.rd u8R ((({ a0 with Sig:=(⟨0,0⟩:z0a) }).Act).Kind)) [(1,0,false)],⟨some (37,[], fun nv=>.rd (z02 u8R) [(({ a0 with Sig:=(⟨0,0⟩:z0a) }).Act).Kind]),[(4,0,true)],[4],[]⟩,⟨some (38,[], fun nv=>.rd (z02 (z02 u8R)) [[111],r7,r5.1,r10,[(({ a0 with Sig:=(⟨0,0⟩:z0a) }).Act).Kind]]),[(5,0,true)],[5],[]⟩,⟨some (39,[6], fun nv=>.val (nv 6)),[(6,0,true)],[6],[]⟩,⟨some (7,[6], fun nv=>.val (nv 6)),[],[],[]⟩] mixed (oC (oFz (A1:=fun nv=>[(4,some ((nv 1),.list u8R 5 [111]))]) 4 1 (oEf 4 1 (fun nv E=>lit (R:=u8R) ([111]:List UInt8) 4 (pP Z Z<|pN) Z tu109 ti5 Z Z)))<|oC (oRn (fun nv E=>faB 1 Z Z Tryz.underlying86 Z (by exact z5e)))<|oC (oRn (fun nv E=>ld 1 Z Z (fP (z23 _)) z7w Z))<|oC (oRn (fun nv E=>W.toU Z tu78 tu56))<|oC (oFz (A1:=fun nv=>[(5,some ((nv 2),.list u8R 5 r7))]) 5 2 (oCl [2] [] [(100,5)] h9 Tryz.func85 Z (fun nv=>(z6q _)) (fun nv=>(Y1 Z)) (fun nv E=>rN)))<|oC (oRn (fun nv E=>mv Z))<|oC (oRn (fun nv E=>faB 1 Z Z Tryz.underlying86 Z (by exact zlq)))<|oC (oRn (fun nv E=>ld 1 Z Z (fP (z2r _)) znt Z))<|oC (oFz (A1:=fun nv=>[(6,some ((nv 3),.list u8R 5 r10))]) 6 3 (oCl [3] [] [(100,6)] h12 Tryz.func85 Z (fun nv=>(z6q _)) (fun nv=>(Y1 Z)) (fun nv E=>rN)))<|oC (oRn (fun nv E=>faB 1 Z Z Tryz.underlying86 Z (by exact zks)))<|oC (oRn (fun nv E=>faB 1 Z Z Tryz.underlying82 Z (by exact ti5)))<|oC (oRn (fun nv E=>ld 1 Z Z ((fP (z1e _)).part (z36 _)) ty5 Z))<|oC (oFz (A1:=fun nv=>[(7,some ((nv 4),.list u8R 5 [(({ a0 with Sig:=(⟨0,0⟩:z0a) }).Act).Kind]))]) 7 4 (oEf 7 4 (fun nv E=>lit (R:=u8R) ([(({ a0 with Sig:=(⟨0,0⟩:z0a) }).Act).Kind]:List UInt8) 7 (pP Z Z<|pN) Z tu109 ti5 Z Z)))<|oC (oFz (A1:=fun nv=>[(8,some ((nv 5),.list (z02 u8R) 109 [[111],r7,r5.1,r10,[(({ a0 with Sig:=(⟨0,0⟩:z0a) }).Act).Kind]]))]) 8 5 (oEf 8 5 (fun nv E=>lit (R:=(z02 u8R)) ([[111],r7,r5.1,r10,[(({ a0 with Sig:=(⟨0,0⟩:z0a) }).Act).Kind]]:List (List UInt8)) 8 (pP Z Z<|pP Z Z<|pP Z Z<|pP Z Z<|pP Z Z<|pN) Z tu154 zi7 Z Z)))<|oC (oCl [6] [] [(100,9)] h15 Tryz.func84 Z (fun nv=>(z63 _)) (fun nv=>(Y1 Z)) (fun nv E=>rN))<|oC (oRn (fun nv E=>asg Z))<|oN) fun n16=>z0j<|z0m<|gSR<|Zq (faB 1 Z Z Tryz.underlying86 Z (by exact zks))<|Zq (faB 1 Z Z Tryz.underlying82 Z (by exact ti5))<|Zq (ld 1 Z Z ((fP (z1e _)).part (z36 _)) ty5 Z)<|Zq (B.eql Z Z)<|Zj Z (fun h17=>?_) (fun h17=>?_)
  ·
   refine gSR<|Zm Z<|Za Z<|Zb Z<|z0g<|z0l<|Ze [(n16 6)] [9] Z
  ·
   refine Zt<|gSR<|Zq (faB 1 Z Z Tryz.underlying86 Z (by exact zks))<|Zq (faB 1 Z Z Tryz.underlying82 Z (by exact ti9))<|Zq (ld 1 Z Z ((fP (z1e _)).part (z5g _)) ty9 Z)<|z0w fun u18 h19=>z11o Z Z h19 tu9 tu109 tu5<|Zc [] [(100,10)] Tryz.func86 Z (zj6 _) fun r20 n21=>Zm Z<|Zq (ext Z Z)<|Zq (ext Z Z)<|Za Z<|Zb Z<|gSR<|Zm Z<|Zm Z<|z0w fun x22 h23=>Ef Z (apn 9 Z Z Z (.own 10 Z) h23 tu109 ti5 Z Z Z) fun v24=>Zb Z<|z0m<|gSR<|Zq (faB 1 Z Z Tryz.underlying86 Z (by exact zks))<|Zq (faB 1 Z Z Tryz.underlying82 Z (by exact ti5))<|Zq (ld 1 Z Z ((fP (z1e _)).part (z36 _)) ty5 Z)<|Zq (B.eql Z Z)<|Zj Z (fun h25=>?_) (fun h25=>?_)
   ·
    refine gSR<|Zq (faB 1 Z Z Tryz.underlying86 Z (by exact zks))<|Zq (faB 1 Z Z Tryz.underlying82 Z (by exact zjo))<|Zq (ld 1 Z Z ((fP (z1e _)).part (z57 _)) zsy Z)<|Zc [] [(100,11)] Tryz.func87 Z (zlx _) fun r26 n27=>Zm Z<|Zq (ext Z Z)<|Zq (ext Z Z)<|Za Z<|Zb Z<|z1y<|Zm Z<|Zm Z<|z0w fun x28 h29=>Ef Z (apn 9 Z Z Z (.own 11 Z) h29 tu109 ti5 Z Z Z) fun v30=>Zb Z<|gSR<|Zm Z<|Za Z<|Zb Z<|z0g<|Ze [v30] [9] Z
   ·
    refine Zt<|gSR<|Zm Z<|Za Z<|Zb Z<|z0g<|Ze [v24] [9] Z
def ze7 (a0:z04):Option ((List UInt8) × Int) :=
 zeh a0 >>= fun r2 =>
 if r2 != 0 then
  some ([],r2)
 else
  zas a0 >>= fun r5 =>
  z6t a0.Sig.E.toUInt64 >>= fun r7 =>
  z6t a0.Sig.S.toUInt64 >>= fun r9 =>
  z27 [r5.1,r7,r9] >>= fun r12 =>
  some (r12,0)
theorem zq0 (a0:z04):z1w Tryz.prog 93 [.rd z03 a0] [] (ze7 a0) (fun r nv=>⟨[.val (nv 0),.rd z07 r.2],[(100,some (nv 0,.list u8R 5 r.1))]⟩):=by
 refine z2l 30 Tryz.func93 Z Z Z fun H w=>?_
 refine gSR<|Eb Z (bx 1 Z) fun v1=>Za Z<|Zb Z<|z0m<|gSR<|Zq (ld 1 Z Z fH zbe Z)<|Zc [] [] Tryz.func82 Z (zht _) fun r2 n3=>Zb Z<|gSR<|Zm Z<|Zq (I.neq Z Z)<|Zj Z (fun h4=>?_) (fun h4=>?_)
 ·
  refine gSR<|Zm Z<|Za Z<|Zb Z<|z0g<|z0l<|zje u8R 5 2<|Ze [(.slice none 0 0)] [2] Z
 ·
  refine Zt<|gSR<|Zq (ld 1 Z Z fH zbe Z)<|Zc [] [(100,3)] Tryz.func62 Z (zes _) fun r5 n6=>Zm Z<|Zq (ext Z Z)<|Zq (ext Z Z)<|Za Z<|Zb Z<|z0m<|z5v [19,34,37,40] mixed Z Z<|hTk 0 Z Z (mv Z)<|hTk 1 Z Z (faB 1 Z Z Tryz.underlying86 Z (by exact zjr))<|hTk 2 Z Z (faB 1 Z Z Tryz.underlying84 Z (by exact z5e))<|hTk 3 Z Z (ld 1 Z Z ((fP (z1x _)).part (z4w _)) z7w Z)<|hTk 4 Z Z (W.toU Z tu78 tu56)<|hTk 6 Z Z (faB 1 Z Z Tryz.underlying86 Z (by exact zjr))<|hTk 7 Z Z (faB 1 Z Z Tryz.underlying84 Z (by exact z5e))<|hTk 8 Z Z (ld 1 Z Z ((fP (z1x _)).part (z6f _)) z7w Z)<|hTk 9 Z Z (W.toU Z tu78 tu56)<|z3i 5 [] [(100,19)] Z (by kernel_rfl) Z (gd0 Z) Z Tryz.func85 Z Z (z6q _) (Y1 Z) rN Z (fun _ _=>z31) fun r7 n8=>z3i 10 [] [(100,34)] Z (by kernel_rfl) Z (gd0 Z) Z Tryz.func85 Z Z (z6q _) (Y1 Z) rN Z (fun _ _=>z31) fun r9 n10=>hFrz 3 [15,5,17] Z (fS Z<|fS Z<|fS Z<|fN)<|hFrz 19 [22] Z (fS Z<|fN)<|hFrz 34 [27] Z (fS Z<|fN)<|Zo 11 Z Z Z (lit (R:=(z02 u8R)) ([r5.1,r7,r9]:List (List UInt8)) 37 (pP Z Z<|pP Z Z<|pP Z Z<|pN) Z tu154 zi7 Z Z) fun v11=>hFrz 37 [28] Z (fS Z<|fN)<|z3i 12 [] [(100,40)] Z (by kernel_rfl) Z (gd0 Z) Z Tryz.func84 Z Z (z63 _) (Y1 Z) rN Z (fun _ _=>z31) fun r12 n13=>Zf 13 Z Z z31 (asg Z)<|hTk 14 Z Z (asg Z)<|z3f (by kernel_rfl)<|z0j<|z0g<|Ze [(n13 0)] [40] Z
def zcm (a0:List UInt8):Option (Bool) :=
 some (decide (10000<(a0.length:Int))) >>= fun y1 =>
 some y1
theorem zj4 (a0:List UInt8):z1w Tryz.prog 153 [.rd (z02 u8R) a0] [] (zcm a0) (fun r nv=>⟨[.rd z0p r],[]⟩):=by
 refine z2l 6 Tryz.func153 Z Z Z fun H w=>?_
 refine gSR<|Zb Z<|gSR<|Zm Z<|Zq (z2w Z .rd Z tu109)<|Zq (I.gtr Z Z)<|Za Z<|z2d 2 Z fun y1=>Zn<|z0g<|Ze [] [] Z
def zd3  : Option (z2g) :=
 some (⟨(#v[1779033703,3144134277,1013904242,2773480762,1359893119,2600822924,528734635,1541459225]:Vector UInt32 8),[],0⟩:z2g)
theorem zm2  : z1w Tryz.prog 154 [] [] (zd3) (fun r nv=>⟨[.rd z2p r],[]⟩):=by
 refine z2l 3 Tryz.func154 Z Z Z fun H w=>?_
 refine gSR<|Eb Z (z5w 1 zn8 (ZrE.rd (R:=(z2o 8 z0r)) (x:=(Vector.replicate 8 0)) zrk (ZrE.nilS (ZrE.rd (R:=z07) (x:=0) (Zr.num Z) ZrE.nil Z)) Z)) fun v1=>Zn<|gSR<|Zq (litA (R:=z0r) [1779033703,3144134277,1013904242,2773480762,1359893119,2600822924,528734635,1541459225] (#v[1779033703,3144134277,1013904242,2773480762,1359893119,2600822924,528734635,1541459225]:Vector UInt32 8) (pP Z Z<|pP Z Z<|pP Z Z<|pP Z Z<|pP Z Z<|pP Z Z<|pP Z Z<|pP Z Z<|pN) Z tu176 zgu Z z5e)<|Zq (zpb [(0,8),(8,1),(9,1)] Tryz.underlying193 zn8 (ZrE.rd (R:=(z2o 8 z0r)) (x:=(Vector.replicate 8 0)) zrk (ZrE.nilS (ZrE.rd (R:=z07) (x:=0) (Zr.num Z) ZrE.nil Z)) Z) Z (zf4.cons Z Z z2e (z87.cast (z87.here z2e) Z)<|zf4.done Z))<|Es (zom 1 Z Z (z0b.cast (z0b.cons z2e (z0b.cons z06 (z0b.cons z2e z0b.nil))) Z) Z (z3b.cons zdm (z3b.cons z1c (z3b.cons zdm z3b.nil))) (z0b.cast (z0b.cons z2e (z0b.cons z06 (z0b.cons z2e z0b.nil))) Z) zn8)<|Zn<|z0g<|zkp u8R [.rd (z2o 8 z0r) (#v[1779033703,3144134277,1013904242,2773480762,1359893119,2600822924,528734635,1541459225]:Vector UInt32 8),.rd (z02 u8R) [],.rd z07 0] 1 [.rd (z2o 8 z0r) (#v[1779033703,3144134277,1013904242,2773480762,1359893119,2600822924,528734635,1541459225]:Vector UInt32 8)] [.rd z07 0] Z Z Z<|zue (R:=z2p) (⟨(#v[1779033703,3144134277,1013904242,2773480762,1359893119,2600822924,528734635,1541459225]:Vector UInt32 8),[],0⟩:z2g) 1 Z (Sp.via (Sp.prod (Sp.prod (Sp.prod Sp.unit))))<|zap [] [] Z (eC 1 Z Z zs3<|eN) (rN)
def z1l (a0:UInt32) (a1:Int):Option (UInt32) :=
 some ((UInt64.ofInt a1) &&& 31) >>= fun y1 =>
 some ((zov a0 y1.toNat) ||| (z4g a0 ((32 - y1).toNat))) >>= fun y2 =>
 some y2
theorem z2b (a0:UInt32) (a1:Int):z1w Tryz.prog 199 [.rd z0r a0,.rd z07 a1] [] (z1l a0 a1) (fun r nv=>⟨[.rd z0r r],[]⟩):=by
 refine z2l 17 Tryz.func199 Z Z Z fun H w=>?_
 refine gSR<|Zb Z<|gSR<|Zm Z<|Zq (I.toU Z tu3 Tryz.underlying76)<|Zq (U.and Z Z)<|Za Z<|z2d 5 Z fun y1=>Zn<|gSR<|Zm Z<|Zm Z<|Zq (W.shl Z Z (Int.natCast_nonneg _))<|Zm Z<|Zm Z<|Zq (U.sub Z Z)<|Zq (W.shr Z Z (Int.natCast_nonneg _))<|Zq (W.or Z Z)<|Za Z<|z2d 4 Z fun y2=>Zn<|z0g<|Ze [] [] Z
def z6l (x3:List UInt8) (s5:(Vector UInt32 64) × Int):Option (Sum ((Vector UInt32 64)) ((Vector UInt32 64) × Int)) :=
 if decide (s5.2<(x3.length:Int)) then
  idx x3 s5.2 >>= fun x7 =>
  z5y s5.1 (w64 (Int.tdiv s5.2 4)) >>= fun x9 =>
  z5y s5.1 (w64 (Int.tdiv s5.2 4)) >>= fun x11 =>
  some (.inr (zdr s5.1 (w64 (Int.tdiv s5.2 4)) ((zov x9 8) ||| x7.toUInt32),w64 (s5.2+1)))
 else
  some (.inl s5.1)
def z4y (s14:(Vector UInt32 64) × Int):Option (Sum ((Vector UInt32 64)) ((Vector UInt32 64) × Int)) :=
 if decide (s14.2<64) then
  z5y s14.1 (w64 (s14.2 - 15)) >>= fun x16 =>
  z5y s14.1 (w64 (s14.2 - 2)) >>= fun x18 =>
  z1l x16 (-7) >>= fun r20 =>
  z1l x16 (-18) >>= fun r22 =>
  some ((r20 ^^^ r22) ^^^ (z4g x16 3)) >>= fun y24 =>
  z1l x18 (-17) >>= fun r25 =>
  z1l x18 (-19) >>= fun r27 =>
  some ((r25 ^^^ r27) ^^^ (z4g x18 10)) >>= fun y29 =>
  z5y s14.1 (w64 (s14.2 - 16)) >>= fun x30 =>
  z5y s14.1 (w64 (s14.2 - 7)) >>= fun x32 =>
  z5y s14.1 s14.2 >>= fun x34 =>
  some (w64 (s14.2+1)) >>= fun y37 =>
  some (.inr (zdr s14.1 s14.2 (((x30+x32)+y24)+y29),y37))
 else
  some (.inl s14.1)
def zc9 (a0:List UInt8):Option ((Vector UInt32 64)) :=
 (cut a0 0 64 >>= fun x3 =>
 iter (z6l x3) ((Vector.replicate 64 0),0)) >>= fun s2 =>
 (iter (z4y) (s2,16)) >>= fun s13 =>
 some s13
set_option maxHeartbeats 4000000 in
theorem ziy (a0:List UInt8):z1w Tryz.prog 195 [.rd (z02 u8R) a0] [] (zc9 a0) (fun r nv=>⟨[.rd (z2o 64 z0r) r],[]⟩):=by
 refine z2l 74 Tryz.func195 Z Z Z fun H w=>?_
 refine gSR<|Eb Z (z5w 1 zyi (.zr (R:=(z2o 64 z0r)) (x:=(Vector.replicate 64 0)) z16v)) fun v1=>Zn<|z7x (fun (s2:(Vector UInt32 64)) aa ww=>Sta (ctx 74 H [] w) [(2,.val (z09 v1 0))] [(1,some (v1,.box 229 [.rd (z2o 64 z0r) s2]))] aa ww) ?_ (fun s2=>?_)
 ·
  refine gSR<|Zm Z<|z0w fun x3 h4=>Zq (cut' Z .no (.to Z) h4 tu109 ti5)<|Zq (z2w Z .rd Z tu109)<|Zm Z<|Zn<|z1h (fun (s5:(Vector UInt32 64) × Int) aa ww=>Sta (ctx 74 H [] w) [(2,.val (z09 v1 0)),(11,.rd (z02 u8R) x3),(12,.rd z07 (x3.length:Int)),(13,.rd z07 s5.2)] [(1,some (v1,.box 229 [.rd (z2o 64 z0r) s5.1]))] aa ww) (fun aa ww h=>Zu h [1]) (fun s5=>?_)
  refine gSR<|Zq (I.lss Z Z)<|Zn<|z0m<|gIf Z Z (fun h6=>?_) (fun h6=>?_)
  ·
   refine Zt<|z0m<|z43<|gSR<|Zm Z<|z0w fun x7 h8=>Zq (ixR Z Z h8 tu109 ti5 Z)<|Zq (ldR Z ty5)<|Za Z<|Zb Z<|z1y<|Zm Z<|Zq (I.quo Z Z (by decide))<|Zm Z<|Zq (I.quo Z Z (by decide))<|z0w fun x9 h10=>Zq (ixB 1 Z Z Z h10 Tryz.underlying229 z5e)<|Zq (ld 1 Z Z (fP (.el h10)) z7w Z)<|Zq (W.shl Z Z (Int.natCast_nonneg _))<|Zm Z<|Zq (B.toW Z tu5 tu78)<|Zq (W.or Z Z)<|z0w fun x11 h12=>Zq (ixB 1 Z Z Z h12 Tryz.underlying229 z5e)<|Es (sto 1 Z Z (fP (.el h12)) Z z5e)<|z1k<|z2t<|z0j<|z1y<|Zq (I.add Z Z)<|Zm Z<|z1k<|z1a (fun aa ww h=>Zu h [1])
  ·
   refine z1f<|z0u<|z0v<|z40 (fun aa ww h=>Zu h [1])
 ·
  refine z7x (fun (s13:(Vector UInt32 64)) aa ww=>Sta (ctx 74 H [] w) [(2,.val (z09 v1 0))] [(1,some (v1,.box 229 [.rd (z2o 64 z0r) s13]))] aa ww) ?_ (fun s13=>?_)
  ·
   refine gSR<|Zb Z<|z1h (fun (s14:(Vector UInt32 64) × Int) aa ww=>Sta (ctx 74 H [] w) [(2,.val (z09 v1 0)),(5,.rd z07 s14.2)] [(1,some (v1,.box 229 [.rd (z2o 64 z0r) s14.1]))] aa ww) (fun aa ww h=>Zu h [1]) (fun s14=>?_)
   refine z0m<|gSR<|Zm Z<|Zq (I.lss Z Z)<|Zj Z (fun h15=>?_) (fun h15=>?_)
   ·
    refine Zt<|z0m<|z43<|z0m<|zfa mixed (by kernel_rfl)<|Rq Z (mv Z)<|Rq Z (I.sub Z Z)<|z5h fun x16 h17=>Rq Z (ixB 1 Z Z Z h17 Tryz.underlying229 z5e)<|Rq Z (ld 1 Z Z (fP (.el h17)) z7w Z)<|Rq Z (mv Z)<|Rq Z (I.sub Z Z)<|z5h fun x18 h19=>Rq Z (ixB 1 Z Z Z h19 Tryz.underlying229 z5e)<|Rq Z (ld 1 Z Z (fP (.el h19)) z7w Z)<|Rq Z (asg Z)<|Rq Z (asg Z)<|zpu<|z0j<|gSR<|Zm Z<|Zc [] [] Tryz.func199 Z (z2b _ _) fun r20 n21=>Zm Z<|Zc [] [] Tryz.func199 Z (z2b _ _) fun r22 n23=>Zq (W.xor Z Z)<|Zm Z<|Zq (W.shr Z Z (Int.natCast_nonneg _))<|Zq (W.xor Z Z)<|Za Z<|z2d 8 Z fun y24=>Zn<|gSR<|Zm Z<|Zc [] [] Tryz.func199 Z (z2b _ _) fun r25 n26=>Zm Z<|Zc [] [] Tryz.func199 Z (z2b _ _) fun r27 n28=>Zq (W.xor Z Z)<|Zm Z<|Zq (W.shr Z Z (Int.natCast_nonneg _))<|Zq (W.xor Z Z)<|Za Z<|z2d 9 Z fun y29=>Zn<|gSub [(2,.val (z09 v1 0)),(5,.rd z07 s14.2),(8,.rd z0r y24),(9,.rd z0r y29)] [(1,some (v1,.box 229 [.rd (z2o 64 z0r) s14.1]))] [1] (Zs Z Z Z Z<|sN) (y1 Z)<|z95 fun x30 h31=>z95 fun x32 h33=>z95 fun x34 h35=>gOr [] [⟨1,some ([], fun nv=>(v1,.box 229 [.rd (z2o 64 z0r) s14.1])),[(15,some ([], fun nv=>(v1,.box 229 [.rd (z2o 64 z0r) (zdr s14.1 s14.2 (((x30+x32)+y24)+y29))])))]⟩] [pd 58 (.rd z07 s14.2),pd 59 (.rd z07 s14.2),pd 60 (.rd z07 (w64 (s14.2 - 16))),pk 61 (.val (z09 v1 (0+(w64 (s14.2 - 16):Int).toNat * 1))) [(0,0,false)],pk 62 (.rd z0r x30) [(0,0,false)],pd 63 (.rd z07 s14.2),pd 64 (.rd z07 (w64 (s14.2 - 7))),pk 65 (.val (z09 v1 (0+(w64 (s14.2 - 7):Int).toNat * 1))) [(0,0,false)],pk 66 (.rd z0r x32) [(0,0,false)],pd 67 (.rd z0r (x30+x32)),pd 68 (.rd z0r y24),pd 69 (.rd z0r ((x30+x32)+y24)),pd 70 (.rd z0r y29),pd 71 (.rd z0r (((x30+x32)+y24)+y29)),pk 72 (.val (z09 v1 (0+(s14.2:Int).toNat * 1))) [(0,0,false)],⟨none,[(0,0,true)],[],[]⟩] mixed (oC (oRn (fun nv E=>mv Z))<|oC (oRn (fun nv E=>mv Z))<|oC (oRn (fun nv E=>I.sub Z Z))<|oC (oRn (fun nv E=>ixB 1 Z Z Z h31 Tryz.underlying229 z5e))<|oC (oRn (fun nv E=>ld 1 Z Z (fP (.el h31)) z7w Z))<|oC (oRn (fun nv E=>mv Z))<|oC (oRn (fun nv E=>I.sub Z Z))<|oC (oRn (fun nv E=>ixB 1 Z Z Z h33 Tryz.underlying229 z5e))<|oC (oRn (fun nv E=>ld 1 Z Z (fP (.el h33)) z7w Z))<|oC (oRn (fun nv E=>W.add Z Z))<|oC (oRn (fun nv E=>mv Z))<|oC (oRn (fun nv E=>W.add Z Z))<|oC (oRn (fun nv E=>mv Z))<|oC (oRn (fun nv E=>W.add Z Z))<|oC (oRn (fun nv E=>ixB 1 Z Z Z h35 Tryz.underlying229 z5e))<|oC (oEs 1 (fun nv E=>sto 1 Z Z (fP (.el h35)) Z z5e))<|oN) fun n36=>z2t<|z0j<|z1y<|Zm Z<|Zq (I.add Z Z)<|Za Z<|z2d 5 Z fun y37=>z1k<|z1a (fun aa ww h=>Zu h [1])
   ·
    refine z1f<|z0u<|z0v<|z40 (fun aa ww h=>Zu h [1])
  ·
   refine gSR<|Zq (ld 1 Z Z fH z18o Z)<|Es (sto 1 Z Z fH Z zyi)<|Zn<|z0g<|zap [] [] Z (eC 1 Z Z z18o<|eN) (rN)
def ze0 (a0:UInt32) (a1:Int) (a2:Int) (a3:Int):Option (UInt32) :=
 z1l a0 (w64 (0 - a1)) >>= fun r1 =>
 z1l a0 (w64 (0 - a2)) >>= fun r3 =>
 z1l a0 (w64 (0 - a3)) >>= fun r5 =>
 some ((r1 ^^^ r3) ^^^ r5) >>= fun y7 =>
 some y7
theorem zic (a0:UInt32) (a1:Int) (a2:Int) (a3:Int):z1w Tryz.prog 196 [.rd z0r a0,.rd z07 a1,.rd z07 a2,.rd z07 a3] [] (ze0 a0 a1 a2 a3) (fun r nv=>⟨[.rd z0r r],[]⟩):=by
 refine z2l 23 Tryz.func196 Z Z Z fun H w=>?_
 refine gSR<|Zb Z<|gSR<|Zm Z<|Zm Z<|Zq (I.neg Z)<|Zc [] [] Tryz.func199 Z (z2b _ _) fun r1 n2=>Zm Z<|Zm Z<|Zq (I.neg Z)<|Zc [] [] Tryz.func199 Z (z2b _ _) fun r3 n4=>Zq (W.xor Z Z)<|Zm Z<|Zm Z<|Zq (I.neg Z)<|Zc [] [] Tryz.func199 Z (z2b _ _) fun r5 n6=>Zq (W.xor Z Z)<|Za Z<|z2d 8 Z fun y7=>Zn<|z0g<|Ze [] [] Z
def z7s (a0:List UInt8):Option ((List UInt8)) :=
 app 1 ([]:List UInt8) a0 >>= fun x3 =>
 some x3
theorem z94 (a0:List UInt8):z1w Tryz.prog 182 [.rd (z02 u8R) a0] [] (z7s a0) (fun r nv=>⟨[.val (nv 0)],[(100,some (nv 0,.list u8R 5 r))]⟩):=by
 refine z2l 8 Tryz.func182 Z Z Z fun H w=>?_
 refine gSR<|Zb Z<|z0m<|gSR<|Zm Z<|z150 Z Z .rd Z tu109 (fun h1=>?_) ?_
 ·
  subst h1
  refine Zn<|zcu Z<|gSR<|Zb Z<|z0g<|z0l<|zje u8R 5 1<|Ze [(.slice none 0 0)] [1] Z
 ·
  refine Zn<|zbi Z<|Zt<|gSR<|Ef Z (lit (R:=u8R) (([]:List UInt8):List UInt8) 2 (pN) Z tu109 ti5 Z Z) fun v2=>Zm Z<|z0w fun x3 h4=>Ef Z (apn 2 Z Z Z .rd h4 tu109 ti5 Z Z Z) fun v5=>Zb Z<|z0g<|Ze [v5] [2] Z
def z5s (r1:(Vector UInt32 64)) (s21:UInt32 × UInt32 × UInt32 × UInt32 × UInt32 × UInt32 × UInt32 × UInt32 × Int):Option (Sum (UInt32 × UInt32 × UInt32 × UInt32 × UInt32 × UInt32 × UInt32 × UInt32) (UInt32 × UInt32 × UInt32 × UInt32 × UInt32 × UInt32 × UInt32 × UInt32 × Int)) :=
 if decide (s21.2.2.2.2.2.2.2.2<64) then
  z5y z54 s21.2.2.2.2.2.2.2.2 >>= fun x23 =>
  z5y r1 s21.2.2.2.2.2.2.2.2 >>= fun x25 =>
  ze0 s21.2.2.2.2.1 6 11 25 >>= fun r27 =>
  some ((((s21.2.2.2.2.2.2.2.1+r27)+((s21.2.2.2.2.1 &&& s21.2.2.2.2.2.1) ^^^ ((~~~s21.2.2.2.2.1) &&& s21.2.2.2.2.2.2.1)))+x23)+x25) >>= fun y29 =>
  ze0 s21.1 2 13 22 >>= fun r30 =>
  some (r30+(((s21.1 &&& s21.2.1) ^^^ (s21.1 &&& s21.2.2.1)) ^^^ (s21.2.1 &&& s21.2.2.1))) >>= fun y32 =>
  some (s21.2.2.2.1+y29) >>= fun y33 =>
  some (.inr (y29+y32,s21.1,s21.2.1,s21.2.2.1,y33,s21.2.2.2.2.1,s21.2.2.2.2.2.1,s21.2.2.2.2.2.2.1,w64 (s21.2.2.2.2.2.2.2.2+1)))
 else
  some (.inl (s21.1,s21.2.1,s21.2.2.1,s21.2.2.2.1,s21.2.2.2.2.1,s21.2.2.2.2.2.1,s21.2.2.2.2.2.2.1,s21.2.2.2.2.2.2.2.1))
def zcq (s20:UInt32 × UInt32 × UInt32 × UInt32 × UInt32 × UInt32 × UInt32 × UInt32) (s34:(Vector UInt32 8) × Int):Option (Sum ((Vector UInt32 8)) ((Vector UInt32 8) × Int)) :=
 if decide (s34.2<8) then
  z5y (#v[s20.1,s20.2.1,s20.2.2.1,s20.2.2.2.1,s20.2.2.2.2.1,s20.2.2.2.2.2.1,s20.2.2.2.2.2.2.1,s20.2.2.2.2.2.2.2]:Vector UInt32 8) s34.2 >>= fun x36 =>
  z5y s34.1 s34.2 >>= fun x38 =>
  z5y s34.1 s34.2 >>= fun x40 =>
  some (.inr (zdr s34.1 s34.2 (x38+x36),w64 (s34.2+1)))
 else
  some (.inl s34.1)
def zd8 (c0:Vector UInt32 8) (a1:List UInt8):Option ((Vector UInt32 8)) :=
 zc9 a1 >>= fun r1 =>
 z5y c0 0 >>= fun x4 =>
 z5y c0 1 >>= fun x6 =>
 z5y c0 2 >>= fun x8 =>
 z5y c0 3 >>= fun x10 =>
 z5y c0 4 >>= fun x12 =>
 z5y c0 5 >>= fun x14 =>
 z5y c0 6 >>= fun x16 =>
 z5y c0 7 >>= fun x18 =>
 (iter (z5s r1) (x4,x6,x8,x10,x12,x14,x16,x18,0)) >>= fun s20 =>
 iter (zcq s20) (c0,0)
theorem zme (ph0:Value) (kh0:Nat) (uh0:(Vector UInt32 8)→z37) (hh0:∀ y,Foc (uh0 y) kh0 (z2o 8 z0r) y uh0) (c0:Vector UInt32 8) (a1:List UInt8):z1w Tryz.prog 181 [.val (z09 ph0 kh0),.rd (z02 u8R) a1] [(1,some (ph0,uh0 c0)),zG1] (zd8 c0 a1) (fun r nv=>⟨[],[(1,some (ph0,uh0 r)),(1001,some (.bool true,.glob 1 (z2o 64 z0r) z54))]⟩):=by
 refine z2l 126 Tryz.func181 Z Z Z fun H w=>?_
 refine gSR<|Zm Z<|Zc [] [] Tryz.func195 Z (ziy _) fun r1 n2=>Eb Z (z5w 2 zyi (.zr (R:=(z2o 64 z0r)) (x:=(Vector.replicate 64 0)) z16v)) fun v3=>Es (sto 2 Z Z fH Z zyi)<|Zn<|z0m<|zfa mixed (by kernel_rfl)<|Rq Z (mv Z)<|Rq Z (nckP 1 Z Z (hh0 _))<|z5h fun x4 h5=>Rq Z (ixH 1 Z Z (hh0 _) Z h5 tu176 z5e)<|Rq Z (ld 1 Z Z ((hh0 _).part (.el h5)) z7w Z)<|Rq Z (mv Z)<|Rq Z (nckP 1 Z Z (hh0 _))<|z5h fun x6 h7=>Rq Z (ixH 1 Z Z (hh0 _) Z h7 tu176 z5e)<|Rq Z (ld 1 Z Z ((hh0 _).part (.el h7)) z7w Z)<|Rq Z (mv Z)<|Rq Z (nckP 1 Z Z (hh0 _))<|z5h fun x8 h9=>Rq Z (ixH 1 Z Z (hh0 _) Z h9 tu176 z5e)<|Rq Z (ld 1 Z Z ((hh0 _).part (.el h9)) z7w Z)<|Rq Z (mv Z)<|Rq Z (nckP 1 Z Z (hh0 _))<|z5h fun x10 h11=>Rq Z (ixH 1 Z Z (hh0 _) Z h11 tu176 z5e)<|Rq Z (ld 1 Z Z ((hh0 _).part (.el h11)) z7w Z)<|Rq Z (mv Z)<|Rq Z (nckP 1 Z Z (hh0 _))<|z5h fun x12 h13=>Rq Z (ixH 1 Z Z (hh0 _) Z h13 tu176 z5e)<|Rq Z (ld 1 Z Z ((hh0 _).part (.el h13)) z7w Z)<|Rq Z (mv Z)<|Rq Z (nckP 1 Z Z (hh0 _))<|z5h fun x14 h15=>Rq Z (ixH 1 Z Z (hh0 _) Z h15 tu176 z5e)<|Rq Z (ld 1 Z Z ((hh0 _).part (.el h15)) z7w Z)<|Rq Z (mv Z)<|Rq Z (nckP 1 Z Z (hh0 _))<|z5h fun x16 h17=>Rq Z (ixH 1 Z Z (hh0 _) Z h17 tu176 z5e)<|Rq Z (ld 1 Z Z ((hh0 _).part (.el h17)) z7w Z)<|Rq Z (mv Z)<|Rq Z (nckP 1 Z Z (hh0 _))<|z5h fun x18 h19=>Rq Z (ixH 1 Z Z (hh0 _) Z h19 tu176 z5e)<|Rq Z (ld 1 Z Z ((hh0 _).part (.el h19)) z7w Z)<|Rq Z (asg Z)<|Rq Z (asg Z)<|Rq Z (asg Z)<|Rq Z (asg Z)<|Rq Z (asg Z)<|Rq Z (asg Z)<|Rq Z (asg Z)<|Rq Z (asg Z)<|zpu<|z0j<|z7x (fun (s20:UInt32 × UInt32 × UInt32 × UInt32 × UInt32 × UInt32 × UInt32 × UInt32) aa ww=>Sta (ctx 126 H [(1,some (ph0,uh0 c0)),zG1] w) [(0,.val (z09 ph0 kh0)),(5,.rd z0r s20.1),(6,.rd z0r s20.2.1),(7,.rd z0r s20.2.2.1),(8,.rd z0r s20.2.2.2.1),(9,.rd z0r s20.2.2.2.2.1),(10,.rd z0r s20.2.2.2.2.2.1),(11,.rd z0r s20.2.2.2.2.2.2.1),(12,.rd z0r s20.2.2.2.2.2.2.2)] [(1,some (ph0,uh0 c0)),zG1] aa ww) ?_ (fun s20=>?_)
 ·
  refine gSR<|Zm Z<|Zn<|z1h (fun (s21:UInt32 × UInt32 × UInt32 × UInt32 × UInt32 × UInt32 × UInt32 × UInt32 × Int) aa ww=>Sta (ctx 126 H [(1,some (ph0,uh0 c0)),zG1] w) [(0,.val (z09 ph0 kh0)),(4,.val (z09 v3 0)),(5,.rd z0r s21.1),(6,.rd z0r s21.2.1),(7,.rd z0r s21.2.2.1),(8,.rd z0r s21.2.2.2.1),(9,.rd z0r s21.2.2.2.2.1),(10,.rd z0r s21.2.2.2.2.2.1),(11,.rd z0r s21.2.2.2.2.2.2.1),(12,.rd z0r s21.2.2.2.2.2.2.2.1),(52,.rd z07 s21.2.2.2.2.2.2.2.2)] [(1,some (ph0,uh0 c0)),(2,some (v3,.box 229 [.rd (z2o 64 z0r) r1])),zG1] aa ww) (fun aa ww h=>Zu h [1,2,1001]) (fun s21=>?_)
  refine gSR<|Zq (I.lss Z Z)<|Zn<|z0m<|gIf Z Z (fun h22=>?_) (fun h22=>?_)
  ·
   refine Zt<|z0m<|z43<|gSR<|Zm Z<|Zb Z<|z0m<|z5v [] mixed Z Z<|hTk 0 Z Z (mv Z)<|hTk 1 Z Z (mv Z)<|hTk 4 Z Z (mv Z)<|hTk 5 Z Z (mv Z)<|hTk 6 Z Z (W.and Z Z)<|hTk 7 Z Z (mv Z)<|hTk 8 Z Z (W.cpl Z)<|hTk 9 Z Z (mv Z)<|hTk 10 Z Z (W.and Z Z)<|hTk 11 Z Z (W.xor Z Z)<|hTk 13 Z Z (mv Z)<|z3z fun x23 h24=>hTk 14 Z Z (ixG 1001 Z Z h24 Tryz.underlying229 z5e)<|hTk 15 Z Z (ldR Z z7w)<|hTk 17 Z Z (mv Z)<|z3z fun x25 h26=>hTk 18 Z Z (ixB 2 Z Z Z h26 Tryz.underlying229 z5e)<|hTk 19 Z Z (ld 2 Z Z (fP (.el h26)) z7w Z)<|z3i 2 [] [] Z (by kernel_rfl) Z (gd0 Z) Z Tryz.func196 Z Z (zic _ _ _ _) (aQ Z<|aQ Z<|aQ Z<|aQ Z<|aN) rN Z (fun _ _=>z34) fun r27 n28=>hTk 3 Z Z (W.add Z Z)<|hTk 12 Z Z (W.add Z Z)<|hTk 16 Z Z (W.add Z Z)<|hTk 20 Z Z (W.add Z Z)<|hTk 21 Z Z (asg Z)<|zw2 14 Z Z fun y29=>z3f (by kernel_rfl)<|z0j<|gSR<|Zm Z<|Zc [] [] Tryz.func196 Z (zic _ _ _ _) fun r30 n31=>Zm Z<|Zm Z<|Zq (W.and Z Z)<|Zm Z<|Zm Z<|Zq (W.and Z Z)<|Zq (W.xor Z Z)<|Zm Z<|Zm Z<|Zq (W.and Z Z)<|Zq (W.xor Z Z)<|Zq (W.add Z Z)<|Za Z<|z2d 15 Z fun y32=>Zn<|z1y<|Zm Z<|Zm Z<|Zq (W.add Z Z)<|Zm Z<|Zm Z<|Zm Z<|Zm Z<|Zm Z<|Zq (W.add Z Z)<|Zm Z<|Zm Z<|Zm Z<|Za Z<|Za Z<|Za Z<|Za Z<|Za Z<|z2d 9 Z fun y33=>Za Z<|Za Z<|Za Z<|z1k<|z2t<|z0j<|z1y<|Zq (I.add Z Z)<|Zm Z<|z1k<|z1a (fun aa ww h=>Zu h [1,2,1001])
  ·
   refine z1f<|z0u<|z0v<|z40 (fun aa ww h=>Zu h [1,1001])
 ·
  refine gSR<|Zm Z<|Zm Z<|Zm Z<|Zm Z<|Zm Z<|Zm Z<|Zm Z<|Zm Z<|Zq (litA (R:=z0r) [s20.1,s20.2.1,s20.2.2.1,s20.2.2.2.1,s20.2.2.2.2.1,s20.2.2.2.2.2.1,s20.2.2.2.2.2.2.1,s20.2.2.2.2.2.2.2] (#v[s20.1,s20.2.1,s20.2.2.1,s20.2.2.2.1,s20.2.2.2.2.1,s20.2.2.2.2.2.1,s20.2.2.2.2.2.2.1,s20.2.2.2.2.2.2.2]:Vector UInt32 8) (pP Z Z<|pP Z Z<|pP Z Z<|pP Z Z<|pP Z Z<|pP Z Z<|pP Z Z<|pP Z Z<|pN) Z tu176 zgu Z z5e)<|Zm Z<|Zn<|z1h (fun (s34:(Vector UInt32 8) × Int) aa ww=>Sta (ctx 126 H [(1,some (ph0,uh0 c0)),zG1] w) [(0,.val (z09 ph0 kh0)),(111,.rd (z2o 8 z0r) (#v[s20.1,s20.2.1,s20.2.2.1,s20.2.2.2.1,s20.2.2.2.2.1,s20.2.2.2.2.2.1,s20.2.2.2.2.2.2.1,s20.2.2.2.2.2.2.2]:Vector UInt32 8)),(112,.rd z07 s34.2)] [(1,some (ph0,uh0 s34.1)),zG1] aa ww) (fun aa ww h=>Zu h [1,1001]) (fun s34=>?_)
  refine gSR<|Zq (I.lss Z Z)<|Zn<|z0m<|gIf Z Z (fun h35=>?_) (fun h35=>?_)
  ·
   refine Zt<|z0m<|z43<|gSR<|Zm Z<|z0w fun x36 h37=>Zq (idxV Z Z h37 tu176 z5e z7w)<|Za Z<|Zb Z<|z5v [1] mixed Z Z<|hTk 0 Z Z (mv Z)<|hTk 1 Z Z (mv Z)<|hTk 2 Z Z (nckP 1 Z Z (hh0 _))<|z3z fun x38 h39=>hTk 3 Z Z (ixH 1 Z Z (hh0 _) Z h39 tu176 z5e)<|hTk 5 Z Z (mv Z)<|hTk 7 Z Z (nckP 1 Z Z (hh0 _))<|hRun 4 Z (by kernel_rfl) (gd0 Z) Z Z z34 (ld 1 Z Z ((hh0 _).part (.el h39)) z7w Z)<|hTk 6 Z Z (W.add Z Z)<|z3z fun x40 h41=>hTk 8 Z Z (ixH 1 Z Z (hh0 _) Z h41 tu176 z5e)<|Zp 9 Z Z Z Z Z (sto 1 Z Z ((hh0 _).part (.el h41)) Z z5e)<|z3f (by kernel_rfl)<|z2t<|z0j<|z1y<|Zq (I.add Z Z)<|Zm Z<|z1k<|z1a (fun aa ww h=>Zu h [1,1001])
  ·
   refine z1f<|z0u<|z0v<|Ze [] [1,1001] Z
def z98 (s7:z2g × (List UInt8)):Option (Sum (z2g × (List UInt8)) (z2g × (List UInt8))) :=
 if decide (64≤(s7.2.length:Int)) then
  zd8 s7.1.Words s7.2 >>= fun r10 =>
  cut s7.2 64 (s7.2.length:Int) >>= fun x12 =>
  some (.inr ({ s7.1 with Words:=r10 },x12))
 else
  some (.inl (s7.1,s7.2))
def zao (a0:z2g) (a1:List UInt8):Option (z2g) :=
 z27 [a0.Rest,a1] >>= fun r4 =>
 (iter (z98) (a0,r4)) >>= fun s6 =>
 z7s s6.2 >>= fun r14 =>
 some (⟨({ s6.1 with N:=w64 (s6.1.N+(a1.length:Int)) }).Words,r14,({ s6.1 with N:=w64 (s6.1.N+(a1.length:Int)) }).N⟩:z2g)
theorem zh5 (a0:z2g) (a1:List UInt8):z1w Tryz.prog 155 [.rd z2p a0,.rd (z02 u8R) a1] [zG1] (zao a0 a1) (fun r nv=>⟨[.rd z2p r],[(1001,some (.bool true,.glob 1 (z2o 64 z0r) z54))]⟩):=by
 refine z2l 29 Tryz.func155 Z Z Z fun H w=>?_
 refine gSR<|Eb Z (bx 1 Z) fun v1=>Eb Z (z5w 2 zn8 (ZrE.rd (R:=(z2o 8 z0r)) (x:=(Vector.replicate 8 0)) zrk (ZrE.nilS (ZrE.rd (R:=z07) (x:=0) (Zr.num Z) ZrE.nil Z)) Z)) fun v2=>Zn<|gSR<|Zq (faB 1 Z Z Tryz.underlying193 Z (by exact zi7))<|Zq (ld 1 Z Z (fP (zkq _)) zzv Z)<|Zm Z<|Ef Z (lit (R:=(z02 u8R)) ([a0.Rest,a1]:List (List UInt8)) 3 (pP Z Z<|pP Z Z<|pN) Z tu154 zi7 Z Z) fun v3=>zc6 3 [9] Z (fS Z<|fN)<|Zc [] [(100,4)] Tryz.func84 Z (z63 _) fun r4 n5=>Zb Z<|z7x (fun (s6:z2g × (List UInt8)) aa ww=>Sta (ctx 29 H [zG1] w) [(1,.rd (z02 u8R) a1),(2,.val (z09 v1 0)),(4,.val (z09 v2 0)),(5,.rd (z02 u8R) s6.2)] [(1,some (v1,.box 193 [.rd z2p s6.1])),(2,some (v2,.box 193 [.rd (z2o 8 z0r) (Vector.replicate 8 0),.val (.slice none 0 0),.rd z07 0])),zG1] aa ww) ?_ (fun s6=>?_)
 ·
  refine gFrz 4 [10,5] Z (fS Z<|fS Z<|fN)<|z1h (fun (s7:z2g × (List UInt8)) aa ww=>Sta (ctx 29 H [zG1] w) [(1,.rd (z02 u8R) a1),(2,.val (z09 v1 0)),(4,.val (z09 v2 0)),(5,.rd (z02 u8R) s7.2)] [(1,some (v1,.box 193 [.rd z2p s7.1])),(2,some (v2,.box 193 [.rd (z2o 8 z0r) (Vector.replicate 8 0),.val (.slice none 0 0),.rd z07 0])),zG1] aa ww) (fun aa ww h=>Zu h [1,2,1001]) (fun s7=>?_)
  refine z0m<|gSR<|Zm Z<|Zq (z2w Z .rd Z tu109)<|Zq (I.geq Z Z)<|Zj Z (fun h8=>?_) (fun h8=>?_)
  ·
   refine Zt<|z43<|gSR<|Zq (faB 1 Z Z Tryz.underlying193 Z (by exact zgu))<|Zm Z<|call [1,1001] [(1,1)] Z Tryz.func181 Z Z (zme _ _ (fun y9=>.box 193 [.rd z2p ({ s7.1 with Words:=y9 })]) (fun _=>(fP (zds _))) _ _) (Y2 Z Z) (Zi Z<|Zi Z<|rN) fun r10 n11=>Zn<|z1y<|Zm Z<|z0w fun x12 h13=>Zq (cut' Z (.to Z) .no h13 tu109 ti5)<|Za Z<|z1k<|z2t<|z1a (fun aa ww h=>Zu h [1,2,1001])
  ·
   refine z1f<|z0u<|z0v<|z40 (fun aa ww h=>Zu h [1,2,1001])
 ·
  refine z0m<|z5v [1,1020] mixed Z Z<|hTk 0 Z Z (faB 1 Z Z Tryz.underlying193 Z (by exact ti3))<|hTk 2 Z Z (mv Z)<|hTk 3 Z Z (z2w Z .rd Z tu109)<|hTk 5 Z Z (mv Z)<|hAlt [1,6] (by kernel_rfl) Z ⟨?_,?_,trivial⟩
  ·
   refine oRun 1 Z (gd0 Z) Z Z z34 (ld 1 Z Z (fP (z8u _)) ty3 Z)<|hTk 4 Z Z (I.add Z Z)<|z3i 6 [] [(100,1020)] Z (by kernel_rfl) Z (gd0 Z) Z Tryz.func182 Z Z (z94 _) (Y1 Z) rN Z (fun _ _=>z31) fun r14 n15=>hTk 7 Z Z (faB 1 Z Z Tryz.underlying193 Z (by exact ti3))<|Zp 8 Z Z Z Z Z (sto 1 Z Z (fP (z8u _)) Z ti3)<|Zf 9 Z Z z31 (faB 1 Z Z Tryz.underlying193 Z (by exact zi7))<|hSpl (R:=z2p) 1 Z (Sp.via (Sp.prod (Sp.prod (Sp.prod Sp.unit))))<|Zp 10 Z Z Z Z Z (stoE 1 Z Z (z87.cast (z87.next z2e (z87.here z2e)) Z) Z z1c z06 zi7)<|z3f (by kernel_rfl)<|z0j<|gSR<|zxr [.rd (z2o 8 z0r) (({ s6.1 with N:=w64 (s6.1.N+(a1.length:Int)) }).Words),.rd (z02 u8R) r14,.rd z07 (({ s6.1 with N:=w64 (s6.1.N+(a1.length:Int)) }).N)] 1 1020 [.rd (z2o 8 z0r) (({ s6.1 with N:=w64 (s6.1.N+(a1.length:Int)) }).Words)] [.rd z07 (({ s6.1 with N:=w64 (s6.1.N+(a1.length:Int)) }).N)] Z Z Z Z Z<|zbb (R:=z2p) (⟨({ s6.1 with N:=w64 (s6.1.N+(a1.length:Int)) }).Words,r14,({ s6.1 with N:=w64 (s6.1.N+(a1.length:Int)) }).N⟩:z2g) 1 Z (Sp.via (Sp.prod (Sp.prod (Sp.prod Sp.unit))))<|Zq (ld 1 Z Z fH zs3 Z)<|z8t u8R [.rd (z2o 8 z0r) (Vector.replicate 8 0),.rd (z02 u8R) [],.rd z07 0] 2 [.rd (z2o 8 z0r) (Vector.replicate 8 0)] [.rd z07 0] Z Z Z<|zbb (R:=z2p) (⟨(Vector.replicate 8 0),[],0⟩:z2g) 2 Z (Sp.via (Sp.prod (Sp.prod (Sp.prod Sp.unit))))<|Es (sto 2 Z Z fH Z zn8)<|Zn<|z0g<|zap [] [1001] Z (eC 2 Z Z zs3<|eN) (y1 Z)
  ·
   refine zzn 6 [] [(100,1020)] Z Z (gd0 Z) Z Tryz.func182 Z Z (z94 _) (Y1 Z) rN Z (fun _ _=>z31) fun r16 n17=>hRun 1 Z (by kernel_rfl) (gd0 Z) Z Z z34 (ld 1 Z Z (fP (z8u _)) ty3 Z)<|hTk 4 Z Z (I.add Z Z)<|hTk 7 Z Z (faB 1 Z Z Tryz.underlying193 Z (by exact ti3))<|Zp 8 Z Z Z Z Z (sto 1 Z Z (fP (z8u _)) Z ti3)<|Zf 9 Z Z z31 (faB 1 Z Z Tryz.underlying193 Z (by exact zi7))<|hSpl (R:=z2p) 1 Z (Sp.via (Sp.prod (Sp.prod (Sp.prod Sp.unit))))<|Zp 10 Z Z Z Z Z (stoE 1 Z Z (z87.cast (z87.next z2e (z87.here z2e)) Z) Z z1c z06 zi7)<|z3f (by kernel_rfl)<|z0j<|gSR<|zxr [.rd (z2o 8 z0r) (({ s6.1 with N:=w64 (s6.1.N+(a1.length:Int)) }).Words),.rd (z02 u8R) r16,.rd z07 (({ s6.1 with N:=w64 (s6.1.N+(a1.length:Int)) }).N)] 1 1020 [.rd (z2o 8 z0r) (({ s6.1 with N:=w64 (s6.1.N+(a1.length:Int)) }).Words)] [.rd z07 (({ s6.1 with N:=w64 (s6.1.N+(a1.length:Int)) }).N)] Z Z Z Z Z<|zbb (R:=z2p) (⟨({ s6.1 with N:=w64 (s6.1.N+(a1.length:Int)) }).Words,r16,({ s6.1 with N:=w64 (s6.1.N+(a1.length:Int)) }).N⟩:z2g) 1 Z (Sp.via (Sp.prod (Sp.prod (Sp.prod Sp.unit))))<|Zq (ld 1 Z Z fH zs3 Z)<|z8t u8R [.rd (z2o 8 z0r) (Vector.replicate 8 0),.rd (z02 u8R) [],.rd z07 0] 2 [.rd (z2o 8 z0r) (Vector.replicate 8 0)] [.rd z07 0] Z Z Z<|zbb (R:=z2p) (⟨(Vector.replicate 8 0),[],0⟩:z2g) 2 Z (Sp.via (Sp.prod (Sp.prod (Sp.prod Sp.unit))))<|Es (sto 2 Z Z fH Z zn8)<|Zn<|z0g<|zap [] [1001] Z (eC 2 Z Z zs3<|eN) (y1 Z)
def za9 (y3:UInt64) (s9:(List UInt8) × Int):Option (Sum ((List UInt8)) ((List UInt8) × Int)) :=
 if decide (0≤s9.2) then
  chk (0≤s9.2) >>= fun u12 =>
  app 1 s9.1 [(z79 y3 ((s9.2:Int).toNat)).toUInt8] >>= fun x15 =>
  some (w64 (s9.2 - 8)) >>= fun y18 =>
  some (.inr (x15,y18))
 else
  some (.inl s9.1)
def z8m (r21:z2g) (s23:V3 × Int):Option (Sum (V3) (V3 × Int)) :=
 if decide (s23.2<8) then
  z5y r21.Words s23.2 >>= fun x25 =>
  z5y s23.1 (w64 (4 * s23.2)) >>= fun x27 =>
  z5y (zdr s23.1 (w64 (4 * s23.2)) ((z4g x25 24).toUInt8)) (w64 ((w64 (4 * s23.2))+1)) >>= fun x29 =>
  z5y (zdr (zdr s23.1 (w64 (4 * s23.2)) ((z4g x25 24).toUInt8)) (w64 ((w64 (4 * s23.2))+1)) ((z4g x25 16).toUInt8)) (w64 ((w64 (4 * s23.2))+2)) >>= fun x31 =>
  z5y (zdr (zdr (zdr s23.1 (w64 (4 * s23.2)) ((z4g x25 24).toUInt8)) (w64 ((w64 (4 * s23.2))+1)) ((z4g x25 16).toUInt8)) (w64 ((w64 (4 * s23.2))+2)) ((z4g x25 8).toUInt8)) (w64 ((w64 (4 * s23.2))+3)) >>= fun x33 =>
  some (.inr (zdr (zdr (zdr (zdr s23.1 (w64 (4 * s23.2)) ((z4g x25 24).toUInt8)) (w64 ((w64 (4 * s23.2))+1)) ((z4g x25 16).toUInt8)) (w64 ((w64 (4 * s23.2))+2)) ((z4g x25 8).toUInt8)) (w64 ((w64 (4 * s23.2))+3)) x25.toUInt8,w64 (s23.2+1)))
 else
  some (.inl s23.1)
def zgg (a0:z2g):Option (V3) :=
 some ((UInt64.ofInt a0.N) * 8) >>= fun y3 =>
 appz 1 [128] 0 (Int.tmod (w64 (119 - (Int.tmod a0.N 64))) 64) >>= fun x5 =>
 (iter (za9 y3) (x5,56)) >>= fun s8 =>
 (zao a0 s8 >>= fun r21 =>
 iter (z8m r21) ((Vector.replicate 32 0),0)) >>= fun s20 =>
 some s20
theorem zox (a0:z2g):z1w Tryz.prog 156 [.rd z2p a0] [zG1] (zgg a0) (fun r nv=>⟨[.rd aZ r],[(1001,some (.bool true,.glob 1 (z2o 64 z0r) z54))]⟩):=by
 refine z2l 66 Tryz.func156 Z Z Z fun H w=>?_
 refine gSR<|Eb Z (bx 1 Z) fun v1=>Eb Z (z5w 2 z5i (.zr (R:=aZ) (x:=(Vector.replicate 32 0)) zku)) fun v2=>Zn<|gSR<|Zq (faB 1 Z Z Tryz.underlying193 Z (by exact ti3))<|Zq (ld 1 Z Z (fP (z8u _)) ty3 Z)<|Zq (I.toU Z tu3 tu56)<|Zq (U.mul Z Z)<|Za Z<|z2d 3 Z fun y3=>Zn<|gSR<|Ef Z (lit (R:=u8R) ([128]:List UInt8) 3 (pP Z Z<|pN) Z tu109 ti5 Z Z) fun v4=>Zq (faB 1 Z Z Tryz.underlying193 Z (by exact ti3))<|Zq (ld 1 Z Z (fP (z8u _)) ty3 Z)<|Zq (I.rem Z Z (by decide))<|Zq (I.sub Z Z)<|Zq (I.rem Z Z (by decide))<|z0w fun x5 h6=>Ef Z (apZO 3 Z Z Z h6 tu109 tu3 ti5 (Zr.num Z) Z) fun v7=>Zb Z<|z7x (fun (s8:(List UInt8)) aa ww=>∃ nv:Nat→Value,Sta (ctx 66 H [zG1] w) [(1,.val (z09 v1 0)),(2,.val (z09 v2 0)),(4,.val (nv 0))] [(1,some (v1,.box 193 [.rd z2p a0])),(2,some (v2,.box 94 [.rd aZ (Vector.replicate 32 0)])),(3,some ((nv 0),.list u8R 5 s8)),zG1] aa ww) ?_ (fun s8=>?_)
 ·
  refine gSR<|Zb Z<|z1h (fun (s9:(List UInt8) × Int) aa ww=>∃ nv:Nat→Value,Sta (ctx 66 H [zG1] w) [(1,.val (z09 v1 0)),(2,.val (z09 v2 0)),(3,.rd z1u y3),(4,.val (nv 0)),(5,.rd z07 s9.2)] [(1,some (v1,.box 193 [.rd z2p a0])),(2,some (v2,.box 94 [.rd aZ (Vector.replicate 32 0)])),(3,some ((nv 0),.list u8R 5 s9.1)),zG1] aa ww) (fun aa ww h=>⟨nvl [v7],Zu h [1,2,3,1001]⟩) (fun s9=>?_)
  refine gEx fun n10=>z0m<|gSR<|Zm Z<|Zq (I.geq Z Z)<|Zj Z (fun h11=>?_) (fun h11=>?_)
  ·
   refine Zt<|z0m<|z43<|z1y<|Zm Z<|Zm Z<|Zm Z<|z0w fun u12 h13=>Zq (U.shr Z Z (z4z h13))<|Zq (U.toB Z tu56 tu5)<|Ef Z (lit (R:=u8R) ([(z79 y3 ((s9.2:Int).toNat)).toUInt8]:List UInt8) 1100 (pP Z Z<|pN) Z tu109 ti5 Z Z) fun v14=>z0w fun x15 h16=>Ef Z (apn 3 Z Z Z (.own 1100 Z) h16 tu109 ti5 Z Z Z) fun v17=>Za Z<|z1k<|z2t<|z0j<|z1y<|Zm Z<|Zq (I.sub Z Z)<|Za Z<|z2d 5 Z fun y18=>z1k<|z1a (fun aa ww h=>⟨nvl [v17],Zu h [1,2,3,1001]⟩)
  ·
   refine z1f<|z0u<|z0v<|z40 (fun aa ww h=>⟨nvl [(n10 0)],Zu h [1,2,3,1001]⟩)
 ·
  refine gEx fun n19=>z7x (fun (s20:V3) aa ww=>Sta (ctx 66 H [zG1] w) [(2,.val (z09 v2 0))] [(2,some (v2,.box 94 [.rd aZ s20])),zG1] aa ww) ?_ (fun s20=>?_)
  ·
   refine gSR<|Zq (ld 1 Z Z fH zs3 Z)<|Zm Z<|zc6 3 [4,31] Z (fS Z<|fS Z<|fN)<|Zc [1001] [] Tryz.func155 Z (zh5 _ _) fun r21 n22=>Zq (fldV Z (zds _) Z Tryz.underlying193 Z zqy)<|Zm Z<|Zn<|z1h (fun (s23:V3 × Int) aa ww=>Sta (ctx 66 H [zG1] w) [(2,.val (z09 v2 0)),(33,.rd (z2o 8 z0r) r21.Words),(34,.rd z07 s23.2)] [(2,some (v2,.box 94 [.rd aZ s23.1])),zG1] aa ww) (fun aa ww h=>Zu h [2,1001]) (fun s23=>?_)
   refine gSR<|Zq (I.lss Z Z)<|Zn<|z0m<|gIf Z Z (fun h24=>?_) (fun h24=>?_)
   ·
    refine Zt<|z0m<|z43<|gSR<|Zm Z<|z0w fun x25 h26=>Zq (idxV Z Z h26 tu176 z5e z7w)<|Za Z<|Zb Z<|z1y<|Zm Z<|Zq (I.mul Z Z)<|Zm Z<|Zq (I.mul Z Z)<|Zq (I.add Z Z)<|Zm Z<|Zq (I.mul Z Z)<|Zq (I.add Z Z)<|Zm Z<|Zq (I.mul Z Z)<|Zq (I.add Z Z)<|Zm Z<|Zq (W.shr Z Z (Int.natCast_nonneg _))<|Zq (W.toB Z tu78 tu5)<|Zm Z<|Zq (W.shr Z Z (Int.natCast_nonneg _))<|Zq (W.toB Z tu78 tu5)<|Zm Z<|Zq (W.shr Z Z (Int.natCast_nonneg _))<|Zq (W.toB Z tu78 tu5)<|Zm Z<|Zq (W.toB Z tu78 tu5)<|z0w fun x27 h28=>Zq (ixB 2 Z Z Z h28 tu94 ti5)<|Es (sto 2 Z Z (fP (.el h28)) Z ti5)<|z0w fun x29 h30=>Zq (ixB 2 Z Z Z h30 tu94 ti5)<|Es (sto 2 Z Z (fP (.el h30)) Z ti5)<|z0w fun x31 h32=>Zq (ixB 2 Z Z Z h32 tu94 ti5)<|Es (sto 2 Z Z (fP (.el h32)) Z ti5)<|z0w fun x33 h34=>Zq (ixB 2 Z Z Z h34 tu94 ti5)<|Es (sto 2 Z Z (fP (.el h34)) Z ti5)<|z1k<|z2t<|z0j<|z1y<|Zq (I.add Z Z)<|Zm Z<|z1k<|z1a (fun aa ww h=>Zu h [2,1001])
   ·
    refine z1f<|z0u<|z0v<|z40 (fun aa ww h=>Zu h [2,1001])
  ·
   refine gSR<|Zq (ld 2 Z Z fH z8z Z)<|Es (sto 2 Z Z fH Z z5i)<|Zn<|z0g<|zap [] [1001] Z (eC 2 Z Z z8z<|eN) (y1 Z)
def z17 (a0:List (List UInt8)) (s2:Int):Option (Sum (Sum Int Unit) Int) :=
 if decide (s2<(a0.length:Int)) then
  idx a0 s2 >>= fun x4 =>
  zcm x4 >>= fun r6 =>
  if r6 then
   some (.inl (.inl s2))
  else
   some (.inr (w64 (s2+1)))
 else
  some (.inl (.inr ()))
def z2s (a0:List (List UInt8)):Option (Int) :=
 z3g (iter (z17 a0) 0) fun s1 =>
 some (-1)
theorem z71 (a0:List (List UInt8)):z1w Tryz.prog 180 [.rd (z02 (z02 u8R)) a0,.val (.func (.func 153) #[] #[])] [] (z2s a0) (fun r nv=>⟨[.rd z07 r],[]⟩):=by
 refine z2l 19 Tryz.func180 Z Z Z fun H w=>?_
 refine gSR<|Zb Z<|z42 (fun (s1:Unit) aa ww=>Sta (ctx 19 H [] w) [] [] aa ww) ?_ (fun s1=>?_)
 ·
  refine gSR<|Zm Z<|Zq (z2w Z .rd Z tu154)<|Zm Z<|Zn<|z1h (fun (s2:Int) aa ww=>Sta (ctx 19 H [] w) [(0,.rd (z02 (z02 u8R)) a0),(1,.val (.func (.func 153) #[] #[])),(7,.rd z07 (a0.length:Int)),(8,.rd z07 s2)] [] aa ww) (fun aa ww h=>Zu h []) (fun s2=>?_)
  refine gSR<|Zq (I.lss Z Z)<|Zn<|z0m<|gIf Z Z (fun h3=>?_) (fun h3=>?_)
  ·
   refine Zt<|z0m<|z43<|gSR<|Zm Z<|Zb Z<|gSR<|Zm Z<|Zm Z<|Zm Z<|z0w fun x4 h5=>Zq (ixR Z Z h5 tu154 zi7 Z)<|Zq (ldR Z zzv)<|zwk [] [] (gd0 Z) Z Z Tryz.func153 Z Z (zj4 _) (Y1 Z) (cN) rN fun r6 n7=>Zj Z (fun h8=>?_) (fun h8=>?_)
   ·
    refine gSR<|Zm Z<|Zb Z<|z0g<|z2j<|z0l<|z3e<|z2z<|Ze [] [] Z
   ·
    refine z24<|z2t<|z0j<|z1y<|Zq (I.add Z Z)<|Zm Z<|z1k<|z1a (fun aa ww h=>Zu h [])
  ·
   refine z1f<|z0u<|z0v<|z3k (fun aa ww h=>Zu h [])
 ·
  refine gSR<|Zb Z<|z0g<|Ze [] [] Z
def z1j (a0:List (List UInt8)):Option (Bool) :=
 z2s a0 >>= fun r1 =>
 some (decide (0≤r1)) >>= fun y3 =>
 some y3
theorem z6m (a0:List (List UInt8)):z1w Tryz.prog 152 [.rd (z02 (z02 u8R)) a0,.val (.func (.func 153) #[] #[])] [] (z1j a0) (fun r nv=>⟨[.rd z0p r],[]⟩):=by
 refine z2l 9 Tryz.func152 Z Z Z fun H w=>?_
 refine gSR<|Zb Z<|gSR<|Zm Z<|Zm Z<|Zc [] [] Tryz.func180 Z (z71 _) fun r1 n2=>Zq (I.geq Z Z)<|Za Z<|z2d 4 Z fun y3=>Zn<|z0g<|Ze [] [] Z
def z7l (a0:List (List UInt8)) (s11:z2g × Int):Option (Sum z2g (z2g × Int)) :=
 if decide (s11.2<(a0.length:Int)) then
  idx a0 s11.2 >>= fun x13 =>
  zao s11.1 x13 >>= fun r15 =>
  some (.inr (r15,w64 (s11.2+1)))
 else
  some (.inl s11.1)
def za7 (a0:List (List UInt8)):Option (V3 × Int) :=
 (if decide (20<(a0.length:Int)) then
  some true
 else
  z1j a0 >>= fun r4 =>
  some r4) >>= fun s2 =>
 if s2 then
  some ((Vector.replicate 32 0),4)
 else
  zd3 >>= fun r7 =>
  (iter (z7l a0) (r7,0)) >>= fun s10 =>
  zgg s10 >>= fun r17 =>
  some (r17,0)
theorem zf7 (a0:List (List UInt8)):z1w Tryz.prog 121 [.rd (z02 (z02 u8R)) a0] [zG1] (za7 a0) (fun r nv=>⟨[.rd aZ r.1,.rd z07 r.2],[(1001,some (.bool true,.glob 1 (z2o 64 z0r) z54))]⟩):=by
 refine z2l 28 Tryz.func121 Z Z Z fun H w=>?_
 refine gSR<|Eb Z (z5w 1 z5i (.zr (R:=aZ) (x:=(Vector.replicate 32 0)) zku)) fun v1=>Zb Z<|z0m<|z7x (fun (s2:Bool) aa ww=>Sta (ctx 28 H [zG1] w) [(0,.rd (z02 (z02 u8R)) a0),(2,.val (z09 v1 0)),(13,.rd z0p s2)] [(1,some (v1,.box 94 [.rd aZ (Vector.replicate 32 0)])),zG1] aa ww) ?_ (fun s2=>?_)
 ·
  refine z1y<|Zm Z<|Zq (z2w Z .rd Z tu154)<|Zq (I.gtr Z Z)<|Zm Z<|z15 10 Z (fun h3=>?_) (fun h3=>?_)
  ·
   refine lKn 9 Z h3<|Zk Z<|Zk Z<|Zq (pkT Z Z)<|z1k<|z40 (fun aa ww h=>Zu h [1,1001])
  ·
   refine lKn 9 Z h3<|z0y Zx Z Z (mv Z)<|zdo [] [] Zx Z Tryz.func152 Z Z (z6m _) (Y2 Z Z) rN fun r4 n5=>Zq (pkF Z Z)<|z1k<|z40 (fun aa ww h=>Zu h [1,1001])
 ·
  refine gIf Z Z (fun h6=>?_) (fun h6=>?_)
  ·
   refine gSR<|Zq (bldG (x':=((Vector.replicate 32 0):V3)) tu94 z5i zku ti5 (Bld.done Z))<|Es (sto 1 Z Z fH Z z5i)<|Zb Z<|z0g<|z0l<|zap [] [1001] Z (eC 1 Z Z z8z<|eE Z<|eN) (y1 Z)
  ·
   refine Zt<|gSR<|Zc [] [] Tryz.func154 Z (zm2) fun r7 n8=>Eb Z (z5w 1100 zn8 (ZrE.rd (R:=(z2o 8 z0r)) (x:=(Vector.replicate 8 0)) zrk (ZrE.nilS (ZrE.rd (R:=z07) (x:=0) (Zr.num Z) ZrE.nil Z)) Z)) fun v9=>z8t u8R [.rd (z2o 8 z0r) (Vector.replicate 8 0),.rd (z02 u8R) [],.rd z07 0] 1100 [.rd (z2o 8 z0r) (Vector.replicate 8 0)] [.rd z07 0] Z Z Z<|zbb (R:=z2p) (⟨(Vector.replicate 8 0),[],0⟩:z2g) 1100 Z (Sp.via (Sp.prod (Sp.prod (Sp.prod Sp.unit))))<|Es (sto 1100 Z Z fH Z zn8)<|Zn<|z7x (fun (s10:z2g) aa ww=>Sta (ctx 28 H [zG1] w) [(2,.val (z09 v1 0)),(4,.val (z09 v9 0))] [(1,some (v1,.box 94 [.rd aZ (Vector.replicate 32 0)])),(1100,some (v9,.box 193 [.rd z2p s10])),zG1] aa ww) ?_ (fun s10=>?_)
   ·
    refine gSR<|Zm Z<|Zq (z2w Z .rd Z tu154)<|Zm Z<|Zn<|z1h (fun (s11:z2g × Int) aa ww=>Sta (ctx 28 H [zG1] w) [(2,.val (z09 v1 0)),(4,.val (z09 v9 0)),(16,.rd (z02 (z02 u8R)) a0),(17,.rd z07 (a0.length:Int)),(18,.rd z07 s11.2)] [(1,some (v1,.box 94 [.rd aZ (Vector.replicate 32 0)])),(1100,some (v9,.box 193 [.rd z2p s11.1])),zG1] aa ww) (fun aa ww h=>Zu h [1,1100,1001]) (fun s11=>?_)
    refine gSR<|Zq (I.lss Z Z)<|Zn<|z0m<|gIf Z Z (fun h12=>?_) (fun h12=>?_)
    ·
     refine Zt<|z0m<|z43<|gSR<|z0w fun x13 h14=>Zq (ixR Z Z h14 tu154 zi7 Z)<|Zq (ldR Z zzv)<|Zb Z<|z1y<|Zq (ld 1100 Z Z fH zs3 Z)<|Zm Z<|Zc [1001] [] Tryz.func155 Z (zh5 _ _) fun r15 n16=>Es (sto 1100 Z Z fH Z zn8)<|z1k<|z2t<|z0j<|z1y<|Zq (I.add Z Z)<|Zm Z<|z1k<|z1a (fun aa ww h=>Zu h [1,1100,1001])
    ·
     refine z1f<|z0u<|z0v<|z40 (fun aa ww h=>Zu h [1,1100,1001])
   ·
    refine gSR<|Zq (ld 1100 Z Z fH zs3 Z)<|Zc [1001] [] Tryz.func156 Z (zox _) fun r17 n18=>Es (sto 1 Z Z fH Z z5i)<|Zb Z<|z0g<|zap [] [1001] Z (eC 1 Z Z z8z<|eE Z<|eN) (y1 Z)
def zgd (a0:List UInt8):Option (V3 × Int) :=
 za7 [a0] >>= fun r3 =>
 some (r3.1,r3.2)
theorem zow (a0:List UInt8):z1w Tryz.prog 94 [.rd (z02 u8R) a0] [zG1] (zgd a0) (fun r nv=>⟨[.rd aZ r.1,.rd z07 r.2],[(1001,some (.bool true,.glob 1 (z2o 64 z0r) z54))]⟩):=by
 refine z2l 9 Tryz.func94 Z Z Z fun H w=>?_
 refine gSR<|Eb Z (z5w 1 z5i (.zr (R:=aZ) (x:=(Vector.replicate 32 0)) zku)) fun v1=>Zb Z<|gSR<|Zm Z<|Ef Z (lit (R:=(z02 u8R)) ([a0]:List (List UInt8)) 2 (pP Z Z<|pN) Z tu154 zi7 Z Z) fun v2=>zc6 2 [5] Z (fS Z<|fN)<|Zc [1001] [] Tryz.func121 Z (zf7 _) fun r3 n4=>Zq (ext Z Z)<|Zq (ext Z Z)<|Es (sto 1 Z Z fH Z z5i)<|Zb Z<|z0g<|zap [] [1001] Z (eC 1 Z Z z8z<|eE Z<|eN) (y1 Z)
def zyf (a0:z04):Option (V3 × Int) :=
 ze7 a0 >>= fun r3 =>
 if r3.2 != 0 then
  some ((Vector.replicate 32 0),r3.2)
 else
  zgd r3.1 >>= fun r6 =>
  some (r6.1,r6.2)
theorem zuf (a0:z04):z1w Tryz.prog 65 [.rd z03 a0] [zG1] (zyf a0) (fun r nv=>⟨[.rd aZ r.1,.rd z07 r.2],[(1001,some (.bool true,.glob 1 (z2o 64 z0r) z54))]⟩):=by
 refine z2l 19 Tryz.func65 Z Z Z fun H w=>?_
 refine gSR<|Eb Z (bx 1 Z) fun v1=>Eb Z (z5w 2 z5i (.zr (R:=aZ) (x:=(Vector.replicate 32 0)) zku)) fun v2=>Zb Z<|gSR<|Zq (ld 1 Z Z fH zbe Z)<|Zc [] [(100,3)] Tryz.func93 Z (zq0 _) fun r3 n4=>Zm Z<|Zq (ext Z Z)<|Zq (ext Z Z)<|Za Z<|Zb Z<|z0m<|gSR<|Zm Z<|Zq (I.neq Z Z)<|Zj Z (fun h5=>?_) (fun h5=>?_)
 ·
  refine gSR<|Zq (bldG (x':=((Vector.replicate 32 0):V3)) tu94 z5i zku ti5 (Bld.done Z))<|Zm Z<|Es (sto 2 Z Z fH Z z5i)<|Zb Z<|z0g<|z0l<|zap [] [1001] Z (eC 2 Z Z z8z<|eE Z<|eN) (y1 Z)
 ·
  refine Zt<|gSR<|Zm Z<|zc6 3 [9,4,15] Z (fS Z<|fS Z<|fS Z<|fN)<|Zc [1001] [] Tryz.func94 Z (zow _) fun r6 n7=>Zq (ext Z Z)<|Zq (ext Z Z)<|Es (sto 2 Z Z fH Z z5i)<|Zb Z<|z0g<|zap [] [1001] Z (eC 2 Z Z z8z<|eE Z<|eN) (y1 Z)
def z4x (a0:List UInt32) (s2:Int):Option (Sum (Sum Bool Unit) Int) :=
 if decide (s2<(a0.length:Int)) then
  idx a0 s2 >>= fun x4 =>
  zgk x4 >>= fun r6 =>
  if !r6 then
   some (.inl (.inl false))
  else
   some (.inr (w64 (s2+1)))
 else
  some (.inl (.inr ()))
def zcr (a0:List UInt32):Option (Bool) :=
 z3g (iter (z4x a0) 0) fun s1 =>
 some true
theorem zk2 (a0:List UInt32):z1w Tryz.prog 151 [.rd (z02 z0r) a0] [] (zcr a0) (fun r nv=>⟨[.rd z0p r],[]⟩):=by
 refine z2l 15 Tryz.func151 Z Z Z fun H w=>?_
 refine gSR<|Zb Z<|z42 (fun (s1:Unit) aa ww=>Sta (ctx 15 H [] w) [] [] aa ww) ?_ (fun s1=>?_)
 ·
  refine gSR<|Zm Z<|Zq (z2w Z .rd Z tu188)<|Zm Z<|Zn<|z1h (fun (s2:Int) aa ww=>Sta (ctx 15 H [] w) [(5,.rd (z02 z0r) a0),(6,.rd z07 (a0.length:Int)),(7,.rd z07 s2)] [] aa ww) (fun aa ww h=>Zu h []) (fun s2=>?_)
  refine gSR<|Zq (I.lss Z Z)<|Zn<|z0m<|gIf Z Z (fun h3=>?_) (fun h3=>?_)
  ·
   refine Zt<|z0m<|z43<|gSR<|z0w fun x4 h5=>Zq (ixR Z Z h5 tu188 z5e Z)<|Zq (ldR Z z7w)<|Zb Z<|gSR<|Zm Z<|Zc [] [] Tryz.func110 Z (zhi _) fun r6 n7=>Zq (zct Z)<|Zj Z (fun h8=>?_) (fun h8=>?_)
   ·
    refine gSR<|Zb Z<|z0g<|z2j<|z0l<|z3e<|z2z<|Ze [] [] Z
   ·
    refine z24<|z2t<|z0j<|z1y<|Zq (I.add Z Z)<|Zm Z<|z1k<|z1a (fun aa ww h=>Zu h [])
  ·
   refine z1f<|z0u<|z0v<|z3k (fun aa ww h=>Zu h [])
 ·
  refine gSR<|Zb Z<|z0g<|Ze [] [] Z
def zlj (a0:UInt32) (a1:UInt64):Option (UInt32 × Int) :=
 zcr [a0] >>= fun r2 =>
 if !r2 then
  some (0,2)
 else
  zdt a0 a1 >>= fun r5 =>
  some (r5,0)
end
section
open Go Go.RowKit
set_option maxRecDepth 100000
theorem zqr (a0:UInt32) (a1:UInt64):z1w Tryz.prog 119 [.rd z0r a0,.rd z1u a1] [] (zlj a0 a1) (fun r nv=>⟨[.rd z0r r.1,.rd z07 r.2],[]⟩):=by
 refine z2l 13 Tryz.func119 Z Z Z fun H w=>?_
 refine gSR<|Za Z<|Zb Z<|z0m<|gSR<|Zm Z<|Ef Z (lit (R:=z0r) ([a0]:List UInt32) 1 (pP Z Z<|pN) Z tu188 z5e Z Z) fun v1=>zc6 1 [7] Z (fS Z<|fN)<|Zc [] [] Tryz.func151 Z (zk2 _) fun r2 n3=>Zq (zct Z)<|Zj Z (fun h4=>?_) (fun h4=>?_)
 ·
  refine gSR<|Za Z<|Zb Z<|z0g<|z0l<|Ze [] [] Z
 ·
  refine Zt<|gSR<|Zm Z<|Zm Z<|Zc [] [] Tryz.func107 Z (zfj _ _) fun r5 n6=>Za Z<|Zb Z<|z0g<|Ze [] [] Z
def zaw (a0:UInt64):Option (UInt32) :=
 zdt 4 a0 >>= fun r1 =>
 some r1
theorem zez (a0:UInt64):z1w Tryz.prog 81 [.rd z1u a0] [] (zaw a0) (fun r nv=>⟨[.rd z0r r],[]⟩):=by
 refine z2l 5 Tryz.func81 Z Z Z fun H w=>?_
 refine gSR<|Zb Z<|gSR<|Zm Z<|Zc [] [] Tryz.func107 Z (zfj _ _) fun r1 n2=>Zb Z<|z0g<|Ze [] [] Z
def zm8 (a0:UInt32) (a1:UInt32):Option (UInt32 × Int) :=
 zcr [a0,a1] >>= fun r2 =>
 if !r2 then
  some (0,2)
 else
  zah 1000000007 [a0,a1] >>= fun r6 =>
  some (r6,0)
theorem zqd (a0:UInt32) (a1:UInt32):z1w Tryz.prog 120 [.rd z0r a0,.rd z0r a1] [] (zm8 a0 a1) (fun r nv=>⟨[.rd z0r r.1,.rd z07 r.2],[]⟩):=by
 refine z2l 15 Tryz.func120 Z Z Z fun H w=>?_
 refine gSR<|Za Z<|Zb Z<|z0m<|gSR<|Zm Z<|Zm Z<|Ef Z (lit (R:=z0r) ([a0,a1]:List UInt32) 1 (pP Z Z<|pP Z Z<|pN) Z tu188 z5e Z Z) fun v1=>zc6 1 [8] Z (fS Z<|fN)<|Zc [] [] Tryz.func151 Z (zk2 _) fun r2 n3=>Zq (zct Z)<|Zj Z (fun h4=>?_) (fun h4=>?_)
 ·
  refine gSR<|Za Z<|Zb Z<|z0g<|z0l<|Ze [] [] Z
 ·
  refine Zt<|gSR<|Zm Z<|Zm Z<|Ef Z (lit (R:=z0r) ([a0,a1]:List UInt32) 2 (pP Z Z<|pP Z Z<|pN) Z tu188 z5e Z Z) fun v5=>zc6 2 [13] Z (fS Z<|fN)<|Zc [] [] Tryz.func118 Z (zd9 _ _) fun r6 n7=>Za Z<|Zb Z<|z0g<|Ze [] [] Z
def z3y (a2:List UInt32) (s4:(List UInt8) × Int):Option (Sum ((List UInt8)) ((List UInt8) × Int)) :=
 if decide (s4.2<(a2.length:Int)) then
  idx a2 s4.2 >>= fun x7 =>
  app 1 s4.1 [(z4g x7 24).toUInt8,(z4g x7 16).toUInt8,(z4g x7 8).toUInt8,x7.toUInt8] >>= fun x10 =>
  some (.inr (x10,w64 (s4.2+1)))
 else
  some (.inl s4.1)
def zb5 (r15:V3 × Int) (s19:UInt64 × Int):Option (Sum UInt64 (UInt64 × Int)) :=
 if decide (s19.2<(((r15.1.toList.drop 0).take 8).length:Int)) then
  idx ((r15.1.toList.drop 0).take 8) s19.2 >>= fun x21 =>
  some ((zmn s19.1 8) ||| x21.toUInt64) >>= fun y23 =>
  some (.inr (y23,w64 (s19.2+1)))
 else
  some (.inl s19.1)
def zcl (a0:UInt8) (a1:List UInt8) (a2:List UInt32):Option (UInt64 × Int) :=
 if decide (9991<(a1.length:Int)) then
  some (0,4)
 else
  (iter (z3y a2) ([a0],0)) >>= fun s3 =>
  za7 [s3,a1] >>= fun r15 =>
  (iter (zb5 r15) (0,0)) >>= fun s18 =>
  some (s18,r15.2)
theorem zke (a0:UInt8) (a1:List UInt8) (a2:List UInt32):z1w Tryz.prog 117 [.rd u8R a0,.rd (z02 u8R) a1,.rd (z02 z0r) a2] [zG1] (zcl a0 a1 a2) (fun r nv=>⟨[.rd z1u r.1,.rd z07 r.2],[(1001,some (.bool true,.glob 1 (z2o 64 z0r) z54))]⟩):=by
 refine z2l 63 Tryz.func117 Z Z Z fun H w=>?_
 refine gSR<|Za Z<|Zb Z<|z0m<|gSR<|Zm Z<|Zq (z2w Z .rd Z tu109)<|Zq (I.gtr Z Z)<|Zj Z (fun h1=>?_) (fun h1=>?_)
 ·
  refine gSR<|Za Z<|Zb Z<|z0g<|z0l<|Ze [] [1001] Z
 ·
  refine Zt<|gSR<|Zm Z<|Ef Z (lit (R:=u8R) ([a0]:List UInt8) 1 (pP Z Z<|pN) Z tu109 ti5 Z Z) fun v2=>Zb Z<|z7x (fun (s3:(List UInt8)) aa ww=>∃ nv:Nat→Value,Sta (ctx 63 H [zG1] w) [(1,.rd (z02 u8R) a1),(8,.val (nv 0))] [(1,some ((nv 0),.list u8R 5 s3)),zG1] aa ww) ?_ (fun s3=>?_)
  ·
   refine gSR<|Zm Z<|Zq (z2w Z .rd Z tu188)<|Zm Z<|Zn<|z1h (fun (s4:(List UInt8) × Int) aa ww=>∃ nv:Nat→Value,Sta (ctx 63 H [zG1] w) [(1,.rd (z02 u8R) a1),(8,.val (nv 0)),(21,.rd (z02 z0r) a2),(22,.rd z07 (a2.length:Int)),(23,.rd z07 s4.2)] [(1,some ((nv 0),.list u8R 5 s4.1)),zG1] aa ww) (fun aa ww h=>⟨nvl [v2],Zu h [1,1001]⟩) (fun s4=>?_)
   refine gEx fun n5=>gSR<|Zq (I.lss Z Z)<|Zn<|z0m<|gIf Z Z (fun h6=>?_) (fun h6=>?_)
   ·
    refine Zt<|z0m<|z43<|gSR<|z0w fun x7 h8=>Zq (ixR Z Z h8 tu188 z5e Z)<|Zq (ldR Z z7w)<|Zb Z<|z1y<|Zm Z<|Zm Z<|Zq (W.shr Z Z (Int.natCast_nonneg _))<|Zq (W.toB Z tu78 tu5)<|Zm Z<|Zq (W.shr Z Z (Int.natCast_nonneg _))<|Zq (W.toB Z tu78 tu5)<|Zm Z<|Zq (W.shr Z Z (Int.natCast_nonneg _))<|Zq (W.toB Z tu78 tu5)<|Zm Z<|Zq (W.toB Z tu78 tu5)<|Ef Z (lit (R:=u8R) ([(z4g x7 24).toUInt8,(z4g x7 16).toUInt8,(z4g x7 8).toUInt8,x7.toUInt8]:List UInt8) 1100 (pP Z Z<|pP Z Z<|pP Z Z<|pP Z Z<|pN) Z tu109 ti5 Z Z) fun v9=>z0w fun x10 h11=>Ef Z (apn 1 Z Z Z (.own 1100 Z) h11 tu109 ti5 Z Z Z) fun v12=>Za Z<|z1k<|z2t<|z0j<|z1y<|Zq (I.add Z Z)<|Zm Z<|z1k<|z1a (fun aa ww h=>⟨nvl [v12],Zu h [1,1001]⟩)
   ·
    refine z1f<|z0u<|z0v<|z40 (fun aa ww h=>⟨nvl [(n5 0)],Zu h [1,1001]⟩)
  ·
   refine gEx fun n13=>gSR<|Zm Z<|Zm Z<|zc6 1 [8,43] Z (fS Z<|fS Z<|fN)<|Ef Z (lit (R:=(z02 u8R)) ([s3,a1]:List (List UInt8)) 1101 (pP Z Z<|pP Z Z<|pN) Z tu154 zi7 Z Z) fun v14=>zc6 1101 [45] Z (fS Z<|fN)<|Zc [1001] [] Tryz.func121 Z (zf7 _) fun r15 n16=>Zm Z<|Zq (ext Z Z)<|Zq (ext Z Z)<|Eb Z (z5w 1102 z5i (.zr (R:=aZ) (x:=(Vector.replicate 32 0)) zku)) fun v17=>Es (sto 1102 Z Z fH Z z5i)<|Zb Z<|gSR<|Zb Z<|z7x (fun (s18:UInt64) aa ww=>Sta (ctx 63 H [zG1] w) [(12,.rd z07 r15.2),(13,.rd z1u s18)] [zG1] aa ww) ?_ (fun s18=>?_)
   ·
    refine gSR<|z171 1102 11 Z Z<|Zq (z190 (i:=0) (j:=8) Z .no (.to Z) tu94 ti5 (by decide) Z Z Z)<|Zq (z2w Z .rd Z tu109)<|Zm Z<|Zn<|z1h (fun (s19:UInt64 × Int) aa ww=>Sta (ctx 63 H [zG1] w) [(12,.rd z07 r15.2),(13,.rd z1u s19.1),(49,.rd (z02 u8R) ((r15.1.toList.drop 0).take 8)),(50,.rd z07 (((r15.1.toList.drop 0).take 8).length:Int)),(51,.rd z07 s19.2)] [zG1] aa ww) (fun aa ww h=>Zu h [1001]) (fun s19=>?_)
    refine gSR<|Zq (I.lss Z Z)<|Zn<|z0m<|gIf Z Z (fun h20=>?_) (fun h20=>?_)
    ·
     refine Zt<|z0m<|z43<|gSR<|z0w fun x21 h22=>Zq (ixR Z Z h22 tu109 ti5 Z)<|Zq (ldR Z ty5)<|Zb Z<|z1y<|Zm Z<|Zq (U.shl Z Z (Int.natCast_nonneg _))<|Zm Z<|Zq (B.toU Z tu5 tu56)<|Zq (U.or Z Z)<|Za Z<|z2d 13 Z fun y23=>z1k<|z2t<|z0j<|z1y<|Zq (I.add Z Z)<|Zm Z<|z1k<|z1a (fun aa ww h=>Zu h [1001])
    ·
     refine z1f<|z0u<|z0v<|z40 (fun aa ww h=>Zu h [1001])
   ·
    refine gSR<|Zm Z<|Zm Z<|Za Z<|Zb Z<|z0g<|Ze [] [1001] Z
def z90 (a0:UInt32) (a1:UInt32) (a2:List UInt8):Option (UInt32 × Int) :=
 zcl 99 a2 [a0,a1] >>= fun r2 =>
 if r2.2 != 0 then
  some (0,r2.2)
 else
  some ((r2.1 % 500000003).toUInt32) >>= fun y5 =>
  some (y5,0)
theorem ze2 (a0:UInt32) (a1:UInt32) (a2:List UInt8):z1w Tryz.prog 89 [.rd z0r a0,.rd z0r a1,.rd (z02 u8R) a2] [zG1] (z90 a0 a1 a2) (fun r nv=>⟨[.rd z0r r.1,.rd z07 r.2],[(1001,some (.bool true,.glob 1 (z2o 64 z0r) z54))]⟩):=by
 refine z2l 24 Tryz.func89 Z Z Z fun H w=>?_
 refine gSR<|Za Z<|Zb Z<|gSR<|Zm Z<|Zm Z<|Zm Z<|Ef Z (lit (R:=z0r) ([a0,a1]:List UInt32) 1 (pP Z Z<|pP Z Z<|pN) Z tu188 z5e Z Z) fun v1=>zc6 1 [14] Z (fS Z<|fN)<|Zc [1001] [] Tryz.func117 Z (zke _ _ _) fun r2 n3=>Zm Z<|Zq (ext Z Z)<|Zq (ext Z Z)<|Za Z<|Zb Z<|z0m<|gSR<|Zm Z<|Zq (I.neq Z Z)<|Zj Z (fun h4=>?_) (fun h4=>?_)
 ·
  refine gSR<|Zm Z<|Za Z<|Zb Z<|z0g<|z0l<|Ze [] [1001] Z
 ·
  refine Zt<|gSR<|Zm Z<|Zq (U.rem Z Z (by decide))<|Zq (U.toW Z tu56 tu78)<|Za Z<|z2d 6 Z fun y5=>Zb Z<|z0g<|Ze [] [1001] Z
def zey (a0:UInt32) (a1:List UInt8) (a2:z0a):Option (Int) :=
 zgk a0 >>= fun r2 =>
 if !r2 then
  some 2
 else
  if decide (9991<(a1.length:Int)) then
   some 4
  else
   if decide (500000003≤(max a2.E a2.S)) then
    some 22
   else
    zlj a0 (500000003 - a2.E.toUInt64) >>= fun r7 =>
    zaw a2.S.toUInt64 >>= fun r9 =>
    zm8 r9 r7.1 >>= fun r11 =>
    z90 r11.1 a0 a1 >>= fun r13 =>
    if r13.2 != 0 then
     some 22
    else
     if r13.1 != a2.E then
      some 22
     else
      some 0
theorem znj (a0:UInt32) (a1:List UInt8) (a2:z0a):z1w Tryz.prog 92 [.rd z0r a0,.rd (z02 u8R) a1,.rd z0s a2] [zG1] (zey a0 a1 a2) (fun r nv=>⟨[.rd z07 r],[(1001,some (.bool true,.glob 1 (z2o 64 z0r) z54))]⟩):=by
 refine z2l 58 Tryz.func92 Z Z Z fun H w=>?_
 refine gSR<|Eb Z (bx 1 Z) fun v1=>Zb Z<|z0m<|gSR<|Zm Z<|Zc [] [] Tryz.func110 Z (zhi _) fun r2 n3=>Zq (zct Z)<|Zj Z (fun h4=>?_) (fun h4=>?_)
 ·
  refine gSR<|Zb Z<|z0g<|z0l<|Ze [] [1001] Z
 ·
  refine Zt<|z0m<|gSR<|Zm Z<|Zq (z2w Z .rd Z tu109)<|Zq (I.gtr Z Z)<|Zj Z (fun h5=>?_) (fun h5=>?_)
  ·
   refine gSR<|Zb Z<|z0g<|z0l<|Ze [] [1001] Z
  ·
   refine Zt<|z0m<|gSR<|Zq (faB 1 Z Z Tryz.underlying84 Z (by exact z5e))<|Zq (ld 1 Z Z (fP (z4w _)) z7w Z)<|Zq (faB 1 Z Z Tryz.underlying84 Z (by exact z5e))<|Zq (ld 1 Z Z (fP (z6f _)) z7w Z)<|Zq (W.max Z Z)<|Zq (W.geq Z Z)<|Zj Z (fun h6=>?_) (fun h6=>?_)
   ·
    refine gSR<|Zb Z<|z0g<|z0l<|Ze [] [1001] Z
   ·
    refine Zt<|gSR<|Zm Z<|Zq (faB 1 Z Z Tryz.underlying84 Z (by exact z5e))<|Zq (ld 1 Z Z (fP (z4w _)) z7w Z)<|Zq (W.toU Z tu78 tu56)<|Zq (U.sub Z Z)<|Zc [] [] Tryz.func119 Z (zqr _ _) fun r7 n8=>Zm Z<|Zq (ext Z Z)<|Zq (ext Z Z)<|Za Z<|Zb Z<|gSR<|Zq (faB 1 Z Z Tryz.underlying84 Z (by exact z5e))<|Zq (ld 1 Z Z (fP (z6f _)) z7w Z)<|Zq (W.toU Z tu78 tu56)<|Zc [] [] Tryz.func81 Z (zez _) fun r9 n10=>Zm Z<|Zc [] [] Tryz.func120 Z (zqd _ _) fun r11 n12=>Zm Z<|Zq (ext Z Z)<|Zq (ext Z Z)<|Za Z<|Zb Z<|z0m<|gSR<|Zm Z<|Zm Z<|Zm Z<|Zc [1001] [] Tryz.func89 Z (ze2 _ _ _) fun r13 n14=>Zm Z<|Zq (ext Z Z)<|Zq (ext Z Z)<|Za Z<|Zb Z<|gSR<|Zm Z<|Zq (I.neq Z Z)<|Zm Z<|z15 52 Z (fun h15=>?_) (fun h15=>?_)
    ·
     refine lKn 51 Z h15<|Zk Z<|Zk Z<|Zk Z<|Zk Z<|Zq (pkT Z Z)<|Zn<|zcu Z<|gSR<|Zb Z<|z0g<|z0l<|Ze [] [1001] Z
    ·
     refine lKn 51 Z h15<|z0y Zx Z Z (mv Z)<|z0y Zx Z Z (faB 1 Z Z Tryz.underlying84 Z (by exact z5e))<|z0y Zx Z Z (ld 1 Z Z (fP (z4w _)) z7w Z)<|z0y Zx Z Z (W.neq Z Z)<|Zq (pkF Z Z)<|Zj Z (fun h16=>?_) (fun h16=>?_)
     ·
      refine gKn 56 Z h16<|gSR<|Zb Z<|z0g<|z0l<|Ze [] [1001] Z
     ·
      refine gKn 56 Z h16<|Zt<|gSR<|Zb Z<|z0g<|Ze [] [1001] Z
def zg4 (a0:z04):Option (Int) :=
 zeh a0 >>= fun r2 =>
 if r2 != 0 then
  some r2
 else
  zas a0 >>= fun r5 =>
  zey a0.Author r5.1 a0.Sig >>= fun r7 =>
  some r7
theorem zk7 (a0:z04):z1w Tryz.prog 64 [.rd z03 a0] [zG1] (zg4 a0) (fun r nv=>⟨[.rd z07 r],[(1001,some (.bool true,.glob 1 (z2o 64 z0r) z54))]⟩):=by
 refine z2l 22 Tryz.func64 Z Z Z fun H w=>?_
 refine gSR<|Eb Z (bx 1 Z) fun v1=>Zb Z<|z0m<|gSR<|Zq (ld 1 Z Z fH zbe Z)<|Zc [] [] Tryz.func82 Z (zht _) fun r2 n3=>Zb Z<|gSR<|Zm Z<|Zq (I.neq Z Z)<|Zj Z (fun h4=>?_) (fun h4=>?_)
 ·
  refine gSR<|Zm Z<|Zb Z<|z0g<|z0l<|Ze [] [1001] Z
 ·
  refine Zt<|gSR<|Zq (ld 1 Z Z fH zbe Z)<|Zc [] [(100,2)] Tryz.func62 Z (zes _) fun r5 n6=>Zm Z<|Zq (ext Z Z)<|Zq (ext Z Z)<|Za Z<|Zb Z<|gSR<|Zq (faB 1 Z Z Tryz.underlying86 Z (by exact z5e))<|Zq (ld 1 Z Z (fP (z23 _)) z7w Z)<|Zm Z<|Zq (faB 1 Z Z Tryz.underlying86 Z (by exact zjr))<|Zq (ld 1 Z Z (fP (z1x _)) ty84 Z)<|zc6 2 [14,4,18] Z (fS Z<|fS Z<|fS Z<|fN)<|Zc [1001] [] Tryz.func92 Z (znj _ _ _) fun r7 n8=>Zb Z<|z0g<|Ze [] [1001] Z
def z58 (s4:UInt64 × (List UInt8)):Option (Sum ((List UInt8)) (UInt64 × (List UInt8))) :=
 if decide (0<s4.1) then
  app 1 s4.2 [(s4.1 % 256).toUInt8] >>= fun x8 =>
  some (.inr (s4.1 / 256,x8))
 else
  some (.inl s4.2)
def z5a (s3:(List UInt8)) (s15:(List UInt8) × Int):Option (Sum ((List UInt8)) ((List UInt8) × Int)) :=
 if decide (0≤s15.2) then
  idx s3 s15.2 >>= fun x18 =>
  app 1 s15.1 [x18] >>= fun x21 =>
  some (w64 (s15.2 - 1)) >>= fun y24 =>
  some (.inr (x21,y24))
 else
  some (.inl s15.1)
def z2i (a0:UInt64):Option ((List UInt8)) :=
 if decide (a0≤247) then
  some [a0.toUInt8]
 else
  (iter (z58) (a0,[])) >>= fun s3 =>
  (some (w64 ((s3.length:Int) - 1)) >>= fun y14 =>
  iter (z5a s3) ([UInt8.ofInt (w64 (247+(s3.length:Int)))],y14)) >>= fun s13 =>
  some s13
theorem z2y (a0:UInt64):z1w Tryz.prog 143 [.rd z1u a0] [] (z2i a0) (fun r nv=>⟨[.val (nv 0)],[(100,some (nv 0,.list u8R 5 r))]⟩):=by
 refine z2l 41 Tryz.func143 Z Z Z fun H w=>?_
 refine gSR<|Zb Z<|z0m<|gSR<|Zm Z<|Zq (U.leq Z Z)<|Zj Z (fun h1=>?_) (fun h1=>?_)
 ·
  refine gSR<|Zm Z<|Zq (U.toB Z tu56 tu5)<|Ef Z (lit (R:=u8R) ([a0.toUInt8]:List UInt8) 1 (pP Z Z<|pN) Z tu109 ti5 Z Z) fun v2=>Zb Z<|z0g<|z0l<|Ze [v2] [1] Z
 ·
  refine Zt<|gSR<|Zb Z<|z7x (fun (s3:(List UInt8)) aa ww=>∃ nv:Nat→Value,Sta (ctx 41 H [] w) [(3,.val (nv 0))] [(3,some ((nv 0),.list u8R 5 s3))] aa ww) ?_ (fun s3=>?_)
  ·
   refine zps u8R 5 6<|z1h (fun (s4:UInt64 × (List UInt8)) aa ww=>∃ nv:Nat→Value,Sta (ctx 41 H [] w) [(0,.rd z1u s4.1),(3,.val (nv 0))] [(5,some ((nv 0),.list u8R 5 s4.2))] aa ww) (fun aa ww h=>⟨nvl [(.slice none 0 0)],Zu h [6]⟩) (fun s4=>?_)
   refine gEx fun n5=>z0m<|gSR<|Zm Z<|Zq (U.gtr Z Z)<|Zj Z (fun h6=>?_) (fun h6=>?_)
   ·
    refine Zt<|z43<|gSR<|Zm Z<|Zm Z<|Zq (U.rem Z Z (by decide))<|Zq (U.toB Z tu56 tu5)<|Ef Z (lit (R:=u8R) ([(s4.1 % 256).toUInt8]:List UInt8) 7 (pP Z Z<|pN) Z tu109 ti5 Z Z) fun v7=>z0w fun x8 h9=>Ef Z (apn 5 Z Z Z (.own 7 Z) h9 tu109 ti5 Z Z Z) fun v10=>Zb Z<|z1y<|Zm Z<|Zq (U.quo Z Z (by decide))<|Za Z<|z1k<|z2t<|z1a (fun aa ww h=>⟨nvl [v10],Zu h [5]⟩)
   ·
    refine z1f<|z0u<|z0v<|z40 (fun aa ww h=>⟨nvl [(n5 0)],Zu h [5]⟩)
  ·
   refine gEx fun n11=>gSR<|Zm Z<|Zq (z2w Z (.own 3 Z) Z tu109)<|Zq (I.add Z Z)<|Zq (I.toB Z tu3 tu5)<|Ef Z (lit (R:=u8R) ([UInt8.ofInt (w64 (247+(s3.length:Int)))]:List UInt8) 8 (pP Z Z<|pN) Z tu109 ti5 Z Z) fun v12=>Zb Z<|z7x (fun (s13:(List UInt8)) aa ww=>∃ nv:Nat→Value,Sta (ctx 41 H [] w) [(4,.val (nv 0))] [(8,some ((nv 0),.list u8R 5 s13))] aa ww) ?_ (fun s13=>?_)
   ·
    refine gSR<|Zm Z<|Zq (z2w Z (.own 3 Z) Z tu109)<|Zq (I.sub Z Z)<|Za Z<|z2d 5 Z fun y14=>Zn<|z1h (fun (s15:(List UInt8) × Int) aa ww=>∃ nv:Nat→Value,Sta (ctx 41 H [] w) [(3,.val (n11 0)),(4,.val (nv 0)),(5,.rd z07 s15.2)] [(3,some ((n11 0),.list u8R 5 s3)),(8,some ((nv 0),.list u8R 5 s15.1))] aa ww) (fun aa ww h=>⟨nvl [v12],Zu h [3,8]⟩) (fun s15=>?_)
    refine gEx fun n16=>z0m<|gSR<|Zm Z<|Zq (I.geq Z Z)<|Zj Z (fun h17=>?_) (fun h17=>?_)
    ·
     refine Zt<|z0m<|z43<|z1y<|Zm Z<|Zm Z<|Zm Z<|z0w fun x18 h19=>Zq (ixO 3 Z Z Z h19 tu109 ti5)<|Zq (ld 3 Z Z (Foc.el h19) ty5 Z)<|Ef Z (lit (R:=u8R) ([x18]:List UInt8) 9 (pP Z Z<|pN) Z tu109 ti5 Z Z) fun v20=>z0w fun x21 h22=>Ef Z (apn 8 Z Z Z (.own 9 Z) h22 tu109 ti5 Z Z Z) fun v23=>Za Z<|z1k<|z2t<|z0j<|z1y<|Zm Z<|Zq (I.sub Z Z)<|Za Z<|z2d 5 Z fun y24=>z1k<|z1a (fun aa ww h=>⟨nvl [v23],Zu h [3,8]⟩)
    ·
     refine z1f<|z0u<|z0v<|z40 (fun aa ww h=>⟨nvl [(n16 0)],Zu h [8]⟩)
   ·
    refine gEx fun n25=>gSR<|Zm Z<|Zb Z<|z0g<|Ze [(n25 0)] [8] Z
def z6a (a0:List V3) (s4:(List UInt8) × Int):Option (Sum ((List UInt8)) ((List UInt8) × Int)) :=
 if decide (s4.2<(a0.length:Int)) then
  idx a0 s4.2 >>= fun x7 =>
  app 1 s4.1 x7.toList >>= fun x9 =>
  some (w64 (s4.2+1)) >>= fun y12 =>
  some (.inr (x9,y12))
 else
  some (.inl s4.1)
def zad (a0:List V3):Option ((List UInt8)) :=
 z2i (UInt64.ofInt (a0.length:Int)) >>= fun r1 =>
 (iter (z6a a0) (r1,0)) >>= fun s3 =>
 some s3
theorem zih (a0:List V3):z1w Tryz.prog 171 [.rd (z02 aZ) a0] [] (zad a0) (fun r nv=>⟨[.val (nv 0)],[(100,some (nv 0,.list u8R 5 r))]⟩):=by
 refine z2l 22 Tryz.func171 Z Z Z fun H w=>?_
 refine gSR<|Zb Z<|gSR<|Zm Z<|Zq (z2w Z .rd Z tu46)<|Zq (I.toU Z tu3 tu56)<|Zc [] [(100,1)] Tryz.func143 Z (z2y _) fun r1 n2=>Zb Z<|z7x (fun (s3:(List UInt8)) aa ww=>∃ nv:Nat→Value,Sta (ctx 22 H [] w) [(3,.val (nv 0))] [(1,some ((nv 0),.list u8R 5 s3))] aa ww) ?_ (fun s3=>?_)
 ·
  refine gSR<|Zb Z<|z1h (fun (s4:(List UInt8) × Int) aa ww=>∃ nv:Nat→Value,Sta (ctx 22 H [] w) [(0,.rd (z02 aZ) a0),(3,.val (nv 0)),(4,.rd z07 s4.2)] [(1,some ((nv 0),.list u8R 5 s4.1))] aa ww) (fun aa ww h=>⟨nvl [(n2 0)],Zu h [1]⟩) (fun s4=>?_)
  refine gEx fun n5=>z0m<|gSR<|Zm Z<|Zm Z<|Zq (z2w Z .rd Z tu46)<|Zq (I.lss Z Z)<|Zj Z (fun h6=>?_) (fun h6=>?_)
  ·
   refine Zt<|z0m<|z43<|z1y<|Zm Z<|Zm Z<|Zm Z<|z0w fun x7 h8=>Zq (ixR Z Z h8 tu46 z5i Z)<|Zq (cutV Z tu94 ti5 Z Z Z)<|z0w fun x9 h10=>Ef Z (apn 1 Z Z Z .rd h10 tu109 ti5 Z Z Z) fun v11=>Za Z<|z1k<|z2t<|z0j<|z1y<|Zm Z<|Zq (I.add Z Z)<|Za Z<|z2d 4 Z fun y12=>z1k<|z1a (fun aa ww h=>⟨nvl [v11],Zu h [1]⟩)
  ·
   refine z1f<|z0u<|z0v<|z40 (fun aa ww h=>⟨nvl [(n5 0)],Zu h [1]⟩)
 ·
  refine gEx fun n13=>gSR<|Zm Z<|Zb Z<|z0g<|Ze [(n13 0)] [1] Z
def z72 (a0:List UInt8):Option ((List UInt8)) :=
 z2i (UInt64.ofInt (a0.length:Int)) >>= fun r1 =>
 app 1 r1 a0 >>= fun x3 =>
 some x3
theorem zd2 (a0:List UInt8):z1w Tryz.prog 172 [.rd (z02 u8R) a0] [] (z72 a0) (fun r nv=>⟨[.val (nv 0)],[(100,some (nv 0,.list u8R 5 r))]⟩):=by
 refine z2l 9 Tryz.func172 Z Z Z fun H w=>?_
 refine gSR<|Zb Z<|gSR<|Zm Z<|Zq (z2w Z .rd Z tu109)<|Zq (I.toU Z tu3 tu56)<|Zc [] [(100,1)] Tryz.func143 Z (z2y _) fun r1 n2=>Zm Z<|z0w fun x3 h4=>Ef Z (apn 1 Z Z Z .rd h4 tu109 ti5 Z Z Z) fun v5=>Zb Z<|z0g<|Ze [v5] [1] Z
def z8o (a0:Int):Option ((List UInt8)) :=
 if decide (0≤a0) then
  z2i (2 * (UInt64.ofInt a0)) >>= fun r2 =>
  some r2
 else
  z2i ((2 * (UInt64.ofInt (w64 (0 - (w64 (a0+1))))))+1) >>= fun r4 =>
  some r4
theorem zgw (a0:Int):z1w Tryz.prog 190 [.rd z07 a0] [] (z8o a0) (fun r nv=>⟨[.val (nv 0)],[(100,some (nv 0,.list u8R 5 r))]⟩):=by
 refine z2l 16 Tryz.func190 Z Z Z fun H w=>?_
 refine gSR<|Zb Z<|z0m<|gSR<|Zm Z<|Zq (I.geq Z Z)<|Zj Z (fun h1=>?_) (fun h1=>?_)
 ·
  refine gSR<|Zm Z<|Zq (I.toU Z Tryz.underlying2 tu56)<|Zq (U.mul Z Z)<|Zc [] [(100,1)] Tryz.func143 Z (z2y _) fun r2 n3=>Zb Z<|z0g<|z0l<|Ze [(n3 0)] [1] Z
 ·
  refine Zt<|gSR<|Zm Z<|Zq (I.add Z Z)<|Zq (I.neg Z)<|Zq (I.toU Z Tryz.underlying2 tu56)<|Zq (U.mul Z Z)<|Zq (U.add Z Z)<|Zc [] [(100,2)] Tryz.func143 Z (z2y _) fun r4 n5=>Zb Z<|z0g<|Ze [(n5 0)] [2] Z
def z5n (a0:z05) (s11:(List UInt8) × Int):Option (Sum ((List UInt8)) ((List UInt8) × Int)) :=
 if decide (0≤s11.2) then
  chk (0≤w64 (8 * s11.2)) >>= fun u14 =>
  app 1 s11.1 [(z79 a0.Bits ((w64 (8 * s11.2):Int).toNat)).toUInt8] >>= fun x17 =>
  some (w64 (s11.2 - 1)) >>= fun y20 =>
  some (.inr (x17,y20))
 else
  some (.inl s11.1)
def z9k (a0:z05):Option ((List UInt8)) :=
 if a0.Kind==1 then
  z8o a0.Num >>= fun r4 =>
  app 1 [a0.Kind] r4 >>= fun x6 =>
  some x6
 else
  if a0.Kind==2 then
   (iter (z5n a0) ([a0.Kind],7)) >>= fun s10 =>
   some s10
  else
   chk (a0.Text.length≤281474976710656) >>= fun u22 =>
   z72 a0.Text >>= fun r24 =>
   app 1 [a0.Kind] r24 >>= fun x26 =>
   some x26
theorem zha (a0:z05):z1w Tryz.prog 173 [.rd z1o a0] [] (z9k a0) (fun r nv=>⟨[.val (nv 0)],[(100,some (nv 0,.list u8R 5 r))]⟩):=by
 refine z2l 39 Tryz.func173 Z Z Z fun H w=>?_
 refine gSR<|Eb Z (bx 1 Z) fun v1=>Zb Z<|gSR<|Zq (faB 1 Z Z Tryz.underlying80 Z (by exact ti5))<|Zq (ld 1 Z Z (fP (z2v _)) ty5 Z)<|Ef Z (lit (R:=u8R) ([a0.Kind]:List UInt8) 2 (pP Z Z<|pN) Z tu109 ti5 Z Z) fun v2=>Zb Z<|z0m<|gSR<|Zq (faB 1 Z Z Tryz.underlying80 Z (by exact ti5))<|Zq (ld 1 Z Z (fP (z2v _)) ty5 Z)<|Zn<|z43<|gSR<|Zq (B.eql Z Z)<|Zb Z<|gIf Z Z (fun h3=>?_) (fun h3=>?_)
 ·
  refine gKn 11 Z h3<|gSR<|Zm Z<|Zq (faB 1 Z Z Tryz.underlying80 Z (by exact ti2))<|Zq (ld 1 Z Z (fP (z65 _)) ty2 Z)<|Zc [] [(100,3)] Tryz.func190 Z (zgw _) fun r4 n5=>z0w fun x6 h7=>Ef Z (apn 2 Z Z Z (.own 3 Z) h7 tu109 ti5 Z Z Z) fun v8=>Zb Z<|z0g<|z2j<|z0l<|Ze [v8] [2] Z
 ·
  refine gKn 11 Z h3<|gSR<|Zq (B.eql Z Z)<|Zb Z<|gIf Z Z (fun h9=>?_) (fun h9=>?_)
  ·
   refine gKn 18 Z h9<|z7x (fun (s10:(List UInt8)) aa ww=>∃ nv:Nat→Value,Sta (ctx 39 H [] w) [(3,.val (nv 0))] [(2,some ((nv 0),.list u8R 5 s10))] aa ww) ?_ (fun s10=>?_)
   ·
    refine gSR<|Zb Z<|z1h (fun (s11:(List UInt8) × Int) aa ww=>∃ nv:Nat→Value,Sta (ctx 39 H [] w) [(1,.val (z09 v1 0)),(3,.val (nv 0)),(4,.rd z07 s11.2)] [(1,some (v1,.box 80 [.rd z1o a0])),(2,some ((nv 0),.list u8R 5 s11.1))] aa ww) (fun aa ww h=>⟨nvl [v2],Zu h [1,2]⟩) (fun s11=>?_)
    refine gEx fun n12=>z0m<|gSR<|Zm Z<|Zq (I.geq Z Z)<|Zj Z (fun h13=>?_) (fun h13=>?_)
    ·
     refine Zt<|z0m<|z43<|z1y<|Zm Z<|Zq (faB 1 Z Z Tryz.underlying80 Z (by exact zlq))<|Zq (ld 1 Z Z (fP (z3v _)) znt Z)<|Zm Z<|Zq (I.mul Z Z)<|z0w fun u14 h15=>Zq (U.shr Z Z (z4z h15))<|Zq (U.toB Z tu56 tu5)<|Ef Z (lit (R:=u8R) ([(z79 a0.Bits ((w64 (8 * s11.2):Int).toNat)).toUInt8]:List UInt8) 4 (pP Z Z<|pN) Z tu109 ti5 Z Z) fun v16=>z0w fun x17 h18=>Ef Z (apn 2 Z Z Z (.own 4 Z) h18 tu109 ti5 Z Z Z) fun v19=>Za Z<|z1k<|z2t<|z0j<|z1y<|Zm Z<|Zq (I.sub Z Z)<|Za Z<|z2d 4 Z fun y20=>z1k<|z1a (fun aa ww h=>⟨nvl [v19],Zu h [1,2]⟩)
    ·
     refine z1f<|z0u<|z0v<|z40 (fun aa ww h=>⟨nvl [(n12 0)],Zu h [2]⟩)
   ·
    refine gEx fun n21=>gSR<|Zm Z<|Zb Z<|z0g<|z2j<|z0l<|Ze [(n21 0)] [2] Z
  ·
   refine gKn 18 Z h9<|z24<|z2t<|z0j<|gSR<|Zm Z<|Zq (faB 1 Z Z Tryz.underlying80 Z (by exact ti9))<|Zq (ld 1 Z Z (fP (z3d _)) ty9 Z)<|z0w fun u22 h23=>z11o Z Z h23 tu9 tu109 tu5<|Zc [] [(100,5)] Tryz.func172 Z (zd2 _) fun r24 n25=>z0w fun x26 h27=>Ef Z (apn 2 Z Z Z (.own 5 Z) h27 tu109 ti5 Z Z Z) fun v28=>Zb Z<|z0g<|Ze [v28] [2] Z
def z82 (a0:z04):Option ((List UInt8)) :=
 z2i a0.Author.toUInt64 >>= fun r3 =>
 app 1 [111] r3 >>= fun x5 =>
 zad a0.Preds >>= fun r8 =>
 app 1 x5 r8 >>= fun x10 =>
 z2i a0.Stamp >>= fun r13 =>
 app 1 x10 r13 >>= fun x15 =>
 app 1 x15 [a0.Act.Kind] >>= fun x19 =>
 (if a0.Act.Kind != 1 then
  chk (a0.Act.Key.length≤281474976710656) >>= fun u24 =>
  z72 a0.Act.Key >>= fun r26 =>
  app 1 x19 r26 >>= fun x28 =>
  some x28
 else
  some x19) >>= fun s22 =>
 if a0.Act.Kind==4 then
  z9k a0.Act.Value >>= fun r33 =>
  app 1 s22 r33 >>= fun x35 =>
  some x35
 else
  some s22
theorem zcy (a0:z04):z1w Tryz.prog 138 [.rd z03 a0] [] (z82 a0) (fun r nv=>⟨[.val (nv 0)],[(100,some (nv 0,.list u8R 5 r))]⟩):=by
 refine z2l 47 Tryz.func138 Z Z Z fun H w=>?_
 refine gSR<|Eb Z (bx 1 Z) fun v1=>Zb Z<|gSR<|Ef Z (lit (R:=u8R) ([111]:List UInt8) 2 (pP Z Z<|pN) Z tu109 ti5 Z Z) fun v2=>Zq (faB 1 Z Z Tryz.underlying86 Z (by exact z5e))<|Zq (ld 1 Z Z (fP (z23 _)) z7w Z)<|Zq (W.toU Z tu78 tu56)<|Zc [] [(100,3)] Tryz.func143 Z (z2y _) fun r3 n4=>z0w fun x5 h6=>Ef Z (apn 2 Z Z Z (.own 3 Z) h6 tu109 ti5 Z Z Z) fun v7=>Zb Z<|z0m<|z5v [2,13,25] mixed Z Z<|hTk 0 Z Z (mv Z)<|hTk 1 Z Z (faB 1 Z Z Tryz.underlying86 Z (by exact z8d))<|hTk 2 Z Z (ld 1 Z Z (fP (z0z _)) z9w Z)<|hTk 5 Z Z (faB 1 Z Z Tryz.underlying86 Z (by exact zlq))<|hTk 6 Z Z (ld 1 Z Z (fP (z2r _)) znt Z)<|z3i 3 [] [(100,13)] Z (by kernel_rfl) Z (gd0 Z) Z Tryz.func171 Z Z (zih _) (Y1 Z) rN Z (fun _ _=>z31) fun r8 n9=>z3z fun x10 h11=>Zo 4 Z Z Z (apn 2 Z Z Z (.own 13 Z) h11 tu109 ti5 Z Z Z) fun v12=>z3i 7 [] [(100,25)] Z (by kernel_rfl) Z (gd0 Z) Z Tryz.func143 Z Z (z2y _) (Y1 Z) rN Z (fun _ _=>z31) fun r13 n14=>z3z fun x15 h16=>Zo 8 Z Z Z (apn 2 Z Z Z (.own 25 Z) h16 tu109 ti5 Z Z Z) fun v17=>Zf 9 Z Z z31 (asg Z)<|z3f (by kernel_rfl)<|z0j<|gSR<|Zm Z<|Zq (faB 1 Z Z Tryz.underlying86 Z (by exact zks))<|Zq (faB 1 Z Z Tryz.underlying82 Z (by exact ti5))<|Zq (ld 1 Z Z ((fP (z1e _)).part (z36 _)) ty5 Z)<|Ef Z (lit (R:=u8R) ([a0.Act.Kind]:List UInt8) 37 (pP Z Z<|pN) Z tu109 ti5 Z Z) fun v18=>z0w fun x19 h20=>Ef Z (apn 2 Z Z Z (.own 37 Z) h20 tu109 ti5 Z Z Z) fun v21=>Zb Z<|z7x (fun (s22:(List UInt8)) aa ww=>∃ nv:Nat→Value,Sta (ctx 47 H [] w) [(1,.val (z09 v1 0)),(3,.val (nv 0))] [(1,some (v1,.box 86 [.rd z03 a0])),(2,some ((nv 0),.list u8R 5 s22))] aa ww) ?_ (fun s22=>?_)
 ·
  refine gSR<|Zq (faB 1 Z Z Tryz.underlying86 Z (by exact zks))<|Zq (faB 1 Z Z Tryz.underlying82 Z (by exact ti5))<|Zq (ld 1 Z Z ((fP (z1e _)).part (z36 _)) ty5 Z)<|Zq (B.neq Z Z)<|Zj Z (fun h23=>?_) (fun h23=>?_)
  ·
   refine z1y<|Zm Z<|Zq (faB 1 Z Z Tryz.underlying86 Z (by exact zks))<|Zq (faB 1 Z Z Tryz.underlying82 Z (by exact ti9))<|Zq (ld 1 Z Z ((fP (z1e _)).part (z5g _)) ty9 Z)<|z0w fun u24 h25=>z11o Z Z h25 tu9 tu109 tu5<|Zc [] [(100,38)] Tryz.func172 Z (zd2 _) fun r26 n27=>z0w fun x28 h29=>Ef Z (apn 2 Z Z Z (.own 38 Z) h29 tu109 ti5 Z Z Z) fun v30=>Za Z<|z1k<|z40 (fun aa ww h=>⟨nvl [v30],Zu h [1,2]⟩)
  ·
   refine z24<|z40 (fun aa ww h=>⟨nvl [v21],Zu h [1,2]⟩)
 ·
  refine gEx fun n31=>z0m<|gSR<|Zq (faB 1 Z Z Tryz.underlying86 Z (by exact zks))<|Zq (faB 1 Z Z Tryz.underlying82 Z (by exact ti5))<|Zq (ld 1 Z Z ((fP (z1e _)).part (z36 _)) ty5 Z)<|Zq (B.eql Z Z)<|Zj Z (fun h32=>?_) (fun h32=>?_)
  ·
   refine z1y<|Zm Z<|Zq (faB 1 Z Z Tryz.underlying86 Z (by exact zks))<|Zq (faB 1 Z Z Tryz.underlying82 Z (by exact zjo))<|Zq (ld 1 Z Z ((fP (z1e _)).part (z57 _)) zsy Z)<|Zc [] [(100,39)] Tryz.func173 Z (zha _) fun r33 n34=>z0w fun x35 h36=>Ef Z (apn 2 Z Z Z (.own 39 Z) h36 tu109 ti5 Z Z Z) fun v37=>Zb Z<|gSR<|Zm Z<|Zb Z<|z0g<|Ze [v37] [2] Z
  ·
   refine Zt<|gSR<|Zm Z<|Zb Z<|z0g<|Ze [(n31 0)] [2] Z
def z9l (a0:z04):Option ((List UInt8)) :=
 z82 a0 >>= fun r2 =>
 z2i a0.Sig.E.toUInt64 >>= fun r4 =>
 app 1 r2 r4 >>= fun x6 =>
 z2i a0.Sig.S.toUInt64 >>= fun r9 =>
 app 1 x6 r9 >>= fun x11 =>
 some x11
theorem zhl (a0:z04):z1w Tryz.prog 102 [.rd z03 a0] [] (z9l a0) (fun r nv=>⟨[.val (nv 0)],[(100,some (nv 0,.list u8R 5 r))]⟩):=by
 refine z2l 17 Tryz.func102 Z Z Z fun H w=>?_
 refine gSR<|Eb Z (bx 1 Z) fun v1=>Zb Z<|z0m<|z5v [5,20,38] mixed Z Z<|hTk 0 Z Z (ld 1 Z Z fH zbe Z)<|hTk 2 Z Z (faB 1 Z Z Tryz.underlying86 Z (by exact zjr))<|hTk 3 Z Z (faB 1 Z Z Tryz.underlying84 Z (by exact z5e))<|hTk 4 Z Z (ld 1 Z Z ((fP (z1x _)).part (z4w _)) z7w Z)<|hTk 5 Z Z (W.toU Z tu78 tu56)<|hTk 8 Z Z (faB 1 Z Z Tryz.underlying86 Z (by exact zjr))<|hTk 9 Z Z (faB 1 Z Z Tryz.underlying84 Z (by exact z5e))<|hTk 10 Z Z (ld 1 Z Z ((fP (z1x _)).part (z6f _)) z7w Z)<|hTk 11 Z Z (W.toU Z tu78 tu56)<|z3i 1 [] [(100,5)] Z (by kernel_rfl) Z (gd0 Z) Z Tryz.func138 Z Z (zcy _) (Y1 Z) rN Z (fun _ _=>z31) fun r2 n3=>z3i 6 [] [(100,20)] Z (by kernel_rfl) Z (gd0 Z) Z Tryz.func143 Z Z (z2y _) (Y1 Z) rN Z (fun _ _=>z31) fun r4 n5=>z3z fun x6 h7=>Zo 7 Z Z Z (apn 5 Z Z Z (.own 20 Z) h7 tu109 ti5 Z Z Z) fun v8=>z3i 12 [] [(100,38)] Z (by kernel_rfl) Z (gd0 Z) Z Tryz.func143 Z Z (z2y _) (Y1 Z) rN Z (fun _ _=>z31) fun r9 n10=>z3z fun x11 h12=>Zo 13 Z Z Z (apn 5 Z Z Z (.own 38 Z) h12 tu109 ti5 Z Z Z) fun v13=>Zf 14 Z Z z31 (asg Z)<|z3f (by kernel_rfl)<|z0j<|z0g<|Ze [v13] [5] Z
def zbs  : Option ((Vector UInt32 8)) :=
 some (#v[1779033703,3144134277,1013904242,2773480762,1359893119,2600822924,528734635,1541459225]:Vector UInt32 8)
theorem zhu  : z1w Tryz.prog 141 [] [] (zbs) (fun r nv=>⟨[.rd (z2o 8 z0r) r],[]⟩):=by
 refine z2l 2 Tryz.func141 Z Z Z fun H w=>?_
 refine gSR<|Eb Z (z5w 1 zgu (.zr (R:=(z2o 8 z0r)) (x:=(Vector.replicate 8 0)) zrk)) fun v1=>Zn<|gSR<|Zq (litA (R:=z0r) [1779033703,3144134277,1013904242,2773480762,1359893119,2600822924,528734635,1541459225] (#v[1779033703,3144134277,1013904242,2773480762,1359893119,2600822924,528734635,1541459225]:Vector UInt32 8) (pP Z Z<|pP Z Z<|pP Z Z<|pP Z Z<|pP Z Z<|pP Z Z<|pP Z Z<|pP Z Z<|pN) Z tu176 zgu Z z5e)<|Es (sto 1 Z Z fH Z zgu)<|Zn<|z0g<|zap [] [] Z (eC 1 Z Z zqy<|eN) (rN)
def z6i (a0:Int) (s3:(List UInt8)):Option (Sum ((List UInt8)) ((List UInt8))) :=
 if (Int.tmod (w64 ((w64 (a0+(s3.length:Int)))+8)) 64) != 0 then
  app 1 s3 [0] >>= fun x7 =>
  some (.inr x7)
 else
  some (.inl s3)
def z6b (a0:Int) (s12:(List UInt8) × Int):Option (Sum ((List UInt8)) ((List UInt8) × Int)) :=
 if decide (0≤s12.2) then
  chk (0≤w64 (8 * s12.2)) >>= fun u15 =>
  app 1 s12.1 [(z79 (8 * (UInt64.ofInt a0)) ((w64 (8 * s12.2):Int).toNat)).toUInt8] >>= fun x18 =>
  some (w64 (s12.2 - 1)) >>= fun y21 =>
  some (.inr (x18,y21))
 else
  some (.inl s12.1)
def z9z (a0:Int):Option ((List UInt8)) :=
 (iter (z6i a0) [128]) >>= fun s2 =>
 (iter (z6b a0) (s2,7)) >>= fun s11 =>
 some s11
theorem zj3 (a0:Int):z1w Tryz.prog 142 [.rd z07 a0] [] (z9z a0) (fun r nv=>⟨[.val (nv 0)],[(100,some (nv 0,.list u8R 5 r))]⟩):=by
 refine z2l 31 Tryz.func142 Z Z Z fun H w=>?_
 refine gSR<|Zb Z<|gSR<|Ef Z (lit (R:=u8R) ([128]:List UInt8) 1 (pP Z Z<|pN) Z tu109 ti5 Z Z) fun v1=>Zb Z<|z7x (fun (s2:(List UInt8)) aa ww=>∃ nv:Nat→Value,Sta (ctx 31 H [] w) [(0,.rd z07 a0),(3,.val (nv 0))] [(1,some ((nv 0),.list u8R 5 s2))] aa ww) ?_ (fun s2=>?_)
 ·
  refine z1h (fun (s3:(List UInt8)) aa ww=>∃ nv:Nat→Value,Sta (ctx 31 H [] w) [(0,.rd z07 a0),(3,.val (nv 0))] [(1,some ((nv 0),.list u8R 5 s3))] aa ww) (fun aa ww h=>⟨nvl [v1],Zu h [1]⟩) (fun s3=>?_)
  refine gEx fun n4=>z0m<|gSR<|Zm Z<|Zm Z<|Zq (z2w Z (.own 1 Z) Z tu109)<|Zq (I.add Z Z)<|Zq (I.add Z Z)<|Zq (I.rem Z Z (by decide))<|Zq (I.neq Z Z)<|Zj Z (fun h5=>?_) (fun h5=>?_)
  ·
   refine Zt<|z43<|z1y<|Zm Z<|Ef Z (lit (R:=u8R) ([0]:List UInt8) 2 (pP Z Z<|pN) Z tu109 ti5 Z Z) fun v6=>z0w fun x7 h8=>Ef Z (apn 1 Z Z Z (.own 2 Z) h8 tu109 ti5 Z Z Z) fun v9=>Za Z<|z1k<|z2t<|z1a (fun aa ww h=>⟨nvl [v9],Zu h [1]⟩)
  ·
   refine z1f<|z0u<|z0v<|z40 (fun aa ww h=>⟨nvl [(n4 0)],Zu h [1]⟩)
 ·
  refine gEx fun n10=>z7x (fun (s11:(List UInt8)) aa ww=>∃ nv:Nat→Value,Sta (ctx 31 H [] w) [(3,.val (nv 0))] [(1,some ((nv 0),.list u8R 5 s11))] aa ww) ?_ (fun s11=>?_)
  ·
   refine gSR<|Zb Z<|z1h (fun (s12:(List UInt8) × Int) aa ww=>∃ nv:Nat→Value,Sta (ctx 31 H [] w) [(0,.rd z07 a0),(3,.val (nv 0)),(4,.rd z07 s12.2)] [(1,some ((nv 0),.list u8R 5 s12.1))] aa ww) (fun aa ww h=>⟨nvl [(n10 0)],Zu h [1]⟩) (fun s12=>?_)
   refine gEx fun n13=>z0m<|gSR<|Zm Z<|Zq (I.geq Z Z)<|Zj Z (fun h14=>?_) (fun h14=>?_)
   ·
    refine Zt<|z0m<|z43<|z1y<|Zm Z<|Zm Z<|Zq (I.toU Z tu3 tu56)<|Zq (U.mul Z Z)<|Zm Z<|Zq (I.mul Z Z)<|z0w fun u15 h16=>Zq (U.shr Z Z (z4z h16))<|Zq (U.toB Z tu56 tu5)<|Ef Z (lit (R:=u8R) ([(z79 (8 * (UInt64.ofInt a0)) ((w64 (8 * s12.2):Int).toNat)).toUInt8]:List UInt8) 3 (pP Z Z<|pN) Z tu109 ti5 Z Z) fun v17=>z0w fun x18 h19=>Ef Z (apn 1 Z Z Z (.own 3 Z) h19 tu109 ti5 Z Z Z) fun v20=>Za Z<|z1k<|z2t<|z0j<|z1y<|Zm Z<|Zq (I.sub Z Z)<|Za Z<|z2d 4 Z fun y21=>z1k<|z1a (fun aa ww h=>⟨nvl [v20],Zu h [1]⟩)
   ·
    refine z1f<|z0u<|z0v<|z40 (fun aa ww h=>⟨nvl [(n13 0)],Zu h [1]⟩)
  ·
   refine gEx fun n22=>gSR<|Zm Z<|Zb Z<|z0g<|Ze [(n22 0)] [1] Z
def z2h (a0:UInt32) (a1:Int):Option (UInt32) :=
 chk (0≤a1) >>= fun u1 =>
 chk (0≤w64 (32 - a1)) >>= fun u3 =>
 some ((z4g a0 ((a1:Int).toNat)) ||| (zov a0 ((w64 (32 - a1):Int).toNat))) >>= fun y5 =>
 some y5
theorem z2m (a0:UInt32) (a1:Int):z1w Tryz.prog 191 [.rd z0r a0,.rd z07 a1] [] (z2h a0 a1) (fun r nv=>⟨[.rd z0r r],[]⟩):=by
 refine z2l 13 Tryz.func191 Z Z Z fun H w=>?_
 refine gSR<|Zb Z<|z0m<|zfa mixed (by kernel_rfl)<|Rq Z (mv Z)<|Rq Z (mv Z)<|z5h fun u1 h2=>Rq Z (W.shr Z Z (z4z h2))<|Rq Z (mv Z)<|Rq Z (mv Z)<|Rq Z (I.sub Z Z)<|z5h fun u3 h4=>Rq Z (W.shl Z Z (z4z h4))<|Rq Z (W.or Z Z)<|Rq Z (asg Z)<|z19b 4 Z fun y5=>zpu<|z0j<|z0g<|Ze [] [] Z
def z8y  : Option ((List UInt32)) :=
 some [1116352408,1899447441,3049323471,3921009573,961987163,1508970993,2453635748,2870763221,3624381080,310598401,607225278,1426881987,1925078388,2162078206,2614888103,3248222580,3835390401,4022224774,264347078,604807628,770255983,1249150122,1555081692,1996064986,2554220882,2821834349,2952996808,3210313671,3336571891,3584528711,113926993,338241895,666307205,773529912,1294757372,1396182291,1695183700,1986661051,2177026350,2456956037,2730485921,2820302411,3259730800,3345764771,3516065817,3600352804,4094571909,275423344,430227734,506948616,659060556,883997877,958139571,1322822218,1537002063,1747873779,1955562222,2024104815,2227730452,2361852424,2428436474,2756734187,3204031479,3329325298]
theorem zer  : z1w Tryz.prog 192 [] [] (z8y) (fun r nv=>⟨[.val (nv 0)],[(100,some (nv 0,.list z0r 78 r))]⟩):=by
 refine z2l 2 Tryz.func192 Z Z Z fun H w=>?_
 refine gSR<|Zb Z<|gSR<|Ef Z (lit (R:=z0r) ([1116352408,1899447441,3049323471,3921009573,961987163,1508970993,2453635748,2870763221,3624381080,310598401,607225278,1426881987,1925078388,2162078206,2614888103,3248222580,3835390401,4022224774,264347078,604807628,770255983,1249150122,1555081692,1996064986,2554220882,2821834349,2952996808,3210313671,3336571891,3584528711,113926993,338241895,666307205,773529912,1294757372,1396182291,1695183700,1986661051,2177026350,2456956037,2730485921,2820302411,3259730800,3345764771,3516065817,3600352804,4094571909,275423344,430227734,506948616,659060556,883997877,958139571,1322822218,1537002063,1747873779,1955562222,2024104815,2227730452,2361852424,2428436474,2756734187,3204031479,3329325298]:List UInt32) 1 (pP Z Z<|pP Z Z<|pP Z Z<|pP Z Z<|pP Z Z<|pP Z Z<|pP Z Z<|pP Z Z<|pP Z Z<|pP Z Z<|pP Z Z<|pP Z Z<|pP Z Z<|pP Z Z<|pP Z Z<|pP Z Z<|pP Z Z<|pP Z Z<|pP Z Z<|pP Z Z<|pP Z Z<|pP Z Z<|pP Z Z<|pP Z Z<|pP Z Z<|pP Z Z<|pP Z Z<|pP Z Z<|pP Z Z<|pP Z Z<|pP Z Z<|pP Z Z<|pP Z Z<|pP Z Z<|pP Z Z<|pP Z Z<|pP Z Z<|pP Z Z<|pP Z Z<|pP Z Z<|pP Z Z<|pP Z Z<|pP Z Z<|pP Z Z<|pP Z Z<|pP Z Z<|pP Z Z<|pP Z Z<|pP Z Z<|pP Z Z<|pP Z Z<|pP Z Z<|pP Z Z<|pP Z Z<|pP Z Z<|pP Z Z<|pP Z Z<|pP Z Z<|pP Z Z<|pP Z Z<|pP Z Z<|pP Z Z<|pP Z Z<|pP Z Z<|pN) Z tu188 z5e Z Z) fun v1=>Zb Z<|z0g<|Ze [v1] [1] Z
def z5b (a1:List UInt8) (s4:(List UInt32) × Int):Option (Sum ((List UInt32)) ((List UInt32) × Int)) :=
 if decide (s4.2<16) then
  idx a1 (w64 (4 * s4.2)) >>= fun x7 =>
  idx a1 (w64 ((w64 (4 * s4.2))+1)) >>= fun x9 =>
  idx a1 (w64 ((w64 (4 * s4.2))+2)) >>= fun x11 =>
  idx a1 (w64 ((w64 (4 * s4.2))+3)) >>= fun x13 =>
  app 4 s4.1 [(((((x7.toUInt32 * 256)+x9.toUInt32) * 256)+x11.toUInt32) * 256)+x13.toUInt32] >>= fun x16 =>
  some (w64 (s4.2+1)) >>= fun y19 =>
  some (.inr (x16,y19))
 else
  some (.inl s4.1)
def z59 (s22:(List UInt32) × Int):Option (Sum ((List UInt32)) ((List UInt32) × Int)) :=
 if decide (s22.2<64) then
  idx s22.1 (w64 (s22.2 - 15)) >>= fun x25 =>
  idx s22.1 (w64 (s22.2 - 2)) >>= fun x27 =>
  idx s22.1 (w64 (s22.2 - 16)) >>= fun x29 =>
  idx s22.1 (w64 (s22.2 - 7)) >>= fun x31 =>
  z2h x25 7 >>= fun r33 =>
  z2h x25 18 >>= fun r36 =>
  z2h x27 17 >>= fun r39 =>
  z2h x27 19 >>= fun r42 =>
  app 4 s22.1 [((x29+x31)+((r33 ^^^ r36) ^^^ (z4g x25 3)))+((r39 ^^^ r42) ^^^ (z4g x27 10))] >>= fun x45 =>
  some (w64 (s22.2+1)) >>= fun y48 =>
  some (.inr (x45,y48))
 else
  some (.inl s22.1)
def z3h (s21:(List UInt32)) (r50:(List UInt32)) (s54:(Vector UInt32 8) × Int):Option (Sum ((Vector UInt32 8)) ((Vector UInt32 8) × Int)) :=
 if decide (s54.2<64) then
  z5y s54.1 0 >>= fun x56 =>
  z5y s54.1 1 >>= fun x58 =>
  z5y s54.1 2 >>= fun x60 =>
  z5y s54.1 4 >>= fun x62 =>
  z5y s54.1 5 >>= fun x64 =>
  z5y s54.1 6 >>= fun x66 =>
  z5y s54.1 7 >>= fun x68 =>
  idx r50 s54.2 >>= fun x70 =>
  idx s21 s54.2 >>= fun x72 =>
  z2h x62 6 >>= fun r74 =>
  z2h x62 11 >>= fun r76 =>
  z2h x62 25 >>= fun r78 =>
  some ((((x68+((r74 ^^^ r76) ^^^ r78))+((x62 &&& x64) ^^^ ((~~~x62) &&& x66)))+x70)+x72) >>= fun y80 =>
  z2h x56 2 >>= fun r81 =>
  z2h x56 13 >>= fun r83 =>
  z2h x56 22 >>= fun r85 =>
  some (((r81 ^^^ r83) ^^^ r85)+(((x56 &&& x58) ^^^ (x56 &&& x60)) ^^^ (x58 &&& x60))) >>= fun y87 =>
  z5y s54.1 3 >>= fun x88 =>
  some (w64 (s54.2+1)) >>= fun y90 =>
  some (.inr ((#v[y80+y87,x56,x58,x60,x88+y80,x62,x64,x66]:Vector UInt32 8),y90))
 else
  some (.inl s54.1)
def z1n (s53:(Vector UInt32 8)) (s92:(Vector UInt32 8) × Int):Option (Sum ((Vector UInt32 8)) ((Vector UInt32 8) × Int)) :=
 if decide (s92.2<8) then
  z5y s92.1 s92.2 >>= fun x94 =>
  z5y s53 s92.2 >>= fun x96 =>
  z5y s92.1 s92.2 >>= fun x98 =>
  some (w64 (s92.2+1)) >>= fun y100 =>
  some (.inr (zdr s92.1 s92.2 (x94+x96),y100))
 else
  some (.inl s92.1)
def z8s (a0:Vector UInt32 8) (a1:List UInt8):Option ((Vector UInt32 8)) :=
 (iter (z5b a1) ([],0)) >>= fun s3 =>
 (iter (z59) (s3,16)) >>= fun s21 =>
 z8y >>= fun r50 =>
 (iter (z3h s21 r50) (a0,0)) >>= fun s53 =>
 (iter (z1n s53) (a0,0)) >>= fun s91 =>
 some s91
set_option maxHeartbeats 4000000 in
theorem zgn (a0:Vector UInt32 8) (a1:List UInt8):z1w Tryz.prog 174 [.rd (z2o 8 z0r) a0,.rd (z02 u8R) a1] [] (z8s a0 a1) (fun r nv=>⟨[.rd (z2o 8 z0r) r],[]⟩):=by
 refine z2l 203 Tryz.func174 Z Z Z fun H w=>?_
 refine gSR<|Eb Z (bx 1 Z) fun v1=>Eb Z (z5w 2 zgu (.zr (R:=(z2o 8 z0r)) (x:=(Vector.replicate 8 0)) zrk)) fun v2=>Zn<|gSR<|Zb Z<|z7x (fun (s3:(List UInt32)) aa ww=>∃ nv:Nat→Value,Sta (ctx 203 H [] w) [(2,.val (z09 v1 0)),(4,.val (z09 v2 0)),(5,.val (nv 0))] [(1,some (v1,.box 176 [.rd (z2o 8 z0r) a0])),(2,some (v2,.box 176 [.rd (z2o 8 z0r) (Vector.replicate 8 0)])),(108,some ((nv 0),.list z0r 78 s3))] aa ww) ?_ (fun s3=>?_)
 ·
  refine gSR<|Zb Z<|zps z0r 78 215<|z1h (fun (s4:(List UInt32) × Int) aa ww=>∃ nv:Nat→Value,Sta (ctx 203 H [] w) [(1,.rd (z02 u8R) a1),(2,.val (z09 v1 0)),(4,.val (z09 v2 0)),(5,.val (nv 0)),(6,.rd z07 s4.2)] [(1,some (v1,.box 176 [.rd (z2o 8 z0r) a0])),(2,some (v2,.box 176 [.rd (z2o 8 z0r) (Vector.replicate 8 0)])),(214,some ((nv 0),.list z0r 78 s4.1))] aa ww) (fun aa ww h=>⟨nvl [(.slice none 0 0)],Zu h [1,2,215]⟩) (fun s4=>?_)
  refine gEx fun n5=>z0m<|gSR<|Zm Z<|Zq (I.lss Z Z)<|Zj Z (fun h6=>?_) (fun h6=>?_)
  ·
   refine Zt<|z0m<|z43<|z5v [214,318] mixed Z Z<|hTk 0 Z Z (mv Z)<|hTk 1 Z Z (mv Z)<|hTk 2 Z Z (mv Z)<|hTk 3 Z Z (I.mul Z Z)<|z3z fun x7 h8=>hTk 4 Z Z (ixR Z Z h8 tu109 ti5 Z)<|hTk 5 Z Z (ldR Z ty5)<|hTk 6 Z Z (B.toW Z tu5 tu78)<|hTk 7 Z Z (W.mul Z Z)<|hTk 8 Z Z (mv Z)<|hTk 9 Z Z (mv Z)<|hTk 10 Z Z (I.mul Z Z)<|hTk 11 Z Z (I.add Z Z)<|z3z fun x9 h10=>hTk 12 Z Z (ixR Z Z h10 tu109 ti5 Z)<|hTk 13 Z Z (ldR Z ty5)<|hTk 14 Z Z (B.toW Z tu5 tu78)<|hTk 15 Z Z (W.add Z Z)<|hTk 16 Z Z (W.mul Z Z)<|hTk 17 Z Z (mv Z)<|hTk 18 Z Z (mv Z)<|hTk 19 Z Z (I.mul Z Z)<|hTk 20 Z Z (I.add Z Z)<|z3z fun x11 h12=>hTk 21 Z Z (ixR Z Z h12 tu109 ti5 Z)<|hTk 22 Z Z (ldR Z ty5)<|hTk 23 Z Z (B.toW Z tu5 tu78)<|hTk 24 Z Z (W.add Z Z)<|hTk 25 Z Z (W.mul Z Z)<|hTk 26 Z Z (mv Z)<|hTk 27 Z Z (mv Z)<|hTk 28 Z Z (I.mul Z Z)<|hTk 29 Z Z (I.add Z Z)<|z3z fun x13 h14=>hTk 30 Z Z (ixR Z Z h14 tu109 ti5 Z)<|hTk 31 Z Z (ldR Z ty5)<|hTk 32 Z Z (B.toW Z tu5 tu78)<|hTk 33 Z Z (W.add Z Z)<|Zo 34 Z Z Z (lit (R:=z0r) ([(((((x7.toUInt32 * 256)+x9.toUInt32) * 256)+x11.toUInt32) * 256)+x13.toUInt32]:List UInt32) 318 (pP Z Z<|pN) Z tu188 z5e Z Z) fun v15=>z3z fun x16 h17=>Zo 35 Z Z Z (apn 214 Z Z Z (.own 318 Z) h17 tu188 z5e Z Z Z) fun v18=>Zf 36 Z Z z31 (asg Z)<|z3f (by kernel_rfl)<|z2t<|z0j<|z1y<|Zm Z<|Zq (I.add Z Z)<|Za Z<|z2d 6 Z fun y19=>z1k<|z1a (fun aa ww h=>⟨nvl [v18],Zu h [1,2,214]⟩)
  ·
   refine z1f<|z0u<|z0v<|z40 (fun aa ww h=>⟨nvl [(n5 0)],Zu h [1,2,214]⟩)
 ·
  refine gEx fun n20=>z7x (fun (s21:(List UInt32)) aa ww=>∃ nv:Nat→Value,Sta (ctx 203 H [] w) [(2,.val (z09 v1 0)),(4,.val (z09 v2 0)),(5,.val (nv 0))] [(1,some (v1,.box 176 [.rd (z2o 8 z0r) a0])),(2,some (v2,.box 176 [.rd (z2o 8 z0r) (Vector.replicate 8 0)])),(108,some ((nv 0),.list z0r 78 s21))] aa ww) ?_ (fun s21=>?_)
  ·
   refine gSR<|Zb Z<|z1h (fun (s22:(List UInt32) × Int) aa ww=>∃ nv:Nat→Value,Sta (ctx 203 H [] w) [(2,.val (z09 v1 0)),(4,.val (z09 v2 0)),(5,.val (nv 0)),(7,.rd z07 s22.2)] [(1,some (v1,.box 176 [.rd (z2o 8 z0r) a0])),(2,some (v2,.box 176 [.rd (z2o 8 z0r) (Vector.replicate 8 0)])),(108,some ((nv 0),.list z0r 78 s22.1))] aa ww) (fun aa ww h=>⟨nvl [(n20 0)],Zu h [1,2,108]⟩) (fun s22=>?_)
   refine gEx fun n23=>z0m<|gSR<|Zm Z<|Zq (I.lss Z Z)<|Zj Z (fun h24=>?_) (fun h24=>?_)
   ·
    refine Zt<|z0m<|z43<|z0m<|zfa mixed (by kernel_rfl)<|Rq Z (mv Z)<|Rq Z (mv Z)<|Rq Z (I.sub Z Z)<|z5h fun x25 h26=>Rq Z (ixO 108 Z Z Z h26 tu188 z5e)<|Rq Z (ld 108 Z Z (Foc.el h26) z7w Z)<|Rq Z (mv Z)<|Rq Z (mv Z)<|Rq Z (I.sub Z Z)<|z5h fun x27 h28=>Rq Z (ixO 108 Z Z Z h28 tu188 z5e)<|Rq Z (ld 108 Z Z (Foc.el h28) z7w Z)<|Rq Z (asg Z)<|Rq Z (asg Z)<|zpu<|z0j<|gSub [(5,.val (n23 0)),(2,.val (z09 v1 0)),(4,.val (z09 v2 0)),(7,.rd z07 s22.2),(8,.rd z0r x25),(9,.rd z0r x27)] [(1,some (v1,.box 176 [.rd (z2o 8 z0r) a0])),(2,some (v2,.box 176 [.rd (z2o 8 z0r) (Vector.replicate 8 0)])),(108,some ((n23 0),.list z0r 78 s22.1))] [1,2,108] (Zs Z Z Z Z<|sS Z<|sS Z<|sN) (Zi Z<|Zi Z<|Zi Z<|rN)<|z95 fun x29 h30=>z95 fun x31 h32=>z95 fun r33 h35=>z95 fun r36 h38=>z95 fun r39 h41=>z95 fun r42 h44=>z95 fun x45 h46=>gOr [(5,.val (n23 0),32)] [⟨108,some ([], fun nv=>((n23 0),.list z0r 78 s22.1)),[(31,some ([2], fun nv=>((nv 2),.list z0r 78 x45)))]⟩,⟨330,none,[(30,some ([1], fun nv=>((nv 1),.list z0r 78 [((x29+x31)+((r33 ^^^ r36) ^^^ (z4g x25 3)))+((r39 ^^^ r42) ^^^ (z4g x27 10))])))]⟩] [⟨some (76,[], fun nv=>.val (n23 0)),[],[],[0]⟩,⟨some (77,[], fun nv=>.val (n23 0)),[],[],[0]⟩,pd 78 (.rd z07 s22.2),pd 79 (.rd z07 (w64 (s22.2 - 16))),pk 80 (.val (z09 (n23 0) ((w64 (s22.2 - 16):Int).toNat * 1))) [(0,0,false)],pk 81 (.rd z0r x29) [(0,0,false)],⟨some (82,[], fun nv=>.val (n23 0)),[],[],[0]⟩,pd 83 (.rd z07 s22.2),pd 84 (.rd z07 (w64 (s22.2 - 7))),pk 85 (.val (z09 (n23 0) ((w64 (s22.2 - 7):Int).toNat * 1))) [(0,0,false)],pk 86 (.rd z0r x31) [(0,0,false)],pd 87 (.rd z0r (x29+x31)),pd 88 (.rd z0r x25),pd 89 (.rd z0r r33),pd 90 (.rd z0r x25),pd 91 (.rd z0r r36),pd 92 (.rd z0r (r33 ^^^ r36)),pd 93 (.rd z0r x25),pd 94 (.rd z0r (z4g x25 3)),pd 95 (.rd z0r ((r33 ^^^ r36) ^^^ (z4g x25 3))),pd 96 (.rd z0r ((x29+x31)+((r33 ^^^ r36) ^^^ (z4g x25 3)))),pd 97 (.rd z0r x27),pd 98 (.rd z0r r39),pd 99 (.rd z0r x27),pd 100 (.rd z0r r42),pd 101 (.rd z0r (r39 ^^^ r42)),pd 102 (.rd z0r x27),pd 103 (.rd z0r (z4g x27 10)),pd 104 (.rd z0r ((r39 ^^^ r42) ^^^ (z4g x27 10))),pd 105 (.rd z0r (((x29+x31)+((r33 ^^^ r36) ^^^ (z4g x25 3)))+((r39 ^^^ r42) ^^^ (z4g x27 10)))),⟨some (106,[1], fun nv=>.val (nv 1)),[(1,0,true)],[1],[]⟩,⟨some (107,[2], fun nv=>.val (nv 2)),[(1,1,false),(0,0,true)],[2],[]⟩,⟨some (5,[2], fun nv=>.val (nv 2)),[],[],[]⟩] mixed (oC (oRn (fun nv E=>mv Z))<|oC (oRn (fun nv E=>mv Z))<|oC (oRn (fun nv E=>mv Z))<|oC (oRn (fun nv E=>I.sub Z Z))<|oC (oRn (fun nv E=>ixO 108 Z Z Z h30 tu188 z5e))<|oC (oRn (fun nv E=>ld 108 Z Z (Foc.el h30) z7w Z))<|oC (oRn (fun nv E=>mv Z))<|oC (oRn (fun nv E=>mv Z))<|oC (oRn (fun nv E=>I.sub Z Z))<|oC (oRn (fun nv E=>ixO 108 Z Z Z h32 tu188 z5e))<|oC (oRn (fun nv E=>ld 108 Z Z (Foc.el h32) z7w Z))<|oC (oRn (fun nv E=>W.add Z Z))<|oC (oRn (fun nv E=>mv Z))<|oC (oCl [] [] [] h35 Tryz.func191 Z (fun nv=>(z2m _ _)) (fun nv=>(Y2 Z Z)) (fun nv E=>rN))<|oC (oRn (fun nv E=>mv Z))<|oC (oCl [] [] [] h38 Tryz.func191 Z (fun nv=>(z2m _ _)) (fun nv=>(Y2 Z Z)) (fun nv E=>rN))<|oC (oRn (fun nv E=>W.xor Z Z))<|oC (oRn (fun nv E=>mv Z))<|oC (oRn (fun nv E=>W.shr Z Z (Int.natCast_nonneg _)))<|oC (oRn (fun nv E=>W.xor Z Z))<|oC (oRn (fun nv E=>W.add Z Z))<|oC (oRn (fun nv E=>mv Z))<|oC (oCl [] [] [] h41 Tryz.func191 Z (fun nv=>(z2m _ _)) (fun nv=>(Y2 Z Z)) (fun nv E=>rN))<|oC (oRn (fun nv E=>mv Z))<|oC (oCl [] [] [] h44 Tryz.func191 Z (fun nv=>(z2m _ _)) (fun nv=>(Y2 Z Z)) (fun nv E=>rN))<|oC (oRn (fun nv E=>W.xor Z Z))<|oC (oRn (fun nv E=>mv Z))<|oC (oRn (fun nv E=>W.shr Z Z (Int.natCast_nonneg _)))<|oC (oRn (fun nv E=>W.xor Z Z))<|oC (oRn (fun nv E=>W.add Z Z))<|oC (oEf 330 1 (fun nv E=>lit (R:=z0r) ([((x29+x31)+((r33 ^^^ r36) ^^^ (z4g x25 3)))+((r39 ^^^ r42) ^^^ (z4g x27 10))]:List UInt32) 330 (pP Z Z<|pN) Z tu188 z5e Z Z))<|oC (oEf 108 2 (fun nv E=>apn 108 Z Z Z (.own 330 Z) h46 tu188 z5e Z Z Z))<|oC (oRn (fun nv E=>asg Z))<|oN) fun n47=>z2t<|z0j<|z1y<|Zm Z<|Zq (I.add Z Z)<|Za Z<|z2d 7 Z fun y48=>z1k<|z1a (fun aa ww h=>⟨nvl [(n47 2)],Zu h [1,2,108]⟩)
   ·
    refine z1f<|z0u<|z0v<|z40 (fun aa ww h=>⟨nvl [(n23 0)],Zu h [1,2,108]⟩)
  ·
   refine gEx fun n49=>gSR<|Zc [] [(100,331)] Tryz.func192 Z (zer) fun r50 n51=>Zb Z<|gSR<|Zq (ld 1 Z Z fH zqy Z)<|Eb Z (z5w 332 zgu (.zr (R:=(z2o 8 z0r)) (x:=(Vector.replicate 8 0)) zrk)) fun v52=>Es (sto 332 Z Z fH Z zgu)<|Zn<|z7x (fun (s53:(Vector UInt32 8)) aa ww=>Sta (ctx 203 H [] w) [(2,.val (z09 v1 0)),(4,.val (z09 v2 0)),(11,.val (z09 v52 0))] [(1,some (v1,.box 176 [.rd (z2o 8 z0r) a0])),(2,some (v2,.box 176 [.rd (z2o 8 z0r) (Vector.replicate 8 0)])),(332,some (v52,.box 176 [.rd (z2o 8 z0r) s53]))] aa ww) ?_ (fun s53=>?_)
   ·
    refine gSR<|Zb Z<|z1h (fun (s54:(Vector UInt32 8) × Int) aa ww=>Sta (ctx 203 H [] w) [(2,.val (z09 v1 0)),(4,.val (z09 v2 0)),(5,.val (n49 0)),(10,.val (n51 0)),(11,.val (z09 v52 0)),(12,.rd z07 s54.2)] [(1,some (v1,.box 176 [.rd (z2o 8 z0r) a0])),(2,some (v2,.box 176 [.rd (z2o 8 z0r) (Vector.replicate 8 0)])),(108,some ((n49 0),.list z0r 78 s21)),(331,some ((n51 0),.list z0r 78 r50)),(332,some (v52,.box 176 [.rd (z2o 8 z0r) s54.1]))] aa ww) (fun aa ww h=>Zu h [1,2,108,331,332]) (fun s54=>?_)
    refine z0m<|gSR<|Zm Z<|Zq (I.lss Z Z)<|Zj Z (fun h55=>?_) (fun h55=>?_)
    ·
     refine Zt<|z0m<|z43<|z0m<|zfa mixed (by kernel_rfl)<|z5h fun x56 h57=>Rq Z (ixB 332 Z Z Z h57 tu176 z5e)<|Rq Z (ld 332 Z Z (fP (.el h57)) z7w Z)<|z5h fun x58 h59=>Rq Z (ixB 332 Z Z Z h59 tu176 z5e)<|Rq Z (ld 332 Z Z (fP (.el h59)) z7w Z)<|z5h fun x60 h61=>Rq Z (ixB 332 Z Z Z h61 tu176 z5e)<|Rq Z (ld 332 Z Z (fP (.el h61)) z7w Z)<|z5h fun x62 h63=>Rq Z (ixB 332 Z Z Z h63 tu176 z5e)<|Rq Z (ld 332 Z Z (fP (.el h63)) z7w Z)<|z5h fun x64 h65=>Rq Z (ixB 332 Z Z Z h65 tu176 z5e)<|Rq Z (ld 332 Z Z (fP (.el h65)) z7w Z)<|z5h fun x66 h67=>Rq Z (ixB 332 Z Z Z h67 tu176 z5e)<|Rq Z (ld 332 Z Z (fP (.el h67)) z7w Z)<|Rq Z (asg Z)<|Rq Z (asg Z)<|Rq Z (asg Z)<|Rq Z (asg Z)<|Rq Z (asg Z)<|Rq Z (asg Z)<|zpu<|z0j<|z0m<|z5v [] mixed Z Z<|z3z fun x68 h69=>hTk 0 Z Z (ixB 332 Z Z Z h69 tu176 z5e)<|hTk 1 Z Z (ld 332 Z Z (fP (.el h69)) z7w Z)<|hTk 2 Z Z (mv Z)<|hTk 4 Z Z (mv Z)<|hTk 7 Z Z (mv Z)<|hTk 11 Z Z (mv Z)<|hTk 12 Z Z (mv Z)<|hTk 13 Z Z (W.and Z Z)<|hTk 14 Z Z (mv Z)<|hTk 15 Z Z (W.cpl Z)<|hTk 16 Z Z (mv Z)<|hTk 17 Z Z (W.and Z Z)<|hTk 18 Z Z (W.xor Z Z)<|hTk 20 Z Z (mv Z)<|hTk 21 Z Z (mv Z)<|z3z fun x70 h71=>hTk 22 Z Z (ixO 331 Z Z Z h71 tu188 z5e)<|hTk 23 Z Z (ld 331 Z Z (Foc.el h71) z7w Z)<|hTk 25 Z Z (mv Z)<|hTk 26 Z Z (mv Z)<|z3z fun x72 h73=>hTk 27 Z Z (ixO 108 Z Z Z h73 tu188 z5e)<|hTk 28 Z Z (ld 108 Z Z (Foc.el h73) z7w Z)<|z3i 3 [] [] Z (by kernel_rfl) Z (gd0 Z) Z Tryz.func191 Z Z (z2m _ _) (Y2 Z Z) rN Z (fun _ _=>z34) fun r74 n75=>z3i 5 [] [] Z (by kernel_rfl) Z (gd0 Z) Z Tryz.func191 Z Z (z2m _ _) (Y2 Z Z) rN Z (fun _ _=>z34) fun r76 n77=>hTk 6 Z Z (W.xor Z Z)<|z3i 8 [] [] Z (by kernel_rfl) Z (gd0 Z) Z Tryz.func191 Z Z (z2m _ _) (Y2 Z Z) rN Z (fun _ _=>z34) fun r78 n79=>hTk 9 Z Z (W.xor Z Z)<|hTk 10 Z Z (W.add Z Z)<|hTk 19 Z Z (W.add Z Z)<|hTk 24 Z Z (W.add Z Z)<|hTk 29 Z Z (W.add Z Z)<|hTk 30 Z Z (asg Z)<|zw2 19 Z Z fun y80=>z3f (by kernel_rfl)<|z0j<|gSR<|Zm Z<|Zc [] [] Tryz.func191 Z (z2m _ _) fun r81 n82=>Zm Z<|Zc [] [] Tryz.func191 Z (z2m _ _) fun r83 n84=>Zq (W.xor Z Z)<|Zm Z<|Zc [] [] Tryz.func191 Z (z2m _ _) fun r85 n86=>Zq (W.xor Z Z)<|Zm Z<|Zm Z<|Zq (W.and Z Z)<|Zm Z<|Zm Z<|Zq (W.and Z Z)<|Zq (W.xor Z Z)<|Zm Z<|Zm Z<|Zq (W.and Z Z)<|Zq (W.xor Z Z)<|Zq (W.add Z Z)<|Za Z<|z2d 20 Z fun y87=>Zn<|z1y<|Zm Z<|Zm Z<|Zq (W.add Z Z)<|Zm Z<|Zm Z<|Zm Z<|z0w fun x88 h89=>Zq (ixB 332 Z Z Z h89 tu176 z5e)<|Zq (ld 332 Z Z (fP (.el h89)) z7w Z)<|Zm Z<|Zq (W.add Z Z)<|Zm Z<|Zm Z<|Zm Z<|Zq (litA (R:=z0r) [y80+y87,x56,x58,x60,x88+y80,x62,x64,x66] (#v[y80+y87,x56,x58,x60,x88+y80,x62,x64,x66]:Vector UInt32 8) (pP Z Z<|pP Z Z<|pP Z Z<|pP Z Z<|pP Z Z<|pP Z Z<|pP Z Z<|pP Z Z<|pN) Z tu176 zgu Z z5e)<|Es (sto 332 Z Z fH Z zgu)<|z1k<|z2t<|z0j<|z1y<|Zm Z<|Zq (I.add Z Z)<|Za Z<|z2d 12 Z fun y90=>z1k<|z1a (fun aa ww h=>Zu h [1,2,108,331,332])
    ·
     refine z1f<|z0u<|z0v<|z40 (fun aa ww h=>Zu h [1,2,332])
   ·
    refine z7x (fun (s91:(Vector UInt32 8)) aa ww=>Sta (ctx 203 H [] w) [(2,.val (z09 v1 0)),(4,.val (z09 v2 0))] [(1,some (v1,.box 176 [.rd (z2o 8 z0r) s91])),(2,some (v2,.box 176 [.rd (z2o 8 z0r) (Vector.replicate 8 0)]))] aa ww) ?_ (fun s91=>?_)
    ·
     refine gSR<|Zb Z<|z1h (fun (s92:(Vector UInt32 8) × Int) aa ww=>Sta (ctx 203 H [] w) [(2,.val (z09 v1 0)),(4,.val (z09 v2 0)),(11,.val (z09 v52 0)),(21,.rd z07 s92.2)] [(1,some (v1,.box 176 [.rd (z2o 8 z0r) s92.1])),(2,some (v2,.box 176 [.rd (z2o 8 z0r) (Vector.replicate 8 0)])),(332,some (v52,.box 176 [.rd (z2o 8 z0r) s53]))] aa ww) (fun aa ww h=>Zu h [1,2,332]) (fun s92=>?_)
     refine z0m<|gSR<|Zm Z<|Zq (I.lss Z Z)<|Zj Z (fun h93=>?_) (fun h93=>?_)
     ·
      refine Zt<|z0m<|z43<|z5v [1] mixed Z Z<|hTk 0 Z Z (mv Z)<|z3z fun x94 h95=>hTk 1 Z Z (ixB 1 Z Z Z h95 tu176 z5e)<|hTk 3 Z Z (mv Z)<|z3z fun x96 h97=>hTk 4 Z Z (ixB 332 Z Z Z h97 tu176 z5e)<|hTk 5 Z Z (ld 332 Z Z (fP (.el h97)) z7w Z)<|hRun 2 Z (by kernel_rfl) (gd0 Z) Z Z z34 (ld 1 Z Z (fP (.el h95)) z7w Z)<|hTk 6 Z Z (W.add Z Z)<|z3z fun x98 h99=>hTk 7 Z Z (ixB 1 Z Z Z h99 tu176 z5e)<|Zp 8 Z Z Z Z Z (sto 1 Z Z (fP (.el h99)) Z z5e)<|z3f (by kernel_rfl)<|z2t<|z0j<|z1y<|Zm Z<|Zq (I.add Z Z)<|Za Z<|z2d 21 Z fun y100=>z1k<|z1a (fun aa ww h=>Zu h [1,2,332])
     ·
      refine z1f<|z0u<|z0v<|z40 (fun aa ww h=>Zu h [1,2])
    ·
     refine gSR<|Zq (ld 1 Z Z fH zqy Z)<|Es (sto 2 Z Z fH Z zgu)<|Zn<|z0g<|zap [] [] Z (eC 2 Z Z zqy<|eN) (rN)
def z5c (a1:List UInt8) (s4:(Vector UInt32 8) × Int):Option (Sum ((Vector UInt32 8)) ((Vector UInt32 8) × Int)) :=
 if decide ((w64 (s4.2+64))≤(a1.length:Int)) then
  cut a1 s4.2 (w64 (s4.2+64)) >>= fun x6 =>
  z8s s4.1 x6 >>= fun r8 =>
  some (w64 (s4.2+64)) >>= fun y10 =>
  some (.inr (r8,y10))
 else
  some (.inl s4.1)
def z8q (a0:Vector UInt32 8) (a1:List UInt8):Option ((Vector UInt32 8)) :=
 (iter (z5c a1) (a0,0)) >>= fun s3 =>
 some s3
theorem zgr (a0:Vector UInt32 8) (a1:List UInt8):z1w Tryz.prog 140 [.rd (z2o 8 z0r) a0,.rd (z02 u8R) a1] [] (z8q a0 a1) (fun r nv=>⟨[.rd (z2o 8 z0r) r],[]⟩):=by
 refine z2l 21 Tryz.func140 Z Z Z fun H w=>?_
 refine gSR<|Eb Z (bx 1 Z) fun v1=>Eb Z (z5w 2 zgu (.zr (R:=(z2o 8 z0r)) (x:=(Vector.replicate 8 0)) zrk)) fun v2=>Zn<|z7x (fun (s3:(Vector UInt32 8)) aa ww=>Sta (ctx 21 H [] w) [(2,.val (z09 v1 0)),(4,.val (z09 v2 0))] [(1,some (v1,.box 176 [.rd (z2o 8 z0r) s3])),(2,some (v2,.box 176 [.rd (z2o 8 z0r) (Vector.replicate 8 0)]))] aa ww) ?_ (fun s3=>?_)
 ·
  refine gSR<|Zb Z<|z1h (fun (s4:(Vector UInt32 8) × Int) aa ww=>Sta (ctx 21 H [] w) [(1,.rd (z02 u8R) a1),(2,.val (z09 v1 0)),(4,.val (z09 v2 0)),(5,.rd z07 s4.2)] [(1,some (v1,.box 176 [.rd (z2o 8 z0r) s4.1])),(2,some (v2,.box 176 [.rd (z2o 8 z0r) (Vector.replicate 8 0)]))] aa ww) (fun aa ww h=>Zu h [1,2]) (fun s4=>?_)
  refine z0m<|gSR<|Zm Z<|Zq (I.add Z Z)<|Zm Z<|Zq (z2w Z .rd Z tu109)<|Zq (I.leq Z Z)<|Zj Z (fun h5=>?_) (fun h5=>?_)
  ·
   refine Zt<|z0m<|z43<|z5v [1] mixed Z Z<|hTk 1 Z Z (mv Z)<|hTk 2 Z Z (mv Z)<|hTk 3 Z Z (mv Z)<|hTk 4 Z Z (I.add Z Z)<|z3z fun x6 h7=>hTk 5 Z Z (cut' Z (.to Z) (.to Z) h7 tu109 ti5)<|hRun 0 Z (by kernel_rfl) (gd0 Z) Z Z anyJ (ld 1 Z Z fH zqy Z)<|zuu 6 [] [] Z (by kernel_rfl) Z (gd0 Z) Z Tryz.func174 Z Z (zgn _ _) (Y2 Z Z) rN Z fun r8 n9=>Zp 7 Z Z Z Z Z (sto 1 Z Z fH Z zgu)<|z3f (by kernel_rfl)<|z2t<|z0j<|z1y<|Zm Z<|Zq (I.add Z Z)<|Za Z<|z2d 5 Z fun y10=>z1k<|z1a (fun aa ww h=>Zu h [1,2])
  ·
   refine z1f<|z0u<|z0v<|z40 (fun aa ww h=>Zu h [1,2])
 ·
  refine gSR<|Zq (ld 1 Z Z fH zqy Z)<|Es (sto 2 Z Z fH Z zgu)<|Zn<|z0g<|zap [] [] Z (eC 2 Z Z zqy<|eN) (rN)
def z4t (a0:Vector UInt32 8) (s5:V3 × Int):Option (Sum (V3) (V3 × Int)) :=
 if decide (s5.2<32) then
  z5y a0 (w64 (Int.tdiv s5.2 4)) >>= fun x7 =>
  chk (0≤w64 (24 - (w64 (8 * (Int.tmod s5.2 4))))) >>= fun u9 =>
  z5y s5.1 s5.2 >>= fun x11 =>
  some (w64 (s5.2+1)) >>= fun y13 =>
  some (.inr (zdr s5.1 s5.2 ((z4g x7 ((w64 (24 - (w64 (8 * (Int.tmod s5.2 4)))):Int).toNat)).toUInt8),y13))
 else
  some (.inl s5.1)
def z7v (a0:Vector UInt32 8):Option (V3) :=
 (iter (z4t a0) ((Vector.replicate 32 0),0)) >>= fun s4 =>
 some s4
theorem zg3 (a0:Vector UInt32 8):z1w Tryz.prog 139 [.rd (z2o 8 z0r) a0] [] (z7v a0) (fun r nv=>⟨[.rd aZ r],[]⟩):=by
 refine z2l 22 Tryz.func139 Z Z Z fun H w=>?_
 refine gSR<|Eb Z (bx 1 Z) fun v1=>Eb Z (z5w 2 z5i (.zr (R:=aZ) (x:=(Vector.replicate 32 0)) zku)) fun v2=>Zn<|gSR<|Eb Z (z5w 3 z5i (.zr (R:=aZ) (x:=(Vector.replicate 32 0)) zku)) fun v3=>Zn<|z7x (fun (s4:V3) aa ww=>Sta (ctx 22 H [] w) [(2,.val (z09 v2 0)),(3,.val (z09 v3 0))] [(2,some (v2,.box 94 [.rd aZ (Vector.replicate 32 0)])),(3,some (v3,.box 94 [.rd aZ s4]))] aa ww) ?_ (fun s4=>?_)
 ·
  refine gSR<|Zb Z<|z1h (fun (s5:V3 × Int) aa ww=>Sta (ctx 22 H [] w) [(1,.val (z09 v1 0)),(2,.val (z09 v2 0)),(3,.val (z09 v3 0)),(4,.rd z07 s5.2)] [(1,some (v1,.box 176 [.rd (z2o 8 z0r) a0])),(2,some (v2,.box 94 [.rd aZ (Vector.replicate 32 0)])),(3,some (v3,.box 94 [.rd aZ s5.1]))] aa ww) (fun aa ww h=>Zu h [1,2,3]) (fun s5=>?_)
  refine z0m<|gSR<|Zm Z<|Zq (I.lss Z Z)<|Zj Z (fun h6=>?_) (fun h6=>?_)
  ·
   refine Zt<|z0m<|z43<|z1y<|Zm Z<|Zm Z<|Zq (I.quo Z Z (by decide))<|z0w fun x7 h8=>Zq (ixB 1 Z Z Z h8 tu176 z5e)<|Zq (ld 1 Z Z (fP (.el h8)) z7w Z)<|Zm Z<|Zq (I.rem Z Z (by decide))<|Zq (I.mul Z Z)<|Zq (I.sub Z Z)<|z0w fun u9 h10=>Zq (W.shr Z Z (z4z h10))<|Zq (W.toB Z tu78 tu5)<|z0w fun x11 h12=>Zq (ixB 3 Z Z Z h12 tu94 ti5)<|Es (sto 3 Z Z (fP (.el h12)) Z ti5)<|z1k<|z2t<|z0j<|z1y<|Zm Z<|Zq (I.add Z Z)<|Za Z<|z2d 4 Z fun y13=>z1k<|z1a (fun aa ww h=>Zu h [1,2,3])
  ·
   refine z1f<|z0u<|z0v<|z40 (fun aa ww h=>Zu h [2,3])
 ·
  refine gSR<|Zq (ld 3 Z Z fH z8z Z)<|Es (sto 2 Z Z fH Z z5i)<|Zn<|z0g<|zap [] [] Z (eC 2 Z Z z8z<|eN) (rN)
def za6 (a0:List UInt8):Option (V3) :=
 zbs >>= fun r2 =>
 app 1 ([]:List UInt8) a0 >>= fun x5 =>
 z9z (a0.length:Int) >>= fun r8 =>
 app 1 x5 r8 >>= fun x10 =>
 z8q r2 x10 >>= fun r13 =>
 z7v r13 >>= fun r15 =>
 some r15
end
section
open Go Go.RowKit
set_option maxRecDepth 100000
theorem zf9 (a0:List UInt8):z1w Tryz.prog 101 [.rd (z02 u8R) a0] [] (za6 a0) (fun r nv=>⟨[.rd aZ r],[]⟩):=by
 refine z2l 13 Tryz.func101 Z Z Z fun H w=>?_
 refine gSR<|Eb Z (z5w 1 z5i (.zr (R:=aZ) (x:=(Vector.replicate 32 0)) zku)) fun v1=>Zn<|gSR<|Zc [] [] Tryz.func141 Z (zhu) fun r2 n3=>Ef Z (lit (R:=u8R) (([]:List UInt8):List UInt8) 2 (pN) Z tu109 ti5 Z Z) fun v4=>Zm Z<|z0w fun x5 h6=>Ef Z (apn 2 Z Z Z .rd h6 tu109 ti5 Z Z Z) fun v7=>Zm Z<|Zq (z2w Z .rd Z tu109)<|Zc [] [(100,3)] Tryz.func142 Z (zj3 _) fun r8 n9=>z0w fun x10 h11=>Ef Z (apn 2 Z Z Z (.own 3 Z) h11 tu109 ti5 Z Z Z) fun v12=>zc6 2 [10] Z (fS Z<|fN)<|Zc [] [] Tryz.func140 Z (zgr _ _) fun r13 n14=>Zc [] [] Tryz.func139 Z (zg3 _) fun r15 n16=>Es (sto 1 Z Z fH Z z5i)<|Zn<|z0g<|zap [] [] Z (eC 1 Z Z z8z<|eN) (rN)
def zc0 (a0:z04):Option (V3) :=
 z9l a0 >>= fun r3 =>
 za6 r3 >>= fun r5 =>
 some r5
theorem zkl (a0:z04):z1w Tryz.prog 71 [.rd z03 a0] [] (zc0 a0) (fun r nv=>⟨[.rd aZ r],[]⟩):=by
 refine z2l 6 Tryz.func71 Z Z Z fun H w=>?_
 refine gSR<|Eb Z (bx 1 Z) fun v1=>Eb Z (z5w 2 z5i (.zr (R:=aZ) (x:=(Vector.replicate 32 0)) zku)) fun v2=>Zn<|gSR<|Zq (ld 1 Z Z fH zbe Z)<|Zc [] [(100,3)] Tryz.func102 Z (zhl _) fun r3 n4=>zc6 3 [4] Z (fS Z<|fN)<|Zc [] [] Tryz.func101 Z (zf9 _) fun r5 n6=>Es (sto 2 Z Z fH Z z5i)<|Zn<|z0g<|zap [] [] Z (eC 2 Z Z z8z<|eN) (rN)
def z7a (a0:V3) (a1:V3) (s4:Int):Option (Sum (Sum Int Unit) Int) :=
 if decide (s4<32) then
  z5y a0 s4 >>= fun x6 =>
  z5y a1 s4 >>= fun x8 =>
  if decide (x6<x8) then
   some (.inl (.inl (-1)))
  else
   z5y a0 s4 >>= fun x11 =>
   z5y a1 s4 >>= fun x13 =>
   if decide (x13<x11) then
    some (.inl (.inl 1))
   else
    some (.inr (w64 (s4+1)))
 else
  some (.inl (.inr ()))
def zb2 (a0:V3) (a1:V3):Option (Int) :=
 z3g (iter (z7a a0 a1) 0) fun s3 =>
 some 0
theorem zji (a0:V3) (a1:V3):z1w Tryz.prog 105 [.rd aZ a0,.rd aZ a1] [] (zb2 a0 a1) (fun r nv=>⟨[.rd z07 r],[]⟩):=by
 refine z2l 24 Tryz.func105 Z Z Z fun H w=>?_
 refine gSR<|Eb Z (bx 1 Z) fun v1=>Eb Z (bx 2 Z) fun v2=>Zb Z<|z42 (fun (s3:Unit) aa ww=>Sta (ctx 24 H [] w) [] [] aa ww) ?_ (fun s3=>?_)
 ·
  refine gSR<|Zb Z<|z1h (fun (s4:Int) aa ww=>Sta (ctx 24 H [] w) [(2,.val (z09 v1 0)),(3,.val (z09 v2 0)),(5,.rd z07 s4)] [(1,some (v1,.box 94 [.rd aZ a0])),(2,some (v2,.box 94 [.rd aZ a1]))] aa ww) (fun aa ww h=>Zu h [1,2]) (fun s4=>?_)
  refine z0m<|gSR<|Zm Z<|Zq (I.lss Z Z)<|Zj Z (fun h5=>?_) (fun h5=>?_)
  ·
   refine Zt<|z0m<|z43<|z0m<|z0m<|zfa mixed (by kernel_rfl)<|Rq Z (mv Z)<|z5h fun x6 h7=>Rq Z (ixB 1 Z Z Z h7 tu94 ti5)<|Rq Z (ld 1 Z Z (fP (.el h7)) ty5 Z)<|Rq Z (mv Z)<|z5h fun x8 h9=>Rq Z (ixB 2 Z Z Z h9 tu94 ti5)<|Rq Z (ld 2 Z Z (fP (.el h9)) ty5 Z)<|Rq Z (B.lss Z Z)<|zpu<|z0j<|gIf Z Z (fun h10=>?_) (fun h10=>?_)
   ·
    refine gSR<|Zb Z<|z0g<|z0l<|z2j<|z0l<|z3e<|z2z<|Ze [] [] Z
   ·
    refine Zt<|z0m<|zfa mixed (by kernel_rfl)<|Rq Z (mv Z)<|z5h fun x11 h12=>Rq Z (ixB 1 Z Z Z h12 tu94 ti5)<|Rq Z (ld 1 Z Z (fP (.el h12)) ty5 Z)<|Rq Z (mv Z)<|z5h fun x13 h14=>Rq Z (ixB 2 Z Z Z h14 tu94 ti5)<|Rq Z (ld 2 Z Z (fP (.el h14)) ty5 Z)<|Rq Z (B.gtr Z Z)<|zpu<|z0j<|gIf Z Z (fun h15=>?_) (fun h15=>?_)
    ·
     refine gSR<|Zb Z<|z0g<|z2j<|z0l<|z3e<|z2z<|Ze [] [] Z
    ·
     refine z24<|z2t<|z0j<|z1y<|Zm Z<|Zq (I.add Z Z)<|Za Z<|z1k<|z1a (fun aa ww h=>Zu h [1,2])
  ·
   refine z1f<|z0u<|z0v<|z3k (fun aa ww h=>Zu h [])
 ·
  refine gSR<|Zb Z<|z0g<|Ze [] [] Z
def z4b (a0:List V3) (s2:Int):Option (Sum (Sum Bool Unit) Int) :=
 if decide (s2<(a0.length:Int)) then
  idx a0 (w64 (s2 - 1)) >>= fun x4 =>
  idx a0 s2 >>= fun x6 =>
  zb2 x4 x6 >>= fun r8 =>
  if decide (0≤r8) then
   some (.inl (.inl false))
  else
   some (.inr (w64 (s2+1)))
 else
  some (.inl (.inr ()))
def z7b (a0:List V3):Option (Bool) :=
 z3g (iter (z4b a0) 1) fun s1 =>
 some true
theorem zbv (a0:List V3):z1w Tryz.prog 103 [.rd (z02 aZ) a0] [] (z7b a0) (fun r nv=>⟨[.rd z0p r],[]⟩):=by
 refine z2l 21 Tryz.func103 Z Z Z fun H w=>?_
 refine gSR<|Zb Z<|z42 (fun (s1:Unit) aa ww=>Sta (ctx 21 H [] w) [] [] aa ww) ?_ (fun s1=>?_)
 ·
  refine gSR<|Zb Z<|z1h (fun (s2:Int) aa ww=>Sta (ctx 21 H [] w) [(0,.rd (z02 aZ) a0),(3,.rd z07 s2)] [] aa ww) (fun aa ww h=>Zu h []) (fun s2=>?_)
  refine z0m<|gSR<|Zm Z<|Zm Z<|Zq (z2w Z .rd Z tu46)<|Zq (I.lss Z Z)<|Zj Z (fun h3=>?_) (fun h3=>?_)
  ·
   refine Zt<|z0m<|z43<|z0m<|z5v [] mixed Z Z<|hTk 0 Z Z (mv Z)<|hTk 1 Z Z (mv Z)<|hTk 2 Z Z (I.sub Z Z)<|z3z fun x4 h5=>hTk 3 Z Z (ixR Z Z h5 tu46 z5i Z)<|hTk 4 Z Z (ldR Z z8z)<|hTk 5 Z Z (mv Z)<|hTk 6 Z Z (mv Z)<|z3z fun x6 h7=>hTk 7 Z Z (ixR Z Z h7 tu46 z5i Z)<|hTk 8 Z Z (ldR Z z8z)<|z3i 9 [] [] Z (by kernel_rfl) Z (gd0 Z) Z Tryz.func105 Z Z (zji _ _) (Y2 Z Z) rN Z (fun _ _=>z34) fun r8 n9=>hTk 10 Z Z (I.geq Z Z)<|z3f (by kernel_rfl)<|z0j<|gIf Z Z (fun h10=>?_) (fun h10=>?_)
   ·
    refine gSR<|Zb Z<|z0g<|z2j<|z0l<|z3e<|z2z<|Ze [] [] Z
   ·
    refine z24<|z2t<|z0j<|z1y<|Zm Z<|Zq (I.add Z Z)<|Za Z<|z1k<|z1a (fun aa ww h=>Zu h [])
  ·
   refine z1f<|z0u<|z0v<|z3k (fun aa ww h=>Zu h [])
 ·
  refine gSR<|Zb Z<|z0g<|Ze [] [] Z
def z5l (a2:UInt64) (s2:UInt64 × UInt64 × UInt64):Option (Sum UInt64 (UInt64 × UInt64 × UInt64)) :=
 if decide (0<s2.2.1) then
  (if (s2.2.1 % 2)==1 then
   chk (a2≠0) >>= fun u6 =>
   some ((s2.2.2 * s2.1) % a2) >>= fun y8 =>
   some y8
  else
   some s2.2.2) >>= fun s4 =>
  chk (a2≠0) >>= fun u9 =>
  some ((s2.1 * s2.1) % a2) >>= fun y11 =>
  some (.inr (y11,s2.2.1 / 2,s4))
 else
  some (.inl s2.2.2)
def z7m (a0:UInt64) (a1:UInt64) (a2:UInt64):Option (UInt64) :=
 (iter (z5l a2) (a0,a1,1)) >>= fun s1 =>
 some s1
theorem zcf (a0:UInt64) (a1:UInt64) (a2:UInt64):z1w Tryz.prog 163 [.rd z1u a0,.rd z1u a1,.rd z1u a2] [] (z7m a0 a1 a2) (fun r nv=>⟨[.rd z1u r],[]⟩):=by
 refine z2l 26 Tryz.func163 Z Z Z fun H w=>?_
 refine gSR<|Zb Z<|gSR<|Zb Z<|z7x (fun (s1:UInt64) aa ww=>Sta (ctx 26 H [] w) [(7,.rd z1u s1)] [] aa ww) ?_ (fun s1=>?_)
 ·
  refine z1h (fun (s2:UInt64 × UInt64 × UInt64) aa ww=>Sta (ctx 26 H [] w) [(0,.rd z1u s2.1),(1,.rd z1u s2.2.1),(2,.rd z1u a2),(7,.rd z1u s2.2.2)] [] aa ww) (fun aa ww h=>Zu h []) (fun s2=>?_)
  refine z0m<|gSR<|Zm Z<|Zq (U.gtr Z Z)<|Zj Z (fun h3=>?_) (fun h3=>?_)
  ·
   refine Zt<|z43<|z7x (fun (s4:UInt64) aa ww=>Sta (ctx 26 H [] w) [(0,.rd z1u s2.1),(1,.rd z1u s2.2.1),(2,.rd z1u a2),(7,.rd z1u s4)] [] aa ww) ?_ (fun s4=>?_)
   ·
    refine gSR<|Zm Z<|Zq (U.rem Z Z (by decide))<|Zq (U.eql Z Z)<|Zj Z (fun h5=>?_) (fun h5=>?_)
    ·
     refine z1y<|Zm Z<|Zm Z<|Zq (U.mul Z Z)<|Zm Z<|z0w fun u6 h7=>Zq (U.rem Z Z (z4z h7))<|Za Z<|z2d 7 Z fun y8=>z1k<|z40 (fun aa ww h=>Zu h [])
    ·
     refine z24<|z40 (fun aa ww h=>Zu h [])
   ·
    refine gSR<|Zm Z<|Zm Z<|Zq (U.mul Z Z)<|Zm Z<|z0w fun u9 h10=>Zq (U.rem Z Z (z4z h10))<|Za Z<|z2d 0 Z fun y11=>Zn<|z1y<|Zm Z<|Zq (U.quo Z Z (by decide))<|Za Z<|z1k<|z2t<|z1a (fun aa ww h=>Zu h [])
  ·
   refine z1f<|z0u<|z0v<|z40 (fun aa ww h=>Zu h [])
 ·
  refine gSR<|Zm Z<|Zb Z<|z0g<|Ze [] [] Z
def zaf (a0:UInt32):Option (Bool) :=
 if decide (1≤a0) then
  if decide (a0<1000000007) then
   z7m a0.toUInt64 500000003 1000000007 >>= fun r3 =>
   some (r3==1)
  else
   some false
 else
  some false
theorem zf8 (a0:UInt32):z1w Tryz.prog 134 [.rd z0r a0] [] (zaf a0) (fun r nv=>⟨[.rd z0p r],[]⟩):=by
 refine z2l 15 Tryz.func134 Z Z Z fun H w=>?_
 refine gSR<|Zb Z<|gSR<|Zm Z<|Zq (W.geq Z Z)<|Zm Z<|z15 5 Z (fun h1=>?_) (fun h1=>?_)
 ·
  refine lKn 4 Z h1<|z0y Zx Z Z (mv Z)<|z0y Zx Z Z (W.lss Z Z)<|Zq (pkT Z Z)<|Zm Z<|z15 9 Z (fun h2=>?_) (fun h2=>?_)
  ·
   refine lKn 7 Z h2<|lKn 8 Z h2<|z0y Zx Z Z (mv Z)<|z0y Zx Z Z (W.toU Z tu78 tu56)<|zdo [] [] Zx Z Tryz.func163 Z Z (zcf _ _ _) (aQ Z<|aQ Z<|aQ Z<|aN) rN fun r3 n4=>z0y Zx Z Z (U.eql Z Z)<|Zq (pkT Z Z)<|Zb Z<|z0g<|Ze [] [] Z
  ·
   refine lKn 7 Z h2<|lKn 8 Z h2<|Zk Z<|Zk Z<|Zk Z<|Zk Z<|Zq (pkF Z Z)<|Zb Z<|z0g<|Ze [] [] Z
 ·
  refine lKn 4 Z h1<|Zk Z<|Zk Z<|Zq (pkF Z Z)<|Zm Z<|Zk Z<|Zk Z<|Zk Z<|Zk Z<|Zq (pkF Z Z)<|Zb Z<|z0g<|Ze [] [] Z
def z69 (a0:List UInt8) (s4:Int):Option (Sum (Sum Bool Unit) Int) :=
 if decide (s4<(a0.length:Int)) then
  idx a0 s4 >>= fun x6 =>
  if decide (x6<33) then
   some (.inl (.inl false))
  else
   idx a0 s4 >>= fun x9 =>
   if decide (126<x9) then
    some (.inl (.inl false))
   else
    some (.inr (w64 (s4+1)))
 else
  some (.inl (.inr ()))
def z88 (a0:List UInt8):Option (Bool) :=
 if decide ((a0.length:Int)<1) then
  some false
 else
  if decide (20<(a0.length:Int)) then
   some false
  else
   z3g (iter (z69 a0) 0) fun s3 =>
   some true
theorem zcw (a0:List UInt8):z1w Tryz.prog 164 [.rd zjt a0] [] (z88 a0) (fun r nv=>⟨[.rd z0p r],[]⟩):=by
 refine z2l 28 Tryz.func164 Z Z Z fun H w=>?_
 refine gSR<|Zb Z<|z0m<|gSR<|Zm Z<|Zq (lenT Z Z tu9)<|Zq (I.lss Z Z)<|Zm Z<|z15 7 Z (fun h1=>?_) (fun h1=>?_)
 ·
  refine lKn 6 Z h1<|Zk Z<|Zk Z<|Zk Z<|Zq (pkT Z Z)<|Zn<|zcu Z<|gSR<|Zb Z<|z0g<|z0l<|Ze [] [] Z
 ·
  refine lKn 6 Z h1<|z0y Zx Z Z (mv Z)<|z0y Zx Z Z (lenT Z Z tu9)<|z0y Zx Z Z (I.gtr Z Z)<|Zq (pkF Z Z)<|Zj Z (fun h2=>?_) (fun h2=>?_)
  ·
   refine gKn 10 Z h2<|gSR<|Zb Z<|z0g<|z0l<|Ze [] [] Z
  ·
   refine gKn 10 Z h2<|Zt<|z42 (fun (s3:Unit) aa ww=>Sta (ctx 28 H [] w) [] [] aa ww) ?_ (fun s3=>?_)
   ·
    refine gSR<|Zb Z<|z1h (fun (s4:Int) aa ww=>Sta (ctx 28 H [] w) [(0,.rd zjt a0),(3,.rd z07 s4)] [] aa ww) (fun aa ww h=>Zu h []) (fun s4=>?_)
    refine z0m<|gSR<|Zm Z<|Zm Z<|Zq (lenT Z Z tu9)<|Zq (I.lss Z Z)<|Zj Z (fun h5=>?_) (fun h5=>?_)
    ·
     refine Zt<|z0m<|z43<|gSR<|Zm Z<|Zm Z<|z0w fun x6 h7=>Zq (idxT Z Z tu9 (z5u h7).1 (z5u h7).2.1)<|Zq (B.lss Z Z)<|Zm Z<|z15 22 Z (fun h8=>?_) (fun h8=>?_)
     ·
      refine lKn 21 Z h8<|Zk Z<|Zk Z<|Zk Z<|Zk Z<|Zq (pkT Z Z)<|Zn<|zcu Z<|gSR<|Zb Z<|z0g<|z2j<|z0l<|z3e<|z2z<|Ze [] [] Z
     ·
      refine lKn 21 Z h8<|z0y Zx Z Z (mv Z)<|z0y Zx Z Z (mv Z)<|z0w fun x9 h10=>z0y Zx Z Z (idxT Z Z tu9 (z5u h10).1 (z5u h10).2.1)<|z0y Zx Z Z (B.gtr Z Z)<|Zq (pkF Z Z)<|Zj Z (fun h11=>?_) (fun h11=>?_)
      ·
       refine gKn 26 Z h11<|gSR<|Zb Z<|z0g<|z2j<|z0l<|z3e<|z2z<|Ze [] [] Z
      ·
       refine gKn 26 Z h11<|z24<|z2t<|z0j<|z1y<|Zm Z<|Zq (I.add Z Z)<|Za Z<|z1k<|z1a (fun aa ww h=>Zu h [])
    ·
     refine z1f<|z0u<|z0v<|z3k (fun aa ww h=>Zu h [])
   ·
    refine gSR<|Zb Z<|z0g<|Ze [] [] Z
def z7d (a0:UInt64):Option (Int) :=
 some (w64 (((a0 % 9223372036854775808) / 4503599627370496).toNat:Int)) >>= fun y1 =>
 some y1
theorem zfc (a0:UInt64):z1w Tryz.prog 200 [.rd z1u a0] [] (z7d a0) (fun r nv=>⟨[.rd z07 r],[]⟩):=by
 refine z2l 7 Tryz.func200 Z Z Z fun H w=>?_
 refine gSR<|Zb Z<|gSR<|Zm Z<|Zq (U.rem Z Z (by decide))<|Zq (U.quo Z Z (by decide))<|Zq (U.toI Z tu56 tu3)<|Za Z<|z2d 2 Z fun y1=>Zn<|z0g<|Ze [] [] Z
def z9p (a0:UInt64):Option (UInt64) :=
 some (a0 % 4503599627370496) >>= fun y1 =>
 some y1
theorem zff (a0:UInt64):z1w Tryz.prog 201 [.rd z1u a0] [] (z9p a0) (fun r nv=>⟨[.rd z1u r],[]⟩):=by
 refine z2l 5 Tryz.func201 Z Z Z fun H w=>?_
 refine gSR<|Zb Z<|gSR<|Zm Z<|Zq (U.rem Z Z (by decide))<|Za Z<|z2d 2 Z fun y1=>Zn<|z0g<|Ze [] [] Z
def z9e (a0:UInt64):Option (UInt8) :=
 z7d a0 >>= fun r1 =>
 z9p a0 >>= fun r3 =>
 z3g (if r1==0 then
  if r3==0 then
   some (.inl 1)
  else
   some (.inr ())
 else
  some (.inr ())) fun s5 =>
 if r1==0 then
  some 2
 else
  if decide (r1<2047) then
   some 3
  else
   if r3==0 then
    some 4
   else
    some 5
theorem zhz (a0:UInt64):z1w Tryz.prog 197 [.rd z1u a0] [] (z9e a0) (fun r nv=>⟨[.rd u8R r],[]⟩):=by
 refine z2l 21 Tryz.func197 Z Z Z fun H w=>?_
 refine gSR<|Zb Z<|gSR<|Zm Z<|Zc [] [] Tryz.func200 Z (zfc _) fun r1 n2=>Zm Z<|Zc [] [] Tryz.func201 Z (zff _) fun r3 n4=>Za Z<|Zb Z<|z42 (fun (s5:Unit) aa ww=>Sta (ctx 21 H [] w) [(3,.rd z07 r1),(4,.rd z1u r3)] [] aa ww) ?_ (fun s5=>?_)
 ·
  refine gSR<|Zm Z<|Zq (I.eql Z Z)<|Zm Z<|z15 11 Z (fun h6=>?_) (fun h6=>?_)
  ·
   refine lKn 10 Z h6<|z0y Zx Z Z (mv Z)<|z0y Zx Z Z (U.eql Z Z)<|Zq (pkT Z Z)<|Zj Z (fun h7=>?_) (fun h7=>?_)
   ·
    refine gKn 13 Z h7<|gSR<|Zb Z<|z0g<|z2z<|Ze [] [] Z
   ·
    refine gKn 13 Z h7<|z24<|z3k (fun aa ww h=>Zu h [])
  ·
   refine lKn 10 Z h6<|Zk Z<|Zk Z<|Zq (pkF Z Z)<|Zn<|zbi Z<|z24<|z3k (fun aa ww h=>Zu h [])
 ·
  refine z0m<|gSR<|Zm Z<|Zq (I.eql Z Z)<|Zj Z (fun h8=>?_) (fun h8=>?_)
  ·
   refine gSR<|Zb Z<|z0g<|z0l<|Ze [] [] Z
  ·
   refine Zt<|z0m<|gSR<|Zm Z<|Zq (I.lss Z Z)<|Zj Z (fun h9=>?_) (fun h9=>?_)
   ·
    refine gSR<|Zb Z<|z0g<|z0l<|Ze [] [] Z
   ·
    refine Zt<|z0m<|gSR<|Zm Z<|Zq (U.eql Z Z)<|Zj Z (fun h10=>?_) (fun h10=>?_)
    ·
     refine gSR<|Zb Z<|z0g<|z0l<|Ze [] [] Z
    ·
     refine Zt<|gSR<|Zb Z<|z0g<|Ze [] [] Z
def z9d (a0:UInt64):Option (UInt64) :=
 z9e a0 >>= fun r1 =>
 if r1==5 then
  some 9221120237041090560
 else
  some a0
theorem zhw (a0:UInt64):z1w Tryz.prog 185 [.rd z1u a0] [] (z9d a0) (fun r nv=>⟨[.rd z1u r],[]⟩):=by
 refine z2l 7 Tryz.func185 Z Z Z fun H w=>?_
 refine gSR<|Zb Z<|z0m<|gSR<|Zm Z<|Zc [] [] Tryz.func197 Z (zhz _) fun r1 n2=>Zq (B.eql Z Z)<|Zj Z (fun h3=>?_) (fun h3=>?_)
 ·
  refine gSR<|Zb Z<|z0g<|z0l<|Ze [] [] Z
 ·
  refine Zt<|gSR<|Zm Z<|Zb Z<|z0g<|Ze [] [] Z
def z48 (a0:List UInt8) (s2:Int):Option (Sum (Sum Bool Unit) Int) :=
 if decide (s2<(a0.length:Int)) then
  idx a0 s2 >>= fun x4 =>
  if decide (x4<32) then
   some (.inl (.inl false))
  else
   idx a0 s2 >>= fun x7 =>
   if decide (126<x7) then
    some (.inl (.inl false))
   else
    some (.inr (w64 (s2+1)))
 else
  some (.inl (.inr ()))
def z6x (a0:List UInt8):Option (Bool) :=
 z3g (iter (z48 a0) 0) fun s1 =>
 some true
theorem zee (a0:List UInt8):z1w Tryz.prog 186 [.rd zjt a0] [] (z6x a0) (fun r nv=>⟨[.rd z0p r],[]⟩):=by
 refine z2l 20 Tryz.func186 Z Z Z fun H w=>?_
 refine gSR<|Zb Z<|z42 (fun (s1:Unit) aa ww=>Sta (ctx 20 H [] w) [] [] aa ww) ?_ (fun s1=>?_)
 ·
  refine gSR<|Zb Z<|z1h (fun (s2:Int) aa ww=>Sta (ctx 20 H [] w) [(0,.rd zjt a0),(3,.rd z07 s2)] [] aa ww) (fun aa ww h=>Zu h []) (fun s2=>?_)
  refine z0m<|gSR<|Zm Z<|Zm Z<|Zq (lenT Z Z tu9)<|Zq (I.lss Z Z)<|Zj Z (fun h3=>?_) (fun h3=>?_)
  ·
   refine Zt<|z0m<|z43<|gSR<|Zm Z<|Zm Z<|z0w fun x4 h5=>Zq (idxT Z Z tu9 (z5u h5).1 (z5u h5).2.1)<|Zq (B.lss Z Z)<|Zm Z<|z15 14 Z (fun h6=>?_) (fun h6=>?_)
   ·
    refine lKn 13 Z h6<|Zk Z<|Zk Z<|Zk Z<|Zk Z<|Zq (pkT Z Z)<|Zn<|zcu Z<|gSR<|Zb Z<|z0g<|z2j<|z0l<|z3e<|z2z<|Ze [] [] Z
   ·
    refine lKn 13 Z h6<|z0y Zx Z Z (mv Z)<|z0y Zx Z Z (mv Z)<|z0w fun x7 h8=>z0y Zx Z Z (idxT Z Z tu9 (z5u h8).1 (z5u h8).2.1)<|z0y Zx Z Z (B.gtr Z Z)<|Zq (pkF Z Z)<|Zj Z (fun h9=>?_) (fun h9=>?_)
    ·
     refine gKn 18 Z h9<|gSR<|Zb Z<|z0g<|z2j<|z0l<|z3e<|z2z<|Ze [] [] Z
    ·
     refine gKn 18 Z h9<|z24<|z2t<|z0j<|z1y<|Zm Z<|Zq (I.add Z Z)<|Za Z<|z1k<|z1a (fun aa ww h=>Zu h [])
  ·
   refine z1f<|z0u<|z0v<|z3k (fun aa ww h=>Zu h [])
 ·
  refine gSR<|Zb Z<|z0g<|Ze [] [] Z
def z99 (a0:z05):Option (Int) :=
 if a0.Kind==1 then
  if a0.Bits==0 then
   if a0.Text==[] then
    some 0
   else
    some 8
  else
   some 8
 else
  if a0.Kind==2 then
   (if a0.Num==0 then
    if a0.Text==[] then
     z9d a0.Bits >>= fun r9 =>
     some (r9==a0.Bits)
    else
     some false
   else
    some false) >>= fun s6 =>
   if s6 then
    some 0
   else
    some 8
  else
   if a0.Kind==3 then
    (if a0.Num==0 then
     if a0.Bits==0 then
      if decide ((a0.Text.length:Int)≤30) then
       z6x a0.Text >>= fun r17 =>
       some r17
      else
       some false
     else
      some false
    else
     some false) >>= fun s13 =>
    if s13 then
     some 0
    else
     some 8
   else
    some 8
theorem zhm (a0:z05):z1w Tryz.prog 165 [.rd z1o a0] [] (z99 a0) (fun r nv=>⟨[.rd z07 r],[]⟩):=by
 refine z2l 54 Tryz.func165 Z Z Z fun H w=>?_
 refine gSR<|Eb Z (bx 1 Z) fun v1=>Zb Z<|z0m<|gSR<|Zq (faB 1 Z Z Tryz.underlying80 Z (by exact ti5))<|Zq (ld 1 Z Z (fP (z2v _)) ty5 Z)<|Zn<|z43<|gSR<|Zq (B.eql Z Z)<|Zb Z<|gIf Z Z (fun h2=>?_) (fun h2=>?_)
 ·
  refine gKn 6 Z h2<|gSR<|Zq (faB 1 Z Z Tryz.underlying80 Z (by exact zlq))<|Zq (ld 1 Z Z (fP (z3v _)) znt Z)<|Zq (U.eql Z Z)<|Zm Z<|z15 10 Z (fun h3=>?_) (fun h3=>?_)
  ·
   refine lKn 9 Z h3<|z0y Zx Z Z (faB 1 Z Z Tryz.underlying80 Z (by exact ti9))<|z0y Zx Z Z (ld 1 Z Z (fP (z3d _)) ty9 Z)<|z0y Zx Z Z (eqS Z Z)<|Zq (pkT Z Z)<|Zj Z (fun h4=>?_) (fun h4=>?_)
   ·
    refine gKn 13 Z h4<|gSR<|Zb Z<|z0g<|z2j<|z0l<|Ze [] [] Z
   ·
    refine gKn 13 Z h4<|z24<|z2t<|z0j<|gSR<|Zb Z<|z0g<|Ze [] [] Z
  ·
   refine lKn 9 Z h3<|Zk Z<|Zk Z<|Zk Z<|Zq (pkF Z Z)<|Zn<|zbi Z<|z24<|z2t<|z0j<|gSR<|Zb Z<|z0g<|Ze [] [] Z
 ·
  refine gKn 6 Z h2<|gSR<|Zq (B.eql Z Z)<|Zb Z<|gIf Z Z (fun h5=>?_) (fun h5=>?_)
  ·
   refine gKn 16 Z h5<|z7x (fun (s6:Bool) aa ww=>Sta (ctx 54 H [] w) [(32,.rd z0p s6)] [] aa ww) ?_ (fun s6=>?_)
   ·
    refine z5v [] mixed Z Z<|hTk 0 Z Z (faB 1 Z Z Tryz.underlying80 Z (by exact ti2))<|hTk 1 Z Z (ld 1 Z Z (fP (z65 _)) ty2 Z)<|hTk 2 Z Z (I.eql Z Z)<|hTk 3 Z Z (mv Z)<|hIf 20 Z Z (fun h7=>?_) (fun h7=>?_)
    ·
     refine hKn 19 Z Z h7<|Zg 4 Z Z (faB 1 Z Z Tryz.underlying80 Z (by exact ti9))<|Zg 5 Z Z (ld 1 Z Z (fP (z3d _)) ty9 Z)<|Zg 6 Z Z (eqS Z Z)<|hTk 7 Z Z (pkT Z Z)<|hTk 8 Z Z (mv Z)<|hIf 25 Z Z (fun h8=>?_) (fun h8=>?_)
     ·
      refine hKn 23 Z Z h8<|hKn 24 Z Z h8<|Zg 9 Z Z (faB 1 Z Z Tryz.underlying80 Z (by exact zlq))<|Zg 10 Z Z (ld 1 Z Z (fP (z3v _)) znt Z)<|Zg 12 Z Z (faB 1 Z Z Tryz.underlying80 Z (by exact zlq))<|Zg 13 Z Z (ld 1 Z Z (fP (z3v _)) znt Z)<|z3i 11 [] [] Z (by kernel_rfl) Z Zx Z Tryz.func185 Z Z (zhw _) (Y1 Z) rN Z (fun _ _=>z34) fun r9 n10=>Zg 14 Z Z (U.eql Z Z)<|hTk 15 Z Z (pkT Z Z)<|z3f (by kernel_rfl)<|z40 (fun aa ww h=>Zu h [])
     ·
      refine hKn 23 Z Z h8<|hKn 24 Z Z h8<|hSk 9 Z Z<|hSk 10 Z Z<|hSk 11 Z Z<|hSk 12 Z Z<|hSk 13 Z Z<|hSk 14 Z Z<|hTk 15 Z Z (pkF Z Z)<|z3f (by kernel_rfl)<|z40 (fun aa ww h=>Zu h [])
    ·
     refine hKn 19 Z Z h7<|hSk 4 Z Z<|hSk 5 Z Z<|hSk 6 Z Z<|hTk 7 Z Z (pkF Z Z)<|hTk 8 Z Z (mv Z)<|hSk 9 Z Z<|hSk 10 Z Z<|hSk 11 Z Z<|hSk 12 Z Z<|hSk 13 Z Z<|hSk 14 Z Z<|hTk 15 Z Z (pkF Z Z)<|z3f (by kernel_rfl)<|z40 (fun aa ww h=>Zu h [])
   ·
    refine gIf Z Z (fun h11=>?_) (fun h11=>?_)
    ·
     refine gSR<|Zb Z<|z0g<|z2j<|z0l<|Ze [] [] Z
    ·
     refine z24<|z2t<|z0j<|gSR<|Zb Z<|z0g<|Ze [] [] Z
  ·
   refine gKn 16 Z h5<|gSR<|Zq (B.eql Z Z)<|Zb Z<|gIf Z Z (fun h12=>?_) (fun h12=>?_)
   ·
    refine gKn 34 Z h12<|z7x (fun (s13:Bool) aa ww=>Sta (ctx 54 H [] w) [(53,.rd z0p s13)] [] aa ww) ?_ (fun s13=>?_)
    ·
     refine z1y<|Zq (faB 1 Z Z Tryz.underlying80 Z (by exact ti2))<|Zq (ld 1 Z Z (fP (z65 _)) ty2 Z)<|Zq (I.eql Z Z)<|Zm Z<|z15 38 Z (fun h14=>?_) (fun h14=>?_)
     ·
      refine lKn 37 Z h14<|z0y Zx Z Z (faB 1 Z Z Tryz.underlying80 Z (by exact zlq))<|z0y Zx Z Z (ld 1 Z Z (fP (z3v _)) znt Z)<|z0y Zx Z Z (U.eql Z Z)<|Zq (pkT Z Z)<|Zm Z<|z15 43 Z (fun h15=>?_) (fun h15=>?_)
      ·
       refine lKn 41 Z h15<|lKn 42 Z h15<|z0y Zx Z Z (faB 1 Z Z Tryz.underlying80 Z (by exact ti9))<|z0y Zx Z Z (ld 1 Z Z (fP (z3d _)) ty9 Z)<|z0y Zx Z Z (lenT Z Z tu9)<|z0y Zx Z Z (I.leq Z Z)<|Zq (pkT Z Z)<|Zm Z<|z15 49 Z (fun h16=>?_) (fun h16=>?_)
       ·
        refine lKn 47 Z h16<|lKn 48 Z h16<|z0y Zx Z Z (faB 1 Z Z Tryz.underlying80 Z (by exact ti9))<|z0y Zx Z Z (ld 1 Z Z (fP (z3d _)) ty9 Z)<|zdo [] [] Zx Z Tryz.func186 Z Z (zee _) (Y1 Z) rN fun r17 n18=>Zq (pkT Z Z)<|z1k<|z40 (fun aa ww h=>Zu h [])
       ·
        refine lKn 47 Z h16<|lKn 48 Z h16<|Zk Z<|Zk Z<|Zk Z<|Zq (pkF Z Z)<|z1k<|z40 (fun aa ww h=>Zu h [])
      ·
       refine lKn 41 Z h15<|lKn 42 Z h15<|Zk Z<|Zk Z<|Zk Z<|Zk Z<|Zq (pkF Z Z)<|Zm Z<|Zk Z<|Zk Z<|Zk Z<|Zq (pkF Z Z)<|z1k<|z40 (fun aa ww h=>Zu h [])
     ·
      refine lKn 37 Z h14<|Zk Z<|Zk Z<|Zk Z<|Zq (pkF Z Z)<|Zm Z<|Zk Z<|Zk Z<|Zk Z<|Zk Z<|Zq (pkF Z Z)<|Zm Z<|Zk Z<|Zk Z<|Zk Z<|Zq (pkF Z Z)<|z1k<|z40 (fun aa ww h=>Zu h [])
    ·
     refine gIf Z Z (fun h19=>?_) (fun h19=>?_)
     ·
      refine gSR<|Zb Z<|z0g<|z2j<|z0l<|Ze [] [] Z
     ·
      refine z24<|z2t<|z0j<|gSR<|Zb Z<|z0g<|Ze [] [] Z
   ·
    refine gKn 34 Z h12<|z24<|z2t<|z0j<|gSR<|Zb Z<|z0g<|Ze [] [] Z
def z7i (a0:z0f):Option (Int) :=
 some (decide (a0.Value=(⟨0,0,0,[]⟩:z05))) >>= fun y2 =>
 if a0.Kind==1 then
  if a0.Key==[] then
   if y2 then
    some 0
   else
    some 8
  else
   some 8
 else
  (if a0.Kind==2 then
   some true
  else
   some (a0.Kind==3)) >>= fun s6 =>
  if s6 then
   z88 a0.Key >>= fun r9 =>
   if r9 then
    if y2 then
     some 0
    else
     some 8
   else
    some 8
  else
   if a0.Kind==4 then
    z88 a0.Key >>= fun r14 =>
    if r14 then
     z99 a0.Value >>= fun r17 =>
     if r17==0 then
      some 0
     else
      some 8
    else
     some 8
   else
    some 8
theorem zfd (a0:z0f):z1w Tryz.prog 135 [.rd z0q a0] [] (z7i a0) (fun r nv=>⟨[.rd z07 r],[]⟩):=by
 refine z2l 38 Tryz.func135 Z Z Z fun H w=>?_
 refine gSR<|Eb Z (bx 1 Z) fun v1=>Zb Z<|gSR<|Zq (faB 1 Z Z Tryz.underlying82 Z (by exact zjo))<|Zq (ld 1 Z Z (fP (z57 _)) zsy Z)<|Zq (bld (x':=(⟨0,0,0,[]⟩:z05)) [(0,1),(1,1),(2,1),(3,1)] Tryz.underlying80 zjo Z zwz Z (Bld.done Z))<|Zq (eqA Z Z eq80 Z Z gq80)<|Za Z<|z2d 3 Z fun y2=>Zn<|z0m<|gSR<|Zq (faB 1 Z Z Tryz.underlying82 Z (by exact ti5))<|Zq (ld 1 Z Z (fP (z36 _)) ty5 Z)<|Zn<|z43<|gSR<|Zq (B.eql Z Z)<|Zb Z<|gIf Z Z (fun h3=>?_) (fun h3=>?_)
 ·
  refine gKn 11 Z h3<|gSR<|Zq (faB 1 Z Z Tryz.underlying82 Z (by exact ti9))<|Zq (ld 1 Z Z (fP (z5g _)) ty9 Z)<|Zq (eqS Z Z)<|Zm Z<|z15 15 Z (fun h4=>?_) (fun h4=>?_)
  ·
   refine lKn 14 Z h4<|z0y Zx Z Z (mv Z)<|Zq (pkT Z Z)<|Zj Z (fun h5=>?_) (fun h5=>?_)
   ·
    refine gKn 3 Z h5<|gKn 16 Z h5<|gSR<|Zb Z<|z0g<|z2j<|z0l<|Ze [] [] Z
   ·
    refine gKn 3 Z h5<|gKn 16 Z h5<|z24<|z2t<|z0j<|gSR<|Zb Z<|z0g<|Ze [] [] Z
  ·
   refine lKn 14 Z h4<|Zk Z<|Zq (pkF Z Z)<|Zn<|zbi Z<|z24<|z2t<|z0j<|gSR<|Zb Z<|z0g<|Ze [] [] Z
 ·
  refine gKn 11 Z h3<|z7x (fun (s6:Bool) aa ww=>Sta (ctx 38 H [] w) [(1,.val (z09 v1 0)),(3,.rd z0p y2),(9,.rd u8R a0.Kind),(18,.rd z0p s6)] [(1,some (v1,.box 82 [.rd z0q a0]))] aa ww) ?_ (fun s6=>?_)
  ·
   refine gSR<|Zq (B.eql Z Z)<|Zb Z<|gIf Z Z (fun h7=>?_) (fun h7=>?_)
   ·
    refine gKn 19 Z h7<|z24<|z40 (fun aa ww h=>Zu h [1])
   ·
    refine gKn 19 Z h7<|z1y<|Zq (B.eql Z Z)<|Za Z<|z1k<|z40 (fun aa ww h=>Zu h [1])
  ·
   refine gIf Z Z (fun h8=>?_) (fun h8=>?_)
   ·
    refine gSR<|Zq (faB 1 Z Z Tryz.underlying82 Z (by exact ti9))<|Zq (ld 1 Z Z (fP (z5g _)) ty9 Z)<|Zc [] [] Tryz.func164 Z (zcw _) fun r9 n10=>Zm Z<|z15 24 Z (fun h11=>?_) (fun h11=>?_)
    ·
     refine lKn 23 Z h11<|z0y Zx Z Z (mv Z)<|Zq (pkT Z Z)<|Zj Z (fun h12=>?_) (fun h12=>?_)
     ·
      refine gKn 3 Z h12<|gKn 25 Z h12<|gSR<|Zb Z<|z0g<|z2j<|z0l<|Ze [] [] Z
     ·
      refine gKn 3 Z h12<|gKn 25 Z h12<|z24<|z2t<|z0j<|gSR<|Zb Z<|z0g<|Ze [] [] Z
    ·
     refine lKn 23 Z h11<|Zk Z<|Zq (pkF Z Z)<|Zn<|zbi Z<|z24<|z2t<|z0j<|gSR<|Zb Z<|z0g<|Ze [] [] Z
   ·
    refine gSR<|Zq (B.eql Z Z)<|Zb Z<|gIf Z Z (fun h13=>?_) (fun h13=>?_)
    ·
     refine gKn 28 Z h13<|gSR<|Zq (faB 1 Z Z Tryz.underlying82 Z (by exact ti9))<|Zq (ld 1 Z Z (fP (z5g _)) ty9 Z)<|Zc [] [] Tryz.func164 Z (zcw _) fun r14 n15=>Zm Z<|z15 32 Z (fun h16=>?_) (fun h16=>?_)
     ·
      refine lKn 31 Z h16<|z0y Zx Z Z (faB 1 Z Z Tryz.underlying82 Z (by exact zjo))<|z0y Zx Z Z (ld 1 Z Z (fP (z57 _)) zsy Z)<|zdo [] [] Zx Z Tryz.func165 Z Z (zhm _) (Y1 Z) rN fun r17 n18=>z0y Zx Z Z (I.eql Z Z)<|Zq (pkT Z Z)<|Zj Z (fun h19=>?_) (fun h19=>?_)
      ·
       refine gKn 36 Z h19<|gSR<|Zb Z<|z0g<|z2j<|z0l<|Ze [] [] Z
      ·
       refine gKn 36 Z h19<|z24<|z2t<|z0j<|gSR<|Zb Z<|z0g<|Ze [] [] Z
     ·
      refine lKn 31 Z h16<|Zk Z<|Zk Z<|Zk Z<|Zk Z<|Zq (pkF Z Z)<|Zn<|zbi Z<|z24<|z2t<|z0j<|gSR<|Zb Z<|z0g<|Ze [] [] Z
    ·
     refine gKn 28 Z h13<|z24<|z2t<|z0j<|gSR<|Zb Z<|z0g<|Ze [] [] Z
def z3s (a0:UInt32):Option (Bool) :=
 some (decide (a0.toUInt64<500000003)) >>= fun y1 =>
 some y1
theorem z5t (a0:UInt32):z1w Tryz.prog 136 [.rd z0r a0] [] (z3s a0) (fun r nv=>⟨[.rd z0p r],[]⟩):=by
 refine z2l 6 Tryz.func136 Z Z Z fun H w=>?_
 refine gSR<|Zb Z<|gSR<|Zm Z<|Zq (W.toU Z tu78 tu56)<|Zq (U.lss Z Z)<|Za Z<|z2d 2 Z fun y1=>Zn<|z0g<|Ze [] [] Z
def z7k (a0:z04):Option (Int) :=
 if decide (4<(a0.Preds.length:Int)) then
  some 4
 else
  z7b a0.Preds >>= fun r3 =>
  if !r3 then
   some 32
  else
   (zaf a0.Author >>= fun r7 =>
   if !r7 then
    some true
   else
    if decide (1000000000000<a0.Stamp) then
     some true
    else
     z7i a0.Act >>= fun r11 =>
     if r11 != 0 then
      some true
     else
      z3s a0.Sig.E >>= fun r14 =>
      if !r14 then
       some true
      else
       z3s a0.Sig.S >>= fun r17 =>
       some (!r17)) >>= fun s6 =>
   if s6 then
    some 8
   else
    some 0
theorem zc8 (a0:z04):z1w Tryz.prog 99 [.rd z03 a0] [] (z7k a0) (fun r nv=>⟨[.rd z07 r],[]⟩):=by
 refine z2l 40 Tryz.func99 Z Z Z fun H w=>?_
 refine gSR<|Eb Z (bx 1 Z) fun v1=>Zb Z<|z0m<|gSR<|Zq (faB 1 Z Z Tryz.underlying86 Z (by exact z8d))<|Zq (ld 1 Z Z (fP (z0z _)) z9w Z)<|Zq (z2w Z .rd Z tu46)<|Zq (I.gtr Z Z)<|Zj Z (fun h2=>?_) (fun h2=>?_)
 ·
  refine gSR<|Zb Z<|z0g<|z0l<|Ze [] [] Z
 ·
  refine Zt<|z0m<|gSR<|Zq (faB 1 Z Z Tryz.underlying86 Z (by exact z8d))<|Zq (ld 1 Z Z (fP (z0z _)) z9w Z)<|Zc [] [] Tryz.func103 Z (zbv _) fun r3 n4=>Zq (zct Z)<|Zj Z (fun h5=>?_) (fun h5=>?_)
  ·
   refine gSR<|Zb Z<|z0g<|z0l<|Ze [] [] Z
  ·
   refine Zt<|z0m<|z7x (fun (s6:Bool) aa ww=>Sta (ctx 40 H [] w) [(39,.rd z0p s6)] [] aa ww) ?_ (fun s6=>?_)
   ·
    refine z1y<|Zq (faB 1 Z Z Tryz.underlying86 Z (by exact z5e))<|Zq (ld 1 Z Z (fP (z23 _)) z7w Z)<|Zc [] [] Tryz.func134 Z (zf8 _) fun r7 n8=>Zq (zct Z)<|Zm Z<|z15 15 Z (fun h9=>?_) (fun h9=>?_)
    ·
     refine lKn 14 Z h9<|Zk Z<|Zk Z<|Zk Z<|Zq (pkT Z Z)<|Zm Z<|Zk Z<|Zk Z<|Zk Z<|Zk Z<|Zq (pkT Z Z)<|Zm Z<|Zk Z<|Zk Z<|Zk Z<|Zk Z<|Zk Z<|Zq (pkT Z Z)<|Zm Z<|Zk Z<|Zk Z<|Zk Z<|Zk Z<|Zk Z<|Zq (pkT Z Z)<|z1k<|z40 (fun aa ww h=>Zu h [])
    ·
     refine lKn 14 Z h9<|z0y Zx Z Z (faB 1 Z Z Tryz.underlying86 Z (by exact zlq))<|z0y Zx Z Z (ld 1 Z Z (fP (z2r _)) znt Z)<|z0y Zx Z Z (U.gtr Z Z)<|Zq (pkF Z Z)<|Zm Z<|z15 20 Z (fun h10=>?_) (fun h10=>?_)
     ·
      refine lKn 18 Z h10<|lKn 19 Z h10<|Zk Z<|Zk Z<|Zk Z<|Zk Z<|Zq (pkT Z Z)<|Zm Z<|Zk Z<|Zk Z<|Zk Z<|Zk Z<|Zk Z<|Zq (pkT Z Z)<|Zm Z<|Zk Z<|Zk Z<|Zk Z<|Zk Z<|Zk Z<|Zq (pkT Z Z)<|z1k<|z40 (fun aa ww h=>Zu h [])
     ·
      refine lKn 18 Z h10<|lKn 19 Z h10<|z0y Zx Z Z (faB 1 Z Z Tryz.underlying86 Z (by exact zks))<|z0y Zx Z Z (ld 1 Z Z (fP (z1e _)) ty82 Z)<|zdo [] [] Zx Z Tryz.func135 Z Z (zfd _) (Y1 Z) rN fun r11 n12=>z0y Zx Z Z (I.neq Z Z)<|Zq (pkF Z Z)<|Zm Z<|z15 26 Z (fun h13=>?_) (fun h13=>?_)
      ·
       refine lKn 24 Z h13<|lKn 25 Z h13<|Zk Z<|Zk Z<|Zk Z<|Zk Z<|Zk Z<|Zq (pkT Z Z)<|Zm Z<|Zk Z<|Zk Z<|Zk Z<|Zk Z<|Zk Z<|Zq (pkT Z Z)<|z1k<|z40 (fun aa ww h=>Zu h [])
      ·
       refine lKn 24 Z h13<|lKn 25 Z h13<|z0y Zx Z Z (faB 1 Z Z Tryz.underlying86 Z (by exact zjr))<|z0y Zx Z Z (faB 1 Z Z Tryz.underlying84 Z (by exact z5e))<|z0y Zx Z Z (ld 1 Z Z ((fP (z1x _)).part (z4w _)) z7w Z)<|zdo [] [] Zx Z Tryz.func136 Z Z (z5t _) (Y1 Z) rN fun r14 n15=>z0y Zx Z Z (zct Z)<|Zq (pkF Z Z)<|Zm Z<|z15 33 Z (fun h16=>?_) (fun h16=>?_)
       ·
        refine lKn 31 Z h16<|lKn 32 Z h16<|Zk Z<|Zk Z<|Zk Z<|Zk Z<|Zk Z<|Zq (pkT Z Z)<|z1k<|z40 (fun aa ww h=>Zu h [])
       ·
        refine lKn 31 Z h16<|lKn 32 Z h16<|z0y Zx Z Z (faB 1 Z Z Tryz.underlying86 Z (by exact zjr))<|z0y Zx Z Z (faB 1 Z Z Tryz.underlying84 Z (by exact z5e))<|z0y Zx Z Z (ld 1 Z Z ((fP (z1x _)).part (z6f _)) z7w Z)<|zdo [] [] Zx Z Tryz.func136 Z Z (z5t _) (Y1 Z) rN fun r17 n18=>z0y Zx Z Z (zct Z)<|Zq (pkF Z Z)<|z1k<|z40 (fun aa ww h=>Zu h [])
   ·
    refine gIf Z Z (fun h19=>?_) (fun h19=>?_)
    ·
     refine gSR<|Zb Z<|z0g<|z0l<|Ze [] [] Z
    ·
     refine Zt<|gSR<|Zb Z<|z0g<|Ze [] [] Z
def z5j (a0:UInt32) (a1:UInt64):Option (UInt32) :=
 z7m a0.toUInt64 a1 1000000007 >>= fun r1 =>
 some r1.toUInt32
theorem z8w (a0:UInt32) (a1:UInt64):z1w Tryz.prog 167 [.rd z0r a0,.rd z1u a1] [] (z5j a0 a1) (fun r nv=>⟨[.rd z0r r],[]⟩):=by
 refine z2l 10 Tryz.func167 Z Z Z fun H w=>?_
 refine gSR<|Zb Z<|gSR<|Zm Z<|Zq (W.toU Z tu78 tu56)<|Zm Z<|Zc [] [] Tryz.func163 Z (zcf _ _ _) fun r1 n2=>Zq (U.toW Z tu56 tu78)<|Zb Z<|z0g<|Ze [] [] Z
def zdn (a0:UInt32):Option (UInt32 × Int) :=
 zaf a0 >>= fun r1 =>
 if !r1 then
  some (0,2)
 else
  z5j a0 500000002 >>= fun r4 =>
  some (r4,0)
theorem zjy (a0:UInt32):z1w Tryz.prog 166 [.rd z0r a0] [] (zdn a0) (fun r nv=>⟨[.rd z0r r.1,.rd z07 r.2],[]⟩):=by
 refine z2l 9 Tryz.func166 Z Z Z fun H w=>?_
 refine gSR<|Za Z<|Zb Z<|z0m<|gSR<|Zm Z<|Zc [] [] Tryz.func134 Z (zf8 _) fun r1 n2=>Zq (zct Z)<|Zj Z (fun h3=>?_) (fun h3=>?_)
 ·
  refine gSR<|Za Z<|Zb Z<|z0g<|z0l<|Ze [] [] Z
 ·
  refine Zt<|gSR<|Zm Z<|Zc [] [] Tryz.func167 Z (z8w _ _) fun r4 n5=>Za Z<|Zb Z<|z0g<|Ze [] [] Z
def zco (a0:UInt64):Option (UInt32) :=
 z5j 4 a0 >>= fun r1 =>
 some r1
theorem zir (a0:UInt64):z1w Tryz.prog 189 [.rd z1u a0] [] (zco a0) (fun r nv=>⟨[.rd z0r r],[]⟩):=by
 refine z2l 5 Tryz.func189 Z Z Z fun H w=>?_
 refine gSR<|Zb Z<|gSR<|Zm Z<|Zc [] [] Tryz.func167 Z (z8w _ _) fun r1 n2=>Zb Z<|z0g<|Ze [] [] Z
def zdd (a0:UInt32):Option (UInt32) :=
 zco a0.toUInt64 >>= fun r1 =>
 some r1
theorem zjx (a0:UInt32):z1w Tryz.prog 170 [.rd z0r a0] [] (zdd a0) (fun r nv=>⟨[.rd z0r r],[]⟩):=by
 refine z2l 6 Tryz.func170 Z Z Z fun H w=>?_
 refine gSR<|Zb Z<|gSR<|Zm Z<|Zq (W.toU Z tu78 tu56)<|Zc [] [] Tryz.func189 Z (zir _) fun r1 n2=>Zb Z<|z0g<|Ze [] [] Z
def zab (a0:UInt32) (a1:UInt32):Option (UInt32) :=
 some (((a0.toUInt64 * a1.toUInt64) % 1000000007).toUInt32) >>= fun y1 =>
 some y1
theorem zfl (a0:UInt32) (a1:UInt32):z1w Tryz.prog 169 [.rd z0r a0,.rd z0r a1] [] (zab a0 a1) (fun r nv=>⟨[.rd z0r r],[]⟩):=by
 refine z2l 12 Tryz.func169 Z Z Z fun H w=>?_
 refine gSR<|Zb Z<|gSR<|Zm Z<|Zq (W.toU Z tu78 tu56)<|Zm Z<|Zq (W.toU Z tu78 tu56)<|Zq (U.mul Z Z)<|Zq (U.rem Z Z (by decide))<|Zq (U.toW Z tu56 tu78)<|Za Z<|z2d 4 Z fun y1=>Zn<|z0g<|Ze [] [] Z
def z86 (a0:UInt32):Option ((List UInt8)) :=
 some [(a0 / 16777216).toUInt8,((a0 / 65536) % 256).toUInt8,((a0 / 256) % 256).toUInt8,(a0 % 256).toUInt8]
theorem zd4 (a0:UInt32):z1w Tryz.prog 187 [.rd z0r a0] [] (z86 a0) (fun r nv=>⟨[.val (nv 0)],[(100,some (nv 0,.list u8R 5 r))]⟩):=by
 refine z2l 18 Tryz.func187 Z Z Z fun H w=>?_
 refine gSR<|Zb Z<|gSR<|Zm Z<|Zq (W.quo Z Z (by decide))<|Zq (W.toB Z tu78 tu5)<|Zm Z<|Zq (W.quo Z Z (by decide))<|Zq (W.rem Z Z (by decide))<|Zq (W.toB Z tu78 tu5)<|Zm Z<|Zq (W.quo Z Z (by decide))<|Zq (W.rem Z Z (by decide))<|Zq (W.toB Z tu78 tu5)<|Zm Z<|Zq (W.rem Z Z (by decide))<|Zq (W.toB Z tu78 tu5)<|Ef Z (lit (R:=u8R) ([(a0 / 16777216).toUInt8,((a0 / 65536) % 256).toUInt8,((a0 / 256) % 256).toUInt8,(a0 % 256).toUInt8]:List UInt8) 1 (pP Z Z<|pP Z Z<|pP Z Z<|pP Z Z<|pN) Z tu109 ti5 Z Z) fun v1=>Zb Z<|z0g<|Ze [v1] [1] Z
def z5d (r1:V3) (s5:UInt64 × Int):Option (Sum UInt64 (UInt64 × Int)) :=
 if decide (s5.2<8) then
  z5y r1 s5.2 >>= fun x7 =>
  some ((256 * s5.1)+x7.toUInt64) >>= fun y9 =>
  some (w64 (s5.2+1)) >>= fun y10 =>
  some (.inr (y9,y10))
 else
  some (.inl s5.1)
def z8h (a0:List UInt8):Option (UInt64) :=
 za6 a0 >>= fun r1 =>
 (iter (z5d r1) (0,0)) >>= fun s4 =>
 some s4
theorem zgp (a0:List UInt8):z1w Tryz.prog 188 [.rd (z02 u8R) a0] [] (z8h a0) (fun r nv=>⟨[.rd z1u r],[]⟩):=by
 refine z2l 20 Tryz.func188 Z Z Z fun H w=>?_
 refine gSR<|Zb Z<|gSR<|Zm Z<|Zc [] [] Tryz.func101 Z (zf9 _) fun r1 n2=>Eb Z (z5w 1 z5i (.zr (R:=aZ) (x:=(Vector.replicate 32 0)) zku)) fun v3=>Es (sto 1 Z Z fH Z z5i)<|Zn<|gSR<|Zb Z<|z7x (fun (s4:UInt64) aa ww=>Sta (ctx 20 H [] w) [(4,.rd z1u s4)] [] aa ww) ?_ (fun s4=>?_)
 ·
  refine gSR<|Zb Z<|z1h (fun (s5:UInt64 × Int) aa ww=>Sta (ctx 20 H [] w) [(3,.val (z09 v3 0)),(4,.rd z1u s5.1),(5,.rd z07 s5.2)] [(1,some (v3,.box 94 [.rd aZ r1]))] aa ww) (fun aa ww h=>Zu h [1]) (fun s5=>?_)
  refine z0m<|gSR<|Zm Z<|Zq (I.lss Z Z)<|Zj Z (fun h6=>?_) (fun h6=>?_)
  ·
   refine Zt<|z0m<|z43<|z1y<|Zm Z<|Zq (U.mul Z Z)<|Zm Z<|z0w fun x7 h8=>Zq (ixB 1 Z Z Z h8 tu94 ti5)<|Zq (ld 1 Z Z (fP (.el h8)) ty5 Z)<|Zq (B.toU Z tu5 tu56)<|Zq (U.add Z Z)<|Za Z<|z2d 4 Z fun y9=>z1k<|z2t<|z0j<|z1y<|Zm Z<|Zq (I.add Z Z)<|Za Z<|z2d 5 Z fun y10=>z1k<|z1a (fun aa ww h=>Zu h [1])
  ·
   refine z1f<|z0u<|z0v<|z40 (fun aa ww h=>Zu h [])
 ·
  refine gSR<|Zm Z<|Zb Z<|z0g<|Ze [] [] Z
def z6y (a0:UInt32) (a1:UInt32) (a2:List UInt8):Option (UInt32) :=
 z86 a0 >>= fun r2 =>
 app 1 [99] r2 >>= fun x4 =>
 z86 a1 >>= fun r7 =>
 app 1 x4 r7 >>= fun x9 =>
 app 1 x9 a2 >>= fun x12 =>
 z8h x12 >>= fun r15 =>
 some ((r15 % 500000003).toUInt32) >>= fun y17 =>
 some y17
theorem zf1 (a0:UInt32) (a1:UInt32) (a2:List UInt8):z1w Tryz.prog 168 [.rd z0r a0,.rd z0r a1,.rd (z02 u8R) a2] [] (z6y a0 a1 a2) (fun r nv=>⟨[.rd z0r r],[]⟩):=by
 refine z2l 21 Tryz.func168 Z Z Z fun H w=>?_
 refine gSR<|Zb Z<|gSR<|Ef Z (lit (R:=u8R) ([99]:List UInt8) 1 (pP Z Z<|pN) Z tu109 ti5 Z Z) fun v1=>Zm Z<|Zc [] [(100,2)] Tryz.func187 Z (zd4 _) fun r2 n3=>z0w fun x4 h5=>Ef Z (apn 1 Z Z Z (.own 2 Z) h5 tu109 ti5 Z Z Z) fun v6=>Zm Z<|Zc [] [(100,3)] Tryz.func187 Z (zd4 _) fun r7 n8=>z0w fun x9 h10=>Ef Z (apn 1 Z Z Z (.own 3 Z) h10 tu109 ti5 Z Z Z) fun v11=>Zb Z<|gSR<|Zm Z<|Zm Z<|z0w fun x12 h13=>Ef Z (apn 1 Z Z Z .rd h13 tu109 ti5 Z Z Z) fun v14=>zc6 1 [17] Z (fS Z<|fN)<|Zc [] [] Tryz.func188 Z (zgp _) fun r15 n16=>Zq (U.rem Z Z (by decide))<|Zq (U.toW Z tu56 tu78)<|Za Z<|z2d 6 Z fun y17=>Zn<|z0g<|Ze [] [] Z
def z9b (a0:UInt32) (a1:List UInt8) (a2:z0a):Option (Bool) :=
 z3s a2.E >>= fun r2 =>
 if !r2 then
  some false
 else
  z3s a2.S >>= fun r5 =>
  if !r5 then
   some false
  else
   z5j a0 a2.E.toUInt64 >>= fun r8 =>
   zdn r8 >>= fun r10 =>
   zdd a2.S >>= fun r12 =>
   zab r12 r10.1 >>= fun r14 =>
   z6y r14 a0 a1 >>= fun r16 =>
   some (r16==a2.E)
theorem zhn (a0:UInt32) (a1:List UInt8) (a2:z0a):z1w Tryz.prog 137 [.rd z0r a0,.rd (z02 u8R) a1,.rd z0s a2] [] (z9b a0 a1 a2) (fun r nv=>⟨[.rd z0p r],[]⟩):=by
 refine z2l 39 Tryz.func137 Z Z Z fun H w=>?_
 refine gSR<|Eb Z (bx 1 Z) fun v1=>Zb Z<|z0m<|gSR<|Zq (faB 1 Z Z Tryz.underlying84 Z (by exact z5e))<|Zq (ld 1 Z Z (fP (z4w _)) z7w Z)<|Zc [] [] Tryz.func136 Z (z5t _) fun r2 n3=>Zq (zct Z)<|Zm Z<|z15 13 Z (fun h4=>?_) (fun h4=>?_)
 ·
  refine lKn 12 Z h4<|Zk Z<|Zk Z<|Zk Z<|Zk Z<|Zq (pkT Z Z)<|Zn<|zcu Z<|gSR<|Zb Z<|z0g<|z0l<|Ze [] [] Z
 ·
  refine lKn 12 Z h4<|z0y Zx Z Z (faB 1 Z Z Tryz.underlying84 Z (by exact z5e))<|z0y Zx Z Z (ld 1 Z Z (fP (z6f _)) z7w Z)<|zdo [] [] Zx Z Tryz.func136 Z Z (z5t _) (Y1 Z) rN fun r5 n6=>z0y Zx Z Z (zct Z)<|Zq (pkF Z Z)<|Zj Z (fun h7=>?_) (fun h7=>?_)
  ·
   refine gKn 17 Z h7<|gSR<|Zb Z<|z0g<|z0l<|Ze [] [] Z
  ·
   refine gKn 17 Z h7<|Zt<|gSR<|Zm Z<|Zq (faB 1 Z Z Tryz.underlying84 Z (by exact z5e))<|Zq (ld 1 Z Z (fP (z4w _)) z7w Z)<|Zq (W.toU Z tu78 tu56)<|Zc [] [] Tryz.func167 Z (z8w _ _) fun r8 n9=>Zc [] [] Tryz.func166 Z (zjy _) fun r10 n11=>Zm Z<|Zq (ext Z Z)<|Zq (ext Z Z)<|Za Z<|Zb Z<|z0m<|z5v [] mixed Z Z<|hTk 0 Z Z (faB 1 Z Z Tryz.underlying84 Z (by exact z5e))<|hTk 1 Z Z (ld 1 Z Z (fP (z6f _)) z7w Z)<|hTk 3 Z Z (mv Z)<|hTk 5 Z Z (mv Z)<|hTk 6 Z Z (mv Z)<|hTk 8 Z Z (faB 1 Z Z Tryz.underlying84 Z (by exact z5e))<|hTk 9 Z Z (ld 1 Z Z (fP (z4w _)) z7w Z)<|z3i 2 [] [] Z (by kernel_rfl) Z (gd0 Z) Z Tryz.func170 Z Z (zjx _) (Y1 Z) rN Z (fun _ _=>z34) fun r12 n13=>z3i 4 [] [] Z (by kernel_rfl) Z (gd0 Z) Z Tryz.func169 Z Z (zfl _ _) (Y2 Z Z) rN Z (fun _ _=>z34) fun r14 n15=>z3i 7 [] [] Z (by kernel_rfl) Z (gd0 Z) Z Tryz.func168 Z Z (zf1 _ _ _) (aQ Z<|aQ Z<|aQ Z<|aN) rN Z (fun _ _=>z34) fun r16 n17=>hTk 10 Z Z (W.eql Z Z)<|hTk 11 Z Z (asg Z)<|z3f (by kernel_rfl)<|z0j<|z0g<|Ze [] [] Z
def zaz (a0:z04):Option (Bool) :=
 z82 a0 >>= fun r2 =>
 z9b a0.Author r2 a0.Sig >>= fun r4 =>
 some r4
theorem zgs (a0:z04):z1w Tryz.prog 100 [.rd z03 a0] [] (zaz a0) (fun r nv=>⟨[.rd z0p r],[]⟩):=by
 refine z2l 10 Tryz.func100 Z Z Z fun H w=>?_
 refine gSR<|Eb Z (bx 1 Z) fun v1=>Zb Z<|z0m<|z5v [11] mixed Z Z<|hTk 0 Z Z (faB 1 Z Z Tryz.underlying86 Z (by exact z5e))<|hTk 1 Z Z (ld 1 Z Z (fP (z23 _)) z7w Z)<|hTk 2 Z Z (ld 1 Z Z fH zbe Z)<|hTk 4 Z Z (faB 1 Z Z Tryz.underlying86 Z (by exact zjr))<|hTk 5 Z Z (ld 1 Z Z (fP (z1x _)) ty84 Z)<|z3i 3 [] [(100,11)] Z (by kernel_rfl) Z (gd0 Z) Z Tryz.func138 Z Z (zcy _) (Y1 Z) rN Z (fun _ _=>z31) fun r2 n3=>hFrz 11 [6] Z (fS Z<|fN)<|z3i 6 [] [] Z (by kernel_rfl) Z (gd0 Z) Z Tryz.func137 Z Z (zhn _ _ _) (aQ Z<|aQ Z<|aQ Z<|aN) rN Z (fun _ _=>z6j) fun r4 n5=>hTk 7 Z Z (asg Z)<|z3f (by kernel_rfl)<|z0j<|z0g<|Ze [] [] Z
def z8p (a0:z04):Option (Int) :=
 z7k a0 >>= fun r2 =>
 if r2 != 0 then
  z7k a0 >>= fun r5 =>
  some r5
 else
  zaz a0 >>= fun r7 =>
  if !r7 then
   some 22
  else
   some 0
theorem zgt (a0:z04):z1w Tryz.prog 70 [.rd z03 a0] [] (z8p a0) (fun r nv=>⟨[.rd z07 r],[]⟩):=by
 refine z2l 11 Tryz.func70 Z Z Z fun H w=>?_
 refine gSR<|Eb Z (bx 1 Z) fun v1=>Zb Z<|z0m<|gSR<|Zq (ld 1 Z Z fH zbe Z)<|Zc [] [] Tryz.func99 Z (zc8 _) fun r2 n3=>Zq (I.neq Z Z)<|Zj Z (fun h4=>?_) (fun h4=>?_)
 ·
  refine gSR<|Zq (ld 1 Z Z fH zbe Z)<|Zc [] [] Tryz.func99 Z (zc8 _) fun r5 n6=>Zb Z<|z0g<|z0l<|Ze [] [] Z
 ·
  refine Zt<|z0m<|gSR<|Zq (ld 1 Z Z fH zbe Z)<|Zc [] [] Tryz.func100 Z (zgs _) fun r7 n8=>Zq (zct Z)<|Zj Z (fun h9=>?_) (fun h9=>?_)
  ·
   refine gSR<|Zb Z<|z0g<|z0l<|Ze [] [] Z
  ·
   refine Zt<|gSR<|Zb Z<|z0g<|Ze [] [] Z
end
section
open Go Go.RowKit
set_option maxRecDepth 100000
def z0i (a0:List V3) (a1:V3) (s4:Int × Int):Option (Sum Int (Int × Int)) :=
 if decide (s4.1<s4.2) then
  some (w64 ((z79 (UInt64.ofInt (w64 (s4.1+s4.2))) 1).toNat:Int)) >>= fun y6 =>
  idx a0 y6 >>= fun x7 =>
  z8j x7 a1 >>= fun r9 =>
  if decide (r9<0) then
   some (.inr (w64 (y6+1),s4.2))
  else
   some (.inr (s4.1,y6))
 else
  some (.inl s4.1)
def z0o (a0:List V3) (a1:V3):Option (Int × Bool) :=
 some (a0.length:Int) >>= fun y2 =>
 (iter (z0i a0 a1) (0,y2)) >>= fun s3 =>
 if decide (s3<y2) then
  idx a0 s3 >>= fun x13 =>
  z8j x13 a1 >>= fun r15 =>
  some (s3,r15==0)
 else
  some (s3,false)
theorem z4p (a0:List V3) (a1:V3):z1w Tryz.prog 106 [.rd (z02 aZ) a0,.rd aZ a1,.val (.func (.func 69) #[] #[])] [] (z0o a0 a1) (fun r nv=>⟨[.rd z07 r.1,.rd z0p r.2],[]⟩):=by
 refine z2l 49 Tryz.func106 Z Z Z fun H w=>?_
 refine gSR<|Eb Z (bx 1 Z) fun v1=>Za Z<|Zb Z<|gSR<|Zm Z<|Zq (z2w Z .rd Z tu46)<|Za Z<|z2d 8 Z fun y2=>Zn<|gSR<|Zm Z<|Za Z<|Zb Z<|z7x (fun (s3:Int) aa ww=>Sta (ctx 49 H [] w) [(0,.rd (z02 aZ) a0),(2,.val (.func (.func 69) #[] #[])),(4,.val (z09 v1 0)),(8,.rd z07 y2),(9,.rd z07 s3)] [(1,some (v1,.box 94 [.rd aZ a1]))] aa ww) ?_ (fun s3=>?_)
 ·
  refine z1h (fun (s4:Int × Int) aa ww=>Sta (ctx 49 H [] w) [(0,.rd (z02 aZ) a0),(2,.val (.func (.func 69) #[] #[])),(4,.val (z09 v1 0)),(8,.rd z07 y2),(9,.rd z07 s4.1),(10,.rd z07 s4.2)] [(1,some (v1,.box 94 [.rd aZ a1]))] aa ww) (fun aa ww h=>Zu h [1]) (fun s4=>?_)
  refine z0m<|gSR<|Zm Z<|Zm Z<|Zq (I.lss Z Z)<|Zj Z (fun h5=>?_) (fun h5=>?_)
  ·
   refine Zt<|z43<|gSR<|Zm Z<|Zm Z<|Zq (I.add Z Z)<|Zq (I.toU Z tu3 Tryz.underlying76)<|Zq (U.shr Z Z (Int.natCast_nonneg _))<|Zq (U.toI Z Tryz.underlying76 tu3)<|Za Z<|z2d 11 Z fun y6=>Zn<|z0m<|z5v [] mixed Z Z<|hTk 0 Z Z (mv Z)<|hTk 1 Z Z (mv Z)<|hTk 2 Z Z (mv Z)<|z3z fun x7 h8=>hTk 3 Z Z (ixR Z Z h8 tu46 z5i Z)<|hTk 4 Z Z (ldR Z z8z)<|hTk 5 Z Z (ld 1 Z Z fH z8z Z)<|zth 6 [] [] Z (by kernel_rfl) Z (gd0 Z) Z Tryz.func69 Z Z Z (zai _ _) (Y2 Z Z) (cN) Z rN Z (fun _ _=>z34) fun r9 n10=>hTk 7 Z Z (I.lss Z Z)<|z3f (by kernel_rfl)<|z0j<|gIf Z Z (fun h11=>?_) (fun h11=>?_)
   ·
    refine z1y<|Zm Z<|Zq (I.add Z Z)<|Za Z<|z1k<|z2t<|z1a (fun aa ww h=>Zu h [1])
   ·
    refine z1y<|Zm Z<|Za Z<|z1k<|z2t<|z1a (fun aa ww h=>Zu h [1])
  ·
   refine z1f<|z0u<|z0v<|z40 (fun aa ww h=>Zu h [1])
 ·
  refine z0m<|z5v [] mixed Z Z<|hTk 0 Z Z (mv Z)<|hTk 1 Z Z (mv Z)<|hTk 2 Z Z (mv Z)<|hTk 3 Z Z (I.lss Z Z)<|hTk 4 Z Z (mv Z)<|hIf 39 Z Z (fun h12=>?_) (fun h12=>?_)
  ·
   refine hKn 38 Z Z h12<|Zg 5 Z Z (mv Z)<|Zg 6 Z Z (mv Z)<|Zg 7 Z Z (mv Z)<|z3z fun x13 h14=>Zg 8 Z Z (ixR Z Z h14 tu46 z5i Z)<|Zg 9 Z Z (ldR Z z8z)<|Zg 10 Z Z (ld 1 Z Z fH z8z Z)<|zth 11 [] [] Z (by kernel_rfl) Z Zx Z Tryz.func69 Z Z Z (zai _ _) (Y2 Z Z) (cN) Z rN Z (fun _ _=>z34) fun r15 n16=>Zg 12 Z Z (I.eql Z Z)<|hTk 13 Z Z (pkT Z Z)<|hTk 14 Z Z (asg Z)<|hTk 15 Z Z (asg Z)<|z3f (by kernel_rfl)<|z0j<|z0g<|Ze [] [] Z
  ·
   refine hKn 38 Z Z h12<|hSk 5 Z Z<|hSk 6 Z Z<|hSk 7 Z Z<|hSk 8 Z Z<|hSk 9 Z Z<|hSk 10 Z Z<|hSk 11 Z Z<|hSk 12 Z Z<|hTk 13 Z Z (pkF Z Z)<|hTk 14 Z Z (asg Z)<|hTk 15 Z Z (asg Z)<|z3f (by kernel_rfl)<|z0j<|z0g<|Ze [] [] Z
def zcz (a0:z00) (a1:V3):Option (Int × Bool) :=
 z0o a0.IDs a1 >>= fun r3 =>
 some (r3.1,r3.2)
theorem zi1 (a0:z00) (a1:V3):z1w Tryz.prog 76 [.rd z01 a0,.rd aZ a1] [] (zcz a0 a1) (fun r nv=>⟨[.rd z07 r.1,.rd z0p r.2],[]⟩):=by
 refine z2l 12 Tryz.func76 Z Z Z fun H w=>?_
 refine gSR<|Eb Z (bx 1 Z) fun v1=>Eb Z (bx 2 Z) fun v2=>Za Z<|Zb Z<|gSR<|Zq (faB 1 Z Z Tryz.underlying49 Z (by exact z8d))<|Zq (ld 1 Z Z (fP (z0e _)) z9w Z)<|Zq (ld 2 Z Z fH z8z Z)<|Zc [] [] Tryz.func106 Z (z4p _ _) fun r3 n4=>Zq (ext Z Z)<|Zq (ext Z Z)<|Za Z<|Zb Z<|z0g<|Ze [] [] Z
def z8c (a0:z00) (s3:Int):Option (Sum (Sum Int Unit) Int) :=
 if decide (s3<(a0.IDs.length:Int)) then
  idx a0.IDs (w64 (s3 - 1)) >>= fun x5 =>
  idx a0.IDs s3 >>= fun x7 =>
  z8j x5 x7 >>= fun r9 =>
  if decide (0≤r9) then
   some (.inl (.inl 32))
  else
   some (.inr (w64 (s3+1)))
 else
  some (.inl (.inr ()))
def z9s (a0:z00) (s19:(List Int) × (List (List Int)) × (List Int) × Int) (x22:z04) (s26:(List (List Int)) × Int):Option (Sum (Sum (Sum (Sum Int ((List Int) × (List (List Int)) × (List Int))) ((List Int) × (List (List Int)) × (List Int) × Int)) ((List (List Int)))) ((List (List Int)) × Int)) :=
 if decide (s26.2<(x22.Preds.length:Int)) then
  idx x22.Preds s26.2 >>= fun x29 =>
  zcz a0 x29 >>= fun r32 =>
  if !r32.2 then
   some (.inl (.inl (.inl (.inl 40))))
  else
   idx s26.1 r32.1 >>= fun x35 =>
   app 8 x35 [s19.2.2.2] >>= fun x38 =>
   some (.inr (s26.1.set (r32.1:Int).toNat x38,w64 (s26.2+1)))
 else
  some (.inl (.inr s26.1))
def z9r (a0:z00) (s19:(List Int) × (List (List Int)) × (List Int) × Int):Option (Sum (Sum Int ((List Int) × (List (List Int)) × (List Int))) ((List Int) × (List (List Int)) × (List Int) × Int)) :=
 if decide (s19.2.2.2<(a0.Ops.length:Int)) then
  idx a0.Ops s19.2.2.2 >>= fun x22 =>
  z3g (iter (z9s a0 s19 x22) (s19.2.1,0)) fun s25 =>
  idx s19.1 s19.2.2.2 >>= fun x42 =>
  idx (s19.1.set (s19.2.2.2:Int).toNat (x22.Preds.length:Int)) s19.2.2.2 >>= fun x44 =>
  if x44==0 then
   app 8 s19.2.2.1 [s19.2.2.2] >>= fun x48 =>
   some (.inr (s19.1.set (s19.2.2.2:Int).toNat (x22.Preds.length:Int),s25,x48,w64 (s19.2.2.2+1)))
  else
   some (.inr (s19.1.set (s19.2.2.2:Int).toNat (x22.Preds.length:Int),s25,s19.2.2.1,w64 (s19.2.2.2+1)))
 else
  some (.inl (.inr (s19.1,s19.2.1,s19.2.2.1)))
def z9u (x59:List Int) (s61:(List Int) × (List Int) × Int):Option (Sum ((List Int) × (List Int)) ((List Int) × (List Int) × Int)) :=
 if decide (s61.2.2<(x59.length:Int)) then
  idx x59 s61.2.2 >>= fun x64 =>
  idx s61.1 x64 >>= fun x66 =>
  idx s61.1 x64 >>= fun x68 =>
  idx (s61.1.set (x64:Int).toNat (w64 (x66 - 1))) x64 >>= fun x70 =>
  if x70==0 then
   app 8 s61.2.1 [x64] >>= fun x74 =>
   some (.inr (s61.1.set (x64:Int).toNat (w64 (x66 - 1)),x74,w64 (s61.2.2+1)))
  else
   some (.inr (s61.1.set (x64:Int).toNat (w64 (x66 - 1)),s61.2.1,w64 (s61.2.2+1)))
 else
  some (.inl (s61.1,s61.2.1))
def zb7 (s18:(List Int) × (List (List Int)) × (List Int)) (s53:(List Int) × (List Int) × Int):Option (Sum Int ((List Int) × (List Int) × Int)) :=
 if decide (s53.2.2<(s53.2.1.length:Int)) then
  (idx s53.2.1 s53.2.2 >>= fun x57 =>
  idx s18.2.1 x57 >>= fun x59 =>
  iter (z9u x59) (s53.1,s53.2.1,0)) >>= fun s56 =>
  some (w64 (s53.2.2+1)) >>= fun y78 =>
  some (.inr (s56.1,s56.2,y78))
 else
  some (.inl s53.2.2)
def zfi (a0:z00):Option (Int) :=
 z3g (iter (z8c a0) 1) fun s2 =>
 mkn 8 0 (a0.Ops.length:Int) >>= fun x12 =>
 mkn 24 ([]:List Int) (a0.Ops.length:Int) >>= fun x15 =>
 z3g (iter (z9r a0) (x12,x15,[],0)) fun s18 =>
 (iter (zb7 s18) (s18.1,s18.2.2,0)) >>= fun s52 =>
 if decide (s52<(a0.Ops.length:Int)) then
  some 36
 else
  some 0
theorem zkf (a0:z00):z1w Tryz.prog 67 [.rd z01 a0] [] (zfi a0) (fun r nv=>⟨[.rd z07 r],[]⟩):=by
 refine z2l 133 Tryz.func67 Z Z Z fun H w=>?_
 refine gSR<|Eb Z (bx 1 Z) fun v1=>Zb Z<|z42 (fun (s2:Unit) aa ww=>Sta (ctx 133 H [] w) [(1,.val (z09 v1 0))] [(1,some (v1,.box 49 [.rd z01 a0]))] aa ww) ?_ (fun s2=>?_)
 ·
  refine gSR<|Zb Z<|z1h (fun (s3:Int) aa ww=>Sta (ctx 133 H [] w) [(1,.val (z09 v1 0)),(3,.rd z07 s3)] [(1,some (v1,.box 49 [.rd z01 a0]))] aa ww) (fun aa ww h=>h.sub [1] (sS Z<|sS Z<|sN) (y1 Z)) (fun s3=>?_)
  refine z0m<|gSR<|Zm Z<|Zq (faB 1 Z Z Tryz.underlying49 Z (by exact z8d))<|Zq (ld 1 Z Z (fP (z0e _)) z9w Z)<|Zq (z2w Z .rd Z tu46)<|Zq (I.lss Z Z)<|Zj Z (fun h4=>?_) (fun h4=>?_)
  ·
   refine Zt<|z0m<|z43<|z0m<|z5v [] mixed Z Z<|hTk 0 Z Z (faB 1 Z Z Tryz.underlying49 Z (by exact z8d))<|hTk 1 Z Z (ld 1 Z Z (fP (z0e _)) z9w Z)<|hTk 2 Z Z (mv Z)<|hTk 3 Z Z (I.sub Z Z)<|z3z fun x5 h6=>hTk 4 Z Z (ixR Z Z h6 tu46 z5i Z)<|hTk 5 Z Z (ldR Z z8z)<|hTk 6 Z Z (faB 1 Z Z Tryz.underlying49 Z (by exact z8d))<|hTk 7 Z Z (ld 1 Z Z (fP (z0e _)) z9w Z)<|hTk 8 Z Z (mv Z)<|z3z fun x7 h8=>hTk 9 Z Z (ixR Z Z h8 tu46 z5i Z)<|hTk 10 Z Z (ldR Z z8z)<|z3i 11 [] [] Z (by kernel_rfl) Z (gd0 Z) Z Tryz.func69 Z Z (zai _ _) (Y2 Z Z) rN Z (fun _ _=>z34) fun r9 n10=>hTk 12 Z Z (I.geq Z Z)<|z3f (by kernel_rfl)<|z0j<|gIf Z Z (fun h11=>?_) (fun h11=>?_)
   ·
    refine gSR<|Zb Z<|z0g<|z2j<|z0l<|z3e<|z2z<|zap [] [] Z (eE Z<|eN) (rN)
   ·
    refine z24<|z2t<|z0j<|z1y<|Zm Z<|Zq (I.add Z Z)<|Za Z<|z1k<|z1a (fun aa ww h=>h.sub [1] (sS Z<|sS Z<|sN) (y1 Z))
  ·
   refine z1f<|z0u<|z0v<|z3k (fun aa ww h=>h.sub [1] (sS Z<|sN) (y1 Z))
 ·
  refine gSR<|Zq (faB 1 Z Z Tryz.underlying49 Z (by exact z9o))<|Zq (ld 1 Z Z (fP (z08 _)) zcv Z)<|Zq (z2w Z .rd Z tu47)<|z0w fun x12 h13=>Ef Z (mks (R:=z07) 44 Z Z h13 tu54 ti3 (Zr.num Z) Z) fun v14=>Zb Z<|gSR<|Zq (faB 1 Z Z Tryz.underlying49 Z (by exact z9o))<|Zq (ld 1 Z Z (fP (z08 _)) zcv Z)<|Zq (z2w Z .rd Z tu47)<|z0w fun x15 h16=>Ef Z (mksF 45 Z Z h16 tu50 zrc Z) fun v17=>z19y (base:=100000) (lits:=[(1,some (v1,.box 49 [.rd z01 a0])),(44,some (v14,.list z07 3 x12)),(45,some (v17,.list zh1 54 (zag (fun _=>Value.slice none 0 0) x15)))]) z07 3 [1,44,45] (z15o h16) (Zi Z<|Zi Z<|Zi Z<|rN)<|Zb Z<|gSR<|Zb Z<|z42 (fun (s18:(List Int) × (List (List Int)) × (List Int)) aa ww=>∃ nv:Nat→Value,Sta (ctx 133 H [] w) [(1,.val (z09 v1 0)),(4,.val v14),(5,.val v17),(6,.val (nv 0))] ([(1,some (v1,.box 49 [.rd z01 a0])),(44,some (v14,.list z07 3 s18.1)),(45,some (v17,.list zh1 54 (zag (fun j=>nv (j+1)) s18.2.1))),(50,some ((nv 0),.list z07 3 s18.2.2))]++zpq 100000 z07 3 (fun j=>nv (j+1)) s18.2.1 0) aa ww) ?_ (fun s18=>?_)
  ·
   refine gSR<|Zq (faB 1 Z Z Tryz.underlying49 Z (by exact z9o))<|Zq (ld 1 Z Z (fP (z08 _)) zcv Z)<|Zq (z2w Z .rd Z tu47)<|Zm Z<|Zn<|zps z07 3 56<|z1h (fun (s19:(List Int) × (List (List Int)) × (List Int) × Int) aa ww=>∃ nv:Nat→Value,Sta (ctx 133 H [] w) [(1,.val (z09 v1 0)),(4,.val v14),(5,.val v17),(6,.val (nv 0)),(45,.rd (z02 z03) a0.Ops),(46,.rd z07 (a0.Ops.length:Int)),(47,.rd z07 s19.2.2.2)] ([(1,some (v1,.box 49 [.rd z01 a0])),(44,some (v14,.list z07 3 s19.1)),(45,some (v17,.list zh1 54 (zag (fun j=>nv (j+1)) s19.2.1))),(55,some ((nv 0),.list z07 3 s19.2.2.1))]++zpq 100000 z07 3 (fun j=>nv (j+1)) s19.2.1 0) aa ww) (fun aa ww h=>⟨nvlF [(.slice none 0 0)] (fun _=>Value.slice none 0 0),h.subF (by repeat (first | refine z6v.cons Z ?_ | exact z6v.tail)) [1,44,45,56] (Zs Z Z Z Z<|sS Z<|sS Z<|sS Z<|sN) (Zi Z<|Zi Z<|Zi Z<|Zi Z<|rN) rfl⟩) (fun s19=>?_)
   refine gEx fun n20=>gSR<|Zq (I.lss Z Z)<|Zn<|z0m<|gIf Z Z (fun h21=>?_) (fun h21=>?_)
   ·
    refine Zt<|z0m<|z43<|gSR<|Zm Z<|z0w fun x22 h23=>Zq (ixR Z Z h23 tu47 z7r Z)<|Zq (ldR Z zbe)<|Eb Z (z5w 57 z7r (ZrE.rd (R:=z0r) (x:=0) (Zr.num Z) (ZrE.nilS (ZrE.rd (R:=z1u) (x:=0) (Zr.num Z) (ZrE.rd (R:=z0q) (x:=(⟨0,[],(⟨0,0,0,[]⟩:z05)⟩:z0f)) zpr (ZrE.rd (R:=z0s) (x:=(⟨0,0⟩:z0a)) zou ZrE.nil Z) Z) Z)) Z)) fun v24=>Za Z<|z8t aZ [.rd z0r 0,.rd (z02 aZ) [],.rd z1u 0,.rd z0q (⟨0,[],(⟨0,0,0,[]⟩:z05)⟩:z0f),.rd z0s (⟨0,0⟩:z0a)] 57 [.rd z0r 0] [.rd z1u 0,.rd z0q (⟨0,[],(⟨0,0,0,[]⟩:z05)⟩:z0f),.rd z0s (⟨0,0⟩:z0a)] Z Z Z<|zbb (R:=z03) (⟨0,[],0,(⟨0,[],(⟨0,0,0,[]⟩:z05)⟩:z0f),(⟨0,0⟩:z0a)⟩:z04) 57 Z (Sp.via (Sp.prod (Sp.prod (Sp.prod (Sp.prod (Sp.prod Sp.unit))))))<|Es (sto 57 Z Z fH Z z7r)<|Zn<|z42 (fun (s25:(List (List Int))) aa ww=>∃ nv:Nat→Value,Sta (ctx 133 H [] w) [(1,.val (z09 v1 0)),(4,.val v14),(5,.val v17),(6,.val (n20 0)),(7,.rd z07 s19.2.2.2),(8,.val (z09 v24 0)),(45,.rd (z02 z03) a0.Ops),(46,.rd z07 (a0.Ops.length:Int)),(47,.rd z07 s19.2.2.2)] ([(1,some (v1,.box 49 [.rd z01 a0])),(44,some (v14,.list z07 3 s19.1)),(45,some (v17,.list zh1 54 (zag (fun j=>nv (j+0)) s25))),(55,some ((n20 0),.list z07 3 s19.2.2.1)),(57,some (v24,.box 86 [.rd z03 x22]))]++zpq 100000 z07 3 (fun j=>nv (j+0)) s25 0) aa ww) ?_ (fun s25=>?_)
    ·
     refine gSR<|Zq (faB 57 Z Z Tryz.underlying86 Z (by exact z8d))<|Zq (ld 57 Z Z (fP (z0z _)) z9w Z)<|Zq (z2w Z .rd Z tu46)<|Zm Z<|Zn<|z1h (fun (s26:(List (List Int)) × Int) aa ww=>∃ nv:Nat→Value,Sta (ctx 133 H [] w) [(1,.val (z09 v1 0)),(4,.val v14),(5,.val v17),(6,.val (n20 0)),(7,.rd z07 s19.2.2.2),(8,.val (z09 v24 0)),(45,.rd (z02 z03) a0.Ops),(46,.rd z07 (a0.Ops.length:Int)),(47,.rd z07 s19.2.2.2),(53,.rd (z02 aZ) x22.Preds),(54,.rd z07 (x22.Preds.length:Int)),(55,.rd z07 s26.2)] ([(1,some (v1,.box 49 [.rd z01 a0])),(44,some (v14,.list z07 3 s19.1)),(45,some (v17,.list zh1 54 (zag (fun j=>nv (j+0)) s26.1))),(55,some ((n20 0),.list z07 3 s19.2.2.1)),(57,some (v24,.box 86 [.rd z03 x22]))]++zpq 100000 z07 3 (fun j=>nv (j+0)) s26.1 0) aa ww) (fun aa ww h=>⟨nvlF [] (fun j=>n20 (j+1)),h.subF (by repeat (first | refine z6v.cons Z ?_ | exact z6v.tail)) [1,44,45,55,57] (Zs Z Z Z Z<|Zs Z Z Z Z<|Zs Z Z Z Z<|sN) (Zi Z<|Zi Z<|Zi Z<|Zi Z<|Zi Z<|rN) rfl⟩) (fun s26=>?_)
     refine gEx fun n27=>gSR<|Zq (I.lss Z Z)<|Zn<|z0m<|gIf Z Z (fun h28=>?_) (fun h28=>?_)
     ·
      refine Zt<|z0m<|z43<|gSR<|z0w fun x29 h30=>Zq (ixR Z Z h30 tu46 z5i Z)<|Zq (ldR Z z8z)<|Eb Z (z5w 58 z5i (.zr (R:=aZ) (x:=(Vector.replicate 32 0)) zku)) fun v31=>Es (sto 58 Z Z fH Z z5i)<|Zn<|gSR<|Zq (ld 1 Z Z fH z7t Z)<|Zq (ld 58 Z Z fH z8z Z)<|call [] [] Z Tryz.func76 Z Z (zi1 _ _) (Y2 Z Z) rN fun r32 n33=>Zm Z<|Zq (ext Z Z)<|Zq (ext Z Z)<|Za Z<|Zb Z<|z0m<|gSR<|Zm Z<|Zq (zct Z)<|Zj Z (fun h34=>?_) (fun h34=>?_)
      ·
       refine gSR<|Zb Z<|z0g<|z0l<|z2j<|z0l<|z3e<|z2z<|z2j<|z0l<|z3e<|z2z<|zap [] [] Z (eE Z<|eN) (rN)
      ·
       refine Zt<|z1y<|Zm Z<|Zm Z<|Zm Z<|Zm Z<|z0w fun x35 h36=>Zq (ixO 45 Z Z Z (zp2 h36) tu50 zrc)<|Zq (ldF 45 Z Z h36 zxp Z)<|Zm Z<|Ef Z (lit (R:=z07) ([s19.2.2.2]:List Int) 59 (pP Z Z<|pN) Z tu54 ti3 Z Z) fun v37=>z0w fun x38 h39=>lApF (base:=100000) (lits:=[(1,some (v1,.box 49 [.rd z01 a0])),(44,some (v14,.list z07 3 s19.1)),(55,some ((n20 0),.list z07 3 s19.2.2.1)),(57,some (v24,.box 86 [.rd z03 x22])),(58,some (v31,.box 94 [.rd aZ x29])),(59,some (v37,.list z07 3 [s19.2.2.2]))]) 45 [1,44,55,57,58,59] (by repeat (first | refine z6v.cons Z ?_ | exact z6v.tail)) Z Z Z h36 Z Z Z Z (.own 59 Z) h39 Z (fun _ h=>by cases h; rfl) (fun _ h=>by cases h; rfl) Z Z tu54 ti3 Z Z Z tu50 zrc zxp (Zi Z<|Zi Z<|Zi Z<|Zi Z<|Zi Z<|Zi Z<|rN) Z fun v40=>z1k<|z2t<|z0j<|z1y<|Zq (I.add Z Z)<|Zm Z<|z1k<|z1a (fun aa ww h=>⟨nvlF [] (updF (fun j=>n27 (j+0)) (r32.1:Int).toNat v40),h.subF (by repeat (first | refine z6v.cons Z ?_ | exact z6v.tail)) [1,44,45,55,57] (Zs Z Z Z Z<|Zs Z Z Z Z<|Zs Z Z Z Z<|sN) (Zi Z<|Zi Z<|Zi Z<|Zi Z<|Zi Z<|rN) rfl⟩)
     ·
      refine z1f<|z0u<|z0v<|z3k (fun aa ww h=>⟨nvlF [] (fun j=>n27 (j+0)),h.subF (by repeat (first | refine z6v.cons Z ?_ | exact z6v.tail)) [1,44,45,55,57] (Zs Z Z Z Z<|Zs Z Z Z Z<|sS Z<|sN) (Zi Z<|Zi Z<|Zi Z<|Zi Z<|Zi Z<|rN) rfl⟩)
    ·
     refine gEx fun n41=>gSR<|Zm Z<|Zm Z<|Zq (faB 57 Z Z Tryz.underlying86 Z (by exact z8d))<|Zq (ld 57 Z Z (fP (z0z _)) z9w Z)<|Zq (z2w Z .rd Z tu46)<|z0w fun x42 h43=>Zq (ixO 44 Z Z Z h43 tu54 ti3)<|Es (sto 44 Z Z (Foc.el h43) Z ti3)<|Zn<|gSR<|Zm Z<|Zm Z<|z0w fun x44 h45=>Zq (ixO 44 Z Z Z h45 tu54 ti3)<|Zq (ld 44 Z Z (Foc.el h45) ty3 Z)<|Zq (I.eql Z Z)<|Zj Z (fun h46=>?_) (fun h46=>?_)
     ·
      refine z1y<|Zm Z<|Zm Z<|Ef Z (lit (R:=z07) ([s19.2.2.2]:List Int) 60 (pP Z Z<|pN) Z tu54 ti3 Z Z) fun v47=>z0w fun x48 h49=>Ef Z (apn 55 Z Z Z (.own 60 Z) h49 tu54 ti3 Z Z Z) fun v50=>Za Z<|z1k<|z2t<|z0j<|z1y<|Zq (I.add Z Z)<|Zm Z<|z1k<|z1a (fun aa ww h=>⟨nvlF [v50] (fun j=>n41 (j+0)),h.subF (by repeat (first | refine z6v.cons Z ?_ | exact z6v.tail)) [1,44,45,55] (Zs Z Z Z Z<|sS Z<|sS Z<|sS Z<|sN) (Zi Z<|Zi Z<|Zi Z<|Zi Z<|rN) rfl⟩)
     ·
      refine z24<|z2t<|z0j<|z1y<|Zq (I.add Z Z)<|Zm Z<|z1k<|z1a (fun aa ww h=>⟨nvlF [(n20 0)] (fun j=>n41 (j+0)),h.subF (by repeat (first | refine z6v.cons Z ?_ | exact z6v.tail)) [1,44,45,55] (Zs Z Z Z Z<|sS Z<|sS Z<|sS Z<|sN) (Zi Z<|Zi Z<|Zi Z<|Zi Z<|rN) rfl⟩)
   ·
    refine z1f<|z0u<|z0v<|z3k (fun aa ww h=>⟨nvlF [(n20 0)] (fun j=>n20 (j+1)),h.subF (by repeat (first | refine z6v.cons Z ?_ | exact z6v.tail)) [1,44,45,55] (Zs Z Z Z Z<|sN) (Zi Z<|Zi Z<|Zi Z<|Zi Z<|rN) rfl⟩)
  ·
   refine gEx fun n51=>gSR<|Zb Z<|z7x (fun (s52:Int) aa ww=>Sta (ctx 133 H [] w) [(1,.val (z09 v1 0)),(13,.rd z07 s52)] [(1,some (v1,.box 49 [.rd z01 a0]))] aa ww) ?_ (fun s52=>?_)
   ·
    refine z19s (base:=100000) (T:=3) (lits:=[(1,some (v1,.box 49 [.rd z01 a0])),(44,some (v14,.list z07 3 s18.1)),(50,some ((n51 0),.list z07 3 s18.2.2))]) (by repeat (first | refine z6v.cons Z ?_ | exact z6v.tail)) 45 Z [1,44,50] (Zi Z<|Zi Z<|Zi Z<|rN) Z Z<|z1h (fun (s53:(List Int) × (List Int) × Int) aa ww=>∃ nv:Nat→Value,Sta (ctx 133 H [] w) [(1,.val (z09 v1 0)),(4,.val v14),(5,.val v17),(6,.val (nv 0)),(13,.rd z07 s53.2.2)] [(1,some (v1,.box 49 [.rd z01 a0])),(44,some (v14,.list z07 3 s53.1)),(45,some (v17,.list (z02 z07) 54 s18.2.1)),(50,some ((nv 0),.list z07 3 s53.2.1))] aa ww) (fun aa ww h=>⟨nvl [(n51 0)],h.sub [1,44,45,50] (Zs Z Z Z Z<|sS Z<|sN) (Zi Z<|Zi Z<|Zi Z<|Zi Z<|rN)⟩) (fun s53=>?_)
    refine gEx fun n54=>z0m<|gSR<|Zm Z<|Zm Z<|Zq (z2w Z (.own 50 Z) Z tu54)<|Zq (I.lss Z Z)<|Zj Z (fun h55=>?_) (fun h55=>?_)
    ·
     refine Zt<|z7x (fun (s56:(List Int) × (List Int)) aa ww=>∃ nv:Nat→Value,Sta (ctx 133 H [] w) [(1,.val (z09 v1 0)),(4,.val v14),(5,.val v17),(6,.val (nv 0)),(13,.rd z07 s53.2.2)] [(1,some (v1,.box 49 [.rd z01 a0])),(44,some (v14,.list z07 3 s56.1)),(45,some (v17,.list (z02 z07) 54 s18.2.1)),(50,some ((nv 0),.list z07 3 s56.2))] aa ww) ?_ (fun s56=>?_)
     ·
      refine z43<|gSR<|Zm Z<|Zm Z<|Zm Z<|z0w fun x57 h58=>Zq (ixO 50 Z Z Z h58 tu54 ti3)<|Zq (ld 50 Z Z (Foc.el h58) ty3 Z)<|z0w fun x59 h60=>Zq (ixO 45 Z Z Z h60 tu50 zrc)<|Zq (ld 45 Z Z (Foc.el h60) zxp Z)<|Zq (z2w Z .rd Z tu54)<|Zm Z<|Zn<|z1h (fun (s61:(List Int) × (List Int) × Int) aa ww=>∃ nv:Nat→Value,Sta (ctx 133 H [] w) [(1,.val (z09 v1 0)),(4,.val v14),(5,.val v17),(6,.val (nv 0)),(13,.rd z07 s53.2.2),(106,.rd (z02 z07) x59),(107,.rd z07 (x59.length:Int)),(108,.rd z07 s61.2.2)] [(1,some (v1,.box 49 [.rd z01 a0])),(44,some (v14,.list z07 3 s61.1)),(45,some (v17,.list (z02 z07) 54 s18.2.1)),(50,some ((nv 0),.list z07 3 s61.2.1))] aa ww) (fun aa ww h=>⟨nvl [(n54 0)],h.sub [1,44,45,50] (Zs Z Z Z Z<|Zs Z Z Z Z<|sN) (Zi Z<|Zi Z<|Zi Z<|Zi Z<|rN)⟩) (fun s61=>?_)
      refine gEx fun n62=>gSR<|Zq (I.lss Z Z)<|Zn<|z0m<|gIf Z Z (fun h63=>?_) (fun h63=>?_)
      ·
       refine Zt<|z0m<|z43<|gSR<|z0w fun x64 h65=>Zq (ixR Z Z h65 tu54 ti3 Z)<|Zq (ldR Z ty3)<|Zb Z<|gSR<|Zm Z<|Zm Z<|z0w fun x66 h67=>Zq (ixO 44 Z Z Z h67 tu54 ti3)<|Zq (ld 44 Z Z (Foc.el h67) ty3 Z)<|Zq (I.sub Z Z)<|z0w fun x68 h69=>Zq (ixO 44 Z Z Z h69 tu54 ti3)<|Es (sto 44 Z Z (Foc.el h69) Z ti3)<|Zn<|gSR<|Zm Z<|Zm Z<|z0w fun x70 h71=>Zq (ixO 44 Z Z Z h71 tu54 ti3)<|Zq (ld 44 Z Z (Foc.el h71) ty3 Z)<|Zq (I.eql Z Z)<|Zj Z (fun h72=>?_) (fun h72=>?_)
       ·
        refine z1y<|Zm Z<|Zm Z<|Ef Z (lit (R:=z07) ([x64]:List Int) 61 (pP Z Z<|pN) Z tu54 ti3 Z Z) fun v73=>z0w fun x74 h75=>Ef Z (apn 50 Z Z Z (.own 61 Z) h75 tu54 ti3 Z Z Z) fun v76=>Za Z<|z1k<|z2t<|z0j<|z1y<|Zq (I.add Z Z)<|Zm Z<|z1k<|z1a (fun aa ww h=>⟨nvl [v76],h.sub [1,44,45,50] (Zs Z Z Z Z<|Zs Z Z Z Z<|sN) (Zi Z<|Zi Z<|Zi Z<|Zi Z<|rN)⟩)
       ·
        refine z24<|z2t<|z0j<|z1y<|Zq (I.add Z Z)<|Zm Z<|z1k<|z1a (fun aa ww h=>⟨nvl [(n62 0)],h.sub [1,44,45,50] (Zs Z Z Z Z<|Zs Z Z Z Z<|sN) (Zi Z<|Zi Z<|Zi Z<|Zi Z<|rN)⟩)
      ·
       refine z1f<|z0u<|z0v<|z2t<|z40 (fun aa ww h=>⟨nvl [(n62 0)],h.sub [1,44,45,50] (Zs Z Z Z Z<|sS Z<|sN) (Zi Z<|Zi Z<|Zi Z<|Zi Z<|rN)⟩)
     ·
      refine gEx fun n77=>z1y<|Zm Z<|Zq (I.add Z Z)<|Za Z<|z2d 13 Z fun y78=>z1k<|z1a (fun aa ww h=>⟨nvl [(n77 0)],h.sub [1,44,45,50] (Zs Z Z Z Z<|sS Z<|sN) (Zi Z<|Zi Z<|Zi Z<|Zi Z<|rN)⟩)
    ·
     refine z1f<|z0u<|z0v<|z40 (fun aa ww h=>h.sub [1] (sS Z<|sS Z<|sN) (y1 Z))
   ·
    refine z0m<|gSR<|Zm Z<|Zq (faB 1 Z Z Tryz.underlying49 Z (by exact z9o))<|Zq (ld 1 Z Z (fP (z08 _)) zcv Z)<|Zq (z2w Z .rd Z tu47)<|Zq (I.lss Z Z)<|Zj Z (fun h79=>?_) (fun h79=>?_)
    ·
     refine gSR<|Zb Z<|z0g<|z0l<|zap [] [] Z (eE Z<|eN) (rN)
    ·
     refine Zt<|gSR<|Zb Z<|z0g<|zap [] [] Z (eE Z<|eN) (rN)
def zb9 (a0:z00) (s5:Int):Option (Sum (Sum Int Unit) Int) :=
 if decide (s5<(a0.Ops.length:Int)) then
  idx a0.Ops s5 >>= fun x7 =>
  zyf x7 >>= fun r10 =>
  (if r10.2 != 0 then
   some true
  else
   idx a0.IDs s5 >>= fun x15 =>
   if !decide (r10.1=x15) then
    some true
   else
    zg4 x7 >>= fun r18 =>
    some (r18 != 0)) >>= fun s13 =>
  if s13 then
   some (.inl (.inl 8))
  else
   some (.inr (w64 (s5+1)))
 else
  some (.inl (.inr ()))
def z97 (a0:z00):Option (Int) :=
 if decide (60<(a0.Ops.length:Int)) then
  some 4
 else
  if (a0.IDs.length:Int) != (a0.Ops.length:Int) then
   some 8
  else
   z3g (iter (zb9 a0) 0) fun s4 =>
   zfi a0 >>= fun r21 =>
   some r21
theorem zfo (a0:z00):z1w Tryz.prog 55 [.rd z01 a0] [zG1] (z97 a0) (fun r nv=>⟨[.rd z07 r],[(1001,some (.bool true,.glob 1 (z2o 64 z0r) z54))]⟩):=by
 refine z2l 50 Tryz.func55 Z Z Z fun H w=>?_
 refine gSR<|Eb Z (bx 1 Z) fun v1=>Zb Z<|z0m<|gSR<|Zq (faB 1 Z Z Tryz.underlying49 Z (by exact z9o))<|Zq (ld 1 Z Z (fP (z08 _)) zcv Z)<|Zq (z2w Z .rd Z tu47)<|Zq (I.gtr Z Z)<|Zj Z (fun h2=>?_) (fun h2=>?_)
 ·
  refine gSR<|Zb Z<|z0g<|z0l<|Ze [] [1001] Z
 ·
  refine Zt<|z0m<|gSR<|Zq (faB 1 Z Z Tryz.underlying49 Z (by exact z8d))<|Zq (ld 1 Z Z (fP (z0e _)) z9w Z)<|Zq (z2w Z .rd Z tu46)<|Zq (faB 1 Z Z Tryz.underlying49 Z (by exact z9o))<|Zq (ld 1 Z Z (fP (z08 _)) zcv Z)<|Zq (z2w Z .rd Z tu47)<|Zq (I.neq Z Z)<|Zj Z (fun h3=>?_) (fun h3=>?_)
  ·
   refine gSR<|Zb Z<|z0g<|z0l<|Ze [] [1001] Z
  ·
   refine Zt<|z42 (fun (s4:Unit) aa ww=>Sta (ctx 50 H [zG1] w) [(1,.val (z09 v1 0))] [(1,some (v1,.box 49 [.rd z01 a0])),zG1] aa ww) ?_ (fun s4=>?_)
   ·
    refine gSR<|Zq (faB 1 Z Z Tryz.underlying49 Z (by exact z9o))<|Zq (ld 1 Z Z (fP (z08 _)) zcv Z)<|Zq (z2w Z .rd Z tu47)<|Zm Z<|Zn<|z1h (fun (s5:Int) aa ww=>Sta (ctx 50 H [zG1] w) [(1,.val (z09 v1 0)),(19,.rd (z02 z03) a0.Ops),(20,.rd z07 (a0.Ops.length:Int)),(21,.rd z07 s5)] [(1,some (v1,.box 49 [.rd z01 a0])),zG1] aa ww) (fun aa ww h=>Zu h [1,1001]) (fun s5=>?_)
    refine gSR<|Zq (I.lss Z Z)<|Zn<|z0m<|gIf Z Z (fun h6=>?_) (fun h6=>?_)
    ·
     refine Zt<|z0m<|z43<|gSR<|Zm Z<|z0w fun x7 h8=>Zq (ixR Z Z h8 tu47 z7r Z)<|Zq (ldR Z zbe)<|Eb Z (z5w 1100 z7r (ZrE.rd (R:=z0r) (x:=0) (Zr.num Z) (ZrE.nilS (ZrE.rd (R:=z1u) (x:=0) (Zr.num Z) (ZrE.rd (R:=z0q) (x:=(⟨0,[],(⟨0,0,0,[]⟩:z05)⟩:z0f)) zpr (ZrE.rd (R:=z0s) (x:=(⟨0,0⟩:z0a)) zou ZrE.nil Z) Z) Z)) Z)) fun v9=>Za Z<|z8t aZ [.rd z0r 0,.rd (z02 aZ) [],.rd z1u 0,.rd z0q (⟨0,[],(⟨0,0,0,[]⟩:z05)⟩:z0f),.rd z0s (⟨0,0⟩:z0a)] 1100 [.rd z0r 0] [.rd z1u 0,.rd z0q (⟨0,[],(⟨0,0,0,[]⟩:z05)⟩:z0f),.rd z0s (⟨0,0⟩:z0a)] Z Z Z<|zbb (R:=z03) (⟨0,[],0,(⟨0,[],(⟨0,0,0,[]⟩:z05)⟩:z0f),(⟨0,0⟩:z0a)⟩:z04) 1100 Z (Sp.via (Sp.prod (Sp.prod (Sp.prod (Sp.prod (Sp.prod Sp.unit))))))<|Es (sto 1100 Z Z fH Z z7r)<|Zn<|gSR<|Zq (ld 1100 Z Z fH zbe Z)<|Zc [1001] [] Tryz.func65 Z (zuf _) fun r10 n11=>Zm Z<|Zq (ext Z Z)<|Zq (ext Z Z)<|Eb Z (z5w 1101 z5i (.zr (R:=aZ) (x:=(Vector.replicate 32 0)) zku)) fun v12=>Es (sto 1101 Z Z fH Z z5i)<|Zb Z<|z7x (fun (s13:Bool) aa ww=>Sta (ctx 50 H [zG1] w) [(1,.val (z09 v1 0)),(19,.rd (z02 z03) a0.Ops),(20,.rd z07 (a0.Ops.length:Int)),(21,.rd z07 s5),(46,.rd z0p s13)] [(1,some (v1,.box 49 [.rd z01 a0])),zG1] aa ww) ?_ (fun s13=>?_)
     ·
      refine z5v [1001] mixed Z Z<|hTk 0 Z Z (mv Z)<|hTk 1 Z Z (I.neq Z Z)<|hTk 2 Z Z (mv Z)<|hIf 33 Z Z (fun h14=>?_) (fun h14=>?_)
      ·
       refine hKn 32 Z Z h14<|hSk 3 Z Z<|hSk 4 Z Z<|hSk 5 Z Z<|hSk 6 Z Z<|hSk 7 Z Z<|hSk 8 Z Z<|hSk 9 Z Z<|hTk 10 Z Z (pkT Z Z)<|hTk 11 Z Z (mv Z)<|hSk 12 Z Z<|hSk 13 Z Z<|hSk 14 Z Z<|hTk 15 Z Z (pkT Z Z)<|z3f (by kernel_rfl)<|z40 (fun aa ww h=>Zu h [1,1001])
      ·
       refine hKn 32 Z Z h14<|Zg 3 Z Z (ld 1101 Z Z fH z8z Z)<|Zg 4 Z Z (faB 1 Z Z Tryz.underlying49 Z (by exact z8d))<|Zg 5 Z Z (ld 1 Z Z (fP (z0e _)) z9w Z)<|Zg 6 Z Z (mv Z)<|z3z fun x15 h16=>Zg 7 Z Z (ixR Z Z h16 tu46 z5i Z)<|Zg 8 Z Z (ldR Z z8z)<|Zg 9 Z Z (neA Z Z eq94 Z Z gq94)<|hTk 10 Z Z (pkF Z Z)<|hTk 11 Z Z (mv Z)<|hIf 42 Z Z (fun h17=>?_) (fun h17=>?_)
       ·
        refine hKn 40 Z Z h17<|hKn 41 Z Z h17<|hSk 12 Z Z<|hSk 13 Z Z<|hSk 14 Z Z<|hTk 15 Z Z (pkT Z Z)<|z3f (by kernel_rfl)<|z40 (fun aa ww h=>Zu h [1,1001])
       ·
        refine hKn 40 Z Z h17<|hKn 41 Z Z h17<|Zg 12 Z Z (ld 1100 Z Z fH zbe Z)<|z3i 13 [1001] [] Z (by kernel_rfl) Z Zx Z Tryz.func64 Z Z (zk7 _) (Y1 Z) (y1 Z) Z (fun _ _=>z34) fun r18 n19=>Zg 14 Z Z (I.neq Z Z)<|hTk 15 Z Z (pkF Z Z)<|z3f (by kernel_rfl)<|z40 (fun aa ww h=>Zu h [1,1001])
     ·
      refine gIf Z Z (fun h20=>?_) (fun h20=>?_)
      ·
       refine gSR<|Zb Z<|z0g<|z2j<|z0l<|z3e<|z2z<|Ze [] [1001] Z
      ·
       refine z24<|z2t<|z0j<|z1y<|Zq (I.add Z Z)<|Zm Z<|z1k<|z1a (fun aa ww h=>Zu h [1,1001])
    ·
     refine z1f<|z0u<|z0v<|z3k (fun aa ww h=>Zu h [1,1001])
   ·
    refine gSR<|Zq (ld 1 Z Z fH z7t Z)<|Zc [] [] Tryz.func67 Z (zkf _) fun r21 n22=>Zb Z<|z0g<|Ze [] [1001] Z
def z7n (a0:List V3) (a1:V3) (s3:Int):Option (Sum (Sum Int Unit) Int) :=
 if decide (s3<(a0.length:Int)) then
  idx a0 s3 >>= fun x5 =>
  if decide (x5=a1) then
   some (.inl (.inl s3))
  else
   some (.inr (w64 (s3+1)))
 else
  some (.inl (.inr ()))
def z5f (a0:List V3) (a1:V3):Option (Int) :=
 z3g (iter (z7n a0 a1) 0) fun s2 =>
 some (-1)
theorem zf3 (a0:List V3) (a1:V3):z1w Tryz.prog 49 [.rd (z02 aZ) a0,.rd aZ a1] [] (z5f a0 a1) (fun r nv=>⟨[.rd z07 r],[]⟩):=by
 refine z2l 19 Tryz.func49 Z Z Z fun H w=>?_
 refine gSR<|Eb Z (bx 1 Z) fun v1=>Zb Z<|z42 (fun (s2:Unit) aa ww=>Sta (ctx 19 H [] w) [] [] aa ww) ?_ (fun s2=>?_)
 ·
  refine gSR<|Zb Z<|z1h (fun (s3:Int) aa ww=>Sta (ctx 19 H [] w) [(0,.rd (z02 aZ) a0),(3,.val (z09 v1 0)),(5,.rd z07 s3)] [(1,some (v1,.box 94 [.rd aZ a1]))] aa ww) (fun aa ww h=>Zu h [1]) (fun s3=>?_)
  refine z0m<|gSR<|Zm Z<|Zm Z<|Zq (z2w Z .rd Z tu46)<|Zq (I.lss Z Z)<|Zj Z (fun h4=>?_) (fun h4=>?_)
  ·
   refine Zt<|z0m<|z43<|z0m<|zfa mixed (by kernel_rfl)<|Rq Z (mv Z)<|Rq Z (mv Z)<|z5h fun x5 h6=>Rq Z (ixR Z Z h6 tu46 z5i Z)<|Rq Z (ldR Z z8z)<|Rq Z (ld 1 Z Z fH z8z Z)<|Rq Z (eqA Z Z eq94 Z Z gq94)<|zpu<|z0j<|gIf Z Z (fun h7=>?_) (fun h7=>?_)
   ·
    refine gSR<|Zm Z<|Zb Z<|z0g<|z2j<|z0l<|z3e<|z2z<|Ze [] [] Z
   ·
    refine z24<|z2t<|z0j<|z1y<|Zm Z<|Zq (I.add Z Z)<|Za Z<|z1k<|z1a (fun aa ww h=>Zu h [1])
  ·
   refine z1f<|z0u<|z0v<|z3k (fun aa ww h=>Zu h [])
 ·
  refine gSR<|Zb Z<|z0g<|Ze [] [] Z
def z75 (a0:List V3) (a1:List V3) (s2:Int):Option (Sum (Sum Bool Unit) Int) :=
 if decide (s2<(a1.length:Int)) then
  idx a1 s2 >>= fun x4 =>
  z5f a0 x4 >>= fun r6 =>
  if decide (r6<0) then
   some (.inl (.inl false))
  else
   some (.inr (w64 (s2+1)))
 else
  some (.inl (.inr ()))
def z3o (a0:List V3) (a1:List V3):Option (Bool) :=
 z3g (iter (z75 a0 a1) 0) fun s1 =>
 some true
theorem ze3 (a0:List V3) (a1:List V3):z1w Tryz.prog 29 [.rd (z02 aZ) a0,.rd (z02 aZ) a1] [] (z3o a0 a1) (fun r nv=>⟨[.rd z0p r],[]⟩):=by
 refine z2l 19 Tryz.func29 Z Z Z fun H w=>?_
 refine gSR<|Zb Z<|z42 (fun (s1:Unit) aa ww=>Sta (ctx 19 H [] w) [] [] aa ww) ?_ (fun s1=>?_)
 ·
  refine gSR<|Zb Z<|z1h (fun (s2:Int) aa ww=>Sta (ctx 19 H [] w) [(0,.rd (z02 aZ) a0),(1,.rd (z02 aZ) a1),(5,.rd z07 s2)] [] aa ww) (fun aa ww h=>Zu h []) (fun s2=>?_)
  refine z0m<|gSR<|Zm Z<|Zm Z<|Zq (z2w Z .rd Z tu46)<|Zq (I.lss Z Z)<|Zj Z (fun h3=>?_) (fun h3=>?_)
  ·
   refine Zt<|z0m<|z43<|gSR<|Zm Z<|Zm Z<|Zm Z<|z0w fun x4 h5=>Zq (ixR Z Z h5 tu46 z5i Z)<|Zq (ldR Z z8z)<|Zc [] [] Tryz.func49 Z (zf3 _ _) fun r6 n7=>Zq (I.lss Z Z)<|Zj Z (fun h8=>?_) (fun h8=>?_)
   ·
    refine gSR<|Zb Z<|z0g<|z2j<|z0l<|z3e<|z2z<|Ze [] [] Z
   ·
    refine z24<|z2t<|z0j<|z1y<|Zm Z<|Zq (I.add Z Z)<|Za Z<|z1k<|z1a (fun aa ww h=>Zu h [])
  ·
   refine z1f<|z0u<|z0v<|z3k (fun aa ww h=>Zu h [])
 ·
  refine gSR<|Zb Z<|z0g<|Ze [] [] Z
theorem zh7 (a0:List V3) (q0:Value) (l0:List V3) (a1:V3):z1w Tryz.prog 49 [.vw aZ q0 l0 a0,.rd aZ a1] [(1,some (q0,.list aZ 94 l0))] (z5f a0 a1) (fun r nv=>⟨[.rd z07 r],[(1,some (q0,.list aZ 94 l0))]⟩):=by
 refine z2l 19 Tryz.func49 Z Z Z fun H w=>?_
 refine gSR<|Eb Z (bx 2 Z) fun v1=>Zb Z<|z42 (fun (s2:Unit) aa ww=>Sta (ctx 19 H [(1,some (q0,.list aZ 94 l0))] w) [] [(1,some (q0,.list aZ 94 l0))] aa ww) ?_ (fun s2=>?_)
 ·
  refine gSR<|Zb Z<|z1h (fun (s3:Int) aa ww=>Sta (ctx 19 H [(1,some (q0,.list aZ 94 l0))] w) [(0,.vw aZ q0 l0 a0),(3,.val (z09 v1 0)),(5,.rd z07 s3)] [(1,some (q0,.list aZ 94 l0)),(2,some (v1,.box 94 [.rd aZ a1]))] aa ww) (fun aa ww h=>Zu h [1,2]) (fun s3=>?_)
  refine z0m<|gSR<|Zm Z<|Zm Z<|Zq (z2w Z (.vw 1 Z) Z tu46)<|Zq (I.lss Z Z)<|Zj Z (fun h4=>?_) (fun h4=>?_)
  ·
   refine Zt<|z0m<|z43<|z0m<|zfa mixed (by kernel_rfl)<|Rq Z (mv Z)<|Rq Z (mv Z)<|z5h fun x5 h6=>Rq Z (ixQ 1 Z Z Z h6 tu46 z5i)<|Rq Z (ldQ 1 Z Z z8z Z)<|Rq Z (ld 2 Z Z fH z8z Z)<|Rq Z (eqA Z Z eq94 Z Z gq94)<|zpu<|z0j<|gIf Z Z (fun h7=>?_) (fun h7=>?_)
   ·
    refine gSR<|Zm Z<|Zb Z<|z0g<|z2j<|z0l<|z3e<|z2z<|Ze [] [1] Z
   ·
    refine z24<|z2t<|z0j<|z1y<|Zm Z<|Zq (I.add Z Z)<|Za Z<|z1k<|z1a (fun aa ww h=>Zu h [1,2])
  ·
   refine z1f<|z0u<|z0v<|z3k (fun aa ww h=>Zu h [1])
 ·
  refine gSR<|Zb Z<|z0g<|Ze [] [1] Z
theorem zgv (a0:List V3) (q0:Value) (l0:List V3) (a1:List V3):z1w Tryz.prog 29 [.vw aZ q0 l0 a0,.rd (z02 aZ) a1] [(1,some (q0,.list aZ 94 l0))] (z3o a0 a1) (fun r nv=>⟨[.rd z0p r],[(1,some (q0,.list aZ 94 l0))]⟩):=by
 refine z2l 19 Tryz.func29 Z Z Z fun H w=>?_
 refine gSR<|Zb Z<|z42 (fun (s1:Unit) aa ww=>Sta (ctx 19 H [(1,some (q0,.list aZ 94 l0))] w) [] [(1,some (q0,.list aZ 94 l0))] aa ww) ?_ (fun s1=>?_)
 ·
  refine gSR<|Zb Z<|z1h (fun (s2:Int) aa ww=>Sta (ctx 19 H [(1,some (q0,.list aZ 94 l0))] w) [(0,.vw aZ q0 l0 a0),(1,.rd (z02 aZ) a1),(5,.rd z07 s2)] [(1,some (q0,.list aZ 94 l0))] aa ww) (fun aa ww h=>Zu h [1]) (fun s2=>?_)
  refine z0m<|gSR<|Zm Z<|Zm Z<|Zq (z2w Z .rd Z tu46)<|Zq (I.lss Z Z)<|Zj Z (fun h3=>?_) (fun h3=>?_)
  ·
   refine Zt<|z0m<|z43<|gSR<|Zm Z<|Zm Z<|Zm Z<|z0w fun x4 h5=>Zq (ixR Z Z h5 tu46 z5i Z)<|Zq (ldR Z z8z)<|Zc [1] [(1,1)] Tryz.func49 Z (zh7 _ _ _ _) fun r6 n7=>Zq (I.lss Z Z)<|Zj Z (fun h8=>?_) (fun h8=>?_)
   ·
    refine gSR<|Zb Z<|z0g<|z2j<|z0l<|z3e<|z2z<|Ze [] [1] Z
   ·
    refine z24<|z2t<|z0j<|z1y<|Zm Z<|Zq (I.add Z Z)<|Za Z<|z1k<|z1a (fun aa ww h=>Zu h [1])
  ·
   refine z1f<|z0u<|z0v<|z3k (fun aa ww h=>Zu h [1])
 ·
  refine gSR<|Zb Z<|z0g<|Ze [] [1] Z
def z3q (a0:z00) (s6:(List Int) × (List V3) × (List Bool) × Bool) (s9:Int):Option (Sum (Sum ((List Int)) ((List Int) × (List V3) × (List Bool) × Bool)) Int) :=
 if decide (s9<(a0.Ops.length:Int)) then
  (idx s6.2.2.1 s9 >>= fun x12 =>
  if !x12 then
   idx a0.Ops s9 >>= fun x15 =>
   z3o s6.2.1 x15.Preds >>= fun r17 =>
   some r17
  else
   some false) >>= fun s11 =>
  if s11 then
   app 8 s6.1 [s9] >>= fun x20 =>
   idx a0.IDs s9 >>= fun x22 =>
   app 32 s6.2.1 [x22] >>= fun x24 =>
   idx s6.2.2.1 s9 >>= fun x26 =>
   some (.inl (.inr (x20,x24,s6.2.2.1.set (s9:Int).toNat true,true)))
  else
   some (.inr (w64 (s9+1)))
 else
  some (.inl (.inr (s6.1,s6.2.1,s6.2.2.1,false)))
def z7e (a0:z00) (s6:(List Int) × (List V3) × (List Bool) × Bool):Option (Sum ((List Int)) ((List Int) × (List V3) × (List Bool) × Bool)) :=
 if s6.2.2.2 then
  iter (z3q a0 s6) 0
 else
  some (.inl s6.1)
def z9m (a0:z00):Option ((List Int)) :=
 mkn 1 false (a0.Ops.length:Int) >>= fun x2 =>
 (iter (z7e a0) ([],[],x2,true)) >>= fun s5 =>
 some s5
set_option maxHeartbeats 4000000 in
theorem zhc (a0:z00):z1w Tryz.prog 104 [.rd z01 a0] [] (z9m a0) (fun r nv=>⟨[.val (nv 0)],[(100,some (nv 0,.list z07 3 r))]⟩):=by
 refine z2l 51 Tryz.func104 Z Z Z fun H w=>?_
 refine gSR<|Eb Z (bx 1 Z) fun v1=>Zb Z<|gSR<|Zb Z<|gSR<|Zb Z<|gSR<|Zq (faB 1 Z Z Tryz.underlying49 Z (by exact z9o))<|Zq (ld 1 Z Z (fP (z08 _)) zcv Z)<|Zq (z2w Z .rd Z tu47)<|z0w fun x2 h3=>Ef Z (mks (R:=z0p) 2 Z Z h3 Tryz.underlying180 ti4 Zr.bool Z) fun v4=>Zb Z<|z7x (fun (s5:(List Int)) aa ww=>∃ nv:Nat→Value,Sta (ctx 51 H [] w) [(3,.val (nv 0))] [(3,some ((nv 0),.list z07 3 s5))] aa ww) ?_ (fun s5=>?_)
 ·
  refine gSR<|Zb Z<|zps z07 3 6<|zps aZ 94 7<|z1h (fun (s6:(List Int) × (List V3) × (List Bool) × Bool) aa ww=>∃ nv:Nat→Value,Sta (ctx 51 H [] w) [(1,.val (z09 v1 0)),(3,.val (nv 0)),(4,.val (nv 1)),(5,.val v4),(6,.rd z0p s6.2.2.2)] [(1,some (v1,.box 49 [.rd z01 a0])),(4,some ((nv 0),.list z07 3 s6.1)),(5,some ((nv 1),.list aZ 94 s6.2.1)),(2,some (v4,.list z0p 4 s6.2.2.1))] aa ww) (fun aa ww h=>⟨nvl [(.slice none 0 0),(.slice none 0 0)],Zu h [1,6,7,2]⟩) (fun s6=>?_)
  refine gEx fun n7=>z0m<|gSR<|Zm Z<|Zj Z (fun h8=>?_) (fun h8=>?_)
  ·
   refine gKn 6 Z h8<|Zt<|z43<|gSR<|Zb Z<|gSR<|Zb Z<|z1h (fun (s9:Int) aa ww=>Sta (ctx 51 H [] w) [(1,.val (z09 v1 0)),(3,.val (n7 0)),(4,.val (n7 1)),(5,.val v4),(6,.rd z0p false),(7,.rd z07 s9)] [(1,some (v1,.box 49 [.rd z01 a0])),(4,some ((n7 0),.list z07 3 s6.1)),(5,some ((n7 1),.list aZ 94 s6.2.1)),(2,some (v4,.list z0p 4 s6.2.2.1))] aa ww) (fun aa ww h=>Zu h [1,4,5,2]) (fun s9=>?_)
   refine z0m<|gSR<|Zm Z<|Zq (faB 1 Z Z Tryz.underlying49 Z (by exact z9o))<|Zq (ld 1 Z Z (fP (z08 _)) zcv Z)<|Zq (z2w Z .rd Z tu47)<|Zq (I.lss Z Z)<|Zj Z (fun h10=>?_) (fun h10=>?_)
   ·
    refine Zt<|z0m<|z43<|z7x (fun (s11:Bool) aa ww=>Sta (ctx 51 H [] w) [(1,.val (z09 v1 0)),(3,.val (n7 0)),(4,.val (n7 1)),(5,.val v4),(6,.rd z0p false),(7,.rd z07 s9),(34,.rd z0p s11)] [(1,some (v1,.box 49 [.rd z01 a0])),(4,some ((n7 0),.list z07 3 s6.1)),(5,some ((n7 1),.list aZ 94 s6.2.1)),(2,some (v4,.list z0p 4 s6.2.2.1))] aa ww) ?_ (fun s11=>?_)
    ·
     refine z1y<|Zm Z<|Zm Z<|z0w fun x12 h13=>Zq (ixO 2 Z Z Z h13 Tryz.underlying180 ti4)<|Zq (ld 2 Z Z (Foc.el h13) ty4 Z)<|Zq (zct Z)<|Zm Z<|z15 25 Z (fun h14=>?_) (fun h14=>?_)
     ·
      refine lKn 24 Z h14<|z0y Zx Z Z (mv Z)<|z0y Zx Z Z (faB 1 Z Z Tryz.underlying49 Z (by exact z9o))<|z0y Zx Z Z (ld 1 Z Z (fP (z08 _)) zcv Z)<|z0y Zx Z Z (mv Z)<|z0w fun x15 h16=>z0y Zx Z Z (ixR Z Z h16 tu47 z7r Z)<|z0y Zx Z Z (faR Z (z0z _) Tryz.underlying86 Z Z (by exact z8d))<|z0y Zx Z Z (ldR Z z9w)<|zdo [5] [(1,5)] Zx Z Tryz.func29 Z Z (zgv _ _ _ _) (aW Z<|aQ Z<|aN) (y1 Z) fun r17 n18=>Zq (pkT Z Z)<|z1k<|z40 (fun aa ww h=>Zu h [1,4,5,2])
     ·
      refine lKn 24 Z h14<|Zk Z<|Zk Z<|Zk Z<|Zk Z<|Zk Z<|Zk Z<|Zk Z<|Zk Z<|Zq (pkF Z Z)<|z1k<|z40 (fun aa ww h=>Zu h [1,4,5,2])
    ·
     refine gIf Z Z (fun h19=>?_) (fun h19=>?_)
     ·
      refine z0m<|gSub [(3,.val (n7 0)),(4,.val (n7 1)),(1,.val (z09 v1 0)),(5,.val v4),(7,.rd z07 s9)] [(1,some (v1,.box 49 [.rd z01 a0])),(4,some ((n7 0),.list z07 3 s6.1)),(5,some ((n7 1),.list aZ 94 s6.2.1)),(2,some (v4,.list z0p 4 s6.2.2.1))] [1,4,5,2] (Zs Z Z Z Z<|sS Z<|sN) (Zi Z<|Zi Z<|Zi Z<|Zi Z<|rN)<|z95 fun x20 h21=>z95 fun x22 h23=>z95 fun x24 h25=>z95 fun x26 h27=>gOr [(3,.val (n7 0),14),(4,.val (n7 1),15)] [⟨8,none,[(4,some ([1], fun nv=>((nv 1),.list z07 3 [s9])))]⟩,⟨4,some ([], fun nv=>((n7 0),.list z07 3 s6.1)),[(5,some ([2], fun nv=>((nv 2),.list z07 3 x20)))]⟩,⟨1,some ([], fun nv=>(v1,.box 49 [.rd z01 a0])),[]⟩,⟨9,none,[(12,none)]⟩,⟨5,some ([], fun nv=>((n7 1),.list aZ 94 s6.2.1)),[(13,some ([4], fun nv=>((nv 4),.list aZ 94 x24)))]⟩,⟨2,some ([], fun nv=>(v4,.list z0p 4 s6.2.2.1)),[(17,some ([], fun nv=>(v4,.list z0p 4 (s6.2.2.1.set (s9:Int).toNat true))))]⟩] [pd 35 (.val v4),pd 36 (.rd z07 s9),⟨some (37,[], fun nv=>.val (n7 0)),[],[],[0]⟩,pd 38 (.rd z07 s9),⟨some (39,[1], fun nv=>.val (nv 1)),[(0,0,true)],[1],[]⟩,⟨some (40,[2], fun nv=>.val (nv 2)),[(1,0,true),(0,1,false)],[2],[]⟩,⟨some (41,[], fun nv=>.val (n7 1)),[],[],[1]⟩,pk 42 (.val (z09 v1 (0+0))) [(2,0,false)],pk 43 (.rd (z02 aZ) a0.IDs) [(2,0,false)],pd 44 (.rd z07 s9),pd 45 (.rp aZ x22),pd 46 (.rd aZ x22),⟨some (47,[], fun nv=>.rd (z02 aZ) [x22]),[(3,0,true)],[3],[]⟩,⟨some (48,[4], fun nv=>.val (nv 4)),[(4,0,true)],[4],[]⟩,⟨some (3,[2], fun nv=>.val (nv 2)),[],[],[]⟩,⟨some (4,[4], fun nv=>.val (nv 4)),[],[],[]⟩,pk 49 (.val (z09 v4 ((s9:Int).toNat * 1))) [(5,0,false)],⟨none,[(5,0,true)],[],[]⟩,pd 6 (.rd z0p true)] mixed (oC (oRn (fun nv E=>mv Z))<|oC (oRn (fun nv E=>mv Z))<|oC (oRn (fun nv E=>mv Z))<|oC (oRn (fun nv E=>mv Z))<|oC (oEf 8 1 (fun nv E=>lit (R:=z07) ([s9]:List Int) 8 (pP Z Z<|pN) Z tu54 ti3 Z Z))<|oC (oEf 4 2 (fun nv E=>apn 4 Z Z Z (.own 8 Z) h21 tu54 ti3 Z Z Z))<|oC (oRn (fun nv E=>mv Z))<|oC (oRn (fun nv E=>faB 1 Z Z Tryz.underlying49 Z (by exact z8d)))<|oC (oRn (fun nv E=>ld 1 Z Z (fP (z0e _)) z9w Z))<|oC (oRn (fun nv E=>mv Z))<|oC (oRn (fun nv E=>ixR Z Z h23 tu46 z5i Z))<|oC (oRn (fun nv E=>ldR Z z8z))<|oC (oFz (A1:=fun nv=>[(9,some ((nv 3),.list aZ 94 [x22]))]) 9 3 (oEf 9 3 (fun nv E=>lit (R:=aZ) ([x22]:List V3) 9 (pP Z Z<|pN) Z tu46 z5i Z Z)))<|oC (oEf 5 4 (fun nv E=>apn 5 Z Z Z .rd h25 tu46 z5i Z Z Z))<|oC (oRn (fun nv E=>asg Z))<|oC (oRn (fun nv E=>asg Z))<|oC (oRn (fun nv E=>ixO 2 Z Z Z h27 Tryz.underlying180 ti4))<|oC (oEs 2 (fun nv E=>sto 2 Z Z (Foc.el h27) Z ti4))<|oC (oRn (fun nv E=>asg Z))<|oN) fun n28=>z0j<|z1f<|z15v Z<|z0u<|z0v<|z2t<|z1a (fun aa ww h=>⟨nvl [(n28 2),(n28 4)],Zu h [1,4,5,2]⟩)
     ·
      refine z24<|z2t<|z0j<|z1y<|Zm Z<|Zq (I.add Z Z)<|Za Z<|z1k<|z1a (fun aa ww h=>Zu h [1,4,5,2])
   ·
    refine z1f<|z0u<|z0v<|z2t<|z1a (fun aa ww h=>⟨nvl [(n7 0),(n7 1)],Zu h [1,4,5,2]⟩)
  ·
   refine gKn 6 Z h8<|z1f<|z0u<|z0v<|z40 (fun aa ww h=>⟨nvl [(n7 0)],Zu h [4]⟩)
 ·
  refine gEx fun n29=>gSR<|Zm Z<|Zb Z<|z0g<|Ze [(n29 0)] [3] Z
def z5p (a0:z00) (s6:Int):Option (Sum (Sum Int Unit) Int) :=
 if decide (s6<(a0.Ops.length:Int)) then
  idx a0.Ops s6 >>= fun x8 =>
  z3o a0.IDs x8.Preds >>= fun r10 =>
  if !r10 then
   some (.inl (.inl 40))
  else
   some (.inr (w64 (s6+1)))
 else
  some (.inl (.inr ()))
def z9i (a0:z00):Option (Int) :=
 z7b a0.IDs >>= fun r2 =>
 if !r2 then
  some 32
 else
  z3g (iter (z5p a0) 0) fun s5 =>
  z9m a0 >>= fun r13 =>
  if decide ((r13.length:Int)<(a0.Ops.length:Int)) then
   some 36
  else
   some 0
theorem zhb (a0:z00):z1w Tryz.prog 72 [.rd z01 a0] [] (z9i a0) (fun r nv=>⟨[.rd z07 r],[]⟩):=by
 refine z2l 32 Tryz.func72 Z Z Z fun H w=>?_
 refine gSR<|Eb Z (bx 1 Z) fun v1=>Zb Z<|z0m<|gSR<|Zq (faB 1 Z Z Tryz.underlying49 Z (by exact z8d))<|Zq (ld 1 Z Z (fP (z0e _)) z9w Z)<|Zc [] [] Tryz.func103 Z (zbv _) fun r2 n3=>Zq (zct Z)<|Zj Z (fun h4=>?_) (fun h4=>?_)
 ·
  refine gSR<|Zb Z<|z0g<|z0l<|Ze [] [] Z
 ·
  refine Zt<|z42 (fun (s5:Unit) aa ww=>Sta (ctx 32 H [] w) [(1,.val (z09 v1 0))] [(1,some (v1,.box 49 [.rd z01 a0]))] aa ww) ?_ (fun s5=>?_)
  ·
   refine gSR<|Zb Z<|z1h (fun (s6:Int) aa ww=>Sta (ctx 32 H [] w) [(1,.val (z09 v1 0)),(3,.rd z07 s6)] [(1,some (v1,.box 49 [.rd z01 a0]))] aa ww) (fun aa ww h=>Zu h [1]) (fun s6=>?_)
   refine z0m<|gSR<|Zm Z<|Zq (faB 1 Z Z Tryz.underlying49 Z (by exact z9o))<|Zq (ld 1 Z Z (fP (z08 _)) zcv Z)<|Zq (z2w Z .rd Z tu47)<|Zq (I.lss Z Z)<|Zj Z (fun h7=>?_) (fun h7=>?_)
   ·
    refine Zt<|z0m<|z43<|z0m<|z5v [] mixed Z Z<|hTk 0 Z Z (faB 1 Z Z Tryz.underlying49 Z (by exact z8d))<|hTk 1 Z Z (ld 1 Z Z (fP (z0e _)) z9w Z)<|hTk 2 Z Z (faB 1 Z Z Tryz.underlying49 Z (by exact z9o))<|hTk 3 Z Z (ld 1 Z Z (fP (z08 _)) zcv Z)<|hTk 4 Z Z (mv Z)<|z3z fun x8 h9=>hTk 5 Z Z (ixR Z Z h9 tu47 z7r Z)<|hTk 6 Z Z (faR Z (z0z _) Tryz.underlying86 Z Z (by exact z8d))<|hTk 7 Z Z (ldR Z z9w)<|z3i 8 [] [] Z (by kernel_rfl) Z (gd0 Z) Z Tryz.func29 Z Z (ze3 _ _) (Y2 Z Z) rN Z (fun _ _=>z6j) fun r10 n11=>hTk 9 Z Z (zct Z)<|z3f (by kernel_rfl)<|z0j<|gIf Z Z (fun h12=>?_) (fun h12=>?_)
    ·
     refine gSR<|Zb Z<|z0g<|z2j<|z0l<|z3e<|z2z<|Ze [] [] Z
    ·
     refine z24<|z2t<|z0j<|z1y<|Zm Z<|Zq (I.add Z Z)<|Za Z<|z1k<|z1a (fun aa ww h=>Zu h [1])
   ·
    refine z1f<|z0u<|z0v<|z3k (fun aa ww h=>Zu h [1])
  ·
   refine z0m<|z0m<|z5v [38] mixed Z Z<|hTk 0 Z Z (ld 1 Z Z fH z7t Z)<|hTk 3 Z Z (faB 1 Z Z Tryz.underlying49 Z (by exact z9o))<|hTk 4 Z Z (ld 1 Z Z (fP (z08 _)) zcv Z)<|hTk 5 Z Z (z2w Z .rd Z tu47)<|z3i 1 [] [(100,38)] Z (by kernel_rfl) Z (gd0 Z) Z Tryz.func104 Z Z (zhc _) (Y1 Z) rN Z (fun _ _=>z31) fun r13 n14=>Zf 2 Z Z z34 (z2w Z (.own 38 Z) Z tu54)<|hTk 6 Z Z (I.lss Z Z)<|z3f (by kernel_rfl)<|z0j<|gIf Z Z (fun h15=>?_) (fun h15=>?_)
   ·
    refine gSR<|Zb Z<|z0g<|z0l<|Ze [] [] Z
   ·
    refine Zt<|gSR<|Zb Z<|z0g<|Ze [] [] Z
def z5r (a0:z00) (s5:Int):Option (Sum (Sum Int Unit) Int) :=
 if decide (s5<(a0.Ops.length:Int)) then
  idx a0.Ops s5 >>= fun x7 =>
  z8p x7 >>= fun r9 =>
  if r9 != 0 then
   some (.inl (.inl 8))
  else
   idx a0.Ops s5 >>= fun x12 =>
   idx a0.IDs s5 >>= fun x14 =>
   zc0 x12 >>= fun r16 =>
   if !decide (r16=x14) then
    some (.inl (.inl 8))
   else
    some (.inr (w64 (s5+1)))
 else
  some (.inl (.inr ()))
def z7o (a0:z00):Option (Int) :=
 if decide (60<(a0.Ops.length:Int)) then
  some 4
 else
  if (a0.IDs.length:Int) != (a0.Ops.length:Int) then
   some 8
  else
   z3g (iter (z5r a0) 0) fun s4 =>
   z9i a0 >>= fun r19 =>
   some r19
theorem zhk (a0:z00):z1w Tryz.prog 52 [.rd z01 a0] [] (z7o a0) (fun r nv=>⟨[.rd z07 r],[]⟩):=by
 refine z2l 45 Tryz.func52 Z Z Z fun H w=>?_
 refine gSR<|Eb Z (bx 1 Z) fun v1=>Zb Z<|z0m<|gSR<|Zq (faB 1 Z Z Tryz.underlying49 Z (by exact z9o))<|Zq (ld 1 Z Z (fP (z08 _)) zcv Z)<|Zq (z2w Z .rd Z tu47)<|Zq (I.gtr Z Z)<|Zj Z (fun h2=>?_) (fun h2=>?_)
 ·
  refine gSR<|Zb Z<|z0g<|z0l<|Ze [] [] Z
 ·
  refine Zt<|z0m<|gSR<|Zq (faB 1 Z Z Tryz.underlying49 Z (by exact z8d))<|Zq (ld 1 Z Z (fP (z0e _)) z9w Z)<|Zq (z2w Z .rd Z tu46)<|Zq (faB 1 Z Z Tryz.underlying49 Z (by exact z9o))<|Zq (ld 1 Z Z (fP (z08 _)) zcv Z)<|Zq (z2w Z .rd Z tu47)<|Zq (I.neq Z Z)<|Zj Z (fun h3=>?_) (fun h3=>?_)
  ·
   refine gSR<|Zb Z<|z0g<|z0l<|Ze [] [] Z
  ·
   refine Zt<|z42 (fun (s4:Unit) aa ww=>Sta (ctx 45 H [] w) [(1,.val (z09 v1 0))] [(1,some (v1,.box 49 [.rd z01 a0]))] aa ww) ?_ (fun s4=>?_)
   ·
    refine gSR<|Zb Z<|z1h (fun (s5:Int) aa ww=>Sta (ctx 45 H [] w) [(1,.val (z09 v1 0)),(3,.rd z07 s5)] [(1,some (v1,.box 49 [.rd z01 a0]))] aa ww) (fun aa ww h=>Zu h [1]) (fun s5=>?_)
    refine z0m<|gSR<|Zm Z<|Zq (faB 1 Z Z Tryz.underlying49 Z (by exact z9o))<|Zq (ld 1 Z Z (fP (z08 _)) zcv Z)<|Zq (z2w Z .rd Z tu47)<|Zq (I.lss Z Z)<|Zj Z (fun h6=>?_) (fun h6=>?_)
    ·
     refine Zt<|z0m<|z43<|z0m<|z5v [] mixed Z Z<|hTk 0 Z Z (faB 1 Z Z Tryz.underlying49 Z (by exact z9o))<|hTk 1 Z Z (ld 1 Z Z (fP (z08 _)) zcv Z)<|hTk 2 Z Z (mv Z)<|z3z fun x7 h8=>hTk 3 Z Z (ixR Z Z h8 tu47 z7r Z)<|hTk 4 Z Z (ldR Z zbe)<|z3i 5 [] [] Z (by kernel_rfl) Z (gd0 Z) Z Tryz.func70 Z Z (zgt _) (Y1 Z) rN Z (fun _ _=>z34) fun r9 n10=>hTk 6 Z Z (I.neq Z Z)<|hTk 7 Z Z (mv Z)<|hIf 29 Z Z (fun h11=>?_) (fun h11=>?_)
     ·
      refine hKn 28 Z Z h11<|hSk 8 Z Z<|hSk 9 Z Z<|hSk 10 Z Z<|hSk 11 Z Z<|hSk 12 Z Z<|hSk 13 Z Z<|hSk 14 Z Z<|hSk 15 Z Z<|hSk 16 Z Z<|hSk 17 Z Z<|hSk 18 Z Z<|hSk 19 Z Z<|hTk 20 Z Z (pkT Z Z)<|z3f (by kernel_rfl)<|z0j<|zcu Z<|gSR<|Zb Z<|z0g<|z2j<|z0l<|z3e<|z2z<|Ze [] [] Z
     ·
      refine hKn 28 Z Z h11<|Zg 8 Z Z (faB 1 Z Z Tryz.underlying49 Z (by exact z9o))<|Zg 9 Z Z (ld 1 Z Z (fP (z08 _)) zcv Z)<|Zg 10 Z Z (mv Z)<|z3z fun x12 h13=>Zg 11 Z Z (ixR Z Z h13 tu47 z7r Z)<|Zg 12 Z Z (ldR Z zbe)<|Zg 14 Z Z (faB 1 Z Z Tryz.underlying49 Z (by exact z8d))<|Zg 15 Z Z (ld 1 Z Z (fP (z0e _)) z9w Z)<|Zg 16 Z Z (mv Z)<|z3z fun x14 h15=>Zg 17 Z Z (ixR Z Z h15 tu46 z5i Z)<|Zg 18 Z Z (ldR Z z8z)<|zuu 13 [] [] Z (by kernel_rfl) Z Zx Z Tryz.func71 Z Z (zkl _) (Y1 Z) rN Z fun r16 n17=>zxd 19 Z (by kernel_rfl) (by kernel_rfl) (by kernel_rfl) Zx Z Z z6j (neA Z Z eq94 Z Z gq94)<|hTk 20 Z Z (pkF Z Z)<|z3f (by kernel_rfl)<|z0j<|gIf Z Z (fun h18=>?_) (fun h18=>?_)
      ·
       refine gKn 41 Z h18<|gSR<|Zb Z<|z0g<|z2j<|z0l<|z3e<|z2z<|Ze [] [] Z
      ·
       refine gKn 41 Z h18<|z24<|z2t<|z0j<|z1y<|Zm Z<|Zq (I.add Z Z)<|Za Z<|z1k<|z1a (fun aa ww h=>Zu h [1])
    ·
     refine z1f<|z0u<|z0v<|z3k (fun aa ww h=>Zu h [1])
   ·
    refine gSR<|Zq (ld 1 Z Z fH z7t Z)<|Zc [] [] Tryz.func72 Z (zhb _) fun r19 n20=>Zb Z<|z0g<|Ze [] [] Z
end
section
open Go Go.Shelf
def zyu:Go.Shelf.Ren:=⟨fun | 6=>68 | 15=>97 | 14=>96 | 28=>132 | 29=>114 | 20=>124 | 21=>125 | 22=>126 | 23=>127 | 24=>128 | 25=>129 | 26=>130 | 27=>131 | 46=>158 | 47=>159 | 48=>160 | 49=>161 | 50=>162 | 57=>184 | n=>n, fun | 22=>46 | 24=>94 | 25=>120 | 3=>3 | 39=>76 | 0=>0 | 53=>78 | 55=>56 | 4=>4 | 46=>167 | 45=>166 | 50=>126 | 5=>5 | 9=>9 | 66=>197 | 70=>201 | 76=>221 | 77=>39 | n=>n, fun | n=>n⟩
theorem z189:Go.Proofs.SlLaysF0.n6 Tryz.prog zyu:={
 mixed:=by kernel_rfl
 f6:=⟨Tryz.f68.name, by decide,Tryz.func68.trans (congrArg some (by kernel_rfl))⟩
 f14:=⟨Tryz.f96.name, by decide,Tryz.func96.trans (congrArg some (by kernel_rfl))⟩
 f15:=Tryz.func97.trans (congrArg some (by kernel_rfl))
 f20:=⟨Tryz.f124.name, by decide,Tryz.func124.trans (congrArg some (by kernel_rfl))⟩
 f21:=⟨Tryz.f125.name, by decide,Tryz.func125.trans (congrArg some (by kernel_rfl))⟩
 f22:=⟨Tryz.f126.name, by decide,Tryz.func126.trans (congrArg some (by kernel_rfl))⟩
 f23:=⟨Tryz.f127.name, by decide,Tryz.func127.trans (congrArg some (by kernel_rfl))⟩
 f24:=⟨Tryz.f128.name, by decide,Tryz.func128.trans (congrArg some (by kernel_rfl))⟩
 f25:=⟨Tryz.f129.name, by decide,Tryz.func129.trans (congrArg some (by kernel_rfl))⟩
 f26:=⟨Tryz.f130.name, by decide,Tryz.func130.trans (congrArg some (by kernel_rfl))⟩
 f27:=⟨Tryz.f131.name, by decide,Tryz.func131.trans (congrArg some (by kernel_rfl))⟩
 f28:=Tryz.func132.trans (congrArg some (by kernel_rfl))
 f29:=Tryz.func114.trans (congrArg some (by kernel_rfl))
 f46:=⟨Tryz.f158.name, by decide,Tryz.func158.trans (congrArg some (by kernel_rfl))⟩
 f47:=Tryz.func159.trans (congrArg some (by kernel_rfl))
 f48:=Tryz.func160.trans (congrArg some (by kernel_rfl))
 f49:=⟨Tryz.f161.name, by decide,Tryz.func161.trans (congrArg some (by kernel_rfl))⟩
 f50:=⟨Tryz.f162.name, by decide,Tryz.func162.trans (congrArg some (by kernel_rfl))⟩
 f57:=⟨Tryz.f184.name, by decide,Tryz.func184.trans (congrArg some (by kernel_rfl))⟩
 t0:=Tryz.underlying0
 a0:=Tryz.isAgg0
 z0:=Tryz.sizeOf0
 v0:=Tryz.zeroValue0
 t3:=Tryz.underlying3
 a3:=Tryz.isAgg3
 z3:=Tryz.sizeOf3
 v3:=Tryz.zeroValue3
 t4:=Tryz.underlying4
 a4:=Tryz.isAgg4
 z4:=Tryz.sizeOf4
 v4:=Tryz.zeroValue4
 t5:=Tryz.underlying5
 a5:=Tryz.isAgg5
 z5:=Tryz.sizeOf5
 v5:=Tryz.zeroValue5
 t9:=Tryz.underlying9
 a9:=Tryz.isAgg9
 z9:=Tryz.sizeOf9
 v9:=Tryz.zeroValue9
 t22:=Tryz.underlying46
 a22:=Tryz.isAgg46
 z22:=Tryz.sizeOf46
 v22:=Tryz.zeroValue46
 t25:=Tryz.underlying120
 a25:=Tryz.isAgg120
 z25:=Tryz.sizeOf120
 v25:=Tryz.zeroValue120
 t39:=Tryz.underlying76
 a39:=Tryz.isAgg76
 z39:=Tryz.sizeOf76
 v39:=Tryz.zeroValue76
 t45:=Tryz.underlying166
 a45:=Tryz.isAgg166
 z45:=Tryz.sizeOf166
 v45:=Tryz.zeroValue166
 t46:=Tryz.underlying167
 a46:=Tryz.isAgg167
 z46:=Tryz.sizeOf167
 v46:=Tryz.zeroValue167
 t50:=Tryz.underlying126
 a50:=Tryz.isAgg126
 z50:=Tryz.sizeOf126
 v50:=Tryz.zeroValue126
 t53:=Tryz.underlying78
 a53:=Tryz.isAgg78
 z53:=Tryz.sizeOf78
 v53:=Tryz.zeroValue78
 t55:=Tryz.underlying56
 a55:=Tryz.isAgg56
 z55:=Tryz.sizeOf56
 v55:=Tryz.zeroValue56
 t66:=Tryz.underlying197
 a66:=Tryz.isAgg197
 z66:=Tryz.sizeOf197
 v66:=Tryz.zeroValue197
 t70:=Tryz.underlying201
 a70:=Tryz.isAgg201
 z70:=Tryz.sizeOf201
 v70:=Tryz.zeroValue201
 t76:=Tryz.underlying221
 a76:=Tryz.isAgg221
 z76:=Tryz.sizeOf221
 v76:=Tryz.zeroValue221
 t77:=Tryz.underlying39
 a77:=Tryz.isAgg39
 z77:=Tryz.sizeOf39
 v77:=Tryz.zeroValue39 }
end
section
open Go Go.Shelf Go.RowKit Go.Lib Go.Sort
def zak (x:V3):List Value:=x.toList.map fun c=>Value.int .u8 (c.toNat:Int)
theorem zfp (x:V3):(zak x).length=32:=by simp [zak]
theorem z12n (x y:V3) (b c:Nat) (W:World) (hx:∀ j u,(zak x)[j]? = some u→W.cell? ⟨b,0+j,none⟩=some u) (hy:∀ j u,(zak y)[j]? = some u→W.cell? ⟨c,0+j,none⟩=some u) :
  (callFunc 133 #[.slice (some ⟨b,0,none⟩) 32 32,.slice (some ⟨c,0,none⟩) 32 32]).run Tryz.prog W=.ok (.value (.int .i64 (Lib.compareBytes x.toList y.toList))) W:=by
 have lx:x.toList.length=32:=by simp
 have ly:y.toList.length=32:=by simp
 have e:=zk6 (P:=Tryz.prog) (w:=W) (p:=some ⟨b,0,none⟩) (q:=some ⟨c,0,none⟩) (c:=32) (d:=32) (x:=x.toList) (y:=y.toList) (xs:=zak x) (ys:=zak y)
  ⟨by rw [zfp,lx],.inr ⟨b,0,none,32, by rfl, by omega, by decide,.inr rfl,hx⟩⟩ rfl ⟨by rw [zfp,ly],.inr ⟨c,0,none,32, by rfl, by omega, by decide,.inr rfl,hy⟩⟩ rfl
 rw [lx,ly] at e
 rw [run_callFunc_extern Tryz.func133 rfl rfl (by kernel_rfl) (by kernel_rfl),e]
 rfl
set_option maxHeartbeats 1000000 in
set_option maxRecDepth 100000 in
theorem zoy (x y:V3) (b c:Nat) (W:World) (hx:∀ j u,(zak x)[j]? = some u→W.cell? ⟨b,0+j,none⟩=some u) (hy:∀ j u,(zak y)[j]? = some u→W.cell? ⟨c,0+j,none⟩=some u) :
  Calls Tryz.prog 98 #[.slice (some ⟨b,0,none⟩) 32 32,.slice (some ⟨c,0,none⟩) 32 32] W fun e w'=>e=.returned (.int .i64 (Lib.compareBytes x.toList y.toList))∧w'=W:=by
 have e:=z12n x y b c W hx hy
 go_enter Tryz.func98,Tryz.ntmps98
 go_wp2
 go_ret
 exact ⟨rfl,rfl⟩
theorem ztp {w:World} {b j:Nat} {c:Array Value} {T:TypeId} {fr:Nat × Nat} {u:Value} (h:w.heap[b]? = some (.cells c T fr)) (hj:c[j]? = some u):w.cell? ⟨b,0+j,none⟩=some u:=by
 unfold World.cell?
 rw [h]
 simpa using hj
theorem z15f (W:World) (xs ys:List Value) (n j:Nat) (u:Value) (h:xs[j]? = some u):(((W.alloc (.cells xs.toArray 94)).alloc (.cells ys.toArray 94)).drewN n).cell? ⟨W.heap.size,0+j,none⟩=some u :=
 ztp (c:=xs.toArray) (T:=94) (fr:=(0,0)) (by
  show ((W.heap.push _).push _)[W.heap.size]? = _
  rw [Array.getElem?_push_lt (by simp)]; simp) (by simpa using h)
theorem z14h (W:World) (xs ys:List Value) (n j:Nat) (u:Value) (h:ys[j]? = some u):(((W.alloc (.cells xs.toArray 94)).alloc (.cells ys.toArray 94)).drewN n).cell? ⟨W.heap.size+1,0+j,none⟩=some u :=
 ztp (c:=ys.toArray) (T:=94) (fr:=(0,0)) (by
  show ((W.heap.push _).push _)[W.heap.size+1]? = _
  have:W.heap.size+1=(W.heap.push (Obj.cells xs.toArray 94)).size:=by simp
  rw [this,Array.getElem?_push_size]) (by simpa using h)
set_option maxHeartbeats 1000000 in
set_option maxRecDepth 100000 in
theorem zwn (x y:V3) (W:World):Calls Tryz.prog 69 #[.agg (zak x).toArray,.agg (zak y).toArray] W fun e w'=>e=.returned (.int .i64 (Lib.compareBytes x.toList y.toList))∧∃ q os',w'=grow (W.drewN q) os':=by
 have c0:=z15f W (zak x) (zak y)
 have c1:=z14h W (zak x) (zak y)
 go_enter Tryz.func69,Tryz.ntmps69
 go_wp2
 go_quiet (first | (go_at_call 98; refine Calls.quiet_of_same (zoy x y _ _ _ (c0 _) (c1 _))))
 go_wp2
 go_ret
 exact ⟨rfl,nq,#[.cells (zak x).toArray 94,.cells (zak y).toArray 94],rfl⟩
end
section
open Go Go.RowKit Go.Sort
theorem z13q {α:Type} [Inhabited α] (enc:α→List Value) (k:Nat) (hk:∀ x,(enc x).length=k):∀ (l:List α) (t:Nat),t<l.length * k→(l.flatMap enc)[t]! = (enc l[t / k]!)[t % k]!
  | [],t,h=>by simp at h
  | x::l,t,h=>by
    have hx:=hk x
    have k0 : 0 < k := by rcases Nat.eq_zero_or_pos k with e | e; · subst e; simp at h
                          · exact e
    rw [List.flatMap_cons]
    by_cases ht:t<k
    · rw [List.getElem!_eq_getElem?_getD,List.getElem?_append_left (by omega),Nat.div_eq_of_lt ht,Nat.mod_eq_of_lt ht]
      simp
    · have hl : t - k < l.length * k := by
        simp only [List.length_cons,Nat.add_mul,Nat.one_mul] at h; omega
      have ih:=z13q enc k hk l (t - k) hl
      have e1:t / k=(t - k) / k+1:=by
        have h2:=Nat.add_div_right (t - k) k0
        rw [Nat.sub_add_cancel (by omega)] at h2; exact h2
      have e2:t % k=(t - k) % k:=by rw [Nat.mod_eq_sub_mod (by omega)]
      rw [List.getElem!_eq_getElem?_getD,List.getElem?_append_right (by omega),hx,e1,e2,← List.getElem!_eq_getElem?_getD,ih]
      simp
theorem zro {α:Type} (enc:α→List Value) (k:Nat) (hk:∀ x,(enc x).length=k):∀ l:List α,(l.flatMap enc).length=l.length * k
  | []=>by simp
  | x::l=>by rw [List.flatMap_cons,List.length_append,hk,zro enc k hk l,List.length_cons,Nat.add_mul,Nat.one_mul,Nat.add_comm]
theorem zxe {α:Type} [Inhabited α] (enc:α→List Value) (k:Nat) (hk:∀ x,(enc x).length=k) (l:List α):flatK enc k l.toArray=(l.flatMap enc).toArray:=by
  refine ext_get! (by rw [size_flatK]; simp only [List.size_toArray,zro enc k hk]) fun t ht=>?_
  rw [size_flatK,List.size_toArray] at ht
  rw [get_flatK _ _ _ _ (by simpa using ht)]
  have:=z13q enc k hk l t ht
  simp at this ⊢
  rw [this]
theorem zpw {α:Type} [Inhabited α] (enc:α→List Value) (k:Nat) (hk:∀ x,(enc x).length=k) {w:World} {b:Nat} {C:Array Value} {T:TypeId} (l:List α) (hb:w.heap[b]? = some (.cells C T (0,0))) (hc:C.toList.take (l.length * k)=l.flatMap enc):HoldsK enc k w b 0 l.toArray:=by
  intro j hj
  rw [zxe enc k hk] at hj ⊢
  have hj':j<(l.flatMap enc).length:=by simpa using hj
  constructor
  · refine ztp hb ?_
    have e:(C.toList.take (l.length * k))[j]? = (l.flatMap enc)[j]? := by rw [hc]
    rw [List.getElem?_take_of_lt (by rw [zro enc k hk] at hj'; exact hj'),List.getElem?_eq_getElem hj'] at e
    rw [← Array.getElem?_toList,e]
    have:((l.flatMap enc).toArray)[j]! = (l.flatMap enc)[j]:=by rw [getElem!_pos _ j (by simpa using hj')]; simp
    rw [this]; rfl
  · simp [World.frozen?,hb]
theorem zwt {α:Type} [Inhabited α] (enc:α→List Value) (k:Nat) (w:World) (b n:Nat) (d:Array α) (os:Array Obj) {i:Nat} (hi:i<w.heap.size) (hne:i≠b):(sortWorldK enc k w b 0 n d os).heap[i]? = w.heap[i]? := by
  show (w.heap.modify b _++os)[i]? = _
  rw [Array.getElem?_append_left (by simpa using hi),Array.getElem?_modify,if_neg (fun e=>hne e.symm)]
theorem z159 {α:Type} [Inhabited α] (enc:α→List Value) (k:Nat) (w:World) {b:Nat} (n:Nat) (d:Array α) (os:Array Obj) {C:Array Value} {T:TypeId} {fr:Nat × Nat} (hb:w.heap[b]? = some (.cells C T fr)):(sortWorldK enc k w b 0 n d os).heap[b]? = some (.cells (putCells id 0 (flatK enc k d) C) T fr):=by
  have hlt:b<w.heap.size:=(Array.getElem?_eq_some_iff.1 hb).1
  show (w.heap.modify b _++os)[b]? = _
  rw [Array.getElem?_append_left (by simpa using hlt),Array.getElem?_modify,if_pos rfl,hb]
  rfl
theorem z113 {α:Type} [Inhabited α] (enc:α→List Value) (k:Nat) (hk:∀ x,(enc x).length=k) (l:List α) (C:Array Value) (hC:l.length * k≤C.size):(putCells id 0 (flatK enc k l.toArray) C).toList.take (l.length * k)=l.flatMap enc:=by
  rw [zxe enc k hk]
  apply List.ext_getElem?
  intro t
  by_cases ht:t<l.length * k
  · rw [List.getElem?_take_of_lt ht,Array.getElem?_toList]
    have hl:t<(l.flatMap enc).length:=by rw [zro enc k hk]; exact ht
    simp only [putCells,Array.getElem?_mapIdx,Nat.sub_zero,Nat.zero_add,List.size_toArray,Nat.zero_le,true_and]
    rw [Array.getElem?_eq_getElem (by omega),Option.map_some,if_pos hl,List.getElem?_eq_getElem hl]
    have:((l.flatMap enc).toArray)[t]! = (l.flatMap enc)[t]:=by rw [getElem!_pos _ t (by simpa using hl)]; simp
    rw [this]; rfl
  · rw [List.getElem?_eq_none (by simp; omega),List.getElem?_eq_none (by rw [zro enc k hk]; omega)]
theorem zr2 {S:Blk} {w:World}:∀ {l:List V3} {cs:List Value},z68 (z2o 32 u8R) S w cs l→cs=l.flatMap zak
  | [],cs,h=>h
  | x::l,cs,h=>by
    obtain ⟨c,d,rfl,h1,h2⟩:=h
    rw [List.flatMap_cons,zr2 h2,zoe h1]; rfl
theorem zqn {S:Blk} {w:World}:∀ (l:List V3),z68 (z2o 32 u8R) S w (l.flatMap zak) l
  | []=>rfl
  | x::l=>⟨zak x,l.flatMap zak,List.flatMap_cons,zlf x.toList,zqn l⟩
theorem z12i {P : Program} {f g T : Nat} (srt : List V3 → List V3) (hlen : ∀ l, (srt l).length = l.length)
    (hnone:∀ (cap:Nat) (w:World),Calls P f #[.slice none 0 cap,.func (.func g) #[] #[]] w fun e w'=>e=.returned (.tuple #[])∧w'=w)
    (hsome:∀ (blk cap:Nat) (d:Array V3) (w:World),HoldsK zak 32 w blk 0 d→blk<w.heap.size→d.size<4611686018427387904 →
      Calls P f #[.slice (some ⟨blk,0,none⟩) d.size cap,.func (.func g) #[] #[]] w fun e w'=>e=.returned (.tuple #[])∧∃ n os,w'=sortWorldK zak 32 w blk 0 n (srt d.toList).toArray os)
    (p0:Value) (c0:List V3):z1w P f [.val p0,.val (.func (.func g) #[] #[])] [(1,some (p0,.list (z2o 32 u8R) T c0))] (chk (c0.length≤1000000) >>= fun _=>some (srt c0))
      (fun r nv=>⟨[],[(1,some (p0,.list (z2o 32 u8R) T r))]⟩):=by
  intro r hr H vs w hvs hres
  have hb:c0.length≤1000000∧r=srt c0:=by
    unfold chk at hr
    split at hr
    · rename_i h; simp at hr; exact ⟨h,hr.symm⟩
    · simp at hr
  obtain ⟨hlen0,rfl⟩:=hb
  match vs,hvs with
  | [v0,v1],hvs =>
  obtain ⟨h0,h1,_⟩:=hvs
  have e0:v0=p0:=h0.1
  have e1:v1=.func (.func g) #[] #[]:=h1.1
  subst e0; subst e1
  have hc:=hres.conts 1 v0 _ rfl
  have only:∀ r v c (q:z37),lr [(1,some (v0,q))] r=some (v,c)→r=1∧v=v0∧c=q:=fun r v c q h=>by
    rw [z13] at h
    split at h
    · rename_i e; cases h; exact ⟨e.symm,rfl,rfl⟩
    · simp [lr,lk] at h
  rcases hc with ⟨rfl,rfl⟩ | ⟨b,o,k1,k2,b',cap,C,k3,rfl,k4,k5,k6,k7⟩
  · refine (hnone 0 w).mono fun e w' ⟨he,hw⟩=>?_
    subst hw
    refine ⟨fun _=>undef,[],he,trivial, fun r v c h=>?_, fun r v c r' v' c' h h' hne=>?_, fun r v c h b hb=>?_,zet.rfl'⟩
    · obtain ⟨rfl,rfl,rfl⟩:=only _ _ _ _ h
      have:srt []=[]:=List.eq_nil_of_length_eq_zero (by rw [hlen]; rfl)
      exact .inl ⟨rfl,this⟩
    · exact absurd ((only _ _ _ _ h).1.trans (only _ _ _ _ h').1.symm) hne
    · obtain ⟨rfl,rfl,rfl⟩:=only _ _ _ _ h; cases hb
  · subst k3
    simp only [z41,Option.some.injEq] at k1
    subst k1
    have hlt:b'<w.heap.size:=(Array.getElem?_eq_some_iff.1 k2).1
    have hrow:=zr2 k7
    have hsz:(z2o 32 u8R).sz=32:=rfl
    rw [hsz] at k6 hrow
    have hC:c0.length * 32≤C.size:=by rw [k6]; exact Nat.mul_le_mul_right _ k4
    refine (hsome b' cap c0.toArray w (zpw zak 32 zfp c0 k2 hrow) hlt (by simp; omega)).mono fun e w' ⟨he,n,os,hw⟩=>?_
    subst hw
    refine ⟨fun _=>undef,[],he,trivial, fun r v c h=>?_, fun r v c r' v' c' h h' hne=>?_, fun r v c h b hb=>?_,rfl,rfl,rfl,?_, fun i hi=>?_⟩
    · obtain ⟨rfl,rfl,rfl⟩:=only _ _ _ _ h
      refine .inr ⟨b',_,rfl,z159 zak 32 w n _ os k2,b',cap,_, by rw [hlen],rfl, by rw [hlen]; exact k4,k5,?_,?_⟩
      · rw [hsz,← k6]; simp [putCells]
      · rw [hsz,z113 zak 32 zfp (srt c0) C (by rw [hlen]; exact hC)]
        exact zqn _
    · exact absurd ((only _ _ _ _ h).1.trans (only _ _ _ _ h').1.symm) hne
    · obtain ⟨rfl,rfl,rfl⟩:=only _ _ _ _ h
      exact .inr ⟨1,_,_,rfl,hb⟩
    · show w.heap.size≤(w.heap.modify b' _++os).size
      simp
    · exact zwt zak 32 w b' n _ os hi.1 fun e=>hi.2 ⟨1,_,_,rfl, by rw [e]; rfl⟩
end
section
open Go
section
variable {σ β α ρ τ:Type}
theorem bs (x:α) (f:α→Option β):(some x >>= f)=f x:=rfl
theorem bS (x:α) (f:α→Option β):(some x >>= f)=f x:=Eq.trans (rfl:(some x >>= f)=f x) rfl
theorem or_l (r:ρ) (k:τ→Option ρ):z3g (some (.inl r)) k=some r:=rfl
theorem zpt (t:τ) (k:τ→Option ρ):z3g (some (.inr t)) k=k t:=rfl
theorem z12 {F:σ→Option (Sum β σ)} {s:σ} {b:β} (h:F s=some (.inl b)):iter F s=some b:=by rw [iter,h]; rfl
theorem z1b {F:σ→Option (Sum β σ)} {s s':σ} (h:F s=some (.inr s')):iter F s=iter F s':=by rw [iter,h]; rfl
theorem zgc {F:σ→Option (Sum β σ)} (I:σ→Prop) (μ:σ→Nat) (Q:β→Prop) (h:∀ s,I s→(∃ b,F s=some (.inl b)∧Q b)∨∃ s',F s=some (.inr s')∧I s'∧μ s'<μ s) (s:σ) (hs:I s):∃ b,iter F s=some b∧Q b:=by
 have key:∀ n s,μ s=n→I s→∃ b,iter F s=some b∧Q b:=by
  intro n
  induction n using Nat.strongRecOn with
  | _ n ih =>
   intro s hn hs
   rcases h s hs with ⟨b,h1,h2⟩ | ⟨s',h1,h2,h3⟩
   ·
    exact ⟨b,z12 h1,h2⟩
   ·
    rw [z1b h1]; exact ih (μ s') (hn ▸ h3) s' rfl h2
 exact key _ s rfl hs
theorem zbu {F:σ→Option (Sum β σ)} (n:Nat) (I:Nat→σ→Prop) (Q:β→Prop) (h1:∀ i s,i<n→I i s→∃ s',F s=some (.inr s')∧I (i+1) s') (h2:∀ s,I n s→∃ b,F s=some (.inl b)∧Q b) (s:σ) (i:Nat) (hi:i≤n) (hs:I i s):∃ b,iter F s=some b∧Q b:=by
 have key:∀ k i s,n - i=k→i≤n→I i s→∃ b,iter F s=some b∧Q b:=by
  intro k
  induction k with
  | zero =>
   intro i s hk hi hs
   have:i=n:=by omega
   subst this
   obtain ⟨b,h3,h4⟩:=h2 s hs
   exact ⟨b,z12 h3,h4⟩
  | succ k ih =>
   intro i s hk hi hs
   obtain ⟨s',h3,h4⟩:=h1 i s (by omega) hs
   rw [z1b h3]; exact ih (i+1) s' (by omega) (by omega) h4
 exact key _ i s rfl hi hs
theorem z1v {F:σ→Option (Sum β σ)} (n:Nat) (g:Nat→σ) {b:β} (h1:∀ i,i<n→F (g i)=some (.inr (g (i+1)))) (h2:F (g n)=some (.inl b)):iter F (g 0)=some b:=by
 obtain ⟨b',h3,rfl⟩:=zbu n (fun i s=>s=g i) (fun x=>x=b) (fun i s hi hs=>⟨_, by rw [hs]; exact h1 i hi,rfl⟩) (fun s hs=>⟨_, by rw [hs]; exact h2,rfl⟩) (g 0) 0 (Nat.zero_le _) rfl
 exact h3
theorem z0d {l:List α} {i:Nat} (h:i<l.length):idx l (i:Int)=some l[i]:=by simp [idx,h]
theorem zpc {l:List α} {i:Int} (h0:0≤i) (h:i.toNat<l.length):idx l i=some l[i.toNat]:=by simp [idx,h0,h]
theorem z6c {n:Nat} {v:Vector α n} {i:Nat} (h:i<n):z5y v (i:Int)=some v[i]:=by unfold z5y; rw [z0d (by simpa using h)]; simp
theorem zv8 {n:Nat} {v:Vector α n} {i:Int} (h0:0≤i) (h:i.toNat<n):z5y v i=some v[i.toNat]:=by
 obtain ⟨j,rfl⟩:∃ j:Nat,i=(j:Int):=⟨i.toNat, by omega⟩
 exact z6c (by simpa using h)
theorem zbz {n:Nat} {v:Vector α n} {i:Int} {x:α} {j:Nat} (hj:j<n):(zdr v i x)[j]=if i.toNat=j then x else v[j]:=by
 unfold zdr; rw [Vector.getElem_setIfInBounds hj]
theorem z3p {p:Prop} [Decidable p] (h:p):chk p=some ():=by simp [chk,h]
theorem z1q {by_:Nat} {b c:List α} (h:(b.length+c.length) * by_≤140737488355328):app by_ b c=some (b++c):=by simp [app,h]
theorem znq {by_:Nat} {x:α} {n:Nat} (h:by_ * n≤281474976710656) (h2:n≤9223372036854775807):mkn by_ x (n:Int)=some (List.replicate n x):=by
 unfold mkn; rw [if_pos ⟨by omega, by simpa using h, by omega⟩]; simp
theorem zob {b:List α} {i j:Nat} (h:i≤j) (hj:j≤b.length):cut b (i:Int) (j:Int)=some ((b.drop i).take (j - i)):=by
 unfold cut; rw [if_pos ⟨by omega, by omega, by omega⟩]; simp
end
theorem z14 {x:Int} (h1:-9223372036854775808≤x) (h2:x≤9223372036854775807):w64 x=x:=zfg h1 h2
theorem z0k {n:Nat} (h:n<9223372036854775807):w64 ((n:Int)+1)=((n+1:Nat):Int):=by rw [z14 (by omega) (by omega)]; omega
theorem zcd (a:UInt64) (n:Nat):(z79 a n).toNat=a.toNat / 2 ^ (min n 64):=by
 unfold z79
 have h1:=UInt64.toNat_lt a
 have h2:a.toNat / 2 ^ (min n 64)≤a.toNat:=Nat.div_le_self _ _
 simp; omega
theorem zhg (a:UInt64) (n:Nat):(zmn a n).toNat=a.toNat * 2 ^ (min n 64) % 18446744073709551616:=by
 unfold zmn; simp
theorem z17a (a:UInt64) (k:Nat) (hk:k<64):((z79 a k &&& 1)==1)=a.toNat.testBit k:=by
 rw [Bool.eq_iff_iff,beq_iff_eq,← UInt64.toNat_inj,UInt64.toNat_and,zcd,Nat.min_eq_left (by omega)]
 have:(1:UInt64).toNat=1:=rfl
 rw [this,Nat.and_one_is_mod,Nat.testBit_eq_decide_div_mod_eq]
 simp
end
section
open Go
def z6u (n:Nat):Nat:=if n=0 then 0 else n.log2+1
theorem zdb (n k:Nat) (h:2 ^ k≤n):z6u n=k+z6u (n / 2 ^ k):=by
 have hp:0<2 ^ k:=Nat.pow_pos (by decide)
 have h1:n / 2 ^ k≠0:=by
  have:1≤n / 2 ^ k:=(Nat.le_div_iff_mul_le hp).2 (by rw [Nat.one_mul]; exact h)
  omega
 have h2:n≠0:=by omega
 unfold z6u
 rw [if_neg h1,if_neg h2]
 have h3:n.log2=k+(n / 2 ^ k).log2:=by
  rw [Nat.log2_eq_iff h2]
  have h4:=(Nat.log2_eq_iff h1).1 rfl
  refine ⟨?_,?_⟩
  ·
   rw [Nat.pow_add,Nat.mul_comm]; exact (Nat.le_div_iff_mul_le hp).1 h4.1
  ·
   rw [Nat.add_assoc,Nat.pow_add,Nat.mul_comm]; exact (Nat.div_lt_iff_lt_mul hp).1 h4.2
 omega
theorem zij (n k:Nat) (h:n<2 ^ k):z6u n≤k:=by
 unfold z6u; split
 ·
  omega
 ·
  rename_i h0; have:=(Nat.log2_lt h0).2 h; omega
def zyb:ByteArray:=⟨#[0,1,2,2,3,3,3,3,4,4,4,4,4,4,4,4,5,5,5,5,5,5,5,5,5,5,5,5,5,5,5,5,6,6,6,6,6,6,6,6,6,6,6,6,6,6,6,6,6,6,6,6,6,6,6,6,6,6,6,6,6,6,6,6,7,7,7,7,7,7,7,7,7,7,7,7,7,7,7,7,7,7,7,7,7,7,7,7,7,7,7,7,7,7,7,7,7,7,7,7,7,7,7,7,7,7,7,7,7,7,7,7,7,7,7,7,7,7,7,7,7,7,7,7,7,7,7,7,8,8,8,8,8,8,8,8,8,8,8,8,8,8,8,8,8,8,8,8,8,8,8,8,8,8,8,8,8,8,8,8,8,8,8,8,8,8,8,8,8,8,8,8,8,8,8,8,8,8,8,8,8,8,8,8,8,8,8,8,8,8,8,8,8,8,8,8,8,8,8,8,8,8,8,8,8,8,8,8,8,8,8,8,8,8,8,8,8,8,8,8,8,8,8,8,8,8,8,8,8,8,8,8,8,8,8,8,8,8,8,8,8,8,8,8,8,8,8,8,8,8,8,8,8,8,8,8]⟩
set_option maxRecDepth 100000 in
theorem z12k:∀ x:Fin 256,zyb.data[x.val]? = some (UInt8.ofNat (z6u x.val)):=by decide +kernel
def z33 (n:Nat):List UInt8:=if h:n=0 then [] else UInt8.ofNat n::z33 (n / 256)
termination_by n
theorem zcj:z33 0=[]:=by rw [z33]; simp
theorem zg8 (n:Nat) (h:n≠0):z33 n=UInt8.ofNat n::z33 (n / 256):=by rw [z33]; simp [h]
def z1z (n:Nat):List UInt8:=if n≤247 then [UInt8.ofNat n] else UInt8.ofNat (247+(z33 n).length)::(z33 n).reverse
theorem zo0 (n:Nat):(z33 n).length=(z6u n+7) / 8:=by
 induction n using Nat.strongRecOn with
 | _ n ih =>
  by_cases h:n=0
  ·
   subst h; rw [zcj]; simp [z6u]
  ·
   rw [zg8 n h,List.length_cons,ih (n / 256) (by omega)]
   by_cases h2:n<256
   ·
    have:n / 256=0:=by omega
    rw [this]
    have h3:z6u n≤8:=zij n 8 h2
    have h4:1≤z6u n:=by unfold z6u; rw [if_neg h]; omega
    simp [z6u] at h3 h4 ⊢
    rw [if_neg h] at h3 h4 ⊢; omega
   ·
    have:=zdb n 8 (by omega)
    rw [show (2:Nat) ^ 8=256 from rfl] at this
    omega
theorem zvw (n:Nat):∀ (i:Nat),i<(z33 n).length→(z33 n)[i]? = some (UInt8.ofNat (n / 256 ^ i)):=by
 induction n using Nat.strongRecOn with
 | _ n ih =>
  intro i hi
  by_cases h:n=0
  ·
   subst h; rw [zcj] at hi; simp at hi
  ·
   rw [zg8 n h] at hi ⊢
   cases i with
   | zero=>simp
   | succ i =>
    simp only [List.length_cons] at hi
    rw [List.getElem?_cons_succ,ih (n / 256) (by omega) i (by omega),Nat.div_div_eq_div_mul]
    congr 3
    rw [Nat.pow_succ,Nat.mul_comm]
theorem zly (n:Nat) (h:n<18446744073709551616):(z33 n).length≤8:=by
 rw [zo0]; have:=zij n 64 (by simpa using h); omega
theorem z19 (n:Nat) (h:n<18446744073709551616):1≤(z1z n).length∧(z1z n).length≤9:=by
 unfold z1z; have:=zly n h; split <;> simp <;> omega
def zbm (n i:Nat):List UInt8:=UInt8.ofNat (247+(z33 n).length)::(List.replicate ((z33 n).length - i) 0++((z33 n).take i).reverse)
theorem ztf (n i:Nat) (h:i≤(z33 n).length):(zbm n i).length=(z33 n).length+1:=by simp [zbm]; omega
theorem zrb (n:Nat):(List.replicate ((z33 n).length+1) (0:UInt8)).set 0 (UInt8.ofNat (247+(z33 n).length))=zbm n 0:=by
 simp [zbm,List.replicate_succ]
theorem zq3 (n i:Nat) (h:i<(z33 n).length):(zbm n i).set ((z33 n).length - i) (UInt8.ofNat (n / 2 ^ (8 * i)))=zbm n (i+1):=by
 have hg:=zvw n i h
 have he:n / 2 ^ (8 * i)=n / 256 ^ i:=by rw [Nat.pow_mul]
 rw [he]
 unfold zbm
 obtain ⟨m,hm⟩:∃ m,(z33 n).length - i=m+1:=⟨(z33 n).length - i - 1, by omega⟩
 have hm2:(z33 n).length - (i+1)=m:=by omega
 rw [hm,hm2,List.set_cons_succ,List.take_succ_eq_append_getElem h,List.reverse_append,List.reverse_singleton,List.replicate_succ']
 rw [List.getElem?_eq_getElem h,Option.some.injEq] at hg
 rw [hg,List.append_assoc,List.set_append_right _ _ (by simp)]
 simp
theorem zq8 (n:Nat) (h:247<n):zbm n (z33 n).length=z1z n:=by
 unfold zbm z1z; rw [if_neg (by omega)]; simp
theorem zru (n m:Nat) (ds:List UInt8) (hm:m≠0) (h:z33 n=ds++z33 m):z33 n=(ds++[UInt8.ofNat (m % 256)])++z33 (m / 256):=by
 rw [h,zg8 m hm,List.append_assoc]
 have:UInt8.ofNat (m % 256)=UInt8.ofNat m:=by
  apply UInt8.toNat_inj.1; simp
 rw [this]; rfl
theorem zn1 {α} {l a b:List α} (h:l=a++b):a.length≤l.length:=by rw [h]; simp
def zig (n:Int):Nat:=if 0≤n then (2 * n).toNat else (-2 * n - 1).toNat
theorem z187 {n:Int} (h1:-9223372036854775808≤n) (h2:n≤9223372036854775807):zig n<18446744073709551616:=by unfold zig; split <;> omega
end
section
open Go Go.RowKit
def zi0 (x:z0c):Prop:=inI x.A∧inI x.B∧True
def zk9 (x:z05):Prop:=(fun _=>True) x.Kind∧inI x.Num∧(fun _=>True) x.Bits∧(fun s:List UInt8=>s.length≤9223372036854775807) x.Text∧True
def znz (x:z0f):Prop:=(fun _=>True) x.Kind∧(fun s:List UInt8=>s.length≤9223372036854775807) x.Key∧zk9 x.Value∧True
def zoa (x:z0a):Prop:=(fun _=>True) x.E∧(fun _=>True) x.S∧True
def zg1 (x:z04):Prop:=(fun _=>True) x.Author∧(fun l:List V3=>(∀ x∈l,(fun v:V3=>∀ x∈v.toList,(fun _=>True) x) x)∧l.length≤9223372036854775807) x.Preds∧(fun _=>True) x.Stamp∧znz x.Act∧zoa x.Sig∧True
def z4u (x:z00):Prop:=(fun l:List V3=>(∀ x∈l,(fun v:V3=>∀ x∈v.toList,(fun _=>True) x) x)∧l.length≤9223372036854775807) x.IDs∧(fun l:List z04=>(∀ x∈l,zg1 x)∧l.length≤9223372036854775807) x.Ops∧True
end
section
open Go
theorem z12t {n k:Nat} (hn:n<9223372036854775808) (hk:k<9223372036854775808):andI (n:Int) (k:Int)=((n &&& k:Nat):Int):=by
 show IntKind.i64.wrap (BitVec.toNat (BitVec.ofInt 64 (n:Int) &&& BitVec.ofInt 64 (k:Int)):Int)=_
 rw [BitVec.ofInt_natCast,BitVec.ofInt_natCast,BitVec.toNat_and,BitVec.toNat_ofNat,BitVec.toNat_ofNat,Nat.mod_eq_of_lt (by omega),Nat.mod_eq_of_lt (by omega)]
 have:=Nat.and_le_left (n:=n) (m:=k)
 exact zfg (by omega) (by omega)
def okb (c:UInt8):Bool:=decide (32≤c.toNat)&&decide (c.toNat≤126)
theorem zor {b:List UInt8} {q:Nat} (h:q<b.length) (ha:(b[q]).toNat<128):z8v b q=((b[q]).toNat,1):=by
 unfold z8v
 exact decode_ascii ⟨b.toArray⟩ q (by show q<b.toArray.size; simpa using h) ha
theorem zy9 {b:List UInt8} {q:Nat} (h:q<b.length) (ha:128≤(b[q]).toNat):128≤(z8v b q).1:=by
 unfold z8v
 have e:((ByteArray.mk b.toArray).get! (q+0)).toNat=(b[q]).toNat:=by
  show ((ByteArray.mk b.toArray).get! q).toNat=_
  simp [ByteArray.get!,h]
 simp only [Utf8.decode,e]
 rw [if_neg (by omega)]
 repeat' split
 all_goals (first | (simp only [Utf8.runeError]; omega) | (rename_i h1; simp at h1; omega) | omega)
theorem z11m (x:Int):zda x=some (decide (x<32) || decide (126<x)):=by
 unfold zda
 cases decide (x<32) <;> rfl
theorem zu8 (b:List UInt8):∀ (rest pre:List UInt8),b=pre++rest →
  (rest.all okb=true→iter (z1i b true) pre.length=some (.inr ()))∧(rest.all okb=false→∃ i:Nat,iter (z1i b true) pre.length=some (.inl (i:Int)))
 | [],pre,e=>by
  refine ⟨fun _=>z12 ?_, fun h=>by simp at h⟩
  subst e
  unfold z1i
  simp
 | c::rest,pre,e=>by
  have hlen:pre.length<b.length:=by rw [e]; simp
  have hget:b[pre.length]'hlen=c:=by subst e; simp
  have hF:z1i b true pre.length=if ((decide (((z8v b pre.length).1:Int)<32) || decide (126<((z8v b pre.length).1:Int)))==true) then some (.inl (.inl (pre.length:Int))) else some (.inr (pre.length+(z8v b pre.length).2)):=by
   unfold z1i
   rw [if_pos hlen]
   simp only [bs,z11m]
  cases hc:okb c with
  | false =>
   refine ⟨fun h=>by simp [hc] at h, fun _=>⟨pre.length,z12 ?_⟩⟩
   rw [hF,if_pos]
   by_cases h8:c.toNat<128
   ·
    rw [zor hlen (by rw [hget]; exact h8),hget]
    simp only [okb,Bool.and_eq_false_iff,decide_eq_false_iff_not] at hc
    simp; omega
   ·
    have:=zy9 hlen (by rw [hget]; omega)
    simp; omega
  | true =>
   simp only [okb,Bool.and_eq_true,decide_eq_true_eq] at hc
   rw [zor hlen (by rw [hget]; omega),hget,if_neg (by simp; omega)] at hF
   have ih:=zu8 b rest (pre++[c]) (by simp [e])
   simp only [List.length_append,List.length_cons,List.length_nil,Nat.zero_add] at ih
   rw [z1b hF]
   have hc':okb c=true:=by simp [okb,hc]
   simpa [hc'] using ih
theorem zk5 (b:List UInt8) (hb:b.length≤9223372036854775807):∀ (rest pre:List UInt8),b=pre++rest→iter (z48 b) (pre.length:Int)=some (if rest.all okb then .inr () else .inl false)
 | [],pre,e=>by
  refine z12 ?_
  subst e
  unfold z48
  simp
 | c::rest,pre,e=>by
  have hlen:pre.length<b.length:=by rw [e]; simp
  have hget:b[pre.length]'hlen=c:=by subst e; simp
  have hF:z48 b (pre.length:Int)=if okb c then some (.inr ((pre.length+1:Nat):Int)) else some (.inl (.inl false)):=by
   unfold z48
   rw [if_pos (by simp <;> omega)]
   simp only [z0d hlen,hget,bs,z0k (show pre.length<9223372036854775807 by omega)]
   simp only [okb,UInt8.lt_iff_toNat_lt,UInt8.reduceToNat]
   by_cases h1:c.toNat<32
   ·
    have:¬ 32≤c.toNat:=by omega
    simp [h1,this]
   ·
    by_cases h2:126<c.toNat
    ·
     have:¬ c.toNat≤126:=by omega
     simp [h1,h2,this]
    ·
     have h3:32≤c.toNat:=by omega
     have h4:c.toNat≤126:=by omega
     simp [h1,h2,h3,h4]
  cases hc:okb c with
  | false=>rw [hc] at hF; rw [z12 hF]; simp [hc]
  | true =>
   rw [hc] at hF
   rw [z1b hF]
   have ih:=zk5 b hb rest (pre++[c]) (by simp [e])
   simp only [List.length_append,List.length_cons,List.length_nil,Nat.zero_add] at ih
   rw [ih]; simp [hc]
theorem zpv (b:List UInt8) (hb:b.length≤9223372036854775807):z6x b=some (b.all okb):=by
 have h:=zk5 b hb b [] rfl
 unfold z6x
 rw [show (0:Int)=(([]:List UInt8).length:Int) from rfl,h]
 cases b.all okb <;> rfl
theorem z118 (b:List UInt8) (hb:b.length≤9223372036854775807):zgj b=some (if decide (30<(b.length:Int)) then (⟨0,0,0,[]⟩,4) else if b.all okb then (⟨3,0,0,b⟩,0) else (⟨0,0,0,[]⟩,8)):=by
 unfold zgj z4r z4v
 cases decide (30<(b.length:Int))
 ·
  simp only [Bool.false_eq_true,if_false]
  obtain ⟨h1,h2⟩:=zu8 b b [] rfl
  simp only [List.length_nil] at h1 h2
  cases h:b.all okb
  ·
   obtain ⟨i,hi⟩:=h2 h
   rw [hi]
   simp only [or_l,bs]
   rw [if_pos (by simp)]; rfl
  ·
   rw [h1 h]; rfl
 ·
  rfl
theorem z117 (a:UInt64):zek a=some (((a.toNat / 4503599627370496 % 2048:Nat):Int),a % 4503599627370496):=by
 unfold zek
 simp only [bs]
 have h0:=UInt64.toNat_lt a
 rw [zcd]
 have e1:(2:Nat) ^ (min 52 64)=4503599627370496:=by decide
 rw [e1,z14 (by omega) (by omega), show (2047:Int)=((2047:Nat):Int) from rfl,z12t (by omega) (by omega)]
 congr 2
 ·
  congr 1
  exact Nat.and_two_pow_sub_one_eq_mod _ 11
 ·
  apply UInt64.toNat_inj.1
  rw [UInt64.toNat_and,UInt64.toNat_mod]
  exact Nat.and_two_pow_sub_one_eq_mod _ 52
theorem z16w (a:UInt64):z7d a=some ((a.toNat / 4503599627370496 % 2048:Nat):Int):=by
 unfold z7d
 have h0:=UInt64.toNat_lt a
 simp only [bs,UInt64.toNat_div,UInt64.toNat_mod,UInt64.reduceToNat]
 rw [z14 (by omega) (by omega)]
 congr 2
 omega
def zsi (a:UInt64):Nat:=a.toNat / 4503599627370496 % 2048
def mant (a:UInt64):Nat:=a.toNat % 4503599627370496
theorem z14p (a:UInt64):zsi a<2048:=Nat.mod_lt _ (by omega)
def clsF (a:UInt64):UInt8:=if zsi a=2047 then (if mant a=0 then 4 else 5) else if zsi a=0 then (if mant a=0 then 1 else 2) else 3
theorem z13l (a:UInt64):(a % 4503599627370496==0)=decide (mant a=0):=by
 rw [Bool.eq_iff_iff]
 simp only [beq_iff_eq,decide_eq_true_eq,← UInt64.toNat_inj,UInt64.toNat_mod]
 rfl
theorem zzr (a:UInt64):ze8 a=some (clsF a):=by
 unfold ze8 clsF
 rw [z117]
 simp only [bs]
 have hm:=z13l a
 have hne:(a % 4503599627370496 != 0)=!decide (mant a=0):=by rw [← hm]; rfl
 have he:((a.toNat / 4503599627370496 % 2048:Nat):Int)=(zsi a:Int):=rfl
 rw [hne,he]
 by_cases h1:zsi a=2047
 ·
  rw [h1]
  by_cases h2:mant a=0
  ·
   rw [decide_eq_true h2,if_pos h2]; rfl
  ·
   rw [decide_eq_false h2,if_neg h2]; rfl
 ·
  have e1:((zsi a:Int)==2047)=false:=by simp; omega
  rw [if_neg h1,e1]
  simp only [Bool.false_eq_true,if_false,bs]
  by_cases h0:zsi a=0
  ·
   rw [h0]
   by_cases h2:mant a=0
   ·
    rw [decide_eq_true h2,if_pos h2]; rfl
   ·
    rw [decide_eq_false h2,if_neg h2]; rfl
  ·
   have e0:((zsi a:Int) != 0)=true:=by simp; omega
   rw [e0,if_neg h0]; rfl
theorem zyd (a:UInt64):z9e a=some (clsF a):=by
 unfold z9e z9p clsF
 rw [z16w]
 simp only [bs]
 rw [z13l a]
 have hx:=z14p a
 show z3g (if ((zsi a:Int)==0)=true then if decide (mant a=0)=true then some (.inl 1) else some (.inr ()) else some (.inr ())) (fun s5=>if ((zsi a:Int)==0)=true then some 2 else if decide ((zsi a:Int)<2047)=true then some 3 else if decide (mant a=0)=true then some 4 else some 5)=_
 by_cases h1:zsi a=2047
 ·
  rw [h1]
  by_cases h2:mant a=0 <;> simp [h2,zpt,or_l]
 ·
  by_cases h0:zsi a=0
  ·
   rw [h0]
   by_cases h2:mant a=0 <;> simp [h2,zpt,or_l]
  ·
   have e0:((zsi a:Int)==0)=false:=by simp; omega
   have e2:decide ((zsi a:Int)<2047)=true:=by simp; omega
   rw [e0,e2,if_neg h1,if_neg h0]; rfl
def zj1 (a:UInt64):UInt64:=if clsF a=5 then 9221120237041090560 else a
theorem zzk (a:UInt64):zel a=some (zj1 a):=by
 unfold zel zj1
 rw [zzr]
 simp only [bs]
 by_cases h:clsF a=5 <;> simp [h]
theorem zyx (a:UInt64):z9d a=some (zj1 a):=by
 unfold z9d zj1
 rw [zyd]
 simp only [bs]
 by_cases h:clsF a=5 <;> simp [h]
theorem zx5 (a:UInt64):zeo a=some ⟨2,0,zj1 a,[]⟩:=by
 unfold zeo; rw [zzk]; rfl
def okV (v:z05):Bool :=
 if v.Kind=1 then decide (v.Bits=0)&&decide (v.Text=[])
 else if v.Kind=2 then decide (v.Num=0)&&decide (v.Text=[])&&decide (zj1 v.Bits=v.Bits)
 else if v.Kind=3 then decide (v.Num=0)&&decide (v.Bits=0)&&decide (v.Text.length≤30)&&v.Text.all okb
 else false
theorem zzw (v:z05) (hb:v.Text.length≤9223372036854775807):z99 v=some (if okV v then 0 else 8):=by
 obtain ⟨K,n,f,t⟩:=v
 unfold z99 okV
 simp only at hb ⊢
 rw [zyx,zpv t hb]
 by_cases h1:K=1
 ·
  subst h1
  by_cases hf:f=0 <;> by_cases ht:t=[] <;> simp [hf,ht]
 by_cases h2:K=2
 ·
  subst h2
  by_cases hn:n=0 <;> by_cases ht:t=[] <;> by_cases hc:zj1 f=f <;> simp [hn,ht,hc,bs]
 by_cases h3:K=3
 ·
  subst h3
  by_cases hl:t.length≤30
  ·
   have hl':(t.length:Int)≤30:=by omega
   by_cases hn:n=0 <;> by_cases hf:f=0 <;> cases t.all okb <;> simp [hn,hf,hl,hl',bs]
  ·
   have hl':¬ (t.length:Int)≤30:=by omega
   by_cases hn:n=0 <;> by_cases hf:f=0 <;> simp [hn,hf,hl,hl',bs]
 ·
  simp [h1,h2,h3]
theorem zrg (v:z05) (hb:v.Text.length≤9223372036854775807):zcs v=some (if okV v then 0 else 8):=by
 obtain ⟨K,n,f,t⟩:=v
 unfold zcs zfs okV
 simp only at hb ⊢
 rw [zx5,z118 t hb]
 by_cases h1:K=1
 ·
  subst h1
  by_cases hf:f=0 <;> by_cases ht:t=[] <;> simp [hf,ht,bs]
 by_cases h2:K=2
 ·
  subst h2
  by_cases hc:zj1 f=f
  ·
   by_cases hn:n=0 <;> by_cases ht:t=[] <;> simp [hn,ht,hc,bs]
  ·
   have hc':¬ f=zj1 f:=fun e=>hc e.symm
   by_cases hn:n=0 <;> by_cases ht:t=[] <;> simp [hn,ht,hc,hc',bs]
 by_cases h3:K=3
 ·
  subst h3
  by_cases hl:30<(t.length:Int)
  ·
   have h4:¬ t.length≤30:=by omega
   rw [decide_eq_true hl,decide_eq_false h4]
   simp [bs]
  ·
   have h4:t.length≤30:=by omega
   rw [decide_eq_false hl,decide_eq_true h4]
   cases t.all okb <;> by_cases hn:n=0 <;> by_cases hf:f=0 <;> simp [hn,hf,bs]
 ·
  have e1:(K==1)=false:=by simpa using h1
  have e2:(K==2)=false:=by simpa using h2
  have e3:(K==3)=false:=by simpa using h3
  simp only [e1,e2,e3,Bool.false_eq_true,if_false,bs,h1,h2,h3]
  by_cases h0:K=0
  ·
   subst h0
   split <;> rfl
  ·
   simp [h0]
end
end Go.Proofs.YthimiiphpckifaaGreatDoor
